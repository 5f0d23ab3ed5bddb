/- Walks: what the functions under FnExactSwapField do (part 1). Printed by a program of this claim's author. -/
import Derived.Test.YtalkhbnlphefdaaN3
import Derived.Test.YtalkhbnlphefdaaModel
import Derived.Test.YtalkhbnlphefdaaM2
import Derived.Test.YtalkhbnlphefdaaM3
import Derived.Test.YtalkhbnlphefdaaM4
import Derived.Test.YtalkhbnlphefdaaM5
import Derived.Test.YtalkhbnlphefdaaProg
set_option linter.unusedSimpArgs false
set_option linter.unusedVariables false
open Go.Wv
namespace Go.Proofs.Ytalkhbnlphefdaa
open Go.Proofs
namespace T67
theorem mx : Try.prog.follows .mixedOrders = true := by kernel_rfl
theorem sl_24_56_1 : slB Try.prog 24 56 1 = true := by kernel_rfl
end T67
set_option maxRecDepth 100000 in
set_option maxHeartbeats 4000000 in
theorem c_l_szFloat32S {a : Option Addr} {n : Nat} {c : Nat} {left : Int} {w : World} (h0 : 0 ≤ left) (h1 : left ≤ 1048576) (hn : n ≤ 9223372036854775807) :
    Calls Try.prog 67 #[.slice a n c, .int .i64 left] w (Rt fun v w' => v = .int .i64 (if ((n : Nat) : Int) ≤ left then left - ((n : Nat) : Int) else -1) ∧ Ext0 w w') := by
  have B : Bu w no w [] := Bu.ro All.nil rfl
  refine calls_W (n := 12) Try.func67 rfl rfl (Nat.le_of_ble_eq_true rfl) ?_
  refine W_seq ?_
  refine W_region (by kernel_rfl) ?_
  refine s_y (v := .int .i64 0) rfl (y_assign rfl) ?_
  refine s_nil ?_
  refine W_seq ?_
  refine W_region (by kernel_rfl) ?_
  refine s_y (v := .int .i64 left) rfl (y_move rfl) ?_
  refine s_y (v := .slice a n c) rfl (y_move rfl) ?_
  refine s_y (v := .int .i64 ((n : Nat) : Int)) rfl (y_len T67.sl_24_56_1 rfl rfl) ?_
  refine s_y (v := .int .i64 (left - ((n : Nat) : Int))) rfl (y_sub rfl rfl rfl (by omega)) ?_
  refine s_y (v := .int .i64 (left - ((n : Nat) : Int))) rfl (y_assign rfl) ?_
  refine s_nil ?_
  refine W_seq ?_
  refine W_seq ?_
  refine W_region (by kernel_rfl) ?_
  refine s_y (v := .int .i64 (left - ((n : Nat) : Int))) rfl (y_move rfl) ?_
  by_cases c1 : (left - ((n : Nat) : Int)) < 0
  · refine s_y (v := .bool true) rfl (y_lss rfl rfl (decide_eq_true c1)) ?_
    refine s_nil ?_
    refine W_if_t (by decide) rfl ?_
    refine W_seq ?_
    refine W_region (by kernel_rfl) ?_
    refine s_y (v := .int .i64 (-1)) rfl (y_assign rfl) ?_
    refine s_nil ?_
    refine W_ret ?_
    refine ret1 (v := .int .i64 (-1)) rfl rfl rfl ⟨_, rfl, ?_⟩
    exact ⟨congrArg (Value.int .i64) (if_neg (by omega)).symm, B.ext⟩
  · refine s_y (v := .bool false) rfl (y_lss rfl rfl (decide_eq_false c1)) ?_
    refine s_nil ?_
    refine W_if_f (by decide) rfl ?_
    refine W_skip ?_
    refine W_seq ?_
    refine W_region (by kernel_rfl) ?_
    refine s_y (v := .int .i64 (left - ((n : Nat) : Int))) rfl (y_move rfl) ?_
    refine s_y (v := .int .i64 (left - ((n : Nat) : Int))) rfl (y_assign rfl) ?_
    refine s_nil ?_
    refine W_ret ?_
    refine ret1 (v := .int .i64 (left - ((n : Nat) : Int))) rfl rfl rfl ⟨_, rfl, ?_⟩
    exact ⟨congrArg (Value.int .i64) (if_pos (by omega)).symm, B.ext⟩
namespace T21
theorem mx : Try.prog.follows .mixedOrders = true := by kernel_rfl
theorem fld_36_3_3 : fldB Try.prog 36 3 3 = true := by kernel_rfl
theorem fld_36_4_4 : fldB Try.prog 36 4 4 = true := by kernel_rfl
theorem fn_67 : fnB Try.prog 67 = true := by kernel_rfl
theorem one_24 : oneB Try.prog 24 = true := by kernel_rfl
end T21
set_option maxRecDepth 100000 in
set_option maxHeartbeats 4000000 in
theorem c_l_szSheet {wd : Int} {hi : Int} {wr : Bool} {asp : Option Addr} {nsp : Nat} {csp : Nat} {als : Option Addr} {nls : Nat} {cls : Nat} {left : Int} {w : World} (h0 : 0 ≤ left) (h1 : left ≤ 1048576) (hnsp : nsp ≤ 9223372036854775807) (hnls : nls ≤ 9223372036854775807) :
    Calls Try.prog 21 #[.agg #[.int .i64 wd, .int .i64 hi, .bool wr, .slice asp nsp csp, .slice als nls cls], .int .i64 left] w (Rt fun v w' => v = .int .i64 (if ((nsp : Nat) : Int) + ((nls : Nat) : Int) ≤ left then left - ((nsp : Nat) : Int) - ((nls : Nat) : Int) else -1) ∧ Ext0 w w') := by
  have B : Bu w no w [] := Bu.ro All.nil rfl
  refine calls_W (n := 18) Try.func21 rfl rfl (Nat.le_of_ble_eq_true rfl) ?_
  refine W_seq ?_
  refine W_region (by kernel_rfl) ?_
  refine s_k rfl (k_boxN (v := .agg #[.int .i64 wd, .int .i64 hi, .bool wr, .slice asp nsp csp, .slice als nls cls]) (cs := [.int .i64 wd, .int .i64 hi, .bool wr, .slice asp nsp csp, .slice als nls cls]) rfl rfl (fun b1 w2 hN3 => ?_))
  replace B := B.new1 hN3
  clear hN3
  refine s_y (v := .int .i64 0) rfl (y_assign rfl) ?_
  refine s_nil ?_
  refine W_seq ?_
  refine W_region (by kernel_rfl) ?_
  refine s_y (v := .pointer (some ⟨b1, 3, none⟩)) rfl (y_fld (o := 0) T21.fld_36_3_3 rfl) ?_
  refine s_y (v := .slice asp nsp csp) rfl (y_load T21.one_24 rfl ((B.b 0 rfl).cell (j := 3) rfl)) ?_
  refine s_y (v := .int .i64 left) rfl (y_move rfl) ?_
  refine s_k rfl (k_call T21.fn_67 (c_l_szFloat32S (by omega) (by omega) (by omega)) rfl ?_)
  rintro v6 w4 ⟨hv7, e5⟩
  replace B := B.ext0 e5
  clear e5
  by_cases c8 : ((nsp : Nat) : Int) ≤ left
  · obtain rfl : v6 = .int .i64 (left - ((nsp : Nat) : Int)) := hv7.trans (congrArg _ (if_pos c8))
    have hk9 : ¬ (left - ((nsp : Nat) : Int)) < 0 := by omega
    refine s_y (v := .int .i64 (left - ((nsp : Nat) : Int))) rfl (y_assign rfl) ?_
    refine s_nil ?_
    refine W_seq ?_
    refine W_seq ?_
    refine W_region (by kernel_rfl) ?_
    refine s_y (v := .int .i64 (left - ((nsp : Nat) : Int))) rfl (y_move rfl) ?_
    refine s_y (v := .bool false) rfl (y_lss rfl rfl (decide_eq_false hk9)) ?_
    refine s_nil ?_
    refine W_if_f (by decide) rfl ?_
    refine W_skip ?_
    refine W_seq ?_
    refine W_region (by kernel_rfl) ?_
    refine s_y (v := .pointer (some ⟨b1, 4, none⟩)) rfl (y_fld (o := 0) T21.fld_36_4_4 rfl) ?_
    refine s_y (v := .slice als nls cls) rfl (y_load T21.one_24 rfl ((B.b 0 rfl).cell (j := 4) rfl)) ?_
    refine s_y (v := .int .i64 (left - ((nsp : Nat) : Int))) rfl (y_move rfl) ?_
    refine s_k rfl (k_call T21.fn_67 (c_l_szFloat32S (by omega) (by omega) (by omega)) rfl ?_)
    rintro v12 w10 ⟨hv13, e11⟩
    replace B := B.ext0 e11
    clear e11
    by_cases c14 : ((nls : Nat) : Int) ≤ (left - ((nsp : Nat) : Int))
    · obtain rfl : v12 = .int .i64 ((left - ((nsp : Nat) : Int)) - ((nls : Nat) : Int)) := hv13.trans (congrArg _ (if_pos c14))
      have hk15 : ¬ ((left - ((nsp : Nat) : Int)) - ((nls : Nat) : Int)) < 0 := by omega
      refine s_y (v := .int .i64 ((left - ((nsp : Nat) : Int)) - ((nls : Nat) : Int))) rfl (y_assign rfl) ?_
      refine s_nil ?_
      refine W_seq ?_
      refine W_seq ?_
      refine W_region (by kernel_rfl) ?_
      refine s_y (v := .int .i64 ((left - ((nsp : Nat) : Int)) - ((nls : Nat) : Int))) rfl (y_move rfl) ?_
      refine s_y (v := .bool false) rfl (y_lss rfl rfl (decide_eq_false hk15)) ?_
      refine s_nil ?_
      refine W_if_f (by decide) rfl ?_
      refine W_skip ?_
      refine W_seq ?_
      refine W_region (by kernel_rfl) ?_
      refine s_y (v := .int .i64 ((left - ((nsp : Nat) : Int)) - ((nls : Nat) : Int))) rfl (y_move rfl) ?_
      refine s_y (v := .int .i64 ((left - ((nsp : Nat) : Int)) - ((nls : Nat) : Int))) rfl (y_assign rfl) ?_
      refine s_nil ?_
      refine W_ret ?_
      refine ret1 (v := .int .i64 ((left - ((nsp : Nat) : Int)) - ((nls : Nat) : Int))) rfl rfl rfl ⟨_, rfl, ?_⟩
      exact ⟨congrArg (Value.int .i64) (if_pos (by omega)).symm, B.ext⟩
    · obtain rfl : v12 = .int .i64 (-1) := hv13.trans (congrArg _ (if_neg c14))
      refine s_y (v := .int .i64 (-1)) rfl (y_assign rfl) ?_
      refine s_nil ?_
      refine W_seq ?_
      refine W_seq ?_
      refine W_region (by kernel_rfl) ?_
      refine s_y (v := .int .i64 (-1)) rfl (y_move rfl) ?_
      have hk16 : (-1 : Int) < 0 := (by decide)
      refine s_y (v := .bool true) rfl (y_lss rfl rfl (decide_eq_true hk16)) ?_
      refine s_nil ?_
      refine W_if_t (by decide) rfl ?_
      refine W_seq ?_
      refine W_region (by kernel_rfl) ?_
      refine s_y (v := .int .i64 (-1)) rfl (y_assign rfl) ?_
      refine s_nil ?_
      refine W_ret ?_
      refine ret1 (v := .int .i64 (-1)) rfl rfl rfl ⟨_, rfl, ?_⟩
      exact ⟨congrArg (Value.int .i64) (if_neg (by omega)).symm, B.ext⟩
  · obtain rfl : v6 = .int .i64 (-1) := hv7.trans (congrArg _ (if_neg c8))
    refine s_y (v := .int .i64 (-1)) rfl (y_assign rfl) ?_
    refine s_nil ?_
    refine W_seq ?_
    refine W_seq ?_
    refine W_region (by kernel_rfl) ?_
    refine s_y (v := .int .i64 (-1)) rfl (y_move rfl) ?_
    have hk17 : (-1 : Int) < 0 := (by decide)
    refine s_y (v := .bool true) rfl (y_lss rfl rfl (decide_eq_true hk17)) ?_
    refine s_nil ?_
    refine W_if_t (by decide) rfl ?_
    refine W_seq ?_
    refine W_region (by kernel_rfl) ?_
    refine s_y (v := .int .i64 (-1)) rfl (y_assign rfl) ?_
    refine s_nil ?_
    refine W_ret ?_
    refine ret1 (v := .int .i64 (-1)) rfl rfl rfl ⟨_, rfl, ?_⟩
    exact ⟨congrArg (Value.int .i64) (if_neg (by omega)).symm, B.ext⟩
namespace T29
theorem mx : Try.prog.follows .mixedOrders = true := by kernel_rfl
theorem fld_45_0_0 : fldB Try.prog 45 0 0 = true := by kernel_rfl
theorem fld_45_1_1 : fldB Try.prog 45 1 1 = true := by kernel_rfl
theorem fld_45_2_2 : fldB Try.prog 45 2 2 = true := by kernel_rfl
theorem fn_67 : fnB Try.prog 67 = true := by kernel_rfl
theorem one_24 : oneB Try.prog 24 = true := by kernel_rfl
end T29
set_option maxRecDepth 100000 in
set_option maxHeartbeats 4000000 in
theorem c_l_szField {afe : Option Addr} {nfe : Nat} {cfe : Nat} {afx : Option Addr} {nfx : Nat} {cfx : Nat} {afy : Option Addr} {nfy : Nat} {cfy : Nat} {left : Int} {w : World} (h0 : 0 ≤ left) (h1 : left ≤ 1048576) (hnfe : nfe ≤ 9223372036854775807) (hnfx : nfx ≤ 9223372036854775807) (hnfy : nfy ≤ 9223372036854775807) :
    Calls Try.prog 29 #[.agg #[.slice afe nfe cfe, .slice afx nfx cfx, .slice afy nfy cfy], .int .i64 left] w (Rt fun v w' => v = .int .i64 (if ((nfe : Nat) : Int) + ((nfx : Nat) : Int) + ((nfy : Nat) : Int) ≤ left then left - ((nfe : Nat) : Int) - ((nfx : Nat) : Int) - ((nfy : Nat) : Int) else -1) ∧ Ext0 w w') := by
  have B : Bu w no w [] := Bu.ro All.nil rfl
  refine calls_W (n := 24) Try.func29 rfl rfl (Nat.le_of_ble_eq_true rfl) ?_
  refine W_seq ?_
  refine W_region (by kernel_rfl) ?_
  refine s_k rfl (k_boxN (v := .agg #[.slice afe nfe cfe, .slice afx nfx cfx, .slice afy nfy cfy]) (cs := [.slice afe nfe cfe, .slice afx nfx cfx, .slice afy nfy cfy]) rfl rfl (fun b1 w2 hN3 => ?_))
  replace B := B.new1 hN3
  clear hN3
  refine s_y (v := .int .i64 0) rfl (y_assign rfl) ?_
  refine s_nil ?_
  refine W_seq ?_
  refine W_region (by kernel_rfl) ?_
  refine s_y (v := .pointer (some ⟨b1, 0, none⟩)) rfl (y_fld (o := 0) T29.fld_45_0_0 rfl) ?_
  refine s_y (v := .slice afe nfe cfe) rfl (y_load T29.one_24 rfl ((B.b 0 rfl).cell (j := 0) rfl)) ?_
  refine s_y (v := .int .i64 left) rfl (y_move rfl) ?_
  refine s_k rfl (k_call T29.fn_67 (c_l_szFloat32S (by omega) (by omega) (by omega)) rfl ?_)
  rintro v6 w4 ⟨hv7, e5⟩
  replace B := B.ext0 e5
  clear e5
  by_cases c8 : ((nfe : Nat) : Int) ≤ left
  · obtain rfl : v6 = .int .i64 (left - ((nfe : Nat) : Int)) := hv7.trans (congrArg _ (if_pos c8))
    have hk9 : ¬ (left - ((nfe : Nat) : Int)) < 0 := by omega
    refine s_y (v := .int .i64 (left - ((nfe : Nat) : Int))) rfl (y_assign rfl) ?_
    refine s_nil ?_
    refine W_seq ?_
    refine W_seq ?_
    refine W_region (by kernel_rfl) ?_
    refine s_y (v := .int .i64 (left - ((nfe : Nat) : Int))) rfl (y_move rfl) ?_
    refine s_y (v := .bool false) rfl (y_lss rfl rfl (decide_eq_false hk9)) ?_
    refine s_nil ?_
    refine W_if_f (by decide) rfl ?_
    refine W_skip ?_
    refine W_seq ?_
    refine W_region (by kernel_rfl) ?_
    refine s_y (v := .pointer (some ⟨b1, 1, none⟩)) rfl (y_fld (o := 0) T29.fld_45_1_1 rfl) ?_
    refine s_y (v := .slice afx nfx cfx) rfl (y_load T29.one_24 rfl ((B.b 0 rfl).cell (j := 1) rfl)) ?_
    refine s_y (v := .int .i64 (left - ((nfe : Nat) : Int))) rfl (y_move rfl) ?_
    refine s_k rfl (k_call T29.fn_67 (c_l_szFloat32S (by omega) (by omega) (by omega)) rfl ?_)
    rintro v12 w10 ⟨hv13, e11⟩
    replace B := B.ext0 e11
    clear e11
    by_cases c14 : ((nfx : Nat) : Int) ≤ (left - ((nfe : Nat) : Int))
    · obtain rfl : v12 = .int .i64 ((left - ((nfe : Nat) : Int)) - ((nfx : Nat) : Int)) := hv13.trans (congrArg _ (if_pos c14))
      have hk15 : ¬ ((left - ((nfe : Nat) : Int)) - ((nfx : Nat) : Int)) < 0 := by omega
      refine s_y (v := .int .i64 ((left - ((nfe : Nat) : Int)) - ((nfx : Nat) : Int))) rfl (y_assign rfl) ?_
      refine s_nil ?_
      refine W_seq ?_
      refine W_seq ?_
      refine W_region (by kernel_rfl) ?_
      refine s_y (v := .int .i64 ((left - ((nfe : Nat) : Int)) - ((nfx : Nat) : Int))) rfl (y_move rfl) ?_
      refine s_y (v := .bool false) rfl (y_lss rfl rfl (decide_eq_false hk15)) ?_
      refine s_nil ?_
      refine W_if_f (by decide) rfl ?_
      refine W_skip ?_
      refine W_seq ?_
      refine W_region (by kernel_rfl) ?_
      refine s_y (v := .pointer (some ⟨b1, 2, none⟩)) rfl (y_fld (o := 0) T29.fld_45_2_2 rfl) ?_
      refine s_y (v := .slice afy nfy cfy) rfl (y_load T29.one_24 rfl ((B.b 0 rfl).cell (j := 2) rfl)) ?_
      refine s_y (v := .int .i64 ((left - ((nfe : Nat) : Int)) - ((nfx : Nat) : Int))) rfl (y_move rfl) ?_
      refine s_k rfl (k_call T29.fn_67 (c_l_szFloat32S (by omega) (by omega) (by omega)) rfl ?_)
      rintro v18 w16 ⟨hv19, e17⟩
      replace B := B.ext0 e17
      clear e17
      by_cases c20 : ((nfy : Nat) : Int) ≤ ((left - ((nfe : Nat) : Int)) - ((nfx : Nat) : Int))
      · obtain rfl : v18 = .int .i64 (((left - ((nfe : Nat) : Int)) - ((nfx : Nat) : Int)) - ((nfy : Nat) : Int)) := hv19.trans (congrArg _ (if_pos c20))
        have hk21 : ¬ (((left - ((nfe : Nat) : Int)) - ((nfx : Nat) : Int)) - ((nfy : Nat) : Int)) < 0 := by omega
        refine s_y (v := .int .i64 (((left - ((nfe : Nat) : Int)) - ((nfx : Nat) : Int)) - ((nfy : Nat) : Int))) rfl (y_assign rfl) ?_
        refine s_nil ?_
        refine W_seq ?_
        refine W_seq ?_
        refine W_region (by kernel_rfl) ?_
        refine s_y (v := .int .i64 (((left - ((nfe : Nat) : Int)) - ((nfx : Nat) : Int)) - ((nfy : Nat) : Int))) rfl (y_move rfl) ?_
        refine s_y (v := .bool false) rfl (y_lss rfl rfl (decide_eq_false hk21)) ?_
        refine s_nil ?_
        refine W_if_f (by decide) rfl ?_
        refine W_skip ?_
        refine W_seq ?_
        refine W_region (by kernel_rfl) ?_
        refine s_y (v := .int .i64 (((left - ((nfe : Nat) : Int)) - ((nfx : Nat) : Int)) - ((nfy : Nat) : Int))) rfl (y_move rfl) ?_
        refine s_y (v := .int .i64 (((left - ((nfe : Nat) : Int)) - ((nfx : Nat) : Int)) - ((nfy : Nat) : Int))) rfl (y_assign rfl) ?_
        refine s_nil ?_
        refine W_ret ?_
        refine ret1 (v := .int .i64 (((left - ((nfe : Nat) : Int)) - ((nfx : Nat) : Int)) - ((nfy : Nat) : Int))) rfl rfl rfl ⟨_, rfl, ?_⟩
        exact ⟨congrArg (Value.int .i64) (if_pos (by omega)).symm, B.ext⟩
      · obtain rfl : v18 = .int .i64 (-1) := hv19.trans (congrArg _ (if_neg c20))
        refine s_y (v := .int .i64 (-1)) rfl (y_assign rfl) ?_
        refine s_nil ?_
        refine W_seq ?_
        refine W_seq ?_
        refine W_region (by kernel_rfl) ?_
        refine s_y (v := .int .i64 (-1)) rfl (y_move rfl) ?_
        have hk22 : (-1 : Int) < 0 := (by decide)
        refine s_y (v := .bool true) rfl (y_lss rfl rfl (decide_eq_true hk22)) ?_
        refine s_nil ?_
        refine W_if_t (by decide) rfl ?_
        refine W_seq ?_
        refine W_region (by kernel_rfl) ?_
        refine s_y (v := .int .i64 (-1)) rfl (y_assign rfl) ?_
        refine s_nil ?_
        refine W_ret ?_
        refine ret1 (v := .int .i64 (-1)) rfl rfl rfl ⟨_, rfl, ?_⟩
        exact ⟨congrArg (Value.int .i64) (if_neg (by omega)).symm, B.ext⟩
    · obtain rfl : v12 = .int .i64 (-1) := hv13.trans (congrArg _ (if_neg c14))
      refine s_y (v := .int .i64 (-1)) rfl (y_assign rfl) ?_
      refine s_nil ?_
      refine W_seq ?_
      refine W_seq ?_
      refine W_region (by kernel_rfl) ?_
      refine s_y (v := .int .i64 (-1)) rfl (y_move rfl) ?_
      have hk23 : (-1 : Int) < 0 := (by decide)
      refine s_y (v := .bool true) rfl (y_lss rfl rfl (decide_eq_true hk23)) ?_
      refine s_nil ?_
      refine W_if_t (by decide) rfl ?_
      refine W_seq ?_
      refine W_region (by kernel_rfl) ?_
      refine s_y (v := .int .i64 (-1)) rfl (y_assign rfl) ?_
      refine s_nil ?_
      refine W_ret ?_
      refine ret1 (v := .int .i64 (-1)) rfl rfl rfl ⟨_, rfl, ?_⟩
      exact ⟨congrArg (Value.int .i64) (if_neg (by omega)).symm, B.ext⟩
  · obtain rfl : v6 = .int .i64 (-1) := hv7.trans (congrArg _ (if_neg c8))
    refine s_y (v := .int .i64 (-1)) rfl (y_assign rfl) ?_
    refine s_nil ?_
    refine W_seq ?_
    refine W_seq ?_
    refine W_region (by kernel_rfl) ?_
    refine s_y (v := .int .i64 (-1)) rfl (y_move rfl) ?_
    have hk24 : (-1 : Int) < 0 := (by decide)
    refine s_y (v := .bool true) rfl (y_lss rfl rfl (decide_eq_true hk24)) ?_
    refine s_nil ?_
    refine W_if_t (by decide) rfl ?_
    refine W_seq ?_
    refine W_region (by kernel_rfl) ?_
    refine s_y (v := .int .i64 (-1)) rfl (y_assign rfl) ?_
    refine s_nil ?_
    refine W_ret ?_
    refine ret1 (v := .int .i64 (-1)) rfl rfl rfl ⟨_, rfl, ?_⟩
    exact ⟨congrArg (Value.int .i64) (if_neg (by omega)).symm, B.ext⟩
namespace T71
theorem mx : Try.prog.follows .mixedOrders = true := by kernel_rfl
theorem one_56 : oneB Try.prog 56 = true := by kernel_rfl
theorem sl_24_56_1 : slB Try.prog 24 56 1 = true := by kernel_rfl
theorem slt_24 : SlT Try.prog 24 56 1 4 (.float .f32 0) := ⟨by kernel_rfl, by kernel_rfl, rfl, by decide⟩
theorem sz_56_1 : szB Try.prog 56 1 = true := by kernel_rfl
end T71
set_option maxRecDepth 100000 in
set_option maxHeartbeats 4000000 in
theorem c_l_toFloat32S {a : Option Addr} {n : Nat} {c : Nat} {X : List Nat} {w : World} (q : Rd w kF a n X) (hb : n ≤ 1048576) :
    Calls Try.prog 71 #[.slice a n c] w (Rt fun v w' => ∃ (a1 : Option Addr) (c1 : Nat), v = .slice a1 n c1 ∧ New w w' [.ow kF a1 n c1 56 X]) := by
  have hl := q.len
  have B : Bu w no w [.rd kF a n X] := Bu.ro (All.cons q All.nil) rfl
  refine calls_W (n := 22) Try.func71 rfl rfl (Nat.le_of_ble_eq_true rfl) ?_
  refine W_seq ?_
  refine W_region (by kernel_rfl) ?_
  refine s_y (v := .slice none 0 0) rfl (y_assign rfl) ?_
  refine s_nil ?_
  refine W_seq ?_
  refine W_region (by kernel_rfl) ?_
  refine s_y (v := .slice a n c) rfl (y_move rfl) ?_
  refine s_y (v := .int .i64 ((n : Nat) : Int)) rfl (y_len T71.sl_24_56_1 rfl rfl) ?_
  refine s_k rfl (k_mkO (k := kF) (z0 := 0) T71.slt_24 ⟨0, rfl, can_zero⟩ rfl rfl (by omega) (by omega) (by omega) (fun b1 w2 hN3 => ?_))
  replace B := B.new1 hN3
  clear hN3
  refine s_y (v := .slice (some ⟨b1, 0, none⟩) ((((n : Nat) : Int)).toNat) ((((n : Nat) : Int)).toNat)) rfl (y_assign rfl) ?_
  refine s_nil ?_
  refine W_seq ?_
  refine W_seq ?_
  refine W_region (by kernel_rfl) ?_
  refine s_y (v := .int .i64 0) rfl (y_assign rfl) ?_
  refine s_nil ?_
  refine W_block ?_
  refine W_loop (fun ρ' w' => ∃ (ρ1 : Env) (k : Int) (zs : List Nat), ρ' = updL ρ1 [(0, .slice a n c), (2, .slice none 0 0), (3, .slice (some ⟨b1, 0, none⟩) ((((n : Nat) : Int)).toNat) ((((n : Nat) : Int)).toNat)), (4, .int .i64 k)] ∧ Bu w no w' [.ow kF (some ⟨b1, 0, none⟩) n n 56 zs, .rd kF a n X] ∧ (0 ≤ k) ∧ (k ≤ (n : Int)) ∧ (zs.length = n) ∧ (∀ i, 0 ≤ i → i < k → el zs i = el X i)) (fun ρ' _ => ((n : Int) - iv (ρ' 4)).toNat) ?_ ?_
  · exact ⟨_, 0, _, Fits.eq ⟨rfl, rfl, rfl, rfl, trivial⟩, B, (Int.le_refl _), (by omega), (by simp), (by intro i h0 h1; omega)⟩
  · clear B; rintro _ w4 ⟨ρ5, k, zs, rfl, B, h0k, h1k, hz, hq⟩
    refine W_seq ?_
    refine W_seq ?_
    refine W_region (by kernel_rfl) ?_
    refine s_y (v := .int .i64 k) rfl (y_move rfl) ?_
    refine s_y (v := .slice a n c) rfl (y_move rfl) ?_
    refine s_y (v := .int .i64 ((n : Nat) : Int)) rfl (y_len T71.sl_24_56_1 rfl rfl) ?_
    by_cases c6 : k < ((n : Nat) : Int)
    · refine s_y (v := .bool true) rfl (y_lss rfl rfl (decide_eq_true c6)) ?_
      refine s_nil ?_
      refine W_if_t (by decide) rfl ?_
      refine W_skip ?_
      refine W_seq ?_
      refine W_block ?_
      refine W_region (by kernel_rfl) ?_
      refine s_y (v := .slice (some ⟨b1, 0, none⟩) ((((n : Nat) : Int)).toNat) ((((n : Nat) : Int)).toNat)) rfl (y_move rfl) ?_
      refine s_y (v := .int .i64 k) rfl (y_move rfl) ?_
      refine s_y (v := .slice a n c) rfl (y_move rfl) ?_
      refine s_y (v := .int .i64 k) rfl (y_move rfl) ?_
      refine s_y (v := .pointer (some (sat a ((k).toNat * 1)))) rfl (y_idx T71.sl_24_56_1 rfl rfl ((B.r 1 rfl).addr (by omega)) (by omega) (by omega)) ?_
      obtain ⟨r8, hr9, hR7⟩ := Rd.atF (B.r 1 rfl) k (by omega) (by omega)
      refine s_y (v := .float .f32 r8) rfl (y_load T71.one_56 rfl (hR7.cell (i := 0) rfl)) ?_
      refine s_y (v := .pointer (some (sat (some ⟨b1, 0, none⟩) ((k).toNat * 1)))) rfl (y_idx T71.sl_24_56_1 rfl rfl ((B.o 0 rfl).rd.addr (by omega)) (by omega) (by omega)) ?_
      refine s_k0 rfl (k_stO (k := kF) (i := k) (j := 0) (x' := el X k) (new := [.float .f32 r8]) T71.sz_56_1 rfl rfl rfl rfl rfl (by simp [Value.oneCell']) (by decide) (B.o 0 rfl) (by omega) (by omega) (by decide) (by rintro q ⟨_, rfl, _⟩; exact ⟨_, rfl, hr9⟩) (fun w10 hU11 => ?_))
      replace B : Bu w no w10 [.ow kF (some ⟨b1, 0, none⟩) n n 56 (put zs k (el X k)), .rd kF a n X] := B.upd [0] rfl hU11
      clear hU11
      refine s_nil ?_
      refine W_region (by kernel_rfl) ?_
      refine s_y (v := .int .i64 k) rfl (y_move rfl) ?_
      refine s_y (v := .int .i64 (k + 1)) rfl (y_add rfl rfl rfl (by omega)) ?_
      refine s_y (v := .int .i64 (k + 1)) rfl (y_assign rfl) ?_
      refine s_nil ?_
      refine ⟨⟨_, k + 1, _, Fits.eq ⟨rfl, rfl, rfl, rfl, trivial⟩, B, (by omega), (by omega), ((put_length ..).trans hz), (el_same (by omega) (by omega) (by omega) hq)⟩, ?_⟩
      show ((n : Int) - (k + 1)).toNat < ((n : Int) - k).toNat
      omega
    · refine s_y (v := .bool false) rfl (y_lss rfl rfl (decide_eq_false c6)) ?_
      refine s_nil ?_
      refine W_if_f (by decide) rfl ?_
      refine W_exit ?_
      refine W_seq ?_
      refine W_region (by kernel_rfl) ?_
      refine s_y (v := .slice (some ⟨b1, 0, none⟩) ((((n : Nat) : Int)).toNat) ((((n : Nat) : Int)).toNat)) rfl (y_move rfl) ?_
      refine s_y (v := .slice (some ⟨b1, 0, none⟩) ((((n : Nat) : Int)).toNat) ((((n : Nat) : Int)).toNat)) rfl (y_assign rfl) ?_
      refine s_nil ?_
      refine W_ret ?_
      refine ret1 (v := .slice (some ⟨b1, 0, none⟩) ((((n : Nat) : Int)).toNat) ((((n : Nat) : Int)).toNat)) rfl rfl rfl ⟨_, rfl, ?_⟩
      obtain rfl : zs = X := ext_el (by omega) (fun i h0 h1 => hq i h0 (by omega))
      exact ⟨_, _, rfl, B.give [0] rfl rfl rfl⟩
namespace T23
theorem mx : Try.prog.follows .mixedOrders = true := by kernel_rfl
theorem agg_26_5 : aggB Try.prog 26 5 = true := by kernel_rfl
theorem fld_26_0_0 : fldB Try.prog 26 0 0 = true := by kernel_rfl
theorem fld_26_1_1 : fldB Try.prog 26 1 1 = true := by kernel_rfl
theorem fld_26_2_2 : fldB Try.prog 26 2 2 = true := by kernel_rfl
theorem fld_26_3_3 : fldB Try.prog 26 3 3 = true := by kernel_rfl
theorem fld_26_4_4 : fldB Try.prog 26 4 4 = true := by kernel_rfl
theorem fld_36_0_0 : fldB Try.prog 36 0 0 = true := by kernel_rfl
theorem fld_36_1_1 : fldB Try.prog 36 1 1 = true := by kernel_rfl
theorem fld_36_2_2 : fldB Try.prog 36 2 2 = true := by kernel_rfl
theorem fld_36_3_3 : fldB Try.prog 36 3 3 = true := by kernel_rfl
theorem fld_36_4_4 : fldB Try.prog 36 4 4 = true := by kernel_rfl
theorem fn_71 : fnB Try.prog 71 = true := by kernel_rfl
theorem one_2 : oneB Try.prog 2 = true := by kernel_rfl
theorem one_24 : oneB Try.prog 24 = true := by kernel_rfl
theorem one_4 : oneB Try.prog 4 = true := by kernel_rfl
theorem sz_2_1 : szB Try.prog 2 1 = true := by kernel_rfl
theorem sz_24_1 : szB Try.prog 24 1 = true := by kernel_rfl
theorem sz_26_5 : szB Try.prog 26 5 = true := by kernel_rfl
theorem sz_4_1 : szB Try.prog 4 1 = true := by kernel_rfl
theorem zero_26 : zeroB Try.prog 26 (.agg #[.int .i64 0, .int .i64 0, .bool false, .slice none 0 0, .slice none 0 0]) := by unfold zeroB; kernel_rfl
end T23
set_option maxRecDepth 100000 in
set_option maxHeartbeats 4000000 in
theorem c_l_toSheet {wd : Int} {hi : Int} {wr : Bool} {asp : Option Addr} {nsp : Nat} {csp : Nat} {Xsp : List Nat} {als : Option Addr} {nls : Nat} {cls : Nat} {Xls : List Nat} {w : World} (qsp : Rd w kF asp nsp Xsp) (qls : Rd w kF als nls Xls) (b1 : nsp ≤ 1048576) (b2 : nls ≤ 1048576) :
    Calls Try.prog 23 #[.agg #[.int .i64 wd, .int .i64 hi, .bool wr, .slice asp nsp csp, .slice als nls cls]] w (Rt fun v w' => ∃ (a1 : Option Addr) (c1 : Nat) (a2 : Option Addr) (c2 : Nat), v = .agg #[.int .i64 wd, .int .i64 hi, .bool wr, .slice a1 nsp c1, .slice a2 nls c2] ∧ New w w' [.ow kF a1 nsp c1 56 Xsp, .ow kF a2 nls c2 56 Xls]) := by
  have hlsp := qsp.len
  have hlls := qls.len
  have B : Bu w no w [.rd kF asp nsp Xsp, .rd kF als nls Xls] := Bu.ro (All.cons qsp (All.cons qls All.nil)) rfl
  refine calls_W (n := 22) Try.func23 rfl rfl (Nat.le_of_ble_eq_true rfl) ?_
  refine W_seq ?_
  refine W_region (by kernel_rfl) ?_
  refine s_k rfl (k_boxN (v := .agg #[.int .i64 wd, .int .i64 hi, .bool wr, .slice asp nsp csp, .slice als nls cls]) (cs := [.int .i64 wd, .int .i64 hi, .bool wr, .slice asp nsp csp, .slice als nls cls]) rfl rfl (fun b1 w2 hN3 => ?_))
  replace B := B.new1 hN3
  clear hN3
  refine s_k rfl (k_allocN (z := (.agg #[.int .i64 0, .int .i64 0, .bool false, .slice none 0 0, .slice none 0 0])) (cs := [.int .i64 0, .int .i64 0, .bool false, .slice none 0 0, .slice none 0 0]) T23.zero_26 rfl (fun b4 w5 hN6 => ?_))
  replace B := B.new1 hN6
  clear hN6
  refine s_nil ?_
  refine W_seq ?_
  refine W_region (by kernel_rfl) ?_
  refine s_k rfl (k_allocN (z := (.agg #[.int .i64 0, .int .i64 0, .bool false, .slice none 0 0, .slice none 0 0])) (cs := [.int .i64 0, .int .i64 0, .bool false, .slice none 0 0, .slice none 0 0]) T23.zero_26 rfl (fun b7 w8 hN9 => ?_))
  replace B := B.new1 hN9
  clear hN9
  refine s_nil ?_
  refine W_seq ?_
  refine W_region (by kernel_rfl) ?_
  refine s_y (v := .pointer (some ⟨b1, 0, none⟩)) rfl (y_fld (o := 0) T23.fld_36_0_0 rfl) ?_
  refine s_y (v := .int .i64 wd) rfl (y_load T23.one_2 rfl ((B.b 2 rfl).cell (j := 0) rfl)) ?_
  refine s_y (v := .pointer (some ⟨b7, 0, none⟩)) rfl (y_fld (o := 0) T23.fld_26_0_0 rfl) ?_
  refine s_k0 rfl (k_stB (v := .int .i64 wd) (n := 1) (cs' := [.int .i64 wd, .int .i64 0, .bool false, .slice none 0 0, .slice none 0 0]) T23.sz_2_1 rfl rfl rfl (B.b 0 rfl) (by simp [Value.cells, Value.oneCell']) (Nat.le_of_ble_eq_true rfl) rfl (fun w10 hU11 => ?_))
  replace B : Bu w no w10 [.blk b7 [.int .i64 wd, .int .i64 0, .bool false, .slice none 0 0, .slice none 0 0] 26, .blk b4 [.int .i64 0, .int .i64 0, .bool false, .slice none 0 0, .slice none 0 0] 26, .blk b1 [.int .i64 wd, .int .i64 hi, .bool wr, .slice asp nsp csp, .slice als nls cls] 36, .rd kF asp nsp Xsp, .rd kF als nls Xls] := B.upd [0] rfl hU11
  clear hU11
  refine s_nil ?_
  refine W_seq ?_
  refine W_region (by kernel_rfl) ?_
  refine s_y (v := .pointer (some ⟨b1, 1, none⟩)) rfl (y_fld (o := 0) T23.fld_36_1_1 rfl) ?_
  refine s_y (v := .int .i64 hi) rfl (y_load T23.one_2 rfl ((B.b 2 rfl).cell (j := 1) rfl)) ?_
  refine s_y (v := .pointer (some ⟨b7, 1, none⟩)) rfl (y_fld (o := 0) T23.fld_26_1_1 rfl) ?_
  refine s_k0 rfl (k_stB (v := .int .i64 hi) (n := 1) (cs' := [.int .i64 wd, .int .i64 hi, .bool false, .slice none 0 0, .slice none 0 0]) T23.sz_2_1 rfl rfl rfl (B.b 0 rfl) (by simp [Value.cells, Value.oneCell']) (Nat.le_of_ble_eq_true rfl) rfl (fun w12 hU13 => ?_))
  replace B : Bu w no w12 [.blk b7 [.int .i64 wd, .int .i64 hi, .bool false, .slice none 0 0, .slice none 0 0] 26, .blk b4 [.int .i64 0, .int .i64 0, .bool false, .slice none 0 0, .slice none 0 0] 26, .blk b1 [.int .i64 wd, .int .i64 hi, .bool wr, .slice asp nsp csp, .slice als nls cls] 36, .rd kF asp nsp Xsp, .rd kF als nls Xls] := B.upd [0] rfl hU13
  clear hU13
  refine s_nil ?_
  refine W_seq ?_
  refine W_region (by kernel_rfl) ?_
  refine s_y (v := .pointer (some ⟨b1, 2, none⟩)) rfl (y_fld (o := 0) T23.fld_36_2_2 rfl) ?_
  refine s_y (v := .bool wr) rfl (y_load T23.one_4 rfl ((B.b 2 rfl).cell (j := 2) rfl)) ?_
  refine s_y (v := .pointer (some ⟨b7, 2, none⟩)) rfl (y_fld (o := 0) T23.fld_26_2_2 rfl) ?_
  refine s_k0 rfl (k_stB (v := .bool wr) (n := 1) (cs' := [.int .i64 wd, .int .i64 hi, .bool wr, .slice none 0 0, .slice none 0 0]) T23.sz_4_1 rfl rfl rfl (B.b 0 rfl) (by simp [Value.cells, Value.oneCell']) (Nat.le_of_ble_eq_true rfl) rfl (fun w14 hU15 => ?_))
  replace B : Bu w no w14 [.blk b7 [.int .i64 wd, .int .i64 hi, .bool wr, .slice none 0 0, .slice none 0 0] 26, .blk b4 [.int .i64 0, .int .i64 0, .bool false, .slice none 0 0, .slice none 0 0] 26, .blk b1 [.int .i64 wd, .int .i64 hi, .bool wr, .slice asp nsp csp, .slice als nls cls] 36, .rd kF asp nsp Xsp, .rd kF als nls Xls] := B.upd [0] rfl hU15
  clear hU15
  refine s_nil ?_
  refine W_seq ?_
  refine W_region (by kernel_rfl) ?_
  refine s_y (v := .pointer (some ⟨b1, 3, none⟩)) rfl (y_fld (o := 0) T23.fld_36_3_3 rfl) ?_
  refine s_y (v := .slice asp nsp csp) rfl (y_load T23.one_24 rfl ((B.b 2 rfl).cell (j := 3) rfl)) ?_
  refine s_k rfl (k_call T23.fn_71 (c_l_toFloat32S (B.r 3 rfl) (by omega)) rfl ?_)
  rintro _ w16 ⟨a17, c18, rfl, hN19⟩
  replace B := B.new1 hN19
  clear hN19
  refine s_y (v := .pointer (some ⟨b7, 3, none⟩)) rfl (y_fld (o := 0) T23.fld_26_3_3 rfl) ?_
  refine s_k0 rfl (k_stB (v := .slice a17 nsp c18) (n := 1) (cs' := [.int .i64 wd, .int .i64 hi, .bool wr, .slice a17 nsp c18, .slice none 0 0]) T23.sz_24_1 rfl rfl rfl (B.b 1 rfl) (by simp [Value.cells, Value.oneCell']) (Nat.le_of_ble_eq_true rfl) rfl (fun w20 hU21 => ?_))
  replace B : Bu w no w20 [.blk b7 [.int .i64 wd, .int .i64 hi, .bool wr, .slice a17 nsp c18, .slice none 0 0] 26, .ow kF a17 nsp c18 56 Xsp, .blk b4 [.int .i64 0, .int .i64 0, .bool false, .slice none 0 0, .slice none 0 0] 26, .blk b1 [.int .i64 wd, .int .i64 hi, .bool wr, .slice asp nsp csp, .slice als nls cls] 36, .rd kF asp nsp Xsp, .rd kF als nls Xls] := B.upd [1] rfl hU21
  clear hU21
  refine s_nil ?_
  refine W_seq ?_
  refine W_region (by kernel_rfl) ?_
  refine s_y (v := .pointer (some ⟨b1, 4, none⟩)) rfl (y_fld (o := 0) T23.fld_36_4_4 rfl) ?_
  refine s_y (v := .slice als nls cls) rfl (y_load T23.one_24 rfl ((B.b 3 rfl).cell (j := 4) rfl)) ?_
  refine s_k rfl (k_call T23.fn_71 (c_l_toFloat32S (B.r 5 rfl) (by omega)) rfl ?_)
  rintro _ w22 ⟨a23, c24, rfl, hN25⟩
  replace B := B.new1 hN25
  clear hN25
  refine s_y (v := .pointer (some ⟨b7, 4, none⟩)) rfl (y_fld (o := 0) T23.fld_26_4_4 rfl) ?_
  refine s_k0 rfl (k_stB (v := .slice a23 nls c24) (n := 1) (cs' := [.int .i64 wd, .int .i64 hi, .bool wr, .slice a17 nsp c18, .slice a23 nls c24]) T23.sz_24_1 rfl rfl rfl (B.b 1 rfl) (by simp [Value.cells, Value.oneCell']) (Nat.le_of_ble_eq_true rfl) rfl (fun w26 hU27 => ?_))
  replace B : Bu w no w26 [.blk b7 [.int .i64 wd, .int .i64 hi, .bool wr, .slice a17 nsp c18, .slice a23 nls c24] 26, .ow kF a23 nls c24 56 Xls, .ow kF a17 nsp c18 56 Xsp, .blk b4 [.int .i64 0, .int .i64 0, .bool false, .slice none 0 0, .slice none 0 0] 26, .blk b1 [.int .i64 wd, .int .i64 hi, .bool wr, .slice asp nsp csp, .slice als nls cls] 36, .rd kF asp nsp Xsp, .rd kF als nls Xls] := B.upd [1] rfl hU27
  clear hU27
  refine s_nil ?_
  refine W_seq ?_
  refine W_region (by kernel_rfl) ?_
  refine s_y (v := .agg #[.int .i64 wd, .int .i64 hi, .bool wr, .slice a17 nsp c18, .slice a23 nls c24]) rfl (y_loadn (b := b7) (o := 0) (vs := [.int .i64 wd, .int .i64 hi, .bool wr, .slice a17 nsp c18, .slice a23 nls c24]) T23.agg_26_5 rfl rfl ((B.b 0 rfl).cells (o := 0) rfl)) ?_
  refine s_k0 rfl (k_stB (v := .agg #[.int .i64 wd, .int .i64 hi, .bool wr, .slice a17 nsp c18, .slice a23 nls c24]) (n := 5) (cs' := [.int .i64 wd, .int .i64 hi, .bool wr, .slice a17 nsp c18, .slice a23 nls c24]) T23.sz_26_5 rfl rfl rfl (B.b 3 rfl) (by simp [Value.cells, Value.oneCell']) (Nat.le_of_ble_eq_true rfl) rfl (fun w28 hU29 => ?_))
  replace B : Bu w no w28 [.blk b4 [.int .i64 wd, .int .i64 hi, .bool wr, .slice a17 nsp c18, .slice a23 nls c24] 26, .blk b7 [.int .i64 wd, .int .i64 hi, .bool wr, .slice a17 nsp c18, .slice a23 nls c24] 26, .ow kF a23 nls c24 56 Xls, .ow kF a17 nsp c18 56 Xsp, .blk b1 [.int .i64 wd, .int .i64 hi, .bool wr, .slice asp nsp csp, .slice als nls cls] 36, .rd kF asp nsp Xsp, .rd kF als nls Xls] := B.upd [3] rfl hU29
  clear hU29
  refine s_nil ?_
  refine W_ret ?_
  refine ret1 (v := .agg #[.int .i64 wd, .int .i64 hi, .bool wr, .slice a17 nsp c18, .slice a23 nls c24]) rfl rfl ⟨_, [.int .i64 wd, .int .i64 hi, .bool wr, .slice a17 nsp c18, .slice a23 nls c24], _, rfl, (B.b 0 rfl), T23.agg_26_5, rfl⟩ ⟨_, rfl, ?_⟩
  exact ⟨_, _, _, _, rfl, B.give [3, 2] rfl rfl rfl⟩
namespace T31
theorem mx : Try.prog.follows .mixedOrders = true := by kernel_rfl
theorem agg_49_3 : aggB Try.prog 49 3 = true := by kernel_rfl
theorem fld_45_0_0 : fldB Try.prog 45 0 0 = true := by kernel_rfl
theorem fld_45_1_1 : fldB Try.prog 45 1 1 = true := by kernel_rfl
theorem fld_45_2_2 : fldB Try.prog 45 2 2 = true := by kernel_rfl
theorem fld_49_0_0 : fldB Try.prog 49 0 0 = true := by kernel_rfl
theorem fld_49_1_1 : fldB Try.prog 49 1 1 = true := by kernel_rfl
theorem fld_49_2_2 : fldB Try.prog 49 2 2 = true := by kernel_rfl
theorem fn_71 : fnB Try.prog 71 = true := by kernel_rfl
theorem one_24 : oneB Try.prog 24 = true := by kernel_rfl
theorem sz_24_1 : szB Try.prog 24 1 = true := by kernel_rfl
theorem sz_49_3 : szB Try.prog 49 3 = true := by kernel_rfl
theorem zero_49 : zeroB Try.prog 49 (.agg #[.slice none 0 0, .slice none 0 0, .slice none 0 0]) := by unfold zeroB; kernel_rfl
end T31
set_option maxRecDepth 100000 in
set_option maxHeartbeats 4000000 in
theorem c_l_toField {afe : Option Addr} {nfe : Nat} {cfe : Nat} {Xfe : List Nat} {afx : Option Addr} {nfx : Nat} {cfx : Nat} {Xfx : List Nat} {afy : Option Addr} {nfy : Nat} {cfy : Nat} {Xfy : List Nat} {w : World} (qfe : Rd w kF afe nfe Xfe) (qfx : Rd w kF afx nfx Xfx) (qfy : Rd w kF afy nfy Xfy) (b1 : nfe ≤ 1048576) (b2 : nfx ≤ 1048576) (b3 : nfy ≤ 1048576) :
    Calls Try.prog 31 #[.agg #[.slice afe nfe cfe, .slice afx nfx cfx, .slice afy nfy cfy]] w (Rt fun v w' => ∃ (a1 : Option Addr) (c1 : Nat) (a2 : Option Addr) (c2 : Nat) (a3 : Option Addr) (c3 : Nat), v = .agg #[.slice a1 nfe c1, .slice a2 nfx c2, .slice a3 nfy c3] ∧ New w w' [.ow kF a1 nfe c1 56 Xfe, .ow kF a2 nfx c2 56 Xfx, .ow kF a3 nfy c3 56 Xfy]) := by
  have hlfe := qfe.len
  have hlfx := qfx.len
  have hlfy := qfy.len
  have B : Bu w no w [.rd kF afe nfe Xfe, .rd kF afx nfx Xfx, .rd kF afy nfy Xfy] := Bu.ro (All.cons qfe (All.cons qfx (All.cons qfy All.nil))) rfl
  refine calls_W (n := 17) Try.func31 rfl rfl (Nat.le_of_ble_eq_true rfl) ?_
  refine W_seq ?_
  refine W_region (by kernel_rfl) ?_
  refine s_k rfl (k_boxN (v := .agg #[.slice afe nfe cfe, .slice afx nfx cfx, .slice afy nfy cfy]) (cs := [.slice afe nfe cfe, .slice afx nfx cfx, .slice afy nfy cfy]) rfl rfl (fun b1 w2 hN3 => ?_))
  replace B := B.new1 hN3
  clear hN3
  refine s_k rfl (k_allocN (z := (.agg #[.slice none 0 0, .slice none 0 0, .slice none 0 0])) (cs := [.slice none 0 0, .slice none 0 0, .slice none 0 0]) T31.zero_49 rfl (fun b4 w5 hN6 => ?_))
  replace B := B.new1 hN6
  clear hN6
  refine s_nil ?_
  refine W_seq ?_
  refine W_region (by kernel_rfl) ?_
  refine s_k rfl (k_allocN (z := (.agg #[.slice none 0 0, .slice none 0 0, .slice none 0 0])) (cs := [.slice none 0 0, .slice none 0 0, .slice none 0 0]) T31.zero_49 rfl (fun b7 w8 hN9 => ?_))
  replace B := B.new1 hN9
  clear hN9
  refine s_nil ?_
  refine W_seq ?_
  refine W_region (by kernel_rfl) ?_
  refine s_y (v := .pointer (some ⟨b1, 0, none⟩)) rfl (y_fld (o := 0) T31.fld_45_0_0 rfl) ?_
  refine s_y (v := .slice afe nfe cfe) rfl (y_load T31.one_24 rfl ((B.b 2 rfl).cell (j := 0) rfl)) ?_
  refine s_k rfl (k_call T31.fn_71 (c_l_toFloat32S (B.r 3 rfl) (by omega)) rfl ?_)
  rintro _ w10 ⟨a11, c12, rfl, hN13⟩
  replace B := B.new1 hN13
  clear hN13
  refine s_y (v := .pointer (some ⟨b7, 0, none⟩)) rfl (y_fld (o := 0) T31.fld_49_0_0 rfl) ?_
  refine s_k0 rfl (k_stB (v := .slice a11 nfe c12) (n := 1) (cs' := [.slice a11 nfe c12, .slice none 0 0, .slice none 0 0]) T31.sz_24_1 rfl rfl rfl (B.b 1 rfl) (by simp [Value.cells, Value.oneCell']) (Nat.le_of_ble_eq_true rfl) rfl (fun w14 hU15 => ?_))
  replace B : Bu w no w14 [.blk b7 [.slice a11 nfe c12, .slice none 0 0, .slice none 0 0] 49, .ow kF a11 nfe c12 56 Xfe, .blk b4 [.slice none 0 0, .slice none 0 0, .slice none 0 0] 49, .blk b1 [.slice afe nfe cfe, .slice afx nfx cfx, .slice afy nfy cfy] 45, .rd kF afe nfe Xfe, .rd kF afx nfx Xfx, .rd kF afy nfy Xfy] := B.upd [1] rfl hU15
  clear hU15
  refine s_nil ?_
  refine W_seq ?_
  refine W_region (by kernel_rfl) ?_
  refine s_y (v := .pointer (some ⟨b1, 1, none⟩)) rfl (y_fld (o := 0) T31.fld_45_1_1 rfl) ?_
  refine s_y (v := .slice afx nfx cfx) rfl (y_load T31.one_24 rfl ((B.b 3 rfl).cell (j := 1) rfl)) ?_
  refine s_k rfl (k_call T31.fn_71 (c_l_toFloat32S (B.r 5 rfl) (by omega)) rfl ?_)
  rintro _ w16 ⟨a17, c18, rfl, hN19⟩
  replace B := B.new1 hN19
  clear hN19
  refine s_y (v := .pointer (some ⟨b7, 1, none⟩)) rfl (y_fld (o := 0) T31.fld_49_1_1 rfl) ?_
  refine s_k0 rfl (k_stB (v := .slice a17 nfx c18) (n := 1) (cs' := [.slice a11 nfe c12, .slice a17 nfx c18, .slice none 0 0]) T31.sz_24_1 rfl rfl rfl (B.b 1 rfl) (by simp [Value.cells, Value.oneCell']) (Nat.le_of_ble_eq_true rfl) rfl (fun w20 hU21 => ?_))
  replace B : Bu w no w20 [.blk b7 [.slice a11 nfe c12, .slice a17 nfx c18, .slice none 0 0] 49, .ow kF a17 nfx c18 56 Xfx, .ow kF a11 nfe c12 56 Xfe, .blk b4 [.slice none 0 0, .slice none 0 0, .slice none 0 0] 49, .blk b1 [.slice afe nfe cfe, .slice afx nfx cfx, .slice afy nfy cfy] 45, .rd kF afe nfe Xfe, .rd kF afx nfx Xfx, .rd kF afy nfy Xfy] := B.upd [1] rfl hU21
  clear hU21
  refine s_nil ?_
  refine W_seq ?_
  refine W_region (by kernel_rfl) ?_
  refine s_y (v := .pointer (some ⟨b1, 2, none⟩)) rfl (y_fld (o := 0) T31.fld_45_2_2 rfl) ?_
  refine s_y (v := .slice afy nfy cfy) rfl (y_load T31.one_24 rfl ((B.b 4 rfl).cell (j := 2) rfl)) ?_
  refine s_k rfl (k_call T31.fn_71 (c_l_toFloat32S (B.r 7 rfl) (by omega)) rfl ?_)
  rintro _ w22 ⟨a23, c24, rfl, hN25⟩
  replace B := B.new1 hN25
  clear hN25
  refine s_y (v := .pointer (some ⟨b7, 2, none⟩)) rfl (y_fld (o := 0) T31.fld_49_2_2 rfl) ?_
  refine s_k0 rfl (k_stB (v := .slice a23 nfy c24) (n := 1) (cs' := [.slice a11 nfe c12, .slice a17 nfx c18, .slice a23 nfy c24]) T31.sz_24_1 rfl rfl rfl (B.b 1 rfl) (by simp [Value.cells, Value.oneCell']) (Nat.le_of_ble_eq_true rfl) rfl (fun w26 hU27 => ?_))
  replace B : Bu w no w26 [.blk b7 [.slice a11 nfe c12, .slice a17 nfx c18, .slice a23 nfy c24] 49, .ow kF a23 nfy c24 56 Xfy, .ow kF a17 nfx c18 56 Xfx, .ow kF a11 nfe c12 56 Xfe, .blk b4 [.slice none 0 0, .slice none 0 0, .slice none 0 0] 49, .blk b1 [.slice afe nfe cfe, .slice afx nfx cfx, .slice afy nfy cfy] 45, .rd kF afe nfe Xfe, .rd kF afx nfx Xfx, .rd kF afy nfy Xfy] := B.upd [1] rfl hU27
  clear hU27
  refine s_nil ?_
  refine W_seq ?_
  refine W_region (by kernel_rfl) ?_
  refine s_y (v := .agg #[.slice a11 nfe c12, .slice a17 nfx c18, .slice a23 nfy c24]) rfl (y_loadn (b := b7) (o := 0) (vs := [.slice a11 nfe c12, .slice a17 nfx c18, .slice a23 nfy c24]) T31.agg_49_3 rfl rfl ((B.b 0 rfl).cells (o := 0) rfl)) ?_
  refine s_k0 rfl (k_stB (v := .agg #[.slice a11 nfe c12, .slice a17 nfx c18, .slice a23 nfy c24]) (n := 3) (cs' := [.slice a11 nfe c12, .slice a17 nfx c18, .slice a23 nfy c24]) T31.sz_49_3 rfl rfl rfl (B.b 4 rfl) (by simp [Value.cells, Value.oneCell']) (Nat.le_of_ble_eq_true rfl) rfl (fun w28 hU29 => ?_))
  replace B : Bu w no w28 [.blk b4 [.slice a11 nfe c12, .slice a17 nfx c18, .slice a23 nfy c24] 49, .blk b7 [.slice a11 nfe c12, .slice a17 nfx c18, .slice a23 nfy c24] 49, .ow kF a23 nfy c24 56 Xfy, .ow kF a17 nfx c18 56 Xfx, .ow kF a11 nfe c12 56 Xfe, .blk b1 [.slice afe nfe cfe, .slice afx nfx cfx, .slice afy nfy cfy] 45, .rd kF afe nfe Xfe, .rd kF afx nfx Xfx, .rd kF afy nfy Xfy] := B.upd [4] rfl hU29
  clear hU29
  refine s_nil ?_
  refine W_ret ?_
  refine ret1 (v := .agg #[.slice a11 nfe c12, .slice a17 nfx c18, .slice a23 nfy c24]) rfl rfl ⟨_, [.slice a11 nfe c12, .slice a17 nfx c18, .slice a23 nfy c24], _, rfl, (B.b 0 rfl), T31.agg_49_3, rfl⟩ ⟨_, rfl, ?_⟩
  exact ⟨_, _, _, _, _, _, rfl, B.give [4, 3, 2] rfl rfl rfl⟩
namespace T70
theorem mx : Try.prog.follows .mixedOrders = true := by kernel_rfl
end T70
set_option maxRecDepth 100000 in
set_option maxHeartbeats 4000000 in
theorem c_s_l00In {n : Int} {lo : Int} {hi : Int} {w : World} :
    Calls Try.prog 70 #[.int .i64 n, .int .i64 lo, .int .i64 hi] w (Rt fun v w' => v = .bool (within n lo hi) ∧ Ext0 w w') := by
  have B : Bu w no w [] := Bu.ro All.nil rfl
  refine calls_W (n := 15) Try.func70 rfl rfl (Nat.le_of_ble_eq_true rfl) ?_
  refine W_seq ?_
  refine W_region (by kernel_rfl) ?_
  refine s_y (v := .bool false) rfl (y_assign rfl) ?_
  refine s_nil ?_
  refine W_seq ?_
  refine W_region (by kernel_rfl) ?_
  refine s_y (v := .int .i64 n) rfl (y_move rfl) ?_
  refine s_y (v := .int .i64 lo) rfl (y_move rfl) ?_
  by_cases c1 : lo ≤ n
  · refine s_y (v := .bool true) rfl (y_geq rfl rfl (decide_eq_true c1)) ?_
    refine s_y (v := .bool true) rfl (y_move rfl) ?_
    refine s_y (v := .int .i64 n) rfl (y_move rfl) ?_
    refine s_y (v := .int .i64 hi) rfl (y_move rfl) ?_
    by_cases c2 : n ≤ hi
    · refine s_y (v := .bool true) rfl (y_leq rfl rfl (decide_eq_true c2)) ?_
      refine s_y (v := .bool true) rfl (y_pick_t rfl rfl) ?_
      refine s_y (v := .bool true) rfl (y_assign rfl) ?_
      refine s_nil ?_
      refine W_ret ?_
      refine ret1 (v := .bool true) rfl rfl rfl ⟨_, rfl, ?_⟩
      exact ⟨congrArg Value.bool (by simp [within] <;> omega), B.ext⟩
    · refine s_y (v := .bool false) rfl (y_leq rfl rfl (decide_eq_false c2)) ?_
      refine s_y (v := .bool false) rfl (y_pick_t rfl rfl) ?_
      refine s_y (v := .bool false) rfl (y_assign rfl) ?_
      refine s_nil ?_
      refine W_ret ?_
      refine ret1 (v := .bool false) rfl rfl rfl ⟨_, rfl, ?_⟩
      exact ⟨congrArg Value.bool (by simp [within] <;> omega), B.ext⟩
  · refine s_y (v := .bool false) rfl (y_geq rfl rfl (decide_eq_false c1)) ?_
    refine s_y (v := .bool false) rfl (y_move rfl) ?_
    refine s_skip rfl ?_
    refine s_skip rfl ?_
    refine s_skip rfl ?_
    refine s_y (v := .bool false) rfl (y_pick_f rfl rfl) ?_
    refine s_y (v := .bool false) rfl (y_assign rfl) ?_
    refine s_nil ?_
    refine W_ret ?_
    refine ret1 (v := .bool false) rfl rfl rfl ⟨_, rfl, ?_⟩
    exact ⟨congrArg Value.bool (by simp [within] <;> omega), B.ext⟩
namespace T106
theorem mx : Try.prog.follows .mixedOrders = true := by kernel_rfl
theorem fn_70 : fnB Try.prog 70 = true := by kernel_rfl
end T106
set_option maxRecDepth 100000 in
set_option maxHeartbeats 4000000 in
theorem c_s_l02Sides {wd : Int} {hi : Int} {w : World} :
    Calls Try.prog 106 #[.int .i64 wd, .int .i64 hi] w (Rt fun v w' => v = .bool (sidesB wd hi) ∧ Ext0 w w') := by
  have B : Bu w no w [] := Bu.ro All.nil rfl
  refine calls_W (n := 17) Try.func106 rfl rfl (Nat.le_of_ble_eq_true rfl) ?_
  refine W_seq ?_
  refine W_region (by kernel_rfl) ?_
  refine s_y (v := .bool false) rfl (y_assign rfl) ?_
  refine s_nil ?_
  refine W_seq ?_
  refine W_region (by kernel_rfl) ?_
  refine s_y (v := .int .i64 wd) rfl (y_move rfl) ?_
  refine s_k rfl (k_call T106.fn_70 (c_s_l00In) rfl ?_)
  rintro v3 w1 ⟨hv4, e2⟩
  replace B := B.ext0 e2
  clear e2
  by_cases c5 : within wd 3 16 = true
  · have hb6 := within_b c5
    obtain rfl : v3 = .bool true := hv4.trans (congrArg Value.bool c5)
    refine s_y (v := .bool true) rfl (y_move rfl) ?_
    refine s_y (v := .int .i64 hi) rfl (y_move rfl) ?_
    refine s_k rfl (k_call T106.fn_70 (c_s_l00In) rfl ?_)
    rintro v9 w7 ⟨hv10, e8⟩
    replace B := B.ext0 e8
    clear e8
    by_cases c11 : within hi 3 16 = true
    · have hb12 := within_b c11
      obtain rfl : v9 = .bool true := hv10.trans (congrArg Value.bool c11)
      refine s_y (v := .bool true) rfl (y_pick_t rfl rfl) ?_
      refine s_y (v := .bool true) rfl (y_move rfl) ?_
      refine s_y (v := .int .i64 wd) rfl (y_move rfl) ?_
      refine s_y (v := .int .i64 hi) rfl (y_move rfl) ?_
      have hm13 := mulb (a := wd) (b := hi) (by omega) (by omega) (by omega) (by omega)
      refine s_y (v := .int .i64 (wd * hi)) rfl (y_mul rfl rfl rfl (by omega)) ?_
      have hk14 : (wd * hi) ≤ 256 := (mul16 (And.intro (within_b c5) (within_b c11))).2
      refine s_y (v := .bool true) rfl (y_leq rfl rfl (decide_eq_true hk14)) ?_
      refine s_y (v := .bool true) rfl (y_pick_t rfl rfl) ?_
      refine s_y (v := .bool true) rfl (y_assign rfl) ?_
      refine s_nil ?_
      refine W_ret ?_
      refine ret1 (v := .bool true) rfl rfl rfl ⟨_, rfl, ?_⟩
      exact ⟨congrArg Value.bool (by simp only [sidesB, c5, c11, (decide_eq_true hk14), Bool.and_true, Bool.true_and, Bool.and_false, Bool.false_and, Bool.not_true, Bool.not_false, Bool.or_true, Bool.true_or, Bool.or_false, Bool.false_or]), B.ext⟩
    · obtain rfl : v9 = .bool false := hv10.trans (congrArg Value.bool (Bool.eq_false_iff.2 c11))
      refine s_y (v := .bool false) rfl (y_pick_t rfl rfl) ?_
      refine s_y (v := .bool false) rfl (y_move rfl) ?_
      refine s_skip rfl ?_
      refine s_skip rfl ?_
      refine s_skip rfl ?_
      refine s_skip rfl ?_
      refine s_y (v := .bool false) rfl (y_pick_f rfl rfl) ?_
      refine s_y (v := .bool false) rfl (y_assign rfl) ?_
      refine s_nil ?_
      refine W_ret ?_
      refine ret1 (v := .bool false) rfl rfl rfl ⟨_, rfl, ?_⟩
      exact ⟨congrArg Value.bool (by simp only [sidesB, c5, (Bool.eq_false_iff.2 c11), Bool.and_true, Bool.true_and, Bool.and_false, Bool.false_and, Bool.not_true, Bool.not_false, Bool.or_true, Bool.true_or, Bool.or_false, Bool.false_or]), B.ext⟩
  · obtain rfl : v3 = .bool false := hv4.trans (congrArg Value.bool (Bool.eq_false_iff.2 c5))
    refine s_y (v := .bool false) rfl (y_move rfl) ?_
    refine s_skip rfl ?_
    refine s_skip rfl ?_
    refine s_y (v := .bool false) rfl (y_pick_f rfl rfl) ?_
    refine s_y (v := .bool false) rfl (y_move rfl) ?_
    refine s_skip rfl ?_
    refine s_skip rfl ?_
    refine s_skip rfl ?_
    refine s_skip rfl ?_
    refine s_y (v := .bool false) rfl (y_pick_f rfl rfl) ?_
    refine s_y (v := .bool false) rfl (y_assign rfl) ?_
    refine s_nil ?_
    refine W_ret ?_
    refine ret1 (v := .bool false) rfl rfl rfl ⟨_, rfl, ?_⟩
    exact ⟨congrArg Value.bool (by simp only [sidesB, (Bool.eq_false_iff.2 c5), Bool.and_true, Bool.true_and, Bool.and_false, Bool.false_and, Bool.not_true, Bool.not_false, Bool.or_true, Bool.true_or, Bool.or_false, Bool.false_or]), B.ext⟩
namespace T68
theorem mx : Try.prog.follows .mixedOrders = true := by kernel_rfl
theorem fld_26_0_0 : fldB Try.prog 26 0 0 = true := by kernel_rfl
theorem fld_26_1_1 : fldB Try.prog 26 1 1 = true := by kernel_rfl
theorem fld_26_3_3 : fldB Try.prog 26 3 3 = true := by kernel_rfl
theorem fld_26_4_4 : fldB Try.prog 26 4 4 = true := by kernel_rfl
theorem fn_106 : fnB Try.prog 106 = true := by kernel_rfl
theorem one_2 : oneB Try.prog 2 = true := by kernel_rfl
theorem one_24 : oneB Try.prog 24 = true := by kernel_rfl
theorem one_56 : oneB Try.prog 56 = true := by kernel_rfl
theorem sl_24_56_1 : slB Try.prog 24 56 1 = true := by kernel_rfl
end T68
set_option maxRecDepth 100000 in
set_option maxHeartbeats 4000000 in
theorem c_s_l02Is {b : Nat} {o : Nat} {wd : Int} {hi : Int} {wr : Bool} {asp : Option Addr} {nsp : Nat} {csp : Nat} {Xsp : List Nat} {als : Option Addr} {nls : Nat} {cls : Nat} {Xls : List Nat} {w : World} (qsp : Rd w kF asp nsp Xsp) (qls : Rd w kF als nls Xls) (Pb : Sl w (some ⟨b, o, none⟩) [.int .i64 wd, .int .i64 hi, .bool wr, .slice asp nsp csp, .slice als nls cls]) (hbsp : nsp ≤ 9223372036854775806) (hbls : nls ≤ 9223372036854775806) :
    Calls Try.prog 68 #[.pointer (some ⟨b, o, none⟩)] w (Rt fun v w' => v = .bool (validS wd hi Xsp Xls) ∧ Ext0 w w') := by
  have hlsp := qsp.len
  have hlls := qls.len
  have B : Bu w no w [.rd kF asp nsp Xsp, .rd kF als nls Xls, .sl (some ⟨b, o, none⟩) [.int .i64 wd, .int .i64 hi, .bool wr, .slice asp nsp csp, .slice als nls cls]] := Bu.ro (All.cons qsp (All.cons qls (All.cons Pb All.nil))) rfl
  refine calls_W (n := 97) Try.func68 rfl rfl (Nat.le_of_ble_eq_true rfl) ?_
  refine W_seq ?_
  refine W_region (by kernel_rfl) ?_
  refine s_y (v := .bool false) rfl (y_assign rfl) ?_
  refine s_nil ?_
  refine W_seq ?_
  refine W_seq ?_
  have B0_5 := B
  refine W_draw (no) T68.mx (by kernel_rfl) (fun w3 e4 => ?_)
  have R6 := Ext.refl (no) w
  replace R6 := R6.trans (Ext0.any e4)
  replace B := B.ext0 e4
  clear e4
  refine m_y (v := .pointer (some ⟨b, o, none⟩)) 0 rfl (by kernel_rfl) rfl rfl (fun w' e' => y_move rfl) ?_
  refine m_y (v := .pointer (some ⟨b, o, none⟩)) 1 rfl (by kernel_rfl) rfl rfl (fun w' e' => y_nil rfl) ?_
  refine m_y (v := .pointer (some ⟨b, o, none⟩)) 2 rfl (by kernel_rfl) rfl rfl (fun w' e' => y_fld (o := o + 0) T68.fld_26_0_0 rfl) ?_
  refine m_y (v := .int .i64 wd) 3 rfl (by kernel_rfl) rfl rfl (fun w' e' => y_load T68.one_2 rfl (((B0_5.s 2 rfl).ext0 e').cell (j := 0) rfl)) ?_
  refine m_y (v := .pointer (some ⟨b, o, none⟩)) 4 rfl (by kernel_rfl) rfl rfl (fun w' e' => y_move rfl) ?_
  refine m_y (v := .pointer (some ⟨b, o, none⟩)) 5 rfl (by kernel_rfl) rfl rfl (fun w' e' => y_nil rfl) ?_
  refine m_y (v := .pointer (some ⟨b, o + 1, none⟩)) 6 rfl (by kernel_rfl) rfl rfl (fun w' e' => y_fld (o := o + 0) T68.fld_26_1_1 rfl) ?_
  refine m_y (v := .int .i64 hi) 7 rfl (by kernel_rfl) rfl rfl (fun w' e' => y_load T68.one_2 rfl (((B0_5.s 2 rfl).ext0 e').cell (j := 1) rfl)) ?_
  refine m_k 8 [9, 10, 11, 12, 13, 14, 15, 16, 17, 18, 19, 20, 21, 22, 23, 24, 25, 26, 27, 28, 29, 30, 31, 32, 33, 34, 35, 36, 37, 38, 39, 40, 41, 42, 43] rfl (by kernel_rfl) rfl rfl (fun w7 e8 => ?_)
  replace R6 := R6.trans (Ext0.any e8)
  replace B := B.ext0 e8
  clear e8
  refine k_call T68.fn_106 (c_s_l02Sides) rfl ?_
  rintro v11 w9 ⟨hv12, e10⟩
  replace R6 := R6.trans (Ext0.any e10)
  replace B := B.ext0 e10
  clear e10
  refine ⟨fun _ => R6, ?_⟩
  by_cases c13 : sidesB wd hi = true
  · have hb14 := sides_b c13
    obtain rfl : v11 = .bool true := hv12.trans (congrArg Value.bool c13)
    refine m_y (v := .bool false) 9 rfl (by kernel_rfl) rfl rfl (fun w' e' => y_not rfl rfl) ?_
    refine m_y (v := .bool false) 10 rfl (by kernel_rfl) rfl rfl (fun w' e' => y_move rfl) ?_
    refine m_y (v := .pointer (some ⟨b, o, none⟩)) 11 rfl (by kernel_rfl) rfl rfl (fun w' e' => y_move rfl) ?_
    refine m_y (v := .pointer (some ⟨b, o, none⟩)) 12 rfl (by kernel_rfl) rfl rfl (fun w' e' => y_nil rfl) ?_
    refine m_y (v := .pointer (some ⟨b, o + 3, none⟩)) 13 rfl (by kernel_rfl) rfl rfl (fun w' e' => y_fld (o := o + 0) T68.fld_26_3_3 rfl) ?_
    refine m_y (v := .slice asp nsp csp) 14 rfl (by kernel_rfl) rfl rfl (fun w' e' => y_load T68.one_24 rfl (((B0_5.s 2 rfl).ext0 e').cell (j := 3) rfl)) ?_
    refine m_y (v := .int .i64 ((nsp : Nat) : Int)) 15 rfl (by kernel_rfl) rfl rfl (fun w' e' => y_len T68.sl_24_56_1 rfl rfl) ?_
    refine m_y (v := .pointer (some ⟨b, o, none⟩)) 16 rfl (by kernel_rfl) rfl rfl (fun w' e' => y_move rfl) ?_
    refine m_y (v := .pointer (some ⟨b, o, none⟩)) 17 rfl (by kernel_rfl) rfl rfl (fun w' e' => y_nil rfl) ?_
    refine m_y (v := .pointer (some ⟨b, o, none⟩)) 18 rfl (by kernel_rfl) rfl rfl (fun w' e' => y_fld (o := o + 0) T68.fld_26_0_0 rfl) ?_
    refine m_y (v := .int .i64 wd) 19 rfl (by kernel_rfl) rfl rfl (fun w' e' => y_load T68.one_2 rfl (((B0_5.s 2 rfl).ext0 e').cell (j := 0) rfl)) ?_
    refine m_y (v := .pointer (some ⟨b, o, none⟩)) 20 rfl (by kernel_rfl) rfl rfl (fun w' e' => y_move rfl) ?_
    refine m_y (v := .pointer (some ⟨b, o, none⟩)) 21 rfl (by kernel_rfl) rfl rfl (fun w' e' => y_nil rfl) ?_
    refine m_y (v := .pointer (some ⟨b, o + 1, none⟩)) 22 rfl (by kernel_rfl) rfl rfl (fun w' e' => y_fld (o := o + 0) T68.fld_26_1_1 rfl) ?_
    refine m_y (v := .int .i64 hi) 23 rfl (by kernel_rfl) rfl rfl (fun w' e' => y_load T68.one_2 rfl (((B0_5.s 2 rfl).ext0 e').cell (j := 1) rfl)) ?_
    refine m_y (v := .int .i64 (wd * hi)) 24 rfl (by kernel_rfl) rfl rfl (fun w' e' => y_mul rfl rfl rfl (by omega)) ?_
    by_cases c16 : ((nsp : Nat) : Int) ≠ (wd * hi)
    · refine m_y (v := .bool true) 25 rfl (by kernel_rfl) rfl rfl (fun w' e' => y_neq rfl rfl (decide_eq_true c16)) ?_
      refine m_y (v := .bool true) 26 rfl (by kernel_rfl) rfl rfl (fun w' e' => y_pick_f rfl rfl) ?_
      refine m_y (v := .bool true) 27 rfl (by kernel_rfl) rfl rfl (fun w' e' => y_move rfl) ?_
      refine m_skip 28 rfl (by kernel_rfl) rfl ?_
      refine m_skip 29 rfl (by kernel_rfl) rfl ?_
      refine m_skip 30 rfl (by kernel_rfl) rfl ?_
      refine m_skip 31 rfl (by kernel_rfl) rfl ?_
      refine m_skip 32 rfl (by kernel_rfl) rfl ?_
      refine m_skip 33 rfl (by kernel_rfl) rfl ?_
      refine m_skip 34 rfl (by kernel_rfl) rfl ?_
      refine m_skip 35 rfl (by kernel_rfl) rfl ?_
      refine m_skip 36 rfl (by kernel_rfl) rfl ?_
      refine m_skip 37 rfl (by kernel_rfl) rfl ?_
      refine m_skip 38 rfl (by kernel_rfl) rfl ?_
      refine m_skip 39 rfl (by kernel_rfl) rfl ?_
      refine m_skip 40 rfl (by kernel_rfl) rfl ?_
      refine m_skip 41 rfl (by kernel_rfl) rfl ?_
      refine m_skip 42 rfl (by kernel_rfl) rfl ?_
      refine m_y (v := .bool true) 43 rfl (by kernel_rfl) rfl rfl (fun w' e' => y_pick_t rfl rfl) ?_
      refine m_done (by kernel_rfl) (fun w17 e18 => ?_)
      replace B := B.ext0 e18
      clear e18
      clear B0_5 R6
      refine W_if_t (by decide) rfl ?_
      refine W_seq ?_
      refine W_region (by kernel_rfl) ?_
      refine s_y (v := .bool false) rfl (y_assign rfl) ?_
      refine s_nil ?_
      refine W_ret ?_
      refine ret1 (v := .bool false) rfl rfl rfl ⟨_, rfl, ?_⟩
      exact ⟨congrArg Value.bool (by simp [validS, hlsp, hlls, *]), B.ext⟩
    · refine m_y (v := .bool false) 25 rfl (by kernel_rfl) rfl rfl (fun w' e' => y_neq rfl rfl (decide_eq_false c16)) ?_
      refine m_y (v := .bool false) 26 rfl (by kernel_rfl) rfl rfl (fun w' e' => y_pick_f rfl rfl) ?_
      refine m_y (v := .bool false) 27 rfl (by kernel_rfl) rfl rfl (fun w' e' => y_move rfl) ?_
      refine m_y (v := .pointer (some ⟨b, o, none⟩)) 28 rfl (by kernel_rfl) rfl rfl (fun w' e' => y_move rfl) ?_
      refine m_y (v := .pointer (some ⟨b, o, none⟩)) 29 rfl (by kernel_rfl) rfl rfl (fun w' e' => y_nil rfl) ?_
      refine m_y (v := .pointer (some ⟨b, o + 4, none⟩)) 30 rfl (by kernel_rfl) rfl rfl (fun w' e' => y_fld (o := o + 0) T68.fld_26_4_4 rfl) ?_
      refine m_y (v := .slice als nls cls) 31 rfl (by kernel_rfl) rfl rfl (fun w' e' => y_load T68.one_24 rfl (((B0_5.s 2 rfl).ext0 e').cell (j := 4) rfl)) ?_
      refine m_y (v := .int .i64 ((nls : Nat) : Int)) 32 rfl (by kernel_rfl) rfl rfl (fun w' e' => y_len T68.sl_24_56_1 rfl rfl) ?_
      refine m_y (v := .pointer (some ⟨b, o, none⟩)) 33 rfl (by kernel_rfl) rfl rfl (fun w' e' => y_move rfl) ?_
      refine m_y (v := .pointer (some ⟨b, o, none⟩)) 34 rfl (by kernel_rfl) rfl rfl (fun w' e' => y_nil rfl) ?_
      refine m_y (v := .pointer (some ⟨b, o, none⟩)) 35 rfl (by kernel_rfl) rfl rfl (fun w' e' => y_fld (o := o + 0) T68.fld_26_0_0 rfl) ?_
      refine m_y (v := .int .i64 wd) 36 rfl (by kernel_rfl) rfl rfl (fun w' e' => y_load T68.one_2 rfl (((B0_5.s 2 rfl).ext0 e').cell (j := 0) rfl)) ?_
      refine m_y (v := .pointer (some ⟨b, o, none⟩)) 37 rfl (by kernel_rfl) rfl rfl (fun w' e' => y_move rfl) ?_
      refine m_y (v := .pointer (some ⟨b, o, none⟩)) 38 rfl (by kernel_rfl) rfl rfl (fun w' e' => y_nil rfl) ?_
      refine m_y (v := .pointer (some ⟨b, o + 1, none⟩)) 39 rfl (by kernel_rfl) rfl rfl (fun w' e' => y_fld (o := o + 0) T68.fld_26_1_1 rfl) ?_
      refine m_y (v := .int .i64 hi) 40 rfl (by kernel_rfl) rfl rfl (fun w' e' => y_load T68.one_2 rfl (((B0_5.s 2 rfl).ext0 e').cell (j := 1) rfl)) ?_
      refine m_y (v := .int .i64 (wd * hi)) 41 rfl (by kernel_rfl) rfl rfl (fun w' e' => y_mul rfl rfl rfl (by omega)) ?_
      by_cases c20 : ((nls : Nat) : Int) ≠ (wd * hi)
      · refine m_y (v := .bool true) 42 rfl (by kernel_rfl) rfl rfl (fun w' e' => y_neq rfl rfl (decide_eq_true c20)) ?_
        refine m_y (v := .bool true) 43 rfl (by kernel_rfl) rfl rfl (fun w' e' => y_pick_f rfl rfl) ?_
        refine m_done (by kernel_rfl) (fun w21 e22 => ?_)
        replace B := B.ext0 e22
        clear e22
        clear B0_5 R6
        refine W_if_t (by decide) rfl ?_
        refine W_seq ?_
        refine W_region (by kernel_rfl) ?_
        refine s_y (v := .bool false) rfl (y_assign rfl) ?_
        refine s_nil ?_
        refine W_ret ?_
        refine ret1 (v := .bool false) rfl rfl rfl ⟨_, rfl, ?_⟩
        exact ⟨congrArg Value.bool (by simp [validS, hlsp, hlls, *]), B.ext⟩
      · refine m_y (v := .bool false) 42 rfl (by kernel_rfl) rfl rfl (fun w' e' => y_neq rfl rfl (decide_eq_false c20)) ?_
        refine m_y (v := .bool false) 43 rfl (by kernel_rfl) rfl rfl (fun w' e' => y_pick_f rfl rfl) ?_
        refine m_done (by kernel_rfl) (fun w23 e24 => ?_)
        replace B := B.ext0 e24
        clear e24
        clear B0_5 R6
        refine W_if_f (by decide) rfl ?_
        refine W_skip ?_
        refine W_seq ?_
        refine W_seq ?_
        refine W_region (by kernel_rfl) ?_
        refine s_y (v := .int .i64 0) rfl (y_assign rfl) ?_
        refine s_nil ?_
        refine W_block ?_
        refine W_loop (fun ρ' w' => ∃ (ρ1 : Env) (k : Int), ρ' = updL ρ1 [(0, .pointer (some ⟨b, o, none⟩)), (3, .int .i64 k)] ∧ Bu w no w' [.rd kF asp nsp Xsp, .rd kF als nls Xls, .sl (some ⟨b, o, none⟩) [.int .i64 wd, .int .i64 hi, .bool wr, .slice asp nsp csp, .slice als nls cls]] ∧ (0 ≤ k) ∧ (k ≤ wd * hi) ∧ (∀ i, 0 ≤ i → i < k → (betw 1056964608 Xsp i && betw 1065353216 Xls i) = true)) (fun ρ' _ => (wd * hi - iv (ρ' 3)).toNat) ?_ ?_
        · exact ⟨_, 0, Fits.eq ⟨rfl, rfl, trivial⟩, B, (Int.le_refl _), (by omega), (by intro i h0 h1; omega)⟩
        · clear B; rintro _ w25 ⟨ρ26, k, rfl, B, h0k, h1k, hq⟩
          refine W_seq ?_
          refine W_seq ?_
          refine W_region (by kernel_rfl) ?_
          refine s_y (v := .int .i64 k) rfl (y_move rfl) ?_
          refine s_y (v := .pointer (some ⟨b, o, none⟩)) rfl (y_move rfl) ?_
          refine s_y (v := .pointer (some ⟨b, o, none⟩)) rfl (y_nil rfl) ?_
          refine s_y (v := .pointer (some ⟨b, o + 3, none⟩)) rfl (y_fld (o := o + 0) T68.fld_26_3_3 rfl) ?_
          refine s_y (v := .slice asp nsp csp) rfl (y_load T68.one_24 rfl ((B.s 2 rfl).cell (j := 3) rfl)) ?_
          refine s_y (v := .int .i64 ((nsp : Nat) : Int)) rfl (y_len T68.sl_24_56_1 rfl rfl) ?_
          by_cases c27 : k < ((nsp : Nat) : Int)
          · refine s_y (v := .bool true) rfl (y_lss rfl rfl (decide_eq_true c27)) ?_
            refine s_nil ?_
            refine W_if_t (by decide) rfl ?_
            refine W_skip ?_
            refine W_seq ?_
            refine W_block ?_
            refine W_seq ?_
            refine W_region (by kernel_rfl) ?_
            refine s_y (v := .pointer (some ⟨b, o, none⟩)) rfl (y_move rfl) ?_
            refine s_y (v := .pointer (some ⟨b, o, none⟩)) rfl (y_nil rfl) ?_
            refine s_y (v := .pointer (some ⟨b, o + 3, none⟩)) rfl (y_fld (o := o + 0) T68.fld_26_3_3 rfl) ?_
            refine s_y (v := .slice asp nsp csp) rfl (y_load T68.one_24 rfl ((B.s 2 rfl).cell (j := 3) rfl)) ?_
            refine s_y (v := .int .i64 k) rfl (y_move rfl) ?_
            refine s_y (v := .pointer (some (sat asp ((k).toNat * 1)))) rfl (y_idx T68.sl_24_56_1 rfl rfl ((B.r 0 rfl).addr (by omega)) (by omega) (by omega)) ?_
            obtain ⟨r29, hr30, hR28⟩ := Rd.atF (B.r 0 rfl) k (by omega) (by omega)
            refine s_y (v := .float .f32 r29) rfl (y_load T68.one_56 rfl (hR28.cell (i := 0) rfl)) ?_
            by_cases c31 : fge .f32 (el Xsp k) 0 = true
            · refine s_y (v := .bool true) rfl (y_fgeq rfl rfl (fgeC hr30 (show can .f32 0 = 0 by kernel_rfl) c31)) ?_
              refine s_y (v := .bool false) rfl (y_not rfl rfl) ?_
              refine s_y (v := .bool false) rfl (y_move rfl) ?_
              refine s_y (v := .pointer (some ⟨b, o, none⟩)) rfl (y_move rfl) ?_
              refine s_y (v := .pointer (some ⟨b, o, none⟩)) rfl (y_nil rfl) ?_
              refine s_y (v := .pointer (some ⟨b, o + 3, none⟩)) rfl (y_fld (o := o + 0) T68.fld_26_3_3 rfl) ?_
              refine s_y (v := .slice asp nsp csp) rfl (y_load T68.one_24 rfl ((B.s 2 rfl).cell (j := 3) rfl)) ?_
              refine s_y (v := .int .i64 k) rfl (y_move rfl) ?_
              refine s_y (v := .pointer (some (sat asp ((k).toNat * 1)))) rfl (y_idx T68.sl_24_56_1 rfl rfl ((B.r 0 rfl).addr (by omega)) (by omega) (by omega)) ?_
              obtain ⟨r33, hr34, hR32⟩ := Rd.atF (B.r 0 rfl) k (by omega) (by omega)
              refine s_y (v := .float .f32 r33) rfl (y_load T68.one_56 rfl (hR32.cell (i := 0) rfl)) ?_
              by_cases c35 : fgt .f32 (el Xsp k) 1056964608 = true
              · refine s_y (v := .bool true) rfl (y_fgtr rfl rfl (fgtC hr34 (show can .f32 1056964608 = 1056964608 by kernel_rfl) c35)) ?_
                refine s_y (v := .bool true) rfl (y_pick_f rfl rfl) ?_
                refine s_y (v := .bool true) rfl (y_move rfl) ?_
                refine s_skip rfl ?_
                refine s_skip rfl ?_
                refine s_skip rfl ?_
                refine s_skip rfl ?_
                refine s_skip rfl ?_
                refine s_skip rfl ?_
                refine s_skip rfl ?_
                refine s_skip rfl ?_
                refine s_skip rfl ?_
                refine s_y (v := .bool true) rfl (y_pick_t rfl rfl) ?_
                refine s_y (v := .bool true) rfl (y_move rfl) ?_
                refine s_skip rfl ?_
                refine s_skip rfl ?_
                refine s_skip rfl ?_
                refine s_skip rfl ?_
                refine s_skip rfl ?_
                refine s_skip rfl ?_
                refine s_skip rfl ?_
                refine s_skip rfl ?_
                refine s_y (v := .bool true) rfl (y_pick_t rfl rfl) ?_
                refine s_nil ?_
                refine W_if_t (by decide) rfl ?_
                refine W_seq ?_
                refine W_region (by kernel_rfl) ?_
                refine s_y (v := .bool false) rfl (y_assign rfl) ?_
                refine s_nil ?_
                refine W_ret ?_
                refine ret1 (v := .bool false) rfl rfl rfl ⟨_, rfl, ?_⟩
                exact ⟨congrArg Value.bool ((validS_no (i := k) (by omega) (by omega) (by omega) (by first | exact .inl (betw_no1 (by assumption)) | exact .inl (betw_ng half_not (by assumption) (by assumption)) | exact .inr (betw_no1 (by assumption)) | exact .inr (betw_ng one_not (by assumption) (by assumption)))).symm), B.ext⟩
              · refine s_y (v := .bool false) rfl (y_fgtr rfl rfl (fgtC hr34 (show can .f32 1056964608 = 1056964608 by kernel_rfl) (Bool.eq_false_iff.2 c35))) ?_
                refine s_y (v := .bool false) rfl (y_pick_f rfl rfl) ?_
                refine s_y (v := .bool false) rfl (y_move rfl) ?_
                refine s_y (v := .pointer (some ⟨b, o, none⟩)) rfl (y_move rfl) ?_
                refine s_y (v := .pointer (some ⟨b, o, none⟩)) rfl (y_nil rfl) ?_
                refine s_y (v := .pointer (some ⟨b, o + 4, none⟩)) rfl (y_fld (o := o + 0) T68.fld_26_4_4 rfl) ?_
                refine s_y (v := .slice als nls cls) rfl (y_load T68.one_24 rfl ((B.s 2 rfl).cell (j := 4) rfl)) ?_
                refine s_y (v := .int .i64 k) rfl (y_move rfl) ?_
                refine s_y (v := .pointer (some (sat als ((k).toNat * 1)))) rfl (y_idx T68.sl_24_56_1 rfl rfl ((B.r 1 rfl).addr (by omega)) (by omega) (by omega)) ?_
                obtain ⟨r37, hr38, hR36⟩ := Rd.atF (B.r 1 rfl) k (by omega) (by omega)
                refine s_y (v := .float .f32 r37) rfl (y_load T68.one_56 rfl (hR36.cell (i := 0) rfl)) ?_
                by_cases c39 : fge .f32 (el Xls k) 0 = true
                · refine s_y (v := .bool true) rfl (y_fgeq rfl rfl (fgeC hr38 (show can .f32 0 = 0 by kernel_rfl) c39)) ?_
                  refine s_y (v := .bool false) rfl (y_not rfl rfl) ?_
                  refine s_y (v := .bool false) rfl (y_pick_f rfl rfl) ?_
                  refine s_y (v := .bool false) rfl (y_move rfl) ?_
                  refine s_y (v := .pointer (some ⟨b, o, none⟩)) rfl (y_move rfl) ?_
                  refine s_y (v := .pointer (some ⟨b, o, none⟩)) rfl (y_nil rfl) ?_
                  refine s_y (v := .pointer (some ⟨b, o + 4, none⟩)) rfl (y_fld (o := o + 0) T68.fld_26_4_4 rfl) ?_
                  refine s_y (v := .slice als nls cls) rfl (y_load T68.one_24 rfl ((B.s 2 rfl).cell (j := 4) rfl)) ?_
                  refine s_y (v := .int .i64 k) rfl (y_move rfl) ?_
                  refine s_y (v := .pointer (some (sat als ((k).toNat * 1)))) rfl (y_idx T68.sl_24_56_1 rfl rfl ((B.r 1 rfl).addr (by omega)) (by omega) (by omega)) ?_
                  obtain ⟨r41, hr42, hR40⟩ := Rd.atF (B.r 1 rfl) k (by omega) (by omega)
                  refine s_y (v := .float .f32 r41) rfl (y_load T68.one_56 rfl (hR40.cell (i := 0) rfl)) ?_
                  by_cases c43 : fgt .f32 (el Xls k) 1065353216 = true
                  · refine s_y (v := .bool true) rfl (y_fgtr rfl rfl (fgtC hr42 (show can .f32 1065353216 = 1065353216 by kernel_rfl) c43)) ?_
                    refine s_y (v := .bool true) rfl (y_pick_f rfl rfl) ?_
                    refine s_nil ?_
                    refine W_if_t (by decide) rfl ?_
                    refine W_seq ?_
                    refine W_region (by kernel_rfl) ?_
                    refine s_y (v := .bool false) rfl (y_assign rfl) ?_
                    refine s_nil ?_
                    refine W_ret ?_
                    refine ret1 (v := .bool false) rfl rfl rfl ⟨_, rfl, ?_⟩
                    exact ⟨congrArg Value.bool ((validS_no (i := k) (by omega) (by omega) (by omega) (by first | exact .inl (betw_no1 (by assumption)) | exact .inl (betw_ng half_not (by assumption) (by assumption)) | exact .inr (betw_no1 (by assumption)) | exact .inr (betw_ng one_not (by assumption) (by assumption)))).symm), B.ext⟩
                  · refine s_y (v := .bool false) rfl (y_fgtr rfl rfl (fgtC hr42 (show can .f32 1065353216 = 1065353216 by kernel_rfl) (Bool.eq_false_iff.2 c43))) ?_
                    refine s_y (v := .bool false) rfl (y_pick_f rfl rfl) ?_
                    refine s_nil ?_
                    refine W_if_f (by decide) rfl ?_
                    refine W_skip ?_
                    refine W_region (by kernel_rfl) ?_
                    refine s_y (v := .int .i64 k) rfl (y_move rfl) ?_
                    refine s_y (v := .int .i64 (k + 1)) rfl (y_add rfl rfl rfl (by omega)) ?_
                    refine s_y (v := .int .i64 (k + 1)) rfl (y_assign rfl) ?_
                    refine s_nil ?_
                    refine ⟨⟨_, k + 1, Fits.eq ⟨rfl, rfl, trivial⟩, B, (by omega), (by omega), (allI_more hq (by simp only [Bool.and_eq_true]; exact ⟨betw_g half_not (by assumption) (by assumption), betw_g one_not (by assumption) (by assumption)⟩))⟩, ?_⟩
                    show (wd * hi - (k + 1)).toNat < (wd * hi - k).toNat
                    omega
                · refine s_y (v := .bool false) rfl (y_fgeq rfl rfl (fgeC hr38 (show can .f32 0 = 0 by kernel_rfl) (Bool.eq_false_iff.2 c39))) ?_
                  refine s_y (v := .bool true) rfl (y_not rfl rfl) ?_
                  refine s_y (v := .bool true) rfl (y_pick_f rfl rfl) ?_
                  refine s_y (v := .bool true) rfl (y_move rfl) ?_
                  refine s_skip rfl ?_
                  refine s_skip rfl ?_
                  refine s_skip rfl ?_
                  refine s_skip rfl ?_
                  refine s_skip rfl ?_
                  refine s_skip rfl ?_
                  refine s_skip rfl ?_
                  refine s_skip rfl ?_
                  refine s_y (v := .bool true) rfl (y_pick_t rfl rfl) ?_
                  refine s_nil ?_
                  refine W_if_t (by decide) rfl ?_
                  refine W_seq ?_
                  refine W_region (by kernel_rfl) ?_
                  refine s_y (v := .bool false) rfl (y_assign rfl) ?_
                  refine s_nil ?_
                  refine W_ret ?_
                  refine ret1 (v := .bool false) rfl rfl rfl ⟨_, rfl, ?_⟩
                  exact ⟨congrArg Value.bool ((validS_no (i := k) (by omega) (by omega) (by omega) (by first | exact .inl (betw_no1 (by assumption)) | exact .inl (betw_ng half_not (by assumption) (by assumption)) | exact .inr (betw_no1 (by assumption)) | exact .inr (betw_ng one_not (by assumption) (by assumption)))).symm), B.ext⟩
            · refine s_y (v := .bool false) rfl (y_fgeq rfl rfl (fgeC hr30 (show can .f32 0 = 0 by kernel_rfl) (Bool.eq_false_iff.2 c31))) ?_
              refine s_y (v := .bool true) rfl (y_not rfl rfl) ?_
              refine s_y (v := .bool true) rfl (y_move rfl) ?_
              refine s_skip rfl ?_
              refine s_skip rfl ?_
              refine s_skip rfl ?_
              refine s_skip rfl ?_
              refine s_skip rfl ?_
              refine s_skip rfl ?_
              refine s_skip rfl ?_
              refine s_skip rfl ?_
              refine s_y (v := .bool true) rfl (y_pick_t rfl rfl) ?_
              refine s_y (v := .bool true) rfl (y_move rfl) ?_
              refine s_skip rfl ?_
              refine s_skip rfl ?_
              refine s_skip rfl ?_
              refine s_skip rfl ?_
              refine s_skip rfl ?_
              refine s_skip rfl ?_
              refine s_skip rfl ?_
              refine s_skip rfl ?_
              refine s_skip rfl ?_
              refine s_y (v := .bool true) rfl (y_pick_t rfl rfl) ?_
              refine s_y (v := .bool true) rfl (y_move rfl) ?_
              refine s_skip rfl ?_
              refine s_skip rfl ?_
              refine s_skip rfl ?_
              refine s_skip rfl ?_
              refine s_skip rfl ?_
              refine s_skip rfl ?_
              refine s_skip rfl ?_
              refine s_skip rfl ?_
              refine s_y (v := .bool true) rfl (y_pick_t rfl rfl) ?_
              refine s_nil ?_
              refine W_if_t (by decide) rfl ?_
              refine W_seq ?_
              refine W_region (by kernel_rfl) ?_
              refine s_y (v := .bool false) rfl (y_assign rfl) ?_
              refine s_nil ?_
              refine W_ret ?_
              refine ret1 (v := .bool false) rfl rfl rfl ⟨_, rfl, ?_⟩
              exact ⟨congrArg Value.bool ((validS_no (i := k) (by omega) (by omega) (by omega) (by first | exact .inl (betw_no1 (by assumption)) | exact .inl (betw_ng half_not (by assumption) (by assumption)) | exact .inr (betw_no1 (by assumption)) | exact .inr (betw_ng one_not (by assumption) (by assumption)))).symm), B.ext⟩
          · refine s_y (v := .bool false) rfl (y_lss rfl rfl (decide_eq_false c27)) ?_
            refine s_nil ?_
            refine W_if_f (by decide) rfl ?_
            refine W_exit ?_
            refine W_seq ?_
            refine W_region (by kernel_rfl) ?_
            refine s_y (v := .bool true) rfl (y_assign rfl) ?_
            refine s_nil ?_
            refine W_ret ?_
            refine ret1 (v := .bool true) rfl rfl rfl ⟨_, rfl, ?_⟩
            exact ⟨congrArg Value.bool ((validS_yes (by assumption) (by omega) (by omega) (fun i h0 h1 => hq i h0 (by omega))).symm), B.ext⟩
  · obtain rfl : v11 = .bool false := hv12.trans (congrArg Value.bool (Bool.eq_false_iff.2 c13))
    refine m_y (v := .bool true) 9 rfl (by kernel_rfl) rfl rfl (fun w' e' => y_not rfl rfl) ?_
    refine m_y (v := .bool true) 10 rfl (by kernel_rfl) rfl rfl (fun w' e' => y_move rfl) ?_
    refine m_skip 11 rfl (by kernel_rfl) rfl ?_
    refine m_skip 12 rfl (by kernel_rfl) rfl ?_
    refine m_skip 13 rfl (by kernel_rfl) rfl ?_
    refine m_skip 14 rfl (by kernel_rfl) rfl ?_
    refine m_skip 15 rfl (by kernel_rfl) rfl ?_
    refine m_skip 16 rfl (by kernel_rfl) rfl ?_
    refine m_skip 17 rfl (by kernel_rfl) rfl ?_
    refine m_skip 18 rfl (by kernel_rfl) rfl ?_
    refine m_skip 19 rfl (by kernel_rfl) rfl ?_
    refine m_skip 20 rfl (by kernel_rfl) rfl ?_
    refine m_skip 21 rfl (by kernel_rfl) rfl ?_
    refine m_skip 22 rfl (by kernel_rfl) rfl ?_
    refine m_skip 23 rfl (by kernel_rfl) rfl ?_
    refine m_skip 24 rfl (by kernel_rfl) rfl ?_
    refine m_skip 25 rfl (by kernel_rfl) rfl ?_
    refine m_y (v := .bool true) 26 rfl (by kernel_rfl) rfl rfl (fun w' e' => y_pick_t rfl rfl) ?_
    refine m_y (v := .bool true) 27 rfl (by kernel_rfl) rfl rfl (fun w' e' => y_move rfl) ?_
    refine m_skip 28 rfl (by kernel_rfl) rfl ?_
    refine m_skip 29 rfl (by kernel_rfl) rfl ?_
    refine m_skip 30 rfl (by kernel_rfl) rfl ?_
    refine m_skip 31 rfl (by kernel_rfl) rfl ?_
    refine m_skip 32 rfl (by kernel_rfl) rfl ?_
    refine m_skip 33 rfl (by kernel_rfl) rfl ?_
    refine m_skip 34 rfl (by kernel_rfl) rfl ?_
    refine m_skip 35 rfl (by kernel_rfl) rfl ?_
    refine m_skip 36 rfl (by kernel_rfl) rfl ?_
    refine m_skip 37 rfl (by kernel_rfl) rfl ?_
    refine m_skip 38 rfl (by kernel_rfl) rfl ?_
    refine m_skip 39 rfl (by kernel_rfl) rfl ?_
    refine m_skip 40 rfl (by kernel_rfl) rfl ?_
    refine m_skip 41 rfl (by kernel_rfl) rfl ?_
    refine m_skip 42 rfl (by kernel_rfl) rfl ?_
    refine m_y (v := .bool true) 43 rfl (by kernel_rfl) rfl rfl (fun w' e' => y_pick_t rfl rfl) ?_
    refine m_done (by kernel_rfl) (fun w44 e45 => ?_)
    replace B := B.ext0 e45
    clear e45
    clear B0_5 R6
    refine W_if_t (by decide) rfl ?_
    refine W_seq ?_
    refine W_region (by kernel_rfl) ?_
    refine s_y (v := .bool false) rfl (y_assign rfl) ?_
    refine s_nil ?_
    refine W_ret ?_
    refine ret1 (v := .bool false) rfl rfl rfl ⟨_, rfl, ?_⟩
    exact ⟨congrArg Value.bool (by simp [validS, hlsp, hlls, *]), B.ext⟩
namespace T85
theorem mx : Try.prog.follows .mixedOrders = true := by kernel_rfl
theorem fld_26_0_0 : fldB Try.prog 26 0 0 = true := by kernel_rfl
theorem fld_26_1_1 : fldB Try.prog 26 1 1 = true := by kernel_rfl
theorem fld_26_2_2 : fldB Try.prog 26 2 2 = true := by kernel_rfl
theorem one_2 : oneB Try.prog 2 = true := by kernel_rfl
theorem one_4 : oneB Try.prog 4 = true := by kernel_rfl
end T85
set_option maxRecDepth 100000 in
set_option maxHeartbeats 4000000 in
theorem c_s_l02Border {b : Nat} {o : Nat} {wd : Int} {hi : Int} {wr : Bool} {asp : Option Addr} {nsp : Nat} {csp : Nat} {als : Option Addr} {nls : Nat} {cls : Nat} {x : Int} {y : Int} {w : World} (Pb : Sl w (some ⟨b, o, none⟩) [.int .i64 wd, .int .i64 hi, .bool wr, .slice asp nsp csp, .slice als nls cls]) (h1 : 3 ≤ wd) (h2 : wd ≤ 16) (h3 : 3 ≤ hi) (h4 : hi ≤ 16) :
    Calls Try.prog 85 #[.pointer (some ⟨b, o, none⟩), .int .i64 x, .int .i64 y] w (Rt fun v w' => v = .bool (bordB wd hi wr x y) ∧ Ext0 w w') := by
  have B : Bu w no w [.sl (some ⟨b, o, none⟩) [.int .i64 wd, .int .i64 hi, .bool wr, .slice asp nsp csp, .slice als nls cls]] := Bu.ro (All.cons Pb All.nil) rfl
  refine calls_W (n := 38) Try.func85 rfl rfl (Nat.le_of_ble_eq_true rfl) ?_
  refine W_seq ?_
  refine W_region (by kernel_rfl) ?_
  refine s_y (v := .bool false) rfl (y_assign rfl) ?_
  refine s_nil ?_
  refine W_seq ?_
  refine W_region (by kernel_rfl) ?_
  refine s_y (v := .pointer (some ⟨b, o, none⟩)) rfl (y_move rfl) ?_
  refine s_y (v := .pointer (some ⟨b, o, none⟩)) rfl (y_nil rfl) ?_
  refine s_y (v := .pointer (some ⟨b, o + 2, none⟩)) rfl (y_fld (o := o + 0) T85.fld_26_2_2 rfl) ?_
  refine s_y (v := .bool wr) rfl (y_load T85.one_4 rfl ((B.s 0 rfl).cell (j := 2) rfl)) ?_
  refine s_y (v := .bool (!wr)) rfl (y_not rfl rfl) ?_
  refine s_y (v := .bool (!wr)) rfl (y_move rfl) ?_
  cases wr
  · refine s_y (v := .int .i64 x) rfl (y_move rfl) ?_
    by_cases c1 : x = 0
    · refine s_y (v := .bool true) rfl (y_eql rfl rfl (decide_eq_true c1)) ?_
      refine s_y (v := .bool true) rfl (y_move rfl) ?_
      refine s_skip rfl ?_
      refine s_skip rfl ?_
      refine s_skip rfl ?_
      refine s_skip rfl ?_
      refine s_skip rfl ?_
      refine s_skip rfl ?_
      refine s_skip rfl ?_
      refine s_y (v := .bool true) rfl (y_pick_t rfl rfl) ?_
      refine s_y (v := .bool true) rfl (y_move rfl) ?_
      refine s_skip rfl ?_
      refine s_skip rfl ?_
      refine s_y (v := .bool true) rfl (y_pick_t rfl rfl) ?_
      refine s_y (v := .bool true) rfl (y_move rfl) ?_
      refine s_skip rfl ?_
      refine s_skip rfl ?_
      refine s_skip rfl ?_
      refine s_skip rfl ?_
      refine s_skip rfl ?_
      refine s_skip rfl ?_
      refine s_skip rfl ?_
      refine s_y (v := .bool true) rfl (y_pick_t rfl rfl) ?_
      refine s_y (v := .bool true) rfl (y_pick_t rfl rfl) ?_
      refine s_y (v := .bool true) rfl (y_assign rfl) ?_
      refine s_nil ?_
      refine W_ret ?_
      refine ret1 (v := .bool true) rfl rfl rfl ⟨_, rfl, ?_⟩
      exact ⟨congrArg Value.bool (by simp only [bordB, (decide_eq_true c1), Bool.and_true, Bool.true_and, Bool.and_false, Bool.false_and, Bool.not_true, Bool.not_false, Bool.or_true, Bool.true_or, Bool.or_false, Bool.false_or]), B.ext⟩
    · refine s_y (v := .bool false) rfl (y_eql rfl rfl (decide_eq_false c1)) ?_
      refine s_y (v := .bool false) rfl (y_move rfl) ?_
      refine s_y (v := .int .i64 x) rfl (y_move rfl) ?_
      refine s_y (v := .pointer (some ⟨b, o, none⟩)) rfl (y_move rfl) ?_
      refine s_y (v := .pointer (some ⟨b, o, none⟩)) rfl (y_nil rfl) ?_
      refine s_y (v := .pointer (some ⟨b, o, none⟩)) rfl (y_fld (o := o + 0) T85.fld_26_0_0 rfl) ?_
      refine s_y (v := .int .i64 wd) rfl (y_load T85.one_2 rfl ((B.s 0 rfl).cell (j := 0) rfl)) ?_
      refine s_y (v := .int .i64 (wd - 1)) rfl (y_sub rfl rfl rfl (by omega)) ?_
      by_cases c2 : x = (wd - 1)
      · refine s_y (v := .bool true) rfl (y_eql rfl rfl (decide_eq_true c2)) ?_
        refine s_y (v := .bool true) rfl (y_pick_f rfl rfl) ?_
        refine s_y (v := .bool true) rfl (y_move rfl) ?_
        refine s_skip rfl ?_
        refine s_skip rfl ?_
        refine s_y (v := .bool true) rfl (y_pick_t rfl rfl) ?_
        refine s_y (v := .bool true) rfl (y_move rfl) ?_
        refine s_skip rfl ?_
        refine s_skip rfl ?_
        refine s_skip rfl ?_
        refine s_skip rfl ?_
        refine s_skip rfl ?_
        refine s_skip rfl ?_
        refine s_skip rfl ?_
        refine s_y (v := .bool true) rfl (y_pick_t rfl rfl) ?_
        refine s_y (v := .bool true) rfl (y_pick_t rfl rfl) ?_
        refine s_y (v := .bool true) rfl (y_assign rfl) ?_
        refine s_nil ?_
        refine W_ret ?_
        refine ret1 (v := .bool true) rfl rfl rfl ⟨_, rfl, ?_⟩
        exact ⟨congrArg Value.bool (by simp only [bordB, (decide_eq_false c1), (decide_eq_true c2), Bool.and_true, Bool.true_and, Bool.and_false, Bool.false_and, Bool.not_true, Bool.not_false, Bool.or_true, Bool.true_or, Bool.or_false, Bool.false_or]), B.ext⟩
      · refine s_y (v := .bool false) rfl (y_eql rfl rfl (decide_eq_false c2)) ?_
        refine s_y (v := .bool false) rfl (y_pick_f rfl rfl) ?_
        refine s_y (v := .bool false) rfl (y_move rfl) ?_
        refine s_y (v := .int .i64 y) rfl (y_move rfl) ?_
        by_cases c3 : y = 0
        · refine s_y (v := .bool true) rfl (y_eql rfl rfl (decide_eq_true c3)) ?_
          refine s_y (v := .bool true) rfl (y_pick_f rfl rfl) ?_
          refine s_y (v := .bool true) rfl (y_move rfl) ?_
          refine s_skip rfl ?_
          refine s_skip rfl ?_
          refine s_skip rfl ?_
          refine s_skip rfl ?_
          refine s_skip rfl ?_
          refine s_skip rfl ?_
          refine s_skip rfl ?_
          refine s_y (v := .bool true) rfl (y_pick_t rfl rfl) ?_
          refine s_y (v := .bool true) rfl (y_pick_t rfl rfl) ?_
          refine s_y (v := .bool true) rfl (y_assign rfl) ?_
          refine s_nil ?_
          refine W_ret ?_
          refine ret1 (v := .bool true) rfl rfl rfl ⟨_, rfl, ?_⟩
          exact ⟨congrArg Value.bool (by simp only [bordB, (decide_eq_false c1), (decide_eq_false c2), (decide_eq_true c3), Bool.and_true, Bool.true_and, Bool.and_false, Bool.false_and, Bool.not_true, Bool.not_false, Bool.or_true, Bool.true_or, Bool.or_false, Bool.false_or]), B.ext⟩
        · refine s_y (v := .bool false) rfl (y_eql rfl rfl (decide_eq_false c3)) ?_
          refine s_y (v := .bool false) rfl (y_pick_f rfl rfl) ?_
          refine s_y (v := .bool false) rfl (y_move rfl) ?_
          refine s_y (v := .int .i64 y) rfl (y_move rfl) ?_
          refine s_y (v := .pointer (some ⟨b, o, none⟩)) rfl (y_move rfl) ?_
          refine s_y (v := .pointer (some ⟨b, o, none⟩)) rfl (y_nil rfl) ?_
          refine s_y (v := .pointer (some ⟨b, o + 1, none⟩)) rfl (y_fld (o := o + 0) T85.fld_26_1_1 rfl) ?_
          refine s_y (v := .int .i64 hi) rfl (y_load T85.one_2 rfl ((B.s 0 rfl).cell (j := 1) rfl)) ?_
          refine s_y (v := .int .i64 (hi - 1)) rfl (y_sub rfl rfl rfl (by omega)) ?_
          by_cases c4 : y = (hi - 1)
          · refine s_y (v := .bool true) rfl (y_eql rfl rfl (decide_eq_true c4)) ?_
            refine s_y (v := .bool true) rfl (y_pick_f rfl rfl) ?_
            refine s_y (v := .bool true) rfl (y_pick_t rfl rfl) ?_
            refine s_y (v := .bool true) rfl (y_assign rfl) ?_
            refine s_nil ?_
            refine W_ret ?_
            refine ret1 (v := .bool true) rfl rfl rfl ⟨_, rfl, ?_⟩
            exact ⟨congrArg Value.bool (by simp only [bordB, (decide_eq_false c1), (decide_eq_false c2), (decide_eq_false c3), (decide_eq_true c4), Bool.and_true, Bool.true_and, Bool.and_false, Bool.false_and, Bool.not_true, Bool.not_false, Bool.or_true, Bool.true_or, Bool.or_false, Bool.false_or]), B.ext⟩
          · refine s_y (v := .bool false) rfl (y_eql rfl rfl (decide_eq_false c4)) ?_
            refine s_y (v := .bool false) rfl (y_pick_f rfl rfl) ?_
            refine s_y (v := .bool false) rfl (y_pick_t rfl rfl) ?_
            refine s_y (v := .bool false) rfl (y_assign rfl) ?_
            refine s_nil ?_
            refine W_ret ?_
            refine ret1 (v := .bool false) rfl rfl rfl ⟨_, rfl, ?_⟩
            exact ⟨congrArg Value.bool (by simp only [bordB, (decide_eq_false c1), (decide_eq_false c2), (decide_eq_false c3), (decide_eq_false c4), Bool.and_true, Bool.true_and, Bool.and_false, Bool.false_and, Bool.not_true, Bool.not_false, Bool.or_true, Bool.true_or, Bool.or_false, Bool.false_or]), B.ext⟩
  · refine s_skip rfl ?_
    refine s_skip rfl ?_
    refine s_skip rfl ?_
    refine s_skip rfl ?_
    refine s_skip rfl ?_
    refine s_skip rfl ?_
    refine s_skip rfl ?_
    refine s_skip rfl ?_
    refine s_skip rfl ?_
    refine s_skip rfl ?_
    refine s_skip rfl ?_
    refine s_skip rfl ?_
    refine s_skip rfl ?_
    refine s_skip rfl ?_
    refine s_skip rfl ?_
    refine s_skip rfl ?_
    refine s_skip rfl ?_
    refine s_skip rfl ?_
    refine s_skip rfl ?_
    refine s_skip rfl ?_
    refine s_skip rfl ?_
    refine s_skip rfl ?_
    refine s_skip rfl ?_
    refine s_skip rfl ?_
    refine s_y (v := .bool false) rfl (y_pick_f rfl rfl) ?_
    refine s_y (v := .bool false) rfl (y_assign rfl) ?_
    refine s_nil ?_
    refine W_ret ?_
    refine ret1 (v := .bool false) rfl rfl rfl ⟨_, rfl, ?_⟩
    exact ⟨congrArg Value.bool (by simp only [bordB, Bool.and_true, Bool.true_and, Bool.and_false, Bool.false_and, Bool.not_true, Bool.not_false, Bool.or_true, Bool.true_or, Bool.or_false, Bool.false_or]), B.ext⟩
namespace T76
theorem mx : Try.prog.follows .mixedOrders = true := by kernel_rfl
theorem fld_26_0_0 : fldB Try.prog 26 0 0 = true := by kernel_rfl
theorem fld_26_1_1 : fldB Try.prog 26 1 1 = true := by kernel_rfl
theorem fld_26_2_2 : fldB Try.prog 26 2 2 = true := by kernel_rfl
theorem fld_49_0_0 : fldB Try.prog 49 0 0 = true := by kernel_rfl
theorem fld_49_1_1 : fldB Try.prog 49 1 1 = true := by kernel_rfl
theorem fld_49_2_2 : fldB Try.prog 49 2 2 = true := by kernel_rfl
theorem fn_85 : fnB Try.prog 85 = true := by kernel_rfl
theorem one_2 : oneB Try.prog 2 = true := by kernel_rfl
theorem one_24 : oneB Try.prog 24 = true := by kernel_rfl
theorem one_4 : oneB Try.prog 4 = true := by kernel_rfl
theorem one_56 : oneB Try.prog 56 = true := by kernel_rfl
theorem sl_24_56_1 : slB Try.prog 24 56 1 = true := by kernel_rfl
end T76
set_option maxRecDepth 100000 in
set_option maxHeartbeats 4000000 in
theorem c_s_l02Fits {b : Nat} {o : Nat} {wd : Int} {hi : Int} {wr : Bool} {asp : Option Addr} {nsp : Nat} {csp : Nat} {als : Option Addr} {nls : Nat} {cls : Nat} {b2 : Nat} {o2 : Nat} {afe : Option Addr} {nfe : Nat} {cfe : Nat} {Xfe : List Nat} {afx : Option Addr} {nfx : Nat} {cfx : Nat} {Xfx : List Nat} {afy : Option Addr} {nfy : Nat} {cfy : Nat} {Xfy : List Nat} {w : World} (Pb : Sl w (some ⟨b, o, none⟩) [.int .i64 wd, .int .i64 hi, .bool wr, .slice asp nsp csp, .slice als nls cls]) (qfe : Rd w kF afe nfe Xfe) (qfx : Rd w kF afx nfx Xfx) (qfy : Rd w kF afy nfy Xfy) (Pb2 : Sl w (some ⟨b2, o2, none⟩) [.slice afe nfe cfe, .slice afx nfx cfx, .slice afy nfy cfy]) (h1 : 3 ≤ wd) (h2 : wd ≤ 16) (h3 : 3 ≤ hi) (h4 : hi ≤ 16) (hbfe : nfe ≤ 9223372036854775806) (hbfx : nfx ≤ 9223372036854775806) (hbfy : nfy ≤ 9223372036854775806) :
    Calls Try.prog 76 #[.pointer (some ⟨b, o, none⟩), .pointer (some ⟨b2, o2, none⟩)] w (Rt fun v w' => v = .bool (fitsB wd hi wr Xfe Xfx Xfy) ∧ Ext0 w w') := by
  have hlfe := qfe.len
  have hlfx := qfx.len
  have hlfy := qfy.len
  have B : Bu w no w [.sl (some ⟨b, o, none⟩) [.int .i64 wd, .int .i64 hi, .bool wr, .slice asp nsp csp, .slice als nls cls], .rd kF afe nfe Xfe, .rd kF afx nfx Xfx, .rd kF afy nfy Xfy, .sl (some ⟨b2, o2, none⟩) [.slice afe nfe cfe, .slice afx nfx cfx, .slice afy nfy cfy]] := Bu.ro (All.cons Pb (All.cons qfe (All.cons qfx (All.cons qfy (All.cons Pb2 All.nil))))) rfl
  refine calls_W (n := 126) Try.func76 rfl rfl (Nat.le_of_ble_eq_true rfl) ?_
  refine W_seq ?_
  refine W_region (by kernel_rfl) ?_
  refine s_y (v := .bool false) rfl (y_assign rfl) ?_
  refine s_nil ?_
  refine W_seq ?_
  have B0_5 := B
  refine W_draw (no) T76.mx (by kernel_rfl) (fun w3 e4 => ?_)
  have R6 := Ext.refl (no) w
  replace R6 := R6.trans (Ext0.any e4)
  replace B := B.ext0 e4
  clear e4
  refine m_y (v := .pointer (some ⟨b, o, none⟩)) 0 rfl (by kernel_rfl) rfl rfl (fun w' e' => y_move rfl) ?_
  refine m_y (v := .pointer (some ⟨b, o, none⟩)) 1 rfl (by kernel_rfl) rfl rfl (fun w' e' => y_nil rfl) ?_
  refine m_y (v := .pointer (some ⟨b, o, none⟩)) 2 rfl (by kernel_rfl) rfl rfl (fun w' e' => y_fld (o := o + 0) T76.fld_26_0_0 rfl) ?_
  refine m_y (v := .int .i64 wd) 3 rfl (by kernel_rfl) rfl rfl (fun w' e' => y_load T76.one_2 rfl (((B0_5.s 0 rfl).ext0 e').cell (j := 0) rfl)) ?_
  refine m_y (v := .pointer (some ⟨b, o, none⟩)) 4 rfl (by kernel_rfl) rfl rfl (fun w' e' => y_move rfl) ?_
  refine m_y (v := .pointer (some ⟨b, o, none⟩)) 5 rfl (by kernel_rfl) rfl rfl (fun w' e' => y_nil rfl) ?_
  refine m_y (v := .pointer (some ⟨b, o + 1, none⟩)) 6 rfl (by kernel_rfl) rfl rfl (fun w' e' => y_fld (o := o + 0) T76.fld_26_1_1 rfl) ?_
  refine m_y (v := .int .i64 hi) 7 rfl (by kernel_rfl) rfl rfl (fun w' e' => y_load T76.one_2 rfl (((B0_5.s 0 rfl).ext0 e').cell (j := 1) rfl)) ?_
  have hm7 := mulb (a := wd) (b := hi) (by omega) (by omega) (by omega) (by omega)
  refine m_y (v := .int .i64 (wd * hi)) 8 rfl (by kernel_rfl) rfl rfl (fun w' e' => y_mul rfl rfl rfl (by omega)) ?_
  refine m_y (v := .int .i64 (wd * hi)) 9 rfl (by kernel_rfl) rfl rfl (fun w' e' => y_assign rfl) ?_
  refine m_done (by kernel_rfl) (fun w8 e9 => ?_)
  replace B := B.ext0 e9
  clear e9
  clear B0_5 R6
  refine W_seq ?_
  refine W_seq ?_
  refine W_region (by kernel_rfl) ?_
  refine s_y (v := .pointer (some ⟨b2, o2, none⟩)) rfl (y_move rfl) ?_
  refine s_y (v := .pointer (some ⟨b2, o2, none⟩)) rfl (y_nil rfl) ?_
  refine s_y (v := .pointer (some ⟨b2, o2, none⟩)) rfl (y_fld (o := o2 + 0) T76.fld_49_0_0 rfl) ?_
  refine s_y (v := .slice afe nfe cfe) rfl (y_load T76.one_24 rfl ((B.s 4 rfl).cell (j := 0) rfl)) ?_
  refine s_y (v := .int .i64 ((nfe : Nat) : Int)) rfl (y_len T76.sl_24_56_1 rfl rfl) ?_
  refine s_y (v := .int .i64 (wd * hi)) rfl (y_move rfl) ?_
  by_cases c10 : ((nfe : Nat) : Int) ≠ (wd * hi)
  · refine s_y (v := .bool true) rfl (y_neq rfl rfl (decide_eq_true c10)) ?_
    refine s_y (v := .bool true) rfl (y_move rfl) ?_
    refine s_skip rfl ?_
    refine s_skip rfl ?_
    refine s_skip rfl ?_
    refine s_skip rfl ?_
    refine s_skip rfl ?_
    refine s_skip rfl ?_
    refine s_skip rfl ?_
    refine s_y (v := .bool true) rfl (y_pick_t rfl rfl) ?_
    refine s_y (v := .bool true) rfl (y_move rfl) ?_
    refine s_skip rfl ?_
    refine s_skip rfl ?_
    refine s_skip rfl ?_
    refine s_skip rfl ?_
    refine s_skip rfl ?_
    refine s_skip rfl ?_
    refine s_skip rfl ?_
    refine s_y (v := .bool true) rfl (y_pick_t rfl rfl) ?_
    refine s_nil ?_
    refine W_if_t (by decide) rfl ?_
    refine W_seq ?_
    refine W_region (by kernel_rfl) ?_
    refine s_y (v := .bool false) rfl (y_assign rfl) ?_
    refine s_nil ?_
    refine W_ret ?_
    refine ret1 (v := .bool false) rfl rfl rfl ⟨_, rfl, ?_⟩
    exact ⟨congrArg Value.bool (by first | exact (fits_n1 (by omega)).symm | exact (fits_n2 (by omega)).symm | exact (fits_n3 (by omega)).symm), B.ext⟩
  · refine s_y (v := .bool false) rfl (y_neq rfl rfl (decide_eq_false c10)) ?_
    refine s_y (v := .bool false) rfl (y_move rfl) ?_
    refine s_y (v := .pointer (some ⟨b2, o2, none⟩)) rfl (y_move rfl) ?_
    refine s_y (v := .pointer (some ⟨b2, o2, none⟩)) rfl (y_nil rfl) ?_
    refine s_y (v := .pointer (some ⟨b2, o2 + 1, none⟩)) rfl (y_fld (o := o2 + 0) T76.fld_49_1_1 rfl) ?_
    refine s_y (v := .slice afx nfx cfx) rfl (y_load T76.one_24 rfl ((B.s 4 rfl).cell (j := 1) rfl)) ?_
    refine s_y (v := .int .i64 ((nfx : Nat) : Int)) rfl (y_len T76.sl_24_56_1 rfl rfl) ?_
    refine s_y (v := .int .i64 (wd * hi)) rfl (y_move rfl) ?_
    by_cases c11 : ((nfx : Nat) : Int) ≠ (wd * hi)
    · refine s_y (v := .bool true) rfl (y_neq rfl rfl (decide_eq_true c11)) ?_
      refine s_y (v := .bool true) rfl (y_pick_f rfl rfl) ?_
      refine s_y (v := .bool true) rfl (y_move rfl) ?_
      refine s_skip rfl ?_
      refine s_skip rfl ?_
      refine s_skip rfl ?_
      refine s_skip rfl ?_
      refine s_skip rfl ?_
      refine s_skip rfl ?_
      refine s_skip rfl ?_
      refine s_y (v := .bool true) rfl (y_pick_t rfl rfl) ?_
      refine s_nil ?_
      refine W_if_t (by decide) rfl ?_
      refine W_seq ?_
      refine W_region (by kernel_rfl) ?_
      refine s_y (v := .bool false) rfl (y_assign rfl) ?_
      refine s_nil ?_
      refine W_ret ?_
      refine ret1 (v := .bool false) rfl rfl rfl ⟨_, rfl, ?_⟩
      exact ⟨congrArg Value.bool (by first | exact (fits_n1 (by omega)).symm | exact (fits_n2 (by omega)).symm | exact (fits_n3 (by omega)).symm), B.ext⟩
    · refine s_y (v := .bool false) rfl (y_neq rfl rfl (decide_eq_false c11)) ?_
      refine s_y (v := .bool false) rfl (y_pick_f rfl rfl) ?_
      refine s_y (v := .bool false) rfl (y_move rfl) ?_
      refine s_y (v := .pointer (some ⟨b2, o2, none⟩)) rfl (y_move rfl) ?_
      refine s_y (v := .pointer (some ⟨b2, o2, none⟩)) rfl (y_nil rfl) ?_
      refine s_y (v := .pointer (some ⟨b2, o2 + 2, none⟩)) rfl (y_fld (o := o2 + 0) T76.fld_49_2_2 rfl) ?_
      refine s_y (v := .slice afy nfy cfy) rfl (y_load T76.one_24 rfl ((B.s 4 rfl).cell (j := 2) rfl)) ?_
      refine s_y (v := .int .i64 ((nfy : Nat) : Int)) rfl (y_len T76.sl_24_56_1 rfl rfl) ?_
      refine s_y (v := .int .i64 (wd * hi)) rfl (y_move rfl) ?_
      by_cases c12 : ((nfy : Nat) : Int) ≠ (wd * hi)
      · refine s_y (v := .bool true) rfl (y_neq rfl rfl (decide_eq_true c12)) ?_
        refine s_y (v := .bool true) rfl (y_pick_f rfl rfl) ?_
        refine s_nil ?_
        refine W_if_t (by decide) rfl ?_
        refine W_seq ?_
        refine W_region (by kernel_rfl) ?_
        refine s_y (v := .bool false) rfl (y_assign rfl) ?_
        refine s_nil ?_
        refine W_ret ?_
        refine ret1 (v := .bool false) rfl rfl rfl ⟨_, rfl, ?_⟩
        exact ⟨congrArg Value.bool (by first | exact (fits_n1 (by omega)).symm | exact (fits_n2 (by omega)).symm | exact (fits_n3 (by omega)).symm), B.ext⟩
      · refine s_y (v := .bool false) rfl (y_neq rfl rfl (decide_eq_false c12)) ?_
        refine s_y (v := .bool false) rfl (y_pick_f rfl rfl) ?_
        refine s_nil ?_
        refine W_if_f (by decide) rfl ?_
        refine W_skip ?_
        refine W_seq ?_
        refine W_seq ?_
        refine W_region (by kernel_rfl) ?_
        refine s_y (v := .int .i64 0) rfl (y_assign rfl) ?_
        refine s_nil ?_
        refine W_block ?_
        refine W_loop (fun ρ' w' => ∃ (ρ1 : Env) (py : Int), ρ' = updL ρ1 [(0, .pointer (some ⟨b, o, none⟩)), (1, .pointer (some ⟨b2, o2, none⟩)), (6, .int .i64 py)] ∧ Bu w no w' [.sl (some ⟨b, o, none⟩) [.int .i64 wd, .int .i64 hi, .bool wr, .slice asp nsp csp, .slice als nls cls], .rd kF afe nfe Xfe, .rd kF afx nfx Xfx, .rd kF afy nfy Xfy, .sl (some ⟨b2, o2, none⟩) [.slice afe nfe cfe, .slice afx nfx cfx, .slice afy nfy cfy]] ∧ (0 ≤ py) ∧ (py ≤ hi) ∧ (wr = true → py = 0) ∧ (∀ j, 0 ≤ j → j < wd * py → edgeB wd hi Xfe Xfx Xfy (j % wd) (j / wd) j = false)) (fun ρ' _ => (hi - iv (ρ' 6)).toNat) ?_ ?_
        · exact ⟨_, 0, Fits.eq ⟨rfl, rfl, rfl, trivial⟩, B, (Int.le_refl _), (by omega), (fun _ => rfl), (by intro j h0 h1; rw [Int.mul_zero] at h1; omega)⟩
        · clear B; rintro _ w13 ⟨ρ14, py, rfl, B, h0py, h1py, hwr, hq0⟩
          have hwy := mulb (a := wd) (b := py) (by omega) (by omega) (by omega) (by omega)
          refine W_seq ?_
          refine W_seq ?_
          refine W_region (by kernel_rfl) ?_
          refine s_y (v := .int .i64 py) rfl (y_move rfl) ?_
          refine s_y (v := .pointer (some ⟨b, o, none⟩)) rfl (y_move rfl) ?_
          refine s_y (v := .pointer (some ⟨b, o, none⟩)) rfl (y_nil rfl) ?_
          refine s_y (v := .pointer (some ⟨b, o + 1, none⟩)) rfl (y_fld (o := o + 0) T76.fld_26_1_1 rfl) ?_
          refine s_y (v := .int .i64 hi) rfl (y_load T76.one_2 rfl ((B.s 0 rfl).cell (j := 1) rfl)) ?_
          by_cases c15 : py < hi
          · refine s_y (v := .bool true) rfl (y_lss rfl rfl (decide_eq_true c15)) ?_
            refine s_y (v := .bool true) rfl (y_move rfl) ?_
            refine s_y (v := .pointer (some ⟨b, o, none⟩)) rfl (y_move rfl) ?_
            refine s_y (v := .pointer (some ⟨b, o, none⟩)) rfl (y_nil rfl) ?_
            refine s_y (v := .pointer (some ⟨b, o + 2, none⟩)) rfl (y_fld (o := o + 0) T76.fld_26_2_2 rfl) ?_
            refine s_y (v := .bool wr) rfl (y_load T76.one_4 rfl ((B.s 0 rfl).cell (j := 2) rfl)) ?_
            refine s_y (v := .bool (!wr)) rfl (y_not rfl rfl) ?_
            refine s_y (v := .bool (!wr)) rfl (y_pick_t rfl rfl) ?_
            refine s_nil ?_
            cases wr
            · refine W_if_t (by decide) rfl ?_
              refine W_skip ?_
              refine W_seq ?_
              refine W_block ?_
              refine W_seq ?_
              refine W_region (by kernel_rfl) ?_
              refine s_y (v := .int .i64 0) rfl (y_assign rfl) ?_
              refine s_nil ?_
              refine W_block ?_
              refine W_loop (fun ρ' w' => ∃ (ρ1 : Env) (px : Int), ρ' = updL ρ1 [(0, .pointer (some ⟨b, o, none⟩)), (1, .pointer (some ⟨b2, o2, none⟩)), (6, .int .i64 py), (7, .int .i64 px), (43, .int .i64 py), (44, .pointer (some ⟨b, o, none⟩)), (45, .pointer (some ⟨b, o, none⟩)), (46, .pointer (some ⟨b, o + 1, none⟩)), (47, .int .i64 hi), (48, .bool true), (49, .bool true), (50, .pointer (some ⟨b, o, none⟩)), (51, .pointer (some ⟨b, o, none⟩)), (52, .pointer (some ⟨b, o + 2, none⟩)), (53, .bool false), (54, .bool true), (55, .bool true)] ∧ Bu w no w' [.sl (some ⟨b, o, none⟩) [.int .i64 wd, .int .i64 hi, .bool false, .slice asp nsp csp, .slice als nls cls], .rd kF afe nfe Xfe, .rd kF afx nfx Xfx, .rd kF afy nfy Xfy, .sl (some ⟨b2, o2, none⟩) [.slice afe nfe cfe, .slice afx nfx cfx, .slice afy nfy cfy]] ∧ (0 ≤ px) ∧ (px ≤ wd) ∧ (∀ j, 0 ≤ j → j < wd * py + px → edgeB wd hi Xfe Xfx Xfy (j % wd) (j / wd) j = false)) (fun ρ' _ => (wd - iv (ρ' 7)).toNat) ?_ ?_
              · exact ⟨_, 0, Fits.eq ⟨rfl, rfl, rfl, rfl, rfl, rfl, rfl, rfl, rfl, rfl, rfl, rfl, rfl, rfl, rfl, rfl, rfl, trivial⟩, B, (Int.le_refl _), (by omega), (by intro j h0 h1; exact hq0 j h0 (by omega))⟩
              · clear B; rintro _ w16 ⟨ρ17, px, rfl, B, h0px, h1px, hq1⟩
                have hrw := row_lt (wd := wd) (hi := hi) (a := if px < wd then px else 0) (b := py) (by split <;> omega) (by split <;> omega) (by omega) (by omega)
                refine W_seq ?_
                refine W_seq ?_
                refine W_region (by kernel_rfl) ?_
                refine s_y (v := .int .i64 px) rfl (y_move rfl) ?_
                refine s_y (v := .pointer (some ⟨b, o, none⟩)) rfl (y_move rfl) ?_
                refine s_y (v := .pointer (some ⟨b, o, none⟩)) rfl (y_nil rfl) ?_
                refine s_y (v := .pointer (some ⟨b, o, none⟩)) rfl (y_fld (o := o + 0) T76.fld_26_0_0 rfl) ?_
                refine s_y (v := .int .i64 wd) rfl (y_load T76.one_2 rfl ((B.s 0 rfl).cell (j := 0) rfl)) ?_
                by_cases c18 : px < wd
                · refine s_y (v := .bool true) rfl (y_lss rfl rfl (decide_eq_true c18)) ?_
                  refine s_nil ?_
                  refine W_if_t (by decide) rfl ?_
                  refine W_skip ?_
                  refine W_seq ?_
                  refine W_block ?_
                  refine W_seq ?_
                  refine W_region (by kernel_rfl) ?_
                  refine s_y (v := .int .i64 px) rfl (y_move rfl) ?_
                  refine s_y (v := .pointer (some ⟨b, o, none⟩)) rfl (y_move rfl) ?_
                  refine s_y (v := .pointer (some ⟨b, o, none⟩)) rfl (y_nil rfl) ?_
                  refine s_y (v := .pointer (some ⟨b, o, none⟩)) rfl (y_fld (o := o + 0) T76.fld_26_0_0 rfl) ?_
                  refine s_y (v := .int .i64 wd) rfl (y_load T76.one_2 rfl ((B.s 0 rfl).cell (j := 0) rfl)) ?_
                  refine s_y (v := .int .i64 py) rfl (y_move rfl) ?_
                  have hm19 := mulb (a := wd) (b := py) (by omega) (by omega) (by omega) (by omega)
                  refine s_y (v := .int .i64 (wd * py)) rfl (y_mul rfl rfl rfl (by omega)) ?_
                  refine s_y (v := .int .i64 (px + (wd * py))) rfl (y_add rfl rfl rfl (by omega)) ?_
                  refine s_y (v := .int .i64 (px + (wd * py))) rfl (y_assign rfl) ?_
                  refine s_nil ?_
                  refine W_seq ?_
                  refine W_region (by kernel_rfl) ?_
                  refine s_y (v := .pointer (some ⟨b, o, none⟩)) rfl (y_move rfl) ?_
                  refine s_y (v := .int .i64 px) rfl (y_move rfl) ?_
                  refine s_y (v := .int .i64 py) rfl (y_move rfl) ?_
                  refine s_k rfl (k_call T76.fn_85 (c_s_l02Border (B.s 0 rfl) (by omega) (by omega) (by omega) (by omega)) rfl ?_)
                  rintro v22 w20 ⟨hv23, e21⟩
                  replace B := B.ext0 e21
                  clear e21
                  by_cases c24 : bordB wd hi false px py = true
                  · obtain rfl : v22 = .bool true := hv23.trans (congrArg Value.bool c24)
                    refine s_y (v := .bool true) rfl (y_move rfl) ?_
                    refine s_y (v := .pointer (some ⟨b2, o2, none⟩)) rfl (y_move rfl) ?_
                    refine s_y (v := .pointer (some ⟨b2, o2, none⟩)) rfl (y_nil rfl) ?_
                    refine s_y (v := .pointer (some ⟨b2, o2, none⟩)) rfl (y_fld (o := o2 + 0) T76.fld_49_0_0 rfl) ?_
                    refine s_y (v := .slice afe nfe cfe) rfl (y_load T76.one_24 rfl ((B.s 4 rfl).cell (j := 0) rfl)) ?_
                    refine s_y (v := .int .i64 (px + (wd * py))) rfl (y_move rfl) ?_
                    have hx25 := row_lt (wd := wd) (hi := hi) (a := px) (b := py) (by omega) (by omega) (by omega) (by omega)
                    refine s_y (v := .pointer (some (sat afe ((px + (wd * py)).toNat * 1)))) rfl (y_idx T76.sl_24_56_1 rfl rfl ((B.r 1 rfl).addr (by omega)) (by omega) (by omega)) ?_
                    obtain ⟨r27, hr28, hR26⟩ := Rd.atF (B.r 1 rfl) (px + (wd * py)) (by omega) (by omega)
                    refine s_y (v := .float .f32 r27) rfl (y_load T76.one_56 rfl (hR26.cell (i := 0) rfl)) ?_
                    by_cases c29 : fne .f32 (el Xfe (px + (wd * py))) 0 = true
                    · refine s_y (v := .bool true) rfl (y_fneq rfl rfl (fneC hr28 (show can .f32 0 = 0 by kernel_rfl) c29)) ?_
                      refine s_y (v := .bool true) rfl (y_pick_t rfl rfl) ?_
                      refine s_y (v := .bool true) rfl (y_move rfl) ?_
                      refine s_skip rfl ?_
                      refine s_skip rfl ?_
                      refine s_skip rfl ?_
                      refine s_skip rfl ?_
                      refine s_skip rfl ?_
                      refine s_skip rfl ?_
                      refine s_skip rfl ?_
                      refine s_skip rfl ?_
                      refine s_skip rfl ?_
                      refine s_skip rfl ?_
                      refine s_skip rfl ?_
                      refine s_skip rfl ?_
                      refine s_skip rfl ?_
                      refine s_skip rfl ?_
                      refine s_skip rfl ?_
                      refine s_skip rfl ?_
                      refine s_skip rfl ?_
                      refine s_y (v := .bool true) rfl (y_pick_t rfl rfl) ?_
                      refine s_y (v := .bool true) rfl (y_move rfl) ?_
                      refine s_skip rfl ?_
                      refine s_skip rfl ?_
                      refine s_skip rfl ?_
                      refine s_skip rfl ?_
                      refine s_skip rfl ?_
                      refine s_skip rfl ?_
                      refine s_skip rfl ?_
                      refine s_skip rfl ?_
                      refine s_skip rfl ?_
                      refine s_skip rfl ?_
                      refine s_skip rfl ?_
                      refine s_skip rfl ?_
                      refine s_skip rfl ?_
                      refine s_skip rfl ?_
                      refine s_skip rfl ?_
                      refine s_skip rfl ?_
                      refine s_skip rfl ?_
                      refine s_y (v := .bool true) rfl (y_pick_t rfl rfl) ?_
                      refine s_nil ?_
                      refine W_if_t (by decide) rfl ?_
                      refine W_seq ?_
                      refine W_region (by kernel_rfl) ?_
                      refine s_y (v := .bool false) rfl (y_assign rfl) ?_
                      refine s_nil ?_
                      refine W_ret ?_
                      refine ret1 (v := .bool false) rfl rfl rfl ⟨_, rfl, ?_⟩
                      exact ⟨congrArg Value.bool ((fits_no (x := px) (y := py) (by omega) (by omega) (by omega) (by omega) (by simp only [edgeB, (decide_eq_false c10), (decide_eq_false c11), (decide_eq_false c12), (decide_eq_true c15), (decide_eq_true c18), c24, c29, Bool.and_true, Bool.true_and, Bool.and_false, Bool.false_and, Bool.not_true, Bool.not_false, Bool.or_true, Bool.true_or, Bool.or_false, Bool.false_or])).symm), B.ext⟩
                    · refine s_y (v := .bool false) rfl (y_fneq rfl rfl (fneC hr28 (show can .f32 0 = 0 by kernel_rfl) (Bool.eq_false_iff.2 c29))) ?_
                      refine s_y (v := .bool false) rfl (y_pick_t rfl rfl) ?_
                      refine s_y (v := .bool false) rfl (y_move rfl) ?_
                      refine s_y (v := .int .i64 py) rfl (y_move rfl) ?_
                      refine s_y (v := .pointer (some ⟨b, o, none⟩)) rfl (y_move rfl) ?_
                      refine s_y (v := .pointer (some ⟨b, o, none⟩)) rfl (y_nil rfl) ?_
                      refine s_y (v := .pointer (some ⟨b, o + 1, none⟩)) rfl (y_fld (o := o + 0) T76.fld_26_1_1 rfl) ?_
                      refine s_y (v := .int .i64 hi) rfl (y_load T76.one_2 rfl ((B.s 0 rfl).cell (j := 1) rfl)) ?_
                      refine s_y (v := .int .i64 (hi - 1)) rfl (y_sub rfl rfl rfl (by omega)) ?_
                      by_cases c30 : py = (hi - 1)
                      · refine s_y (v := .bool true) rfl (y_eql rfl rfl (decide_eq_true c30)) ?_
                        refine s_y (v := .bool true) rfl (y_move rfl) ?_
                        refine s_y (v := .pointer (some ⟨b2, o2, none⟩)) rfl (y_move rfl) ?_
                        refine s_y (v := .pointer (some ⟨b2, o2, none⟩)) rfl (y_nil rfl) ?_
                        refine s_y (v := .pointer (some ⟨b2, o2 + 1, none⟩)) rfl (y_fld (o := o2 + 0) T76.fld_49_1_1 rfl) ?_
                        refine s_y (v := .slice afx nfx cfx) rfl (y_load T76.one_24 rfl ((B.s 4 rfl).cell (j := 1) rfl)) ?_
                        refine s_y (v := .int .i64 (px + (wd * py))) rfl (y_move rfl) ?_
                        have hx31 := row_lt (wd := wd) (hi := hi) (a := px) (b := py) (by omega) (by omega) (by omega) (by omega)
                        refine s_y (v := .pointer (some (sat afx ((px + (wd * py)).toNat * 1)))) rfl (y_idx T76.sl_24_56_1 rfl rfl ((B.r 2 rfl).addr (by omega)) (by omega) (by omega)) ?_
                        obtain ⟨r33, hr34, hR32⟩ := Rd.atF (B.r 2 rfl) (px + (wd * py)) (by omega) (by omega)
                        refine s_y (v := .float .f32 r33) rfl (y_load T76.one_56 rfl (hR32.cell (i := 0) rfl)) ?_
                        by_cases c35 : fne .f32 (el Xfx (px + (wd * py))) 0 = true
                        · refine s_y (v := .bool true) rfl (y_fneq rfl rfl (fneC hr34 (show can .f32 0 = 0 by kernel_rfl) c35)) ?_
                          refine s_y (v := .bool true) rfl (y_pick_t rfl rfl) ?_
                          refine s_y (v := .bool true) rfl (y_pick_f rfl rfl) ?_
                          refine s_y (v := .bool true) rfl (y_move rfl) ?_
                          refine s_skip rfl ?_
                          refine s_skip rfl ?_
                          refine s_skip rfl ?_
                          refine s_skip rfl ?_
                          refine s_skip rfl ?_
                          refine s_skip rfl ?_
                          refine s_skip rfl ?_
                          refine s_skip rfl ?_
                          refine s_skip rfl ?_
                          refine s_skip rfl ?_
                          refine s_skip rfl ?_
                          refine s_skip rfl ?_
                          refine s_skip rfl ?_
                          refine s_skip rfl ?_
                          refine s_skip rfl ?_
                          refine s_skip rfl ?_
                          refine s_skip rfl ?_
                          refine s_y (v := .bool true) rfl (y_pick_t rfl rfl) ?_
                          refine s_nil ?_
                          refine W_if_t (by decide) rfl ?_
                          refine W_seq ?_
                          refine W_region (by kernel_rfl) ?_
                          refine s_y (v := .bool false) rfl (y_assign rfl) ?_
                          refine s_nil ?_
                          refine W_ret ?_
                          refine ret1 (v := .bool false) rfl rfl rfl ⟨_, rfl, ?_⟩
                          exact ⟨congrArg Value.bool ((fits_no (x := px) (y := py) (by omega) (by omega) (by omega) (by omega) (by simp only [edgeB, (decide_eq_false c10), (decide_eq_false c11), (decide_eq_false c12), (decide_eq_true c15), (decide_eq_true c18), c24, (Bool.eq_false_iff.2 c29), (decide_eq_true c30), c35, Bool.and_true, Bool.true_and, Bool.and_false, Bool.false_and, Bool.not_true, Bool.not_false, Bool.or_true, Bool.true_or, Bool.or_false, Bool.false_or])).symm), B.ext⟩
                        · refine s_y (v := .bool false) rfl (y_fneq rfl rfl (fneC hr34 (show can .f32 0 = 0 by kernel_rfl) (Bool.eq_false_iff.2 c35))) ?_
                          refine s_y (v := .bool false) rfl (y_pick_t rfl rfl) ?_
                          refine s_y (v := .bool false) rfl (y_pick_f rfl rfl) ?_
                          refine s_y (v := .bool false) rfl (y_move rfl) ?_
                          refine s_y (v := .int .i64 px) rfl (y_move rfl) ?_
                          refine s_y (v := .pointer (some ⟨b, o, none⟩)) rfl (y_move rfl) ?_
                          refine s_y (v := .pointer (some ⟨b, o, none⟩)) rfl (y_nil rfl) ?_
                          refine s_y (v := .pointer (some ⟨b, o, none⟩)) rfl (y_fld (o := o + 0) T76.fld_26_0_0 rfl) ?_
                          refine s_y (v := .int .i64 wd) rfl (y_load T76.one_2 rfl ((B.s 0 rfl).cell (j := 0) rfl)) ?_
                          refine s_y (v := .int .i64 (wd - 1)) rfl (y_sub rfl rfl rfl (by omega)) ?_
                          by_cases c36 : px = (wd - 1)
                          · refine s_y (v := .bool true) rfl (y_eql rfl rfl (decide_eq_true c36)) ?_
                            refine s_y (v := .bool true) rfl (y_move rfl) ?_
                            refine s_y (v := .pointer (some ⟨b2, o2, none⟩)) rfl (y_move rfl) ?_
                            refine s_y (v := .pointer (some ⟨b2, o2, none⟩)) rfl (y_nil rfl) ?_
                            refine s_y (v := .pointer (some ⟨b2, o2 + 2, none⟩)) rfl (y_fld (o := o2 + 0) T76.fld_49_2_2 rfl) ?_
                            refine s_y (v := .slice afy nfy cfy) rfl (y_load T76.one_24 rfl ((B.s 4 rfl).cell (j := 2) rfl)) ?_
                            refine s_y (v := .int .i64 (px + (wd * py))) rfl (y_move rfl) ?_
                            have hx37 := row_lt (wd := wd) (hi := hi) (a := px) (b := py) (by omega) (by omega) (by omega) (by omega)
                            refine s_y (v := .pointer (some (sat afy ((px + (wd * py)).toNat * 1)))) rfl (y_idx T76.sl_24_56_1 rfl rfl ((B.r 3 rfl).addr (by omega)) (by omega) (by omega)) ?_
                            obtain ⟨r39, hr40, hR38⟩ := Rd.atF (B.r 3 rfl) (px + (wd * py)) (by omega) (by omega)
                            refine s_y (v := .float .f32 r39) rfl (y_load T76.one_56 rfl (hR38.cell (i := 0) rfl)) ?_
                            by_cases c41 : fne .f32 (el Xfy (px + (wd * py))) 0 = true
                            · refine s_y (v := .bool true) rfl (y_fneq rfl rfl (fneC hr40 (show can .f32 0 = 0 by kernel_rfl) c41)) ?_
                              refine s_y (v := .bool true) rfl (y_pick_t rfl rfl) ?_
                              refine s_y (v := .bool true) rfl (y_pick_f rfl rfl) ?_
                              refine s_nil ?_
                              refine W_if_t (by decide) rfl ?_
                              refine W_seq ?_
                              refine W_region (by kernel_rfl) ?_
                              refine s_y (v := .bool false) rfl (y_assign rfl) ?_
                              refine s_nil ?_
                              refine W_ret ?_
                              refine ret1 (v := .bool false) rfl rfl rfl ⟨_, rfl, ?_⟩
                              exact ⟨congrArg Value.bool ((fits_no (x := px) (y := py) (by omega) (by omega) (by omega) (by omega) (by simp only [edgeB, (decide_eq_false c10), (decide_eq_false c11), (decide_eq_false c12), (decide_eq_true c15), (decide_eq_true c18), c24, (Bool.eq_false_iff.2 c29), (decide_eq_true c30), (Bool.eq_false_iff.2 c35), (decide_eq_true c36), c41, Bool.and_true, Bool.true_and, Bool.and_false, Bool.false_and, Bool.not_true, Bool.not_false, Bool.or_true, Bool.true_or, Bool.or_false, Bool.false_or])).symm), B.ext⟩
                            · refine s_y (v := .bool false) rfl (y_fneq rfl rfl (fneC hr40 (show can .f32 0 = 0 by kernel_rfl) (Bool.eq_false_iff.2 c41))) ?_
                              refine s_y (v := .bool false) rfl (y_pick_t rfl rfl) ?_
                              refine s_y (v := .bool false) rfl (y_pick_f rfl rfl) ?_
                              refine s_nil ?_
                              refine W_if_f (by decide) rfl ?_
                              refine W_skip ?_
                              refine W_region (by kernel_rfl) ?_
                              refine s_y (v := .int .i64 px) rfl (y_move rfl) ?_
                              refine s_y (v := .int .i64 (px + 1)) rfl (y_add rfl rfl rfl (by omega)) ?_
                              refine s_y (v := .int .i64 (px + 1)) rfl (y_assign rfl) ?_
                              refine s_nil ?_
                              refine ⟨⟨_, px + 1, Fits.eq ⟨rfl, rfl, rfl, rfl, rfl, rfl, rfl, rfl, rfl, rfl, rfl, rfl, rfl, rfl, rfl, rfl, rfl, trivial⟩, B, (by omega), (by omega), (edge_row hq1 (by simp only [edgeB, (decide_eq_false c10), (decide_eq_false c11), (decide_eq_false c12), (decide_eq_true c15), (decide_eq_true c18), c24, (Bool.eq_false_iff.2 c29), (decide_eq_true c30), (Bool.eq_false_iff.2 c35), (decide_eq_true c36), (Bool.eq_false_iff.2 c41), Bool.and_true, Bool.true_and, Bool.and_false, Bool.false_and, Bool.not_true, Bool.not_false, Bool.or_true, Bool.true_or, Bool.or_false, Bool.false_or]) (by omega) (by omega) (by omega))⟩, ?_⟩
                              show (wd - (px + 1)).toNat < (wd - px).toNat
                              omega
                          · refine s_y (v := .bool false) rfl (y_eql rfl rfl (decide_eq_false c36)) ?_
                            refine s_y (v := .bool false) rfl (y_move rfl) ?_
                            refine s_skip rfl ?_
                            refine s_skip rfl ?_
                            refine s_skip rfl ?_
                            refine s_skip rfl ?_
                            refine s_skip rfl ?_
                            refine s_skip rfl ?_
                            refine s_skip rfl ?_
                            refine s_skip rfl ?_
                            refine s_y (v := .bool false) rfl (y_pick_f rfl rfl) ?_
                            refine s_y (v := .bool false) rfl (y_pick_f rfl rfl) ?_
                            refine s_nil ?_
                            refine W_if_f (by decide) rfl ?_
                            refine W_skip ?_
                            refine W_region (by kernel_rfl) ?_
                            refine s_y (v := .int .i64 px) rfl (y_move rfl) ?_
                            refine s_y (v := .int .i64 (px + 1)) rfl (y_add rfl rfl rfl (by omega)) ?_
                            refine s_y (v := .int .i64 (px + 1)) rfl (y_assign rfl) ?_
                            refine s_nil ?_
                            refine ⟨⟨_, px + 1, Fits.eq ⟨rfl, rfl, rfl, rfl, rfl, rfl, rfl, rfl, rfl, rfl, rfl, rfl, rfl, rfl, rfl, rfl, rfl, trivial⟩, B, (by omega), (by omega), (edge_row hq1 (by simp only [edgeB, (decide_eq_false c10), (decide_eq_false c11), (decide_eq_false c12), (decide_eq_true c15), (decide_eq_true c18), c24, (Bool.eq_false_iff.2 c29), (decide_eq_true c30), (Bool.eq_false_iff.2 c35), (decide_eq_false c36), Bool.and_true, Bool.true_and, Bool.and_false, Bool.false_and, Bool.not_true, Bool.not_false, Bool.or_true, Bool.true_or, Bool.or_false, Bool.false_or]) (by omega) (by omega) (by omega))⟩, ?_⟩
                            show (wd - (px + 1)).toNat < (wd - px).toNat
                            omega
                      · refine s_y (v := .bool false) rfl (y_eql rfl rfl (decide_eq_false c30)) ?_
                        refine s_y (v := .bool false) rfl (y_move rfl) ?_
                        refine s_skip rfl ?_
                        refine s_skip rfl ?_
                        refine s_skip rfl ?_
                        refine s_skip rfl ?_
                        refine s_skip rfl ?_
                        refine s_skip rfl ?_
                        refine s_skip rfl ?_
                        refine s_skip rfl ?_
                        refine s_y (v := .bool false) rfl (y_pick_f rfl rfl) ?_
                        refine s_y (v := .bool false) rfl (y_pick_f rfl rfl) ?_
                        refine s_y (v := .bool false) rfl (y_move rfl) ?_
                        refine s_y (v := .int .i64 px) rfl (y_move rfl) ?_
                        refine s_y (v := .pointer (some ⟨b, o, none⟩)) rfl (y_move rfl) ?_
                        refine s_y (v := .pointer (some ⟨b, o, none⟩)) rfl (y_nil rfl) ?_
                        refine s_y (v := .pointer (some ⟨b, o, none⟩)) rfl (y_fld (o := o + 0) T76.fld_26_0_0 rfl) ?_
                        refine s_y (v := .int .i64 wd) rfl (y_load T76.one_2 rfl ((B.s 0 rfl).cell (j := 0) rfl)) ?_
                        refine s_y (v := .int .i64 (wd - 1)) rfl (y_sub rfl rfl rfl (by omega)) ?_
                        by_cases c42 : px = (wd - 1)
                        · refine s_y (v := .bool true) rfl (y_eql rfl rfl (decide_eq_true c42)) ?_
                          refine s_y (v := .bool true) rfl (y_move rfl) ?_
                          refine s_y (v := .pointer (some ⟨b2, o2, none⟩)) rfl (y_move rfl) ?_
                          refine s_y (v := .pointer (some ⟨b2, o2, none⟩)) rfl (y_nil rfl) ?_
                          refine s_y (v := .pointer (some ⟨b2, o2 + 2, none⟩)) rfl (y_fld (o := o2 + 0) T76.fld_49_2_2 rfl) ?_
                          refine s_y (v := .slice afy nfy cfy) rfl (y_load T76.one_24 rfl ((B.s 4 rfl).cell (j := 2) rfl)) ?_
                          refine s_y (v := .int .i64 (px + (wd * py))) rfl (y_move rfl) ?_
                          have hx43 := row_lt (wd := wd) (hi := hi) (a := px) (b := py) (by omega) (by omega) (by omega) (by omega)
                          refine s_y (v := .pointer (some (sat afy ((px + (wd * py)).toNat * 1)))) rfl (y_idx T76.sl_24_56_1 rfl rfl ((B.r 3 rfl).addr (by omega)) (by omega) (by omega)) ?_
                          obtain ⟨r45, hr46, hR44⟩ := Rd.atF (B.r 3 rfl) (px + (wd * py)) (by omega) (by omega)
                          refine s_y (v := .float .f32 r45) rfl (y_load T76.one_56 rfl (hR44.cell (i := 0) rfl)) ?_
                          by_cases c47 : fne .f32 (el Xfy (px + (wd * py))) 0 = true
                          · refine s_y (v := .bool true) rfl (y_fneq rfl rfl (fneC hr46 (show can .f32 0 = 0 by kernel_rfl) c47)) ?_
                            refine s_y (v := .bool true) rfl (y_pick_t rfl rfl) ?_
                            refine s_y (v := .bool true) rfl (y_pick_f rfl rfl) ?_
                            refine s_nil ?_
                            refine W_if_t (by decide) rfl ?_
                            refine W_seq ?_
                            refine W_region (by kernel_rfl) ?_
                            refine s_y (v := .bool false) rfl (y_assign rfl) ?_
                            refine s_nil ?_
                            refine W_ret ?_
                            refine ret1 (v := .bool false) rfl rfl rfl ⟨_, rfl, ?_⟩
                            exact ⟨congrArg Value.bool ((fits_no (x := px) (y := py) (by omega) (by omega) (by omega) (by omega) (by simp only [edgeB, (decide_eq_false c10), (decide_eq_false c11), (decide_eq_false c12), (decide_eq_true c15), (decide_eq_true c18), c24, (Bool.eq_false_iff.2 c29), (decide_eq_false c30), (decide_eq_true c42), c47, Bool.and_true, Bool.true_and, Bool.and_false, Bool.false_and, Bool.not_true, Bool.not_false, Bool.or_true, Bool.true_or, Bool.or_false, Bool.false_or])).symm), B.ext⟩
                          · refine s_y (v := .bool false) rfl (y_fneq rfl rfl (fneC hr46 (show can .f32 0 = 0 by kernel_rfl) (Bool.eq_false_iff.2 c47))) ?_
                            refine s_y (v := .bool false) rfl (y_pick_t rfl rfl) ?_
                            refine s_y (v := .bool false) rfl (y_pick_f rfl rfl) ?_
                            refine s_nil ?_
                            refine W_if_f (by decide) rfl ?_
                            refine W_skip ?_
                            refine W_region (by kernel_rfl) ?_
                            refine s_y (v := .int .i64 px) rfl (y_move rfl) ?_
                            refine s_y (v := .int .i64 (px + 1)) rfl (y_add rfl rfl rfl (by omega)) ?_
                            refine s_y (v := .int .i64 (px + 1)) rfl (y_assign rfl) ?_
                            refine s_nil ?_
                            refine ⟨⟨_, px + 1, Fits.eq ⟨rfl, rfl, rfl, rfl, rfl, rfl, rfl, rfl, rfl, rfl, rfl, rfl, rfl, rfl, rfl, rfl, rfl, trivial⟩, B, (by omega), (by omega), (edge_row hq1 (by simp only [edgeB, (decide_eq_false c10), (decide_eq_false c11), (decide_eq_false c12), (decide_eq_true c15), (decide_eq_true c18), c24, (Bool.eq_false_iff.2 c29), (decide_eq_false c30), (decide_eq_true c42), (Bool.eq_false_iff.2 c47), Bool.and_true, Bool.true_and, Bool.and_false, Bool.false_and, Bool.not_true, Bool.not_false, Bool.or_true, Bool.true_or, Bool.or_false, Bool.false_or]) (by omega) (by omega) (by omega))⟩, ?_⟩
                            show (wd - (px + 1)).toNat < (wd - px).toNat
                            omega
                        · refine s_y (v := .bool false) rfl (y_eql rfl rfl (decide_eq_false c42)) ?_
                          refine s_y (v := .bool false) rfl (y_move rfl) ?_
                          refine s_skip rfl ?_
                          refine s_skip rfl ?_
                          refine s_skip rfl ?_
                          refine s_skip rfl ?_
                          refine s_skip rfl ?_
                          refine s_skip rfl ?_
                          refine s_skip rfl ?_
                          refine s_skip rfl ?_
                          refine s_y (v := .bool false) rfl (y_pick_f rfl rfl) ?_
                          refine s_y (v := .bool false) rfl (y_pick_f rfl rfl) ?_
                          refine s_nil ?_
                          refine W_if_f (by decide) rfl ?_
                          refine W_skip ?_
                          refine W_region (by kernel_rfl) ?_
                          refine s_y (v := .int .i64 px) rfl (y_move rfl) ?_
                          refine s_y (v := .int .i64 (px + 1)) rfl (y_add rfl rfl rfl (by omega)) ?_
                          refine s_y (v := .int .i64 (px + 1)) rfl (y_assign rfl) ?_
                          refine s_nil ?_
                          refine ⟨⟨_, px + 1, Fits.eq ⟨rfl, rfl, rfl, rfl, rfl, rfl, rfl, rfl, rfl, rfl, rfl, rfl, rfl, rfl, rfl, rfl, rfl, trivial⟩, B, (by omega), (by omega), (edge_row hq1 (by simp only [edgeB, (decide_eq_false c10), (decide_eq_false c11), (decide_eq_false c12), (decide_eq_true c15), (decide_eq_true c18), c24, (Bool.eq_false_iff.2 c29), (decide_eq_false c30), (decide_eq_false c42), Bool.and_true, Bool.true_and, Bool.and_false, Bool.false_and, Bool.not_true, Bool.not_false, Bool.or_true, Bool.true_or, Bool.or_false, Bool.false_or]) (by omega) (by omega) (by omega))⟩, ?_⟩
                          show (wd - (px + 1)).toNat < (wd - px).toNat
                          omega
                  · obtain rfl : v22 = .bool false := hv23.trans (congrArg Value.bool (Bool.eq_false_iff.2 c24))
                    refine s_y (v := .bool false) rfl (y_move rfl) ?_
                    refine s_skip rfl ?_
                    refine s_skip rfl ?_
                    refine s_skip rfl ?_
                    refine s_skip rfl ?_
                    refine s_skip rfl ?_
                    refine s_skip rfl ?_
                    refine s_skip rfl ?_
                    refine s_skip rfl ?_
                    refine s_y (v := .bool false) rfl (y_pick_f rfl rfl) ?_
                    refine s_y (v := .bool false) rfl (y_move rfl) ?_
                    refine s_y (v := .int .i64 py) rfl (y_move rfl) ?_
                    refine s_y (v := .pointer (some ⟨b, o, none⟩)) rfl (y_move rfl) ?_
                    refine s_y (v := .pointer (some ⟨b, o, none⟩)) rfl (y_nil rfl) ?_
                    refine s_y (v := .pointer (some ⟨b, o + 1, none⟩)) rfl (y_fld (o := o + 0) T76.fld_26_1_1 rfl) ?_
                    refine s_y (v := .int .i64 hi) rfl (y_load T76.one_2 rfl ((B.s 0 rfl).cell (j := 1) rfl)) ?_
                    refine s_y (v := .int .i64 (hi - 1)) rfl (y_sub rfl rfl rfl (by omega)) ?_
                    by_cases c48 : py = (hi - 1)
                    · refine s_y (v := .bool true) rfl (y_eql rfl rfl (decide_eq_true c48)) ?_
                      refine s_y (v := .bool true) rfl (y_move rfl) ?_
                      refine s_y (v := .pointer (some ⟨b2, o2, none⟩)) rfl (y_move rfl) ?_
                      refine s_y (v := .pointer (some ⟨b2, o2, none⟩)) rfl (y_nil rfl) ?_
                      refine s_y (v := .pointer (some ⟨b2, o2 + 1, none⟩)) rfl (y_fld (o := o2 + 0) T76.fld_49_1_1 rfl) ?_
                      refine s_y (v := .slice afx nfx cfx) rfl (y_load T76.one_24 rfl ((B.s 4 rfl).cell (j := 1) rfl)) ?_
                      refine s_y (v := .int .i64 (px + (wd * py))) rfl (y_move rfl) ?_
                      have hx49 := row_lt (wd := wd) (hi := hi) (a := px) (b := py) (by omega) (by omega) (by omega) (by omega)
                      refine s_y (v := .pointer (some (sat afx ((px + (wd * py)).toNat * 1)))) rfl (y_idx T76.sl_24_56_1 rfl rfl ((B.r 2 rfl).addr (by omega)) (by omega) (by omega)) ?_
                      obtain ⟨r51, hr52, hR50⟩ := Rd.atF (B.r 2 rfl) (px + (wd * py)) (by omega) (by omega)
                      refine s_y (v := .float .f32 r51) rfl (y_load T76.one_56 rfl (hR50.cell (i := 0) rfl)) ?_
                      by_cases c53 : fne .f32 (el Xfx (px + (wd * py))) 0 = true
                      · refine s_y (v := .bool true) rfl (y_fneq rfl rfl (fneC hr52 (show can .f32 0 = 0 by kernel_rfl) c53)) ?_
                        refine s_y (v := .bool true) rfl (y_pick_t rfl rfl) ?_
                        refine s_y (v := .bool true) rfl (y_pick_f rfl rfl) ?_
                        refine s_y (v := .bool true) rfl (y_move rfl) ?_
                        refine s_skip rfl ?_
                        refine s_skip rfl ?_
                        refine s_skip rfl ?_
                        refine s_skip rfl ?_
                        refine s_skip rfl ?_
                        refine s_skip rfl ?_
                        refine s_skip rfl ?_
                        refine s_skip rfl ?_
                        refine s_skip rfl ?_
                        refine s_skip rfl ?_
                        refine s_skip rfl ?_
                        refine s_skip rfl ?_
                        refine s_skip rfl ?_
                        refine s_skip rfl ?_
                        refine s_skip rfl ?_
                        refine s_skip rfl ?_
                        refine s_skip rfl ?_
                        refine s_y (v := .bool true) rfl (y_pick_t rfl rfl) ?_
                        refine s_nil ?_
                        refine W_if_t (by decide) rfl ?_
                        refine W_seq ?_
                        refine W_region (by kernel_rfl) ?_
                        refine s_y (v := .bool false) rfl (y_assign rfl) ?_
                        refine s_nil ?_
                        refine W_ret ?_
                        refine ret1 (v := .bool false) rfl rfl rfl ⟨_, rfl, ?_⟩
                        exact ⟨congrArg Value.bool ((fits_no (x := px) (y := py) (by omega) (by omega) (by omega) (by omega) (by simp only [edgeB, (decide_eq_false c10), (decide_eq_false c11), (decide_eq_false c12), (decide_eq_true c15), (decide_eq_true c18), (Bool.eq_false_iff.2 c24), (decide_eq_true c48), c53, Bool.and_true, Bool.true_and, Bool.and_false, Bool.false_and, Bool.not_true, Bool.not_false, Bool.or_true, Bool.true_or, Bool.or_false, Bool.false_or])).symm), B.ext⟩
                      · refine s_y (v := .bool false) rfl (y_fneq rfl rfl (fneC hr52 (show can .f32 0 = 0 by kernel_rfl) (Bool.eq_false_iff.2 c53))) ?_
                        refine s_y (v := .bool false) rfl (y_pick_t rfl rfl) ?_
                        refine s_y (v := .bool false) rfl (y_pick_f rfl rfl) ?_
                        refine s_y (v := .bool false) rfl (y_move rfl) ?_
                        refine s_y (v := .int .i64 px) rfl (y_move rfl) ?_
                        refine s_y (v := .pointer (some ⟨b, o, none⟩)) rfl (y_move rfl) ?_
                        refine s_y (v := .pointer (some ⟨b, o, none⟩)) rfl (y_nil rfl) ?_
                        refine s_y (v := .pointer (some ⟨b, o, none⟩)) rfl (y_fld (o := o + 0) T76.fld_26_0_0 rfl) ?_
                        refine s_y (v := .int .i64 wd) rfl (y_load T76.one_2 rfl ((B.s 0 rfl).cell (j := 0) rfl)) ?_
                        refine s_y (v := .int .i64 (wd - 1)) rfl (y_sub rfl rfl rfl (by omega)) ?_
                        by_cases c54 : px = (wd - 1)
                        · refine s_y (v := .bool true) rfl (y_eql rfl rfl (decide_eq_true c54)) ?_
                          refine s_y (v := .bool true) rfl (y_move rfl) ?_
                          refine s_y (v := .pointer (some ⟨b2, o2, none⟩)) rfl (y_move rfl) ?_
                          refine s_y (v := .pointer (some ⟨b2, o2, none⟩)) rfl (y_nil rfl) ?_
                          refine s_y (v := .pointer (some ⟨b2, o2 + 2, none⟩)) rfl (y_fld (o := o2 + 0) T76.fld_49_2_2 rfl) ?_
                          refine s_y (v := .slice afy nfy cfy) rfl (y_load T76.one_24 rfl ((B.s 4 rfl).cell (j := 2) rfl)) ?_
                          refine s_y (v := .int .i64 (px + (wd * py))) rfl (y_move rfl) ?_
                          have hx55 := row_lt (wd := wd) (hi := hi) (a := px) (b := py) (by omega) (by omega) (by omega) (by omega)
                          refine s_y (v := .pointer (some (sat afy ((px + (wd * py)).toNat * 1)))) rfl (y_idx T76.sl_24_56_1 rfl rfl ((B.r 3 rfl).addr (by omega)) (by omega) (by omega)) ?_
                          obtain ⟨r57, hr58, hR56⟩ := Rd.atF (B.r 3 rfl) (px + (wd * py)) (by omega) (by omega)
                          refine s_y (v := .float .f32 r57) rfl (y_load T76.one_56 rfl (hR56.cell (i := 0) rfl)) ?_
                          by_cases c59 : fne .f32 (el Xfy (px + (wd * py))) 0 = true
                          · refine s_y (v := .bool true) rfl (y_fneq rfl rfl (fneC hr58 (show can .f32 0 = 0 by kernel_rfl) c59)) ?_
                            refine s_y (v := .bool true) rfl (y_pick_t rfl rfl) ?_
                            refine s_y (v := .bool true) rfl (y_pick_f rfl rfl) ?_
                            refine s_nil ?_
                            refine W_if_t (by decide) rfl ?_
                            refine W_seq ?_
                            refine W_region (by kernel_rfl) ?_
                            refine s_y (v := .bool false) rfl (y_assign rfl) ?_
                            refine s_nil ?_
                            refine W_ret ?_
                            refine ret1 (v := .bool false) rfl rfl rfl ⟨_, rfl, ?_⟩
                            exact ⟨congrArg Value.bool ((fits_no (x := px) (y := py) (by omega) (by omega) (by omega) (by omega) (by simp only [edgeB, (decide_eq_false c10), (decide_eq_false c11), (decide_eq_false c12), (decide_eq_true c15), (decide_eq_true c18), (Bool.eq_false_iff.2 c24), (decide_eq_true c48), (Bool.eq_false_iff.2 c53), (decide_eq_true c54), c59, Bool.and_true, Bool.true_and, Bool.and_false, Bool.false_and, Bool.not_true, Bool.not_false, Bool.or_true, Bool.true_or, Bool.or_false, Bool.false_or])).symm), B.ext⟩
                          · refine s_y (v := .bool false) rfl (y_fneq rfl rfl (fneC hr58 (show can .f32 0 = 0 by kernel_rfl) (Bool.eq_false_iff.2 c59))) ?_
                            refine s_y (v := .bool false) rfl (y_pick_t rfl rfl) ?_
                            refine s_y (v := .bool false) rfl (y_pick_f rfl rfl) ?_
                            refine s_nil ?_
                            refine W_if_f (by decide) rfl ?_
                            refine W_skip ?_
                            refine W_region (by kernel_rfl) ?_
                            refine s_y (v := .int .i64 px) rfl (y_move rfl) ?_
                            refine s_y (v := .int .i64 (px + 1)) rfl (y_add rfl rfl rfl (by omega)) ?_
                            refine s_y (v := .int .i64 (px + 1)) rfl (y_assign rfl) ?_
                            refine s_nil ?_
                            refine ⟨⟨_, px + 1, Fits.eq ⟨rfl, rfl, rfl, rfl, rfl, rfl, rfl, rfl, rfl, rfl, rfl, rfl, rfl, rfl, rfl, rfl, rfl, trivial⟩, B, (by omega), (by omega), (edge_row hq1 (by simp only [edgeB, (decide_eq_false c10), (decide_eq_false c11), (decide_eq_false c12), (decide_eq_true c15), (decide_eq_true c18), (Bool.eq_false_iff.2 c24), (decide_eq_true c48), (Bool.eq_false_iff.2 c53), (decide_eq_true c54), (Bool.eq_false_iff.2 c59), Bool.and_true, Bool.true_and, Bool.and_false, Bool.false_and, Bool.not_true, Bool.not_false, Bool.or_true, Bool.true_or, Bool.or_false, Bool.false_or]) (by omega) (by omega) (by omega))⟩, ?_⟩
                            show (wd - (px + 1)).toNat < (wd - px).toNat
                            omega
                        · refine s_y (v := .bool false) rfl (y_eql rfl rfl (decide_eq_false c54)) ?_
                          refine s_y (v := .bool false) rfl (y_move rfl) ?_
                          refine s_skip rfl ?_
                          refine s_skip rfl ?_
                          refine s_skip rfl ?_
                          refine s_skip rfl ?_
                          refine s_skip rfl ?_
                          refine s_skip rfl ?_
                          refine s_skip rfl ?_
                          refine s_skip rfl ?_
                          refine s_y (v := .bool false) rfl (y_pick_f rfl rfl) ?_
                          refine s_y (v := .bool false) rfl (y_pick_f rfl rfl) ?_
                          refine s_nil ?_
                          refine W_if_f (by decide) rfl ?_
                          refine W_skip ?_
                          refine W_region (by kernel_rfl) ?_
                          refine s_y (v := .int .i64 px) rfl (y_move rfl) ?_
                          refine s_y (v := .int .i64 (px + 1)) rfl (y_add rfl rfl rfl (by omega)) ?_
                          refine s_y (v := .int .i64 (px + 1)) rfl (y_assign rfl) ?_
                          refine s_nil ?_
                          refine ⟨⟨_, px + 1, Fits.eq ⟨rfl, rfl, rfl, rfl, rfl, rfl, rfl, rfl, rfl, rfl, rfl, rfl, rfl, rfl, rfl, rfl, rfl, trivial⟩, B, (by omega), (by omega), (edge_row hq1 (by simp only [edgeB, (decide_eq_false c10), (decide_eq_false c11), (decide_eq_false c12), (decide_eq_true c15), (decide_eq_true c18), (Bool.eq_false_iff.2 c24), (decide_eq_true c48), (Bool.eq_false_iff.2 c53), (decide_eq_false c54), Bool.and_true, Bool.true_and, Bool.and_false, Bool.false_and, Bool.not_true, Bool.not_false, Bool.or_true, Bool.true_or, Bool.or_false, Bool.false_or]) (by omega) (by omega) (by omega))⟩, ?_⟩
                          show (wd - (px + 1)).toNat < (wd - px).toNat
                          omega
                    · refine s_y (v := .bool false) rfl (y_eql rfl rfl (decide_eq_false c48)) ?_
                      refine s_y (v := .bool false) rfl (y_move rfl) ?_
                      refine s_skip rfl ?_
                      refine s_skip rfl ?_
                      refine s_skip rfl ?_
                      refine s_skip rfl ?_
                      refine s_skip rfl ?_
                      refine s_skip rfl ?_
                      refine s_skip rfl ?_
                      refine s_skip rfl ?_
                      refine s_y (v := .bool false) rfl (y_pick_f rfl rfl) ?_
                      refine s_y (v := .bool false) rfl (y_pick_f rfl rfl) ?_
                      refine s_y (v := .bool false) rfl (y_move rfl) ?_
                      refine s_y (v := .int .i64 px) rfl (y_move rfl) ?_
                      refine s_y (v := .pointer (some ⟨b, o, none⟩)) rfl (y_move rfl) ?_
                      refine s_y (v := .pointer (some ⟨b, o, none⟩)) rfl (y_nil rfl) ?_
                      refine s_y (v := .pointer (some ⟨b, o, none⟩)) rfl (y_fld (o := o + 0) T76.fld_26_0_0 rfl) ?_
                      refine s_y (v := .int .i64 wd) rfl (y_load T76.one_2 rfl ((B.s 0 rfl).cell (j := 0) rfl)) ?_
                      refine s_y (v := .int .i64 (wd - 1)) rfl (y_sub rfl rfl rfl (by omega)) ?_
                      by_cases c60 : px = (wd - 1)
                      · refine s_y (v := .bool true) rfl (y_eql rfl rfl (decide_eq_true c60)) ?_
                        refine s_y (v := .bool true) rfl (y_move rfl) ?_
                        refine s_y (v := .pointer (some ⟨b2, o2, none⟩)) rfl (y_move rfl) ?_
                        refine s_y (v := .pointer (some ⟨b2, o2, none⟩)) rfl (y_nil rfl) ?_
                        refine s_y (v := .pointer (some ⟨b2, o2 + 2, none⟩)) rfl (y_fld (o := o2 + 0) T76.fld_49_2_2 rfl) ?_
                        refine s_y (v := .slice afy nfy cfy) rfl (y_load T76.one_24 rfl ((B.s 4 rfl).cell (j := 2) rfl)) ?_
                        refine s_y (v := .int .i64 (px + (wd * py))) rfl (y_move rfl) ?_
                        have hx61 := row_lt (wd := wd) (hi := hi) (a := px) (b := py) (by omega) (by omega) (by omega) (by omega)
                        refine s_y (v := .pointer (some (sat afy ((px + (wd * py)).toNat * 1)))) rfl (y_idx T76.sl_24_56_1 rfl rfl ((B.r 3 rfl).addr (by omega)) (by omega) (by omega)) ?_
                        obtain ⟨r63, hr64, hR62⟩ := Rd.atF (B.r 3 rfl) (px + (wd * py)) (by omega) (by omega)
                        refine s_y (v := .float .f32 r63) rfl (y_load T76.one_56 rfl (hR62.cell (i := 0) rfl)) ?_
                        by_cases c65 : fne .f32 (el Xfy (px + (wd * py))) 0 = true
                        · refine s_y (v := .bool true) rfl (y_fneq rfl rfl (fneC hr64 (show can .f32 0 = 0 by kernel_rfl) c65)) ?_
                          refine s_y (v := .bool true) rfl (y_pick_t rfl rfl) ?_
                          refine s_y (v := .bool true) rfl (y_pick_f rfl rfl) ?_
                          refine s_nil ?_
                          refine W_if_t (by decide) rfl ?_
                          refine W_seq ?_
                          refine W_region (by kernel_rfl) ?_
                          refine s_y (v := .bool false) rfl (y_assign rfl) ?_
                          refine s_nil ?_
                          refine W_ret ?_
                          refine ret1 (v := .bool false) rfl rfl rfl ⟨_, rfl, ?_⟩
                          exact ⟨congrArg Value.bool ((fits_no (x := px) (y := py) (by omega) (by omega) (by omega) (by omega) (by simp only [edgeB, (decide_eq_false c10), (decide_eq_false c11), (decide_eq_false c12), (decide_eq_true c15), (decide_eq_true c18), (Bool.eq_false_iff.2 c24), (decide_eq_false c48), (decide_eq_true c60), c65, Bool.and_true, Bool.true_and, Bool.and_false, Bool.false_and, Bool.not_true, Bool.not_false, Bool.or_true, Bool.true_or, Bool.or_false, Bool.false_or])).symm), B.ext⟩
                        · refine s_y (v := .bool false) rfl (y_fneq rfl rfl (fneC hr64 (show can .f32 0 = 0 by kernel_rfl) (Bool.eq_false_iff.2 c65))) ?_
                          refine s_y (v := .bool false) rfl (y_pick_t rfl rfl) ?_
                          refine s_y (v := .bool false) rfl (y_pick_f rfl rfl) ?_
                          refine s_nil ?_
                          refine W_if_f (by decide) rfl ?_
                          refine W_skip ?_
                          refine W_region (by kernel_rfl) ?_
                          refine s_y (v := .int .i64 px) rfl (y_move rfl) ?_
                          refine s_y (v := .int .i64 (px + 1)) rfl (y_add rfl rfl rfl (by omega)) ?_
                          refine s_y (v := .int .i64 (px + 1)) rfl (y_assign rfl) ?_
                          refine s_nil ?_
                          refine ⟨⟨_, px + 1, Fits.eq ⟨rfl, rfl, rfl, rfl, rfl, rfl, rfl, rfl, rfl, rfl, rfl, rfl, rfl, rfl, rfl, rfl, rfl, trivial⟩, B, (by omega), (by omega), (edge_row hq1 (by simp only [edgeB, (decide_eq_false c10), (decide_eq_false c11), (decide_eq_false c12), (decide_eq_true c15), (decide_eq_true c18), (Bool.eq_false_iff.2 c24), (decide_eq_false c48), (decide_eq_true c60), (Bool.eq_false_iff.2 c65), Bool.and_true, Bool.true_and, Bool.and_false, Bool.false_and, Bool.not_true, Bool.not_false, Bool.or_true, Bool.true_or, Bool.or_false, Bool.false_or]) (by omega) (by omega) (by omega))⟩, ?_⟩
                          show (wd - (px + 1)).toNat < (wd - px).toNat
                          omega
                      · refine s_y (v := .bool false) rfl (y_eql rfl rfl (decide_eq_false c60)) ?_
                        refine s_y (v := .bool false) rfl (y_move rfl) ?_
                        refine s_skip rfl ?_
                        refine s_skip rfl ?_
                        refine s_skip rfl ?_
                        refine s_skip rfl ?_
                        refine s_skip rfl ?_
                        refine s_skip rfl ?_
                        refine s_skip rfl ?_
                        refine s_skip rfl ?_
                        refine s_y (v := .bool false) rfl (y_pick_f rfl rfl) ?_
                        refine s_y (v := .bool false) rfl (y_pick_f rfl rfl) ?_
                        refine s_nil ?_
                        refine W_if_f (by decide) rfl ?_
                        refine W_skip ?_
                        refine W_region (by kernel_rfl) ?_
                        refine s_y (v := .int .i64 px) rfl (y_move rfl) ?_
                        refine s_y (v := .int .i64 (px + 1)) rfl (y_add rfl rfl rfl (by omega)) ?_
                        refine s_y (v := .int .i64 (px + 1)) rfl (y_assign rfl) ?_
                        refine s_nil ?_
                        refine ⟨⟨_, px + 1, Fits.eq ⟨rfl, rfl, rfl, rfl, rfl, rfl, rfl, rfl, rfl, rfl, rfl, rfl, rfl, rfl, rfl, rfl, rfl, trivial⟩, B, (by omega), (by omega), (edge_row hq1 (by simp only [edgeB, (decide_eq_false c10), (decide_eq_false c11), (decide_eq_false c12), (decide_eq_true c15), (decide_eq_true c18), (Bool.eq_false_iff.2 c24), (decide_eq_false c48), (decide_eq_false c60), Bool.and_true, Bool.true_and, Bool.and_false, Bool.false_and, Bool.not_true, Bool.not_false, Bool.or_true, Bool.true_or, Bool.or_false, Bool.false_or]) (by omega) (by omega) (by omega))⟩, ?_⟩
                        show (wd - (px + 1)).toNat < (wd - px).toNat
                        omega
                · refine s_y (v := .bool false) rfl (y_lss rfl rfl (decide_eq_false c18)) ?_
                  refine s_nil ?_
                  refine W_if_f (by decide) rfl ?_
                  refine W_exit ?_
                  refine W_region (by kernel_rfl) ?_
                  refine s_y (v := .int .i64 py) rfl (y_move rfl) ?_
                  refine s_y (v := .int .i64 (py + 1)) rfl (y_add rfl rfl rfl (by omega)) ?_
                  refine s_y (v := .int .i64 (py + 1)) rfl (y_assign rfl) ?_
                  refine s_nil ?_
                  refine ⟨⟨_, py + 1, Fits.eq ⟨rfl, rfl, rfl, trivial⟩, B, (by omega), (by omega), (fun h => by cases h), (by intro j h0 h1; refine hq1 j h0 ?_; rw [Int.mul_add, Int.mul_one] at h1; omega)⟩, ?_⟩
                  show (hi - (py + 1)).toNat < (hi - py).toNat
                  omega
            · refine W_if_f (by decide) rfl ?_
              refine W_exit ?_
              refine W_seq ?_
              refine W_region (by kernel_rfl) ?_
              refine s_y (v := .bool true) rfl (y_assign rfl) ?_
              refine s_nil ?_
              refine W_ret ?_
              refine ret1 (v := .bool true) rfl rfl rfl ⟨_, rfl, ?_⟩
              exact ⟨congrArg Value.bool ((fits_wrap (by omega) (by omega) (by omega)).symm), B.ext⟩
          · refine s_y (v := .bool false) rfl (y_lss rfl rfl (decide_eq_false c15)) ?_
            refine s_y (v := .bool false) rfl (y_move rfl) ?_
            refine s_skip rfl ?_
            refine s_skip rfl ?_
            refine s_skip rfl ?_
            refine s_skip rfl ?_
            refine s_skip rfl ?_
            refine s_y (v := .bool false) rfl (y_pick_f rfl rfl) ?_
            refine s_nil ?_
            refine W_if_f (by decide) rfl ?_
            refine W_exit ?_
            refine W_seq ?_
            refine W_region (by kernel_rfl) ?_
            refine s_y (v := .bool true) rfl (y_assign rfl) ?_
            refine s_nil ?_
            refine W_ret ?_
            refine ret1 (v := .bool true) rfl rfl rfl ⟨_, rfl, ?_⟩
            exact ⟨congrArg Value.bool ((fits_yes (by omega) (by omega) (by omega) (fun j h0 h1 => hq0 j h0 (by rw [show py = hi by omega]; exact h1))).symm), B.ext⟩
namespace T95
theorem mx : Try.prog.follows .mixedOrders = true := by kernel_rfl
theorem one_56 : oneB Try.prog 56 = true := by kernel_rfl
theorem sl_24_56_1 : slB Try.prog 24 56 1 = true := by kernel_rfl
theorem slt_24 : SlT Try.prog 24 56 1 4 (.float .f32 0) := ⟨by kernel_rfl, by kernel_rfl, rfl, by decide⟩
end T95
set_option maxRecDepth 100000 in
set_option maxHeartbeats 4000000 in
theorem c_s_l02Place {a : Option Addr} {n : Nat} {c : Nat} {X : List Nat} {W : Int} {H : Int} {way : Int} {dx : Int} {dy : Int} {w : World} (q : Rd w kF a n X) (h1 : 3 ≤ W) (h2 : W ≤ 16) (h3 : 3 ≤ H) (h4 : H ≤ 16) (hn : (n : Int) = W * H) (h5 : -W < dx) (h6 : dx < W) (h7 : -H < dy) (h8 : dy < H) :
    Calls Try.prog 95 #[.slice a n c, .int .i64 W, .int .i64 H, .int .i64 way, .int .i64 dx, .int .i64 dy] w (Rt fun v w' => ∃ (a1 : Option Addr) (c1 : Nat), v = .slice a1 ((W * H).toNat) c1 ∧ New w w' [.ow kF a1 ((W * H).toNat) c1 56 (placeL X W H way dx dy)]) := by
  have hl := q.len
  have B : Bu w no w [.rd kF a n X] := Bu.ro (All.cons q All.nil) rfl
  have hwh := mul16 (And.intro (And.intro h1 h2) (And.intro h3 h4))
  refine calls_W (n := 107) Try.func95 rfl rfl (Nat.le_of_ble_eq_true rfl) ?_
  refine W_seq ?_
  refine W_region (by kernel_rfl) ?_
  refine s_y (v := .slice none 0 0) rfl (y_assign rfl) ?_
  refine s_nil ?_
  refine W_seq ?_
  refine W_region (by kernel_rfl) ?_
  refine s_k rfl (k_bsliceO (k := kF) (n := 0) (cells := #[]) (X := []) T95.slt_24 (by decide) (by first | rfl | kernel_rfl) (rfl : Reps kF [] []) rfl (fun b1 w2 hN3 => ?_))
  replace B := B.new1 hN3
  clear hN3
  refine s_y (v := .slice (some ⟨b1, 0, none⟩) 0 0) rfl (y_assign rfl) ?_
  refine s_nil ?_
  refine W_seq ?_
  refine W_seq ?_
  refine W_region (by kernel_rfl) ?_
  refine s_y (v := .int .i64 0) rfl (y_assign rfl) ?_
  refine s_nil ?_
  refine W_block ?_
  refine W_loop (fun ρ' w' => ∃ (ρ1 : Env) (py : Int) (a0 : Option Addr) (cc0 : Nat) (nn0 : Nat), ρ' = updL ρ1 [(0, .slice a n c), (1, .int .i64 W), (2, .int .i64 H), (3, .int .i64 way), (4, .int .i64 dx), (5, .int .i64 dy), (12, .slice none 0 0), (13, .slice a0 nn0 cc0), (14, .int .i64 py)] ∧ Bu w no w' [.ow kF a0 nn0 cc0 56 (tab (W * py) (fun i => placeV X W H way dx dy (i % W) (i / W))), .rd kF a n X] ∧ (0 ≤ py) ∧ (py ≤ H)) (fun ρ' _ => (H - iv (ρ' 14)).toNat) ?_ ?_
  · replace B : Bu w no w2 [.ow kF (some ⟨b1, 0, none⟩) 0 0 56 (tab (W * 0) (fun i => placeV X W H way dx dy (i % W) (i / W))), .rd kF a n X] := B.castX 0 rfl rfl (by rw [Int.mul_zero]; rfl)
    exact ⟨_, 0, (some ⟨b1, 0, none⟩), 0, 0, Fits.eq ⟨rfl, rfl, rfl, rfl, rfl, rfl, rfl, rfl, rfl, trivial⟩, B, (Int.le_refl _), (by omega)⟩
  · clear B; rintro _ w4 ⟨ρ5, py, a0, cc0, nn0, rfl, B, h0py, h1py⟩
    have hnn0 := (B.o 0 rfl).len
    rw [tab_length] at hnn0
    have hwy := mulb (a := W) (b := py) (by omega) (by omega) (by omega) (by omega)
    refine W_seq ?_
    refine W_seq ?_
    refine W_region (by kernel_rfl) ?_
    refine s_y (v := .int .i64 py) rfl (y_move rfl) ?_
    refine s_y (v := .int .i64 H) rfl (y_move rfl) ?_
    by_cases c6 : py < H
    · refine s_y (v := .bool true) rfl (y_lss rfl rfl (decide_eq_true c6)) ?_
      refine s_nil ?_
      refine W_if_t (by decide) rfl ?_
      refine W_skip ?_
      refine W_seq ?_
      refine W_block ?_
      refine W_seq ?_
      refine W_region (by kernel_rfl) ?_
      refine s_y (v := .int .i64 0) rfl (y_assign rfl) ?_
      refine s_nil ?_
      refine W_block ?_
      refine W_loop (fun ρ' w' => ∃ (ρ1 : Env) (px : Int) (a9 : Option Addr) (cc9 : Nat) (nn9 : Nat), ρ' = updL ρ1 [(0, .slice a n c), (1, .int .i64 W), (2, .int .i64 H), (3, .int .i64 way), (4, .int .i64 dx), (5, .int .i64 dy), (12, .slice none 0 0), (13, .slice a9 nn9 cc9), (14, .int .i64 py), (15, .int .i64 px), (19, .int .i64 py), (20, .int .i64 H), (21, .bool true)] ∧ Bu w no w' [.ow kF a9 nn9 cc9 56 (tab (W * py + px) (fun i => placeV X W H way dx dy (i % W) (i / W))), .rd kF a n X] ∧ (0 ≤ px) ∧ (px ≤ W)) (fun ρ' _ => (W - iv (ρ' 15)).toNat) ?_ ?_
      · replace B : Bu w no w4 [.ow kF a0 nn0 cc0 56 (tab (W * py + 0) (fun i => placeV X W H way dx dy (i % W) (i / W))), .rd kF a n X] := B.castX 0 rfl rfl (by rw [Int.add_zero])
        exact ⟨_, 0, a0, cc0, nn0, Fits.eq ⟨rfl, rfl, rfl, rfl, rfl, rfl, rfl, rfl, rfl, rfl, rfl, rfl, rfl, trivial⟩, B, (Int.le_refl _), (by omega)⟩
      · clear B; rintro _ w7 ⟨ρ8, px, a9, cc9, nn9, rfl, B, h0px, h1px⟩
        have hnn9 := (B.o 0 rfl).len
        rw [tab_length] at hnn9
        refine W_seq ?_
        refine W_seq ?_
        refine W_region (by kernel_rfl) ?_
        refine s_y (v := .int .i64 px) rfl (y_move rfl) ?_
        refine s_y (v := .int .i64 W) rfl (y_move rfl) ?_
        by_cases c9 : px < W
        · refine s_y (v := .bool true) rfl (y_lss rfl rfl (decide_eq_true c9)) ?_
          refine s_nil ?_
          refine W_if_t (by decide) rfl ?_
          refine W_skip ?_
          refine W_seq ?_
          refine W_block ?_
          refine W_seq ?_
          refine W_region (by kernel_rfl) ?_
          refine s_y (v := .int .i64 way) rfl (y_move rfl) ?_
          refine s_nil ?_
          refine W_block ?_
          refine W_seq ?_
          refine W_region (by kernel_rfl) ?_
          by_cases c10 : way = 0
          · refine s_y (v := .bool true) rfl (y_eql rfl rfl (decide_eq_true c10)) ?_
            refine s_y (v := .bool true) rfl (y_assign rfl) ?_
            refine s_nil ?_
            refine W_if_t (by decide) rfl ?_
            refine W_region (by kernel_rfl) ?_
            refine s_y (v := .slice a9 nn9 cc9) rfl (y_move rfl) ?_
            refine s_y (v := .slice a n c) rfl (y_move rfl) ?_
            refine s_y (v := .int .i64 W) rfl (y_move rfl) ?_
            refine s_y (v := .int .i64 (W - 1)) rfl (y_sub rfl rfl rfl (by omega)) ?_
            refine s_y (v := .int .i64 px) rfl (y_move rfl) ?_
            refine s_y (v := .int .i64 ((W - 1) - px)) rfl (y_sub rfl rfl rfl (by omega)) ?_
            refine s_y (v := .int .i64 W) rfl (y_move rfl) ?_
            refine s_y (v := .int .i64 py) rfl (y_move rfl) ?_
            have hm11 := mulb (a := W) (b := py) (by omega) (by omega) (by omega) (by omega)
            refine s_y (v := .int .i64 (W * py)) rfl (y_mul rfl rfl rfl (by omega)) ?_
            refine s_y (v := .int .i64 (((W - 1) - px) + (W * py))) rfl (y_add rfl rfl rfl (by omega)) ?_
            have hx12 := row_lt (wd := W) (hi := H) (a := W - 1 - px) (b := py) (by omega) (by omega) (by omega) (by omega)
            refine s_y (v := .pointer (some (sat a ((((W - 1) - px) + (W * py)).toNat * 1)))) rfl (y_idx T95.sl_24_56_1 rfl rfl ((B.r 1 rfl).addr (by omega)) (by omega) (by omega)) ?_
            obtain ⟨r14, hr15, hR13⟩ := Rd.atF (B.r 1 rfl) (((W - 1) - px) + (W * py)) (by omega) (by omega)
            refine s_y (v := .float .f32 r14) rfl (y_load T95.one_56 rfl (hR13.cell (i := 0) rfl)) ?_
            refine s_k rfl (k_bsliceO (k := kF) (n := 1) (cells := #[.float .f32 r14]) (X := [el X (((W - 1) - px) + (W * py))]) T95.slt_24 (by decide) (by first | rfl | kernel_rfl) (reps_cons (c := [.float .f32 r14]) ⟨_, rfl, hr15⟩ (rfl : Reps kF [] [])) rfl (fun b16 w17 hN18 => ?_))
            replace B := B.new1 hN18
            clear hN18
            refine s_k rfl (k_appO (k := kF) T95.slt_24 rfl rfl rfl (B.o 1 rfl) (B.o 0 rfl).rd (by omega) (by unfold maxLen; omega) (fun a19 c20 w21 hU22 => ?_))
            replace B : Bu w no w21 [.ow kF a19 (nn9 + 1) c20 56 ((tab (W * py + px) (fun i => placeV X W H way dx dy (i % W) (i / W))) ++ ([el X (((W - 1) - px) + (W * py))])), .ow kF (some ⟨b16, 0, none⟩) 1 1 56 ([el X (((W - 1) - px) + (W * py))]), .rd kF a n X] := B.upd [1] rfl hU22
            clear hU22
            refine s_y (v := .slice a19 (nn9 + 1) c20) rfl (y_assign rfl) ?_
            refine s_nil ?_
            refine W_region (by kernel_rfl) ?_
            refine s_y (v := .int .i64 px) rfl (y_move rfl) ?_
            refine s_y (v := .int .i64 (px + 1)) rfl (y_add rfl rfl rfl (by omega)) ?_
            refine s_y (v := .int .i64 (px + 1)) rfl (y_assign rfl) ?_
            refine s_nil ?_
            replace B : Bu w no w21 [.ow kF a19 (nn9 + 1) c20 56 (tab (W * py + (px + 1)) (fun i => placeV X W H way dx dy (i % W) (i / W))), .ow kF (some ⟨b16, 0, none⟩) 1 1 56 ([el X (((W - 1) - px) + (W * py))]), .rd kF a n X] := B.castX 0 rfl rfl (tab_rowv (g := fun p q => placeV X W H way dx dy p q) (by simp [placeV, c10]) (by omega) (by omega) (by omega))
            refine ⟨⟨_, px + 1, a19, c20, nn9 + 1, Fits.eq ⟨rfl, rfl, rfl, rfl, rfl, rfl, rfl, rfl, rfl, rfl, rfl, rfl, rfl, trivial⟩, (B.pick [0, 2] rfl rfl), (by omega), (by omega)⟩, ?_⟩
            show (W - (px + 1)).toNat < (W - px).toNat
            omega
          · refine s_y (v := .bool false) rfl (y_eql rfl rfl (decide_eq_false c10)) ?_
            refine s_y (v := .bool false) rfl (y_assign rfl) ?_
            refine s_nil ?_
            refine W_if_f (by decide) rfl ?_
            refine W_seq ?_
            refine W_region (by kernel_rfl) ?_
            by_cases c23 : way = 1
            · refine s_y (v := .bool true) rfl (y_eql rfl rfl (decide_eq_true c23)) ?_
              refine s_y (v := .bool true) rfl (y_assign rfl) ?_
              refine s_nil ?_
              refine W_if_t (by decide) rfl ?_
              refine W_region (by kernel_rfl) ?_
              refine s_y (v := .slice a9 nn9 cc9) rfl (y_move rfl) ?_
              refine s_y (v := .slice a n c) rfl (y_move rfl) ?_
              refine s_y (v := .int .i64 W) rfl (y_move rfl) ?_
              refine s_y (v := .int .i64 (2 * W)) rfl (y_mul rfl rfl rfl (by omega)) ?_
              refine s_y (v := .int .i64 ((2 * W) - 2)) rfl (y_sub rfl rfl rfl (by omega)) ?_
              refine s_y (v := .int .i64 px) rfl (y_move rfl) ?_
              refine s_y (v := .int .i64 (((2 * W) - 2) - px)) rfl (y_sub rfl rfl rfl (by omega)) ?_
              refine s_y (v := .int .i64 W) rfl (y_move rfl) ?_
              have hm24 := rem_b (x := ((2 * W) - 2) - px) (m := W) (by omega) (by omega)
              refine s_y (v := .int .i64 ((((2 * W) - 2) - px) % W)) rfl (y_rem rfl rfl (by omega) (by omega) rfl) ?_
              refine s_y (v := .int .i64 W) rfl (y_move rfl) ?_
              refine s_y (v := .int .i64 py) rfl (y_move rfl) ?_
              have hm25 := mulb (a := W) (b := py) (by omega) (by omega) (by omega) (by omega)
              refine s_y (v := .int .i64 (W * py)) rfl (y_mul rfl rfl rfl (by omega)) ?_
              refine s_y (v := .int .i64 (((((2 * W) - 2) - px) % W) + (W * py))) rfl (y_add rfl rfl rfl (by omega)) ?_
              have hx26 := row_lt (wd := W) (hi := H) (a := (2 * W - 2 - px) % W) (b := py) (by omega) (by omega) (by omega) (by omega)
              refine s_y (v := .pointer (some (sat a ((((((2 * W) - 2) - px) % W) + (W * py)).toNat * 1)))) rfl (y_idx T95.sl_24_56_1 rfl rfl ((B.r 1 rfl).addr (by omega)) (by omega) (by omega)) ?_
              obtain ⟨r28, hr29, hR27⟩ := Rd.atF (B.r 1 rfl) (((((2 * W) - 2) - px) % W) + (W * py)) (by omega) (by omega)
              refine s_y (v := .float .f32 r28) rfl (y_load T95.one_56 rfl (hR27.cell (i := 0) rfl)) ?_
              refine s_y (v := .float .f32 (Op.negFloat .f32 r28)) rfl (y_fneg rfl) ?_
              refine s_k rfl (k_bsliceO (k := kF) (n := 1) (cells := #[.float .f32 (Op.negFloat .f32 r28)]) (X := [fneg .f32 (el X (((((2 * W) - 2) - px) % W) + (W * py)))]) T95.slt_24 (by decide) (by first | rfl | kernel_rfl) (reps_cons (c := [.float .f32 (Op.negFloat .f32 r28)]) ⟨_, rfl, (negC hr29)⟩ (rfl : Reps kF [] [])) rfl (fun b30 w31 hN32 => ?_))
              replace B := B.new1 hN32
              clear hN32
              refine s_k rfl (k_appO (k := kF) T95.slt_24 rfl rfl rfl (B.o 1 rfl) (B.o 0 rfl).rd (by omega) (by unfold maxLen; omega) (fun a33 c34 w35 hU36 => ?_))
              replace B : Bu w no w35 [.ow kF a33 (nn9 + 1) c34 56 ((tab (W * py + px) (fun i => placeV X W H way dx dy (i % W) (i / W))) ++ ([fneg .f32 (el X (((((2 * W) - 2) - px) % W) + (W * py)))])), .ow kF (some ⟨b30, 0, none⟩) 1 1 56 ([fneg .f32 (el X (((((2 * W) - 2) - px) % W) + (W * py)))]), .rd kF a n X] := B.upd [1] rfl hU36
              clear hU36
              refine s_y (v := .slice a33 (nn9 + 1) c34) rfl (y_assign rfl) ?_
              refine s_nil ?_
              refine W_region (by kernel_rfl) ?_
              refine s_y (v := .int .i64 px) rfl (y_move rfl) ?_
              refine s_y (v := .int .i64 (px + 1)) rfl (y_add rfl rfl rfl (by omega)) ?_
              refine s_y (v := .int .i64 (px + 1)) rfl (y_assign rfl) ?_
              refine s_nil ?_
              replace B : Bu w no w35 [.ow kF a33 (nn9 + 1) c34 56 (tab (W * py + (px + 1)) (fun i => placeV X W H way dx dy (i % W) (i / W))), .ow kF (some ⟨b30, 0, none⟩) 1 1 56 ([fneg .f32 (el X (((((2 * W) - 2) - px) % W) + (W * py)))]), .rd kF a n X] := B.castX 0 rfl rfl (tab_rowv (g := fun p q => placeV X W H way dx dy p q) (by simp [placeV, c10, c23]) (by omega) (by omega) (by omega))
              refine ⟨⟨_, px + 1, a33, c34, nn9 + 1, Fits.eq ⟨rfl, rfl, rfl, rfl, rfl, rfl, rfl, rfl, rfl, rfl, rfl, rfl, rfl, trivial⟩, (B.pick [0, 2] rfl rfl), (by omega), (by omega)⟩, ?_⟩
              show (W - (px + 1)).toNat < (W - px).toNat
              omega
            · refine s_y (v := .bool false) rfl (y_eql rfl rfl (decide_eq_false c23)) ?_
              refine s_y (v := .bool false) rfl (y_assign rfl) ?_
              refine s_nil ?_
              refine W_if_f (by decide) rfl ?_
              refine W_seq ?_
              refine W_region (by kernel_rfl) ?_
              by_cases c37 : way = 2
              · refine s_y (v := .bool true) rfl (y_eql rfl rfl (decide_eq_true c37)) ?_
                refine s_y (v := .bool true) rfl (y_assign rfl) ?_
                refine s_nil ?_
                refine W_if_t (by decide) rfl ?_
                refine W_region (by kernel_rfl) ?_
                refine s_y (v := .slice a9 nn9 cc9) rfl (y_move rfl) ?_
                refine s_y (v := .slice a n c) rfl (y_move rfl) ?_
                refine s_y (v := .int .i64 py) rfl (y_move rfl) ?_
                refine s_y (v := .int .i64 H) rfl (y_move rfl) ?_
                refine s_y (v := .int .i64 px) rfl (y_move rfl) ?_
                have hm38 := mulb (a := H) (b := px) (by omega) (by omega) (by omega) (by omega)
                refine s_y (v := .int .i64 (H * px)) rfl (y_mul rfl rfl rfl (by omega)) ?_
                refine s_y (v := .int .i64 (py + (H * px))) rfl (y_add rfl rfl rfl (by omega)) ?_
                have hx39 := row_lt (wd := H) (hi := W) (a := py) (b := px) (by omega) (by omega) (by omega) (by omega)
                have hx40 := Int.mul_comm H W
                refine s_y (v := .pointer (some (sat a ((py + (H * px)).toNat * 1)))) rfl (y_idx T95.sl_24_56_1 rfl rfl ((B.r 1 rfl).addr (by omega)) (by omega) (by omega)) ?_
                obtain ⟨r42, hr43, hR41⟩ := Rd.atF (B.r 1 rfl) (py + (H * px)) (by omega) (by omega)
                refine s_y (v := .float .f32 r42) rfl (y_load T95.one_56 rfl (hR41.cell (i := 0) rfl)) ?_
                refine s_k rfl (k_bsliceO (k := kF) (n := 1) (cells := #[.float .f32 r42]) (X := [el X (py + (H * px))]) T95.slt_24 (by decide) (by first | rfl | kernel_rfl) (reps_cons (c := [.float .f32 r42]) ⟨_, rfl, hr43⟩ (rfl : Reps kF [] [])) rfl (fun b44 w45 hN46 => ?_))
                replace B := B.new1 hN46
                clear hN46
                refine s_k rfl (k_appO (k := kF) T95.slt_24 rfl rfl rfl (B.o 1 rfl) (B.o 0 rfl).rd (by omega) (by unfold maxLen; omega) (fun a47 c48 w49 hU50 => ?_))
                replace B : Bu w no w49 [.ow kF a47 (nn9 + 1) c48 56 ((tab (W * py + px) (fun i => placeV X W H way dx dy (i % W) (i / W))) ++ ([el X (py + (H * px))])), .ow kF (some ⟨b44, 0, none⟩) 1 1 56 ([el X (py + (H * px))]), .rd kF a n X] := B.upd [1] rfl hU50
                clear hU50
                refine s_y (v := .slice a47 (nn9 + 1) c48) rfl (y_assign rfl) ?_
                refine s_nil ?_
                refine W_region (by kernel_rfl) ?_
                refine s_y (v := .int .i64 px) rfl (y_move rfl) ?_
                refine s_y (v := .int .i64 (px + 1)) rfl (y_add rfl rfl rfl (by omega)) ?_
                refine s_y (v := .int .i64 (px + 1)) rfl (y_assign rfl) ?_
                refine s_nil ?_
                replace B : Bu w no w49 [.ow kF a47 (nn9 + 1) c48 56 (tab (W * py + (px + 1)) (fun i => placeV X W H way dx dy (i % W) (i / W))), .ow kF (some ⟨b44, 0, none⟩) 1 1 56 ([el X (py + (H * px))]), .rd kF a n X] := B.castX 0 rfl rfl (tab_rowv (g := fun p q => placeV X W H way dx dy p q) (by simp [placeV, c10, c23, c37]) (by omega) (by omega) (by omega))
                refine ⟨⟨_, px + 1, a47, c48, nn9 + 1, Fits.eq ⟨rfl, rfl, rfl, rfl, rfl, rfl, rfl, rfl, rfl, rfl, rfl, rfl, rfl, trivial⟩, (B.pick [0, 2] rfl rfl), (by omega), (by omega)⟩, ?_⟩
                show (W - (px + 1)).toNat < (W - px).toNat
                omega
              · refine s_y (v := .bool false) rfl (y_eql rfl rfl (decide_eq_false c37)) ?_
                refine s_y (v := .bool false) rfl (y_assign rfl) ?_
                refine s_nil ?_
                refine W_if_f (by decide) rfl ?_
                refine W_seq ?_
                refine W_region (by kernel_rfl) ?_
                refine s_y (v := .int .i64 px) rfl (y_move rfl) ?_
                refine s_y (v := .int .i64 dx) rfl (y_move rfl) ?_
                refine s_y (v := .int .i64 (px - dx)) rfl (y_sub rfl rfl rfl (by omega)) ?_
                refine s_y (v := .int .i64 W) rfl (y_move rfl) ?_
                refine s_y (v := .int .i64 (2 * W)) rfl (y_mul rfl rfl rfl (by omega)) ?_
                refine s_y (v := .int .i64 ((px - dx) + (2 * W))) rfl (y_add rfl rfl rfl (by omega)) ?_
                refine s_y (v := .int .i64 W) rfl (y_move rfl) ?_
                have hm51 := rem_b (x := (px - dx) + (2 * W)) (m := W) (by omega) (by omega)
                refine s_y (v := .int .i64 (((px - dx) + (2 * W)) % W)) rfl (y_rem rfl rfl (by omega) (by omega) rfl) ?_
                refine s_y (v := .int .i64 (((px - dx) + (2 * W)) % W)) rfl (y_assign rfl) ?_
                refine s_nil ?_
                refine W_seq ?_
                refine W_region (by kernel_rfl) ?_
                refine s_y (v := .int .i64 py) rfl (y_move rfl) ?_
                refine s_y (v := .int .i64 dy) rfl (y_move rfl) ?_
                refine s_y (v := .int .i64 (py - dy)) rfl (y_sub rfl rfl rfl (by omega)) ?_
                refine s_y (v := .int .i64 H) rfl (y_move rfl) ?_
                refine s_y (v := .int .i64 (2 * H)) rfl (y_mul rfl rfl rfl (by omega)) ?_
                refine s_y (v := .int .i64 ((py - dy) + (2 * H))) rfl (y_add rfl rfl rfl (by omega)) ?_
                refine s_y (v := .int .i64 H) rfl (y_move rfl) ?_
                have hm52 := rem_b (x := (py - dy) + (2 * H)) (m := H) (by omega) (by omega)
                refine s_y (v := .int .i64 (((py - dy) + (2 * H)) % H)) rfl (y_rem rfl rfl (by omega) (by omega) rfl) ?_
                refine s_y (v := .int .i64 (((py - dy) + (2 * H)) % H)) rfl (y_assign rfl) ?_
                refine s_nil ?_
                refine W_region (by kernel_rfl) ?_
                refine s_y (v := .slice a9 nn9 cc9) rfl (y_move rfl) ?_
                refine s_y (v := .slice a n c) rfl (y_move rfl) ?_
                refine s_y (v := .int .i64 (((px - dx) + (2 * W)) % W)) rfl (y_move rfl) ?_
                refine s_y (v := .int .i64 W) rfl (y_move rfl) ?_
                refine s_y (v := .int .i64 (((py - dy) + (2 * H)) % H)) rfl (y_move rfl) ?_
                have hm53 := mulb (a := W) (b := ((py - dy) + (2 * H)) % H) (by omega) (by omega) (by omega) (by omega)
                refine s_y (v := .int .i64 (W * (((py - dy) + (2 * H)) % H))) rfl (y_mul rfl rfl rfl (by omega)) ?_
                refine s_y (v := .int .i64 ((((px - dx) + (2 * W)) % W) + (W * (((py - dy) + (2 * H)) % H)))) rfl (y_add rfl rfl rfl (by omega)) ?_
                have hx54 := row_lt (wd := W) (hi := H) (a := (px - dx + 2 * W) % W) (b := (py - dy + 2 * H) % H) (by omega) (by omega) (by omega) (by omega)
                refine s_y (v := .pointer (some (sat a (((((px - dx) + (2 * W)) % W) + (W * (((py - dy) + (2 * H)) % H))).toNat * 1)))) rfl (y_idx T95.sl_24_56_1 rfl rfl ((B.r 1 rfl).addr (by omega)) (by omega) (by omega)) ?_
                obtain ⟨r56, hr57, hR55⟩ := Rd.atF (B.r 1 rfl) ((((px - dx) + (2 * W)) % W) + (W * (((py - dy) + (2 * H)) % H))) (by omega) (by omega)
                refine s_y (v := .float .f32 r56) rfl (y_load T95.one_56 rfl (hR55.cell (i := 0) rfl)) ?_
                refine s_k rfl (k_bsliceO (k := kF) (n := 1) (cells := #[.float .f32 r56]) (X := [el X ((((px - dx) + (2 * W)) % W) + (W * (((py - dy) + (2 * H)) % H)))]) T95.slt_24 (by decide) (by first | rfl | kernel_rfl) (reps_cons (c := [.float .f32 r56]) ⟨_, rfl, hr57⟩ (rfl : Reps kF [] [])) rfl (fun b58 w59 hN60 => ?_))
                replace B := B.new1 hN60
                clear hN60
                refine s_k rfl (k_appO (k := kF) T95.slt_24 rfl rfl rfl (B.o 1 rfl) (B.o 0 rfl).rd (by omega) (by unfold maxLen; omega) (fun a61 c62 w63 hU64 => ?_))
                replace B : Bu w no w63 [.ow kF a61 (nn9 + 1) c62 56 ((tab (W * py + px) (fun i => placeV X W H way dx dy (i % W) (i / W))) ++ ([el X ((((px - dx) + (2 * W)) % W) + (W * (((py - dy) + (2 * H)) % H)))])), .ow kF (some ⟨b58, 0, none⟩) 1 1 56 ([el X ((((px - dx) + (2 * W)) % W) + (W * (((py - dy) + (2 * H)) % H)))]), .rd kF a n X] := B.upd [1] rfl hU64
                clear hU64
                refine s_y (v := .slice a61 (nn9 + 1) c62) rfl (y_assign rfl) ?_
                refine s_nil ?_
                refine W_region (by kernel_rfl) ?_
                refine s_y (v := .int .i64 px) rfl (y_move rfl) ?_
                refine s_y (v := .int .i64 (px + 1)) rfl (y_add rfl rfl rfl (by omega)) ?_
                refine s_y (v := .int .i64 (px + 1)) rfl (y_assign rfl) ?_
                refine s_nil ?_
                replace B : Bu w no w63 [.ow kF a61 (nn9 + 1) c62 56 (tab (W * py + (px + 1)) (fun i => placeV X W H way dx dy (i % W) (i / W))), .ow kF (some ⟨b58, 0, none⟩) 1 1 56 ([el X ((((px - dx) + (2 * W)) % W) + (W * (((py - dy) + (2 * H)) % H)))]), .rd kF a n X] := B.castX 0 rfl rfl (tab_rowv (g := fun p q => placeV X W H way dx dy p q) (by simp [placeV, c10, c23, c37]) (by omega) (by omega) (by omega))
                refine ⟨⟨_, px + 1, a61, c62, nn9 + 1, Fits.eq ⟨rfl, rfl, rfl, rfl, rfl, rfl, rfl, rfl, rfl, rfl, rfl, rfl, rfl, trivial⟩, (B.pick [0, 2] rfl rfl), (by omega), (by omega)⟩, ?_⟩
                show (W - (px + 1)).toNat < (W - px).toNat
                omega
        · refine s_y (v := .bool false) rfl (y_lss rfl rfl (decide_eq_false c9)) ?_
          refine s_nil ?_
          refine W_if_f (by decide) rfl ?_
          refine W_exit ?_
          refine W_region (by kernel_rfl) ?_
          refine s_y (v := .int .i64 py) rfl (y_move rfl) ?_
          refine s_y (v := .int .i64 (py + 1)) rfl (y_add rfl rfl rfl (by omega)) ?_
          refine s_y (v := .int .i64 (py + 1)) rfl (y_assign rfl) ?_
          refine s_nil ?_
          replace B : Bu w no w7 [.ow kF a9 nn9 cc9 56 (tab (W * (py + 1)) (fun i => placeV X W H way dx dy (i % W) (i / W))), .rd kF a n X] := B.castX 0 rfl rfl (congrArg (fun q => tab q _) (show W * py + px = W * (py + 1) by rw [Int.mul_add, Int.mul_one]; omega))
          refine ⟨⟨_, py + 1, a9, cc9, nn9, Fits.eq ⟨rfl, rfl, rfl, rfl, rfl, rfl, rfl, rfl, rfl, trivial⟩, B, (by omega), (by omega)⟩, ?_⟩
          show (H - (py + 1)).toNat < (H - py).toNat
          omega
    · refine s_y (v := .bool false) rfl (y_lss rfl rfl (decide_eq_false c6)) ?_
      refine s_nil ?_
      refine W_if_f (by decide) rfl ?_
      refine W_exit ?_
      refine W_seq ?_
      refine W_region (by kernel_rfl) ?_
      refine s_y (v := .slice a0 nn0 cc0) rfl (y_move rfl) ?_
      refine s_y (v := .slice a0 nn0 cc0) rfl (y_assign rfl) ?_
      refine s_nil ?_
      refine W_ret ?_
      refine ret1 (v := .slice a0 nn0 cc0) rfl rfl rfl ⟨_, rfl, ?_⟩
      obtain rfl : H = py := by omega
      replace B : Bu w no w4 [.ow kF a0 ((W * H).toNat) cc0 56 (placeL X W H way dx dy), .rd kF a n X] := B.castX 0 rfl (by omega) rfl
      exact ⟨_, _, (by rw [(show nn0 = (W * H).toNat from (by omega))]), B.give [0] rfl rfl rfl⟩
namespace T102
theorem mx : Try.prog.follows .mixedOrders = true := by kernel_rfl
theorem one_56 : oneB Try.prog 56 = true := by kernel_rfl
theorem sl_24_56_1 : slB Try.prog 24 56 1 = true := by kernel_rfl
theorem slt_24 : SlT Try.prog 24 56 1 4 (.float .f32 0) := ⟨by kernel_rfl, by kernel_rfl, rfl, by decide⟩
end T102
set_option maxRecDepth 100000 in
set_option maxHeartbeats 4000000 in
theorem c_s_l02Turned {a : Option Addr} {n : Nat} {c : Nat} {X : List Nat} {w : World} (q : Rd w kF a n X) (hb : n ≤ 1048576) :
    Calls Try.prog 102 #[.slice a n c] w (Rt fun v w' => ∃ (a1 : Option Addr) (c1 : Nat), v = .slice a1 n c1 ∧ New w w' [.ow kF a1 n c1 56 (negL n X)]) := by
  have hl := q.len
  have B : Bu w no w [.rd kF a n X] := Bu.ro (All.cons q All.nil) rfl
  refine calls_W (n := 21) Try.func102 rfl rfl (Nat.le_of_ble_eq_true rfl) ?_
  refine W_seq ?_
  refine W_region (by kernel_rfl) ?_
  refine s_y (v := .slice none 0 0) rfl (y_assign rfl) ?_
  refine s_nil ?_
  refine W_seq ?_
  refine W_region (by kernel_rfl) ?_
  refine s_k rfl (k_bsliceO (k := kF) (n := 0) (cells := #[]) (X := []) T102.slt_24 (by decide) (by first | rfl | kernel_rfl) (rfl : Reps kF [] []) rfl (fun b1 w2 hN3 => ?_))
  replace B := B.new1 hN3
  clear hN3
  refine s_y (v := .slice (some ⟨b1, 0, none⟩) 0 0) rfl (y_assign rfl) ?_
  refine s_nil ?_
  refine W_seq ?_
  refine W_seq ?_
  refine W_region (by kernel_rfl) ?_
  refine s_y (v := .int .i64 0) rfl (y_assign rfl) ?_
  refine s_nil ?_
  refine W_block ?_
  refine W_loop (fun ρ' w' => ∃ (ρ1 : Env) (k : Int) (a0 : Option Addr) (cc0 : Nat) (nn0 : Nat), ρ' = updL ρ1 [(0, .slice a n c), (2, .slice none 0 0), (3, .slice a0 nn0 cc0), (4, .int .i64 k)] ∧ Bu w no w' [.ow kF a0 nn0 cc0 56 (tab k (fun i => fneg .f32 (el X i))), .rd kF a n X] ∧ (0 ≤ k) ∧ (k ≤ (n : Int))) (fun ρ' _ => ((n : Int) - iv (ρ' 4)).toNat) ?_ ?_
  · replace B : Bu w no w2 [.ow kF (some ⟨b1, 0, none⟩) 0 0 56 (tab 0 (fun i => fneg .f32 (el X i))), .rd kF a n X] := B.castX 0 rfl rfl rfl
    exact ⟨_, 0, (some ⟨b1, 0, none⟩), 0, 0, Fits.eq ⟨rfl, rfl, rfl, rfl, trivial⟩, B, (Int.le_refl _), (by omega)⟩
  · clear B; rintro _ w4 ⟨ρ5, k, a0, cc0, nn0, rfl, B, h0k, h1k⟩
    have hnn0 := (B.o 0 rfl).len
    rw [tab_length] at hnn0
    refine W_seq ?_
    refine W_seq ?_
    refine W_region (by kernel_rfl) ?_
    refine s_y (v := .int .i64 k) rfl (y_move rfl) ?_
    refine s_y (v := .slice a n c) rfl (y_move rfl) ?_
    refine s_y (v := .int .i64 ((n : Nat) : Int)) rfl (y_len T102.sl_24_56_1 rfl rfl) ?_
    by_cases c6 : k < ((n : Nat) : Int)
    · refine s_y (v := .bool true) rfl (y_lss rfl rfl (decide_eq_true c6)) ?_
      refine s_nil ?_
      refine W_if_t (by decide) rfl ?_
      refine W_skip ?_
      refine W_seq ?_
      refine W_block ?_
      refine W_region (by kernel_rfl) ?_
      refine s_y (v := .slice a0 nn0 cc0) rfl (y_move rfl) ?_
      refine s_y (v := .slice a n c) rfl (y_move rfl) ?_
      refine s_y (v := .int .i64 k) rfl (y_move rfl) ?_
      refine s_y (v := .pointer (some (sat a ((k).toNat * 1)))) rfl (y_idx T102.sl_24_56_1 rfl rfl ((B.r 1 rfl).addr (by omega)) (by omega) (by omega)) ?_
      obtain ⟨r8, hr9, hR7⟩ := Rd.atF (B.r 1 rfl) k (by omega) (by omega)
      refine s_y (v := .float .f32 r8) rfl (y_load T102.one_56 rfl (hR7.cell (i := 0) rfl)) ?_
      refine s_y (v := .float .f32 (Op.negFloat .f32 r8)) rfl (y_fneg rfl) ?_
      refine s_k rfl (k_bsliceO (k := kF) (n := 1) (cells := #[.float .f32 (Op.negFloat .f32 r8)]) (X := [fneg .f32 (el X k)]) T102.slt_24 (by decide) (by first | rfl | kernel_rfl) (reps_cons (c := [.float .f32 (Op.negFloat .f32 r8)]) ⟨_, rfl, (negC hr9)⟩ (rfl : Reps kF [] [])) rfl (fun b10 w11 hN12 => ?_))
      replace B := B.new1 hN12
      clear hN12
      refine s_k rfl (k_appO (k := kF) T102.slt_24 rfl rfl rfl (B.o 1 rfl) (B.o 0 rfl).rd (by omega) (by unfold maxLen; omega) (fun a13 c14 w15 hU16 => ?_))
      replace B : Bu w no w15 [.ow kF a13 (nn0 + 1) c14 56 ((tab k (fun i => fneg .f32 (el X i))) ++ ([fneg .f32 (el X k)])), .ow kF (some ⟨b10, 0, none⟩) 1 1 56 ([fneg .f32 (el X k)]), .rd kF a n X] := B.upd [1] rfl hU16
      clear hU16
      refine s_y (v := .slice a13 (nn0 + 1) c14) rfl (y_assign rfl) ?_
      refine s_nil ?_
      refine W_region (by kernel_rfl) ?_
      refine s_y (v := .int .i64 k) rfl (y_move rfl) ?_
      refine s_y (v := .int .i64 (k + 1)) rfl (y_add rfl rfl rfl (by omega)) ?_
      refine s_y (v := .int .i64 (k + 1)) rfl (y_assign rfl) ?_
      refine s_nil ?_
      replace B : Bu w no w15 [.ow kF a13 (nn0 + 1) c14 56 (tab (k + 1) (fun i => fneg .f32 (el X i))), .ow kF (some ⟨b10, 0, none⟩) 1 1 56 ([fneg .f32 (el X k)]), .rd kF a n X] := B.castX 0 rfl rfl (tab_snoc (g := fun i => fneg .f32 (el X i)) (by omega) rfl)
      refine ⟨⟨_, k + 1, a13, c14, nn0 + 1, Fits.eq ⟨rfl, rfl, rfl, rfl, trivial⟩, (B.pick [0, 2] rfl rfl), (by omega), (by omega)⟩, ?_⟩
      show ((n : Int) - (k + 1)).toNat < ((n : Int) - k).toNat
      omega
    · refine s_y (v := .bool false) rfl (y_lss rfl rfl (decide_eq_false c6)) ?_
      refine s_nil ?_
      refine W_if_f (by decide) rfl ?_
      refine W_exit ?_
      refine W_seq ?_
      refine W_region (by kernel_rfl) ?_
      refine s_y (v := .slice a0 nn0 cc0) rfl (y_move rfl) ?_
      refine s_y (v := .slice a0 nn0 cc0) rfl (y_assign rfl) ?_
      refine s_nil ?_
      refine W_ret ?_
      refine ret1 (v := .slice a0 nn0 cc0) rfl rfl rfl ⟨_, rfl, ?_⟩
      obtain rfl : k = (n : Int) := by omega
      replace B : Bu w no w4 [.ow kF a0 n cc0 56 (negL n X), .rd kF a n X] := B.castX 0 rfl (by omega) rfl
      exact ⟨_, _, (by rw [(show nn0 = n from (by omega))]), B.give [0] rfl rfl rfl⟩
end Go.Proofs.Ytalkhbnlphefdaa
