/- Walks: what the functions under FnExactValueAt do (part 1). Printed by a program of this claim's author. -/
import Derived.Test.YtcggpjocghigcaaL3
import Derived.Test.YtcggpjocghigcaaModel
import Derived.Test.YtcggpjocghigcaaM2
import Derived.Test.YtcggpjocghigcaaM3
import Derived.Test.YtcggpjocghigcaaM4
import Derived.Test.YtcggpjocghigcaaM5
import Derived.Test.YtcggpjocghigcaaProg
set_option linter.unusedSimpArgs false
set_option linter.unusedVariables false
open Go.Wv
namespace Go.Proofs.Ytcggpjocghigcaa
open Go.Proofs
namespace T68
theorem mx : Try.prog.follows .mixedOrders = true := by kernel_rfl
theorem sl_24_62_1 : slB Try.prog 24 62 1 = true := by kernel_rfl
end T68
set_option maxRecDepth 100000 in
set_option maxHeartbeats 4000000 in
theorem c_l_szFloat32S {a : Option Addr} {n cc : Nat} {left : Int} (w : World) (h0 : 0 ≤ left) (h1 : left ≤ 1048576) (h2 : n ≤ 9223372036854775807) :
    Calls Try.prog 68 #[.slice a n cc, .int .i64 left] w (Rt fun v w' => v = .int .i64 (if (n : Int) ≤ left then left - n else -1) ∧ Ext0 w w') := by
  have E0 : Ext no w w := Ext.refl _ _
  refine calls_W (n := 12) Try.func68 rfl rfl (Nat.le_of_ble_eq_true rfl) ?_
  refine W_seq ?_
  refine W_region (by kernel_rfl) ?_
  refine s_y (v := .int .i64 0) rfl (y_assign rfl) ?_
  refine s_nil ?_
  refine W_seq ?_
  refine W_region (by kernel_rfl) ?_
  refine s_y (v := .int .i64 left) rfl (y_move rfl) ?_
  refine s_y (v := .slice a n cc) rfl (y_move rfl) ?_
  refine s_y (v := .int .i64 ((n : Nat) : Int)) rfl (y_len T68.sl_24_62_1 rfl rfl) ?_
  refine s_y (v := .int .i64 (left - ((n : Nat) : Int))) rfl (y_sub rfl rfl rfl (by omega)) ?_
  refine s_y (v := .int .i64 (left - ((n : Nat) : Int))) rfl (y_assign rfl) ?_
  refine s_nil ?_
  refine W_seq ?_
  refine W_seq ?_
  refine W_region (by kernel_rfl) ?_
  refine s_y (v := .int .i64 (left - ((n : Nat) : Int))) rfl (y_move rfl) ?_
  by_cases c1 : (left - ((n : Nat) : Int)) < 0
  · refine s_y (v := .bool true) rfl (y_lss rfl rfl (decide_eq_true c1)) ?_
    refine s_nil ?_
    refine W_if_t (by decide) rfl ?_
    refine W_seq ?_
    refine W_region (by kernel_rfl) ?_
    refine s_y (v := .int .i64 (-1)) rfl (y_assign rfl) ?_
    refine s_nil ?_
    refine W_ret ?_
    refine ret1 rfl rfl rfl ⟨_, rfl, ?_⟩
    exact ⟨congrArg (Value.int .i64) (if_neg (by omega)).symm, E0⟩
  · refine s_y (v := .bool false) rfl (y_lss rfl rfl (decide_eq_false c1)) ?_
    refine s_nil ?_
    refine W_if_f (by decide) rfl ?_
    refine W_skip ?_
    refine W_seq ?_
    refine W_region (by kernel_rfl) ?_
    refine s_y (v := .int .i64 (left - ((n : Nat) : Int))) rfl (y_move rfl) ?_
    refine s_y (v := .int .i64 (left - ((n : Nat) : Int))) rfl (y_assign rfl) ?_
    refine s_nil ?_
    refine W_ret ?_
    refine ret1 rfl rfl rfl ⟨_, rfl, ?_⟩
    exact ⟨congrArg (Value.int .i64) (if_pos (by omega)).symm, E0⟩
namespace T21
theorem mx : Try.prog.follows .mixedOrders = true := by kernel_rfl
theorem fld_36_3_3 : fldB Try.prog 36 3 3 = true := by kernel_rfl
theorem fld_36_4_4 : fldB Try.prog 36 4 4 = true := by kernel_rfl
theorem fn_68 : fnB Try.prog 68 = true := by kernel_rfl
theorem one_24 : oneB Try.prog 24 = true := by kernel_rfl
end T21
set_option maxRecDepth 100000 in
set_option maxHeartbeats 4000000 in
theorem c_l_szSheet {wd hi : Int} {wr : Bool} {asp als : Option Addr} {nsp nls csp cls : Nat} {left : Int} (w : World) (h0 : 0 ≤ left) (h1 : left ≤ 1048576) (hnsp : nsp ≤ 9223372036854775807) (hnls : nls ≤ 9223372036854775807) :
    Calls Try.prog 21 #[.agg #[.int .i64 wd, .int .i64 hi, .bool wr, .slice asp nsp csp, .slice als nls cls], .int .i64 left] w (Rt fun v w' => v = .int .i64 (if ((nsp : Nat) : Int) + ((nls : Nat) : Int) ≤ left then left - ((nsp : Nat) : Int) - ((nls : Nat) : Int) else -1) ∧ Ext0 w w') := by
  have E0 : Ext no w w := Ext.refl _ _
  refine calls_W (n := 18) Try.func21 rfl rfl (Nat.le_of_ble_eq_true rfl) ?_
  refine W_seq ?_
  refine W_region (by kernel_rfl) ?_
  refine s_k rfl (k_box (v := .agg #[.int .i64 wd, .int .i64 hi, .bool wr, .slice asp nsp csp, .slice als nls cls]) (cs := [.int .i64 wd, .int .i64 hi, .bool wr, .slice asp nsp csp, .slice als nls cls]) rfl rfl (fun b1 w2 q4 e3 hB5 => ?_))
  have E6 := E0.fresh e3 (fun _ h _ => h.elim)
  have fr7 : NotLt b1 w.heap.size := fun h => Nat.not_lt.2 (Nat.le_trans E0.size (Nat.le_of_eq q4.symm)) h
  clear q4
  refine s_y (v := .int .i64 0) rfl (y_assign rfl) ?_
  refine s_nil ?_
  refine W_seq ?_
  refine W_region (by kernel_rfl) ?_
  refine s_y (v := .pointer (some ⟨b1, 3, none⟩)) rfl (y_fld (o := 0) T21.fld_36_3_3 rfl) ?_
  refine s_y (v := .slice asp nsp csp) rfl (y_load T21.one_24 rfl (hB5.cell (j := 3) rfl)) ?_
  refine s_y (v := .int .i64 left) rfl (y_move rfl) ?_
  refine s_k rfl (k_call T21.fn_68 (c_l_szFloat32S _ (by omega) (by omega) (by omega)) rfl ?_)
  rintro v10 w8 ⟨hv11, e9⟩
  have hB12 := hB5.ext0 e9
  have E13 := E6.fresh e9 (fun _ h _ => h.elim)
  by_cases c14 : ((nsp : Nat) : Int) ≤ left
  · obtain rfl : v10 = .int .i64 (left - (nsp : Nat)) := hv11.trans (congrArg _ (if_pos c14))
    have hk15 : ¬ (left - (nsp : Nat)) < 0 := by omega
    refine s_y (v := .int .i64 (left - (nsp : Nat))) rfl (y_assign rfl) ?_
    refine s_nil ?_
    refine W_seq ?_
    refine W_seq ?_
    refine W_region (by kernel_rfl) ?_
    refine s_y (v := .int .i64 (left - (nsp : Nat))) rfl (y_move rfl) ?_
    refine s_y (v := .bool false) rfl (y_lss rfl rfl (decide_eq_false hk15)) ?_
    refine s_nil ?_
    refine W_if_f (by decide) rfl ?_
    refine W_skip ?_
    refine W_seq ?_
    refine W_region (by kernel_rfl) ?_
    refine s_y (v := .pointer (some ⟨b1, 4, none⟩)) rfl (y_fld (o := 0) T21.fld_36_4_4 rfl) ?_
    refine s_y (v := .slice als nls cls) rfl (y_load T21.one_24 rfl (hB12.cell (j := 4) rfl)) ?_
    refine s_y (v := .int .i64 (left - (nsp : Nat))) rfl (y_move rfl) ?_
    refine s_k rfl (k_call T21.fn_68 (c_l_szFloat32S _ (by omega) (by omega) (by omega)) rfl ?_)
    rintro v18 w16 ⟨hv19, e17⟩
    have hB20 := hB12.ext0 e17
    have E21 := E13.fresh e17 (fun _ h _ => h.elim)
    by_cases c22 : ((nls : Nat) : Int) ≤ left - (nsp : Nat)
    · obtain rfl : v18 = .int .i64 ((left - (nsp : Nat)) - (nls : Nat)) := hv19.trans (congrArg _ (if_pos c22))
      have hk23 : ¬ ((left - (nsp : Nat)) - (nls : Nat)) < 0 := by omega
      refine s_y (v := .int .i64 ((left - (nsp : Nat)) - (nls : Nat))) rfl (y_assign rfl) ?_
      refine s_nil ?_
      refine W_seq ?_
      refine W_seq ?_
      refine W_region (by kernel_rfl) ?_
      refine s_y (v := .int .i64 ((left - (nsp : Nat)) - (nls : Nat))) rfl (y_move rfl) ?_
      refine s_y (v := .bool false) rfl (y_lss rfl rfl (decide_eq_false hk23)) ?_
      refine s_nil ?_
      refine W_if_f (by decide) rfl ?_
      refine W_skip ?_
      refine W_seq ?_
      refine W_region (by kernel_rfl) ?_
      refine s_y (v := .int .i64 ((left - (nsp : Nat)) - (nls : Nat))) rfl (y_move rfl) ?_
      refine s_y (v := .int .i64 ((left - (nsp : Nat)) - (nls : Nat))) rfl (y_assign rfl) ?_
      refine s_nil ?_
      refine W_ret ?_
      refine ret1 rfl rfl rfl ⟨_, rfl, ?_⟩
      exact ⟨congrArg (Value.int .i64) (if_pos (by omega)).symm, E21⟩
    · obtain rfl : v18 = .int .i64 (-1) := hv19.trans (congrArg _ (if_neg c22))
      refine s_y (v := .int .i64 (-1)) rfl (y_assign rfl) ?_
      refine s_nil ?_
      refine W_seq ?_
      refine W_seq ?_
      refine W_region (by kernel_rfl) ?_
      refine s_y (v := .int .i64 (-1)) rfl (y_move rfl) ?_
      have hk24 : (-1 : Int) < 0 := (by decide)
      refine s_y (v := .bool true) rfl (y_lss rfl rfl (decide_eq_true hk24)) ?_
      refine s_nil ?_
      refine W_if_t (by decide) rfl ?_
      refine W_seq ?_
      refine W_region (by kernel_rfl) ?_
      refine s_y (v := .int .i64 (-1)) rfl (y_assign rfl) ?_
      refine s_nil ?_
      refine W_ret ?_
      refine ret1 rfl rfl rfl ⟨_, rfl, ?_⟩
      exact ⟨congrArg (Value.int .i64) (if_neg (by omega)).symm, E21⟩
  · obtain rfl : v10 = .int .i64 (-1) := hv11.trans (congrArg _ (if_neg c14))
    refine s_y (v := .int .i64 (-1)) rfl (y_assign rfl) ?_
    refine s_nil ?_
    refine W_seq ?_
    refine W_seq ?_
    refine W_region (by kernel_rfl) ?_
    refine s_y (v := .int .i64 (-1)) rfl (y_move rfl) ?_
    have hk25 : (-1 : Int) < 0 := (by decide)
    refine s_y (v := .bool true) rfl (y_lss rfl rfl (decide_eq_true hk25)) ?_
    refine s_nil ?_
    refine W_if_t (by decide) rfl ?_
    refine W_seq ?_
    refine W_region (by kernel_rfl) ?_
    refine s_y (v := .int .i64 (-1)) rfl (y_assign rfl) ?_
    refine s_nil ?_
    refine W_ret ?_
    refine ret1 rfl rfl rfl ⟨_, rfl, ?_⟩
    exact ⟨congrArg (Value.int .i64) (if_neg (by omega)).symm, E13⟩
namespace T41
theorem mx : Try.prog.follows .mixedOrders = true := by kernel_rfl
theorem fld_60_0_0 : fldB Try.prog 60 0 0 = true := by kernel_rfl
theorem fld_60_1_1 : fldB Try.prog 60 1 1 = true := by kernel_rfl
theorem fld_60_2_2 : fldB Try.prog 60 2 2 = true := by kernel_rfl
theorem fn_68 : fnB Try.prog 68 = true := by kernel_rfl
theorem one_24 : oneB Try.prog 24 = true := by kernel_rfl
end T41
set_option maxRecDepth 100000 in
set_option maxHeartbeats 4000000 in
theorem c_l_szField {afe afx afy : Option Addr} {nfe nfx nfy cfe cfx cfy : Nat} {left : Int} (w : World) (h0 : 0 ≤ left) (h1 : left ≤ 1048576) (hnfe : nfe ≤ 9223372036854775807) (hnfx : nfx ≤ 9223372036854775807) (hnfy : nfy ≤ 9223372036854775807) :
    Calls Try.prog 41 #[.agg #[.slice afe nfe cfe, .slice afx nfx cfx, .slice afy nfy cfy], .int .i64 left] w (Rt fun v w' => v = .int .i64 (if ((nfe : Nat) : Int) + ((nfx : Nat) : Int) + ((nfy : Nat) : Int) ≤ left then left - ((nfe : Nat) : Int) - ((nfx : Nat) : Int) - ((nfy : Nat) : Int) else -1) ∧ Ext0 w w') := by
  have E0 : Ext no w w := Ext.refl _ _
  refine calls_W (n := 24) Try.func41 rfl rfl (Nat.le_of_ble_eq_true rfl) ?_
  refine W_seq ?_
  refine W_region (by kernel_rfl) ?_
  refine s_k rfl (k_box (v := .agg #[.slice afe nfe cfe, .slice afx nfx cfx, .slice afy nfy cfy]) (cs := [.slice afe nfe cfe, .slice afx nfx cfx, .slice afy nfy cfy]) rfl rfl (fun b1 w2 q4 e3 hB5 => ?_))
  have E6 := E0.fresh e3 (fun _ h _ => h.elim)
  have fr7 : NotLt b1 w.heap.size := fun h => Nat.not_lt.2 (Nat.le_trans E0.size (Nat.le_of_eq q4.symm)) h
  clear q4
  refine s_y (v := .int .i64 0) rfl (y_assign rfl) ?_
  refine s_nil ?_
  refine W_seq ?_
  refine W_region (by kernel_rfl) ?_
  refine s_y (v := .pointer (some ⟨b1, 0, none⟩)) rfl (y_fld (o := 0) T41.fld_60_0_0 rfl) ?_
  refine s_y (v := .slice afe nfe cfe) rfl (y_load T41.one_24 rfl (hB5.cell (j := 0) rfl)) ?_
  refine s_y (v := .int .i64 left) rfl (y_move rfl) ?_
  refine s_k rfl (k_call T41.fn_68 (c_l_szFloat32S _ (by omega) (by omega) (by omega)) rfl ?_)
  rintro v10 w8 ⟨hv11, e9⟩
  have hB12 := hB5.ext0 e9
  have E13 := E6.fresh e9 (fun _ h _ => h.elim)
  by_cases c14 : ((nfe : Nat) : Int) ≤ left
  · obtain rfl : v10 = .int .i64 (left - (nfe : Nat)) := hv11.trans (congrArg _ (if_pos c14))
    have hk15 : ¬ (left - (nfe : Nat)) < 0 := by omega
    refine s_y (v := .int .i64 (left - (nfe : Nat))) rfl (y_assign rfl) ?_
    refine s_nil ?_
    refine W_seq ?_
    refine W_seq ?_
    refine W_region (by kernel_rfl) ?_
    refine s_y (v := .int .i64 (left - (nfe : Nat))) rfl (y_move rfl) ?_
    refine s_y (v := .bool false) rfl (y_lss rfl rfl (decide_eq_false hk15)) ?_
    refine s_nil ?_
    refine W_if_f (by decide) rfl ?_
    refine W_skip ?_
    refine W_seq ?_
    refine W_region (by kernel_rfl) ?_
    refine s_y (v := .pointer (some ⟨b1, 1, none⟩)) rfl (y_fld (o := 0) T41.fld_60_1_1 rfl) ?_
    refine s_y (v := .slice afx nfx cfx) rfl (y_load T41.one_24 rfl (hB12.cell (j := 1) rfl)) ?_
    refine s_y (v := .int .i64 (left - (nfe : Nat))) rfl (y_move rfl) ?_
    refine s_k rfl (k_call T41.fn_68 (c_l_szFloat32S _ (by omega) (by omega) (by omega)) rfl ?_)
    rintro v18 w16 ⟨hv19, e17⟩
    have hB20 := hB12.ext0 e17
    have E21 := E13.fresh e17 (fun _ h _ => h.elim)
    by_cases c22 : ((nfx : Nat) : Int) ≤ left - (nfe : Nat)
    · obtain rfl : v18 = .int .i64 ((left - (nfe : Nat)) - (nfx : Nat)) := hv19.trans (congrArg _ (if_pos c22))
      have hk23 : ¬ ((left - (nfe : Nat)) - (nfx : Nat)) < 0 := by omega
      refine s_y (v := .int .i64 ((left - (nfe : Nat)) - (nfx : Nat))) rfl (y_assign rfl) ?_
      refine s_nil ?_
      refine W_seq ?_
      refine W_seq ?_
      refine W_region (by kernel_rfl) ?_
      refine s_y (v := .int .i64 ((left - (nfe : Nat)) - (nfx : Nat))) rfl (y_move rfl) ?_
      refine s_y (v := .bool false) rfl (y_lss rfl rfl (decide_eq_false hk23)) ?_
      refine s_nil ?_
      refine W_if_f (by decide) rfl ?_
      refine W_skip ?_
      refine W_seq ?_
      refine W_region (by kernel_rfl) ?_
      refine s_y (v := .pointer (some ⟨b1, 2, none⟩)) rfl (y_fld (o := 0) T41.fld_60_2_2 rfl) ?_
      refine s_y (v := .slice afy nfy cfy) rfl (y_load T41.one_24 rfl (hB20.cell (j := 2) rfl)) ?_
      refine s_y (v := .int .i64 ((left - (nfe : Nat)) - (nfx : Nat))) rfl (y_move rfl) ?_
      refine s_k rfl (k_call T41.fn_68 (c_l_szFloat32S _ (by omega) (by omega) (by omega)) rfl ?_)
      rintro v26 w24 ⟨hv27, e25⟩
      have hB28 := hB20.ext0 e25
      have E29 := E21.fresh e25 (fun _ h _ => h.elim)
      by_cases c30 : ((nfy : Nat) : Int) ≤ (left - (nfe : Nat)) - (nfx : Nat)
      · obtain rfl : v26 = .int .i64 (((left - (nfe : Nat)) - (nfx : Nat)) - (nfy : Nat)) := hv27.trans (congrArg _ (if_pos c30))
        have hk31 : ¬ (((left - (nfe : Nat)) - (nfx : Nat)) - (nfy : Nat)) < 0 := by omega
        refine s_y (v := .int .i64 (((left - (nfe : Nat)) - (nfx : Nat)) - (nfy : Nat))) rfl (y_assign rfl) ?_
        refine s_nil ?_
        refine W_seq ?_
        refine W_seq ?_
        refine W_region (by kernel_rfl) ?_
        refine s_y (v := .int .i64 (((left - (nfe : Nat)) - (nfx : Nat)) - (nfy : Nat))) rfl (y_move rfl) ?_
        refine s_y (v := .bool false) rfl (y_lss rfl rfl (decide_eq_false hk31)) ?_
        refine s_nil ?_
        refine W_if_f (by decide) rfl ?_
        refine W_skip ?_
        refine W_seq ?_
        refine W_region (by kernel_rfl) ?_
        refine s_y (v := .int .i64 (((left - (nfe : Nat)) - (nfx : Nat)) - (nfy : Nat))) rfl (y_move rfl) ?_
        refine s_y (v := .int .i64 (((left - (nfe : Nat)) - (nfx : Nat)) - (nfy : Nat))) rfl (y_assign rfl) ?_
        refine s_nil ?_
        refine W_ret ?_
        refine ret1 rfl rfl rfl ⟨_, rfl, ?_⟩
        exact ⟨congrArg (Value.int .i64) (if_pos (by omega)).symm, E29⟩
      · obtain rfl : v26 = .int .i64 (-1) := hv27.trans (congrArg _ (if_neg c30))
        refine s_y (v := .int .i64 (-1)) rfl (y_assign rfl) ?_
        refine s_nil ?_
        refine W_seq ?_
        refine W_seq ?_
        refine W_region (by kernel_rfl) ?_
        refine s_y (v := .int .i64 (-1)) rfl (y_move rfl) ?_
        have hk32 : (-1 : Int) < 0 := (by decide)
        refine s_y (v := .bool true) rfl (y_lss rfl rfl (decide_eq_true hk32)) ?_
        refine s_nil ?_
        refine W_if_t (by decide) rfl ?_
        refine W_seq ?_
        refine W_region (by kernel_rfl) ?_
        refine s_y (v := .int .i64 (-1)) rfl (y_assign rfl) ?_
        refine s_nil ?_
        refine W_ret ?_
        refine ret1 rfl rfl rfl ⟨_, rfl, ?_⟩
        exact ⟨congrArg (Value.int .i64) (if_neg (by omega)).symm, E29⟩
    · obtain rfl : v18 = .int .i64 (-1) := hv19.trans (congrArg _ (if_neg c22))
      refine s_y (v := .int .i64 (-1)) rfl (y_assign rfl) ?_
      refine s_nil ?_
      refine W_seq ?_
      refine W_seq ?_
      refine W_region (by kernel_rfl) ?_
      refine s_y (v := .int .i64 (-1)) rfl (y_move rfl) ?_
      have hk33 : (-1 : Int) < 0 := (by decide)
      refine s_y (v := .bool true) rfl (y_lss rfl rfl (decide_eq_true hk33)) ?_
      refine s_nil ?_
      refine W_if_t (by decide) rfl ?_
      refine W_seq ?_
      refine W_region (by kernel_rfl) ?_
      refine s_y (v := .int .i64 (-1)) rfl (y_assign rfl) ?_
      refine s_nil ?_
      refine W_ret ?_
      refine ret1 rfl rfl rfl ⟨_, rfl, ?_⟩
      exact ⟨congrArg (Value.int .i64) (if_neg (by omega)).symm, E21⟩
  · obtain rfl : v10 = .int .i64 (-1) := hv11.trans (congrArg _ (if_neg c14))
    refine s_y (v := .int .i64 (-1)) rfl (y_assign rfl) ?_
    refine s_nil ?_
    refine W_seq ?_
    refine W_seq ?_
    refine W_region (by kernel_rfl) ?_
    refine s_y (v := .int .i64 (-1)) rfl (y_move rfl) ?_
    have hk34 : (-1 : Int) < 0 := (by decide)
    refine s_y (v := .bool true) rfl (y_lss rfl rfl (decide_eq_true hk34)) ?_
    refine s_nil ?_
    refine W_if_t (by decide) rfl ?_
    refine W_seq ?_
    refine W_region (by kernel_rfl) ?_
    refine s_y (v := .int .i64 (-1)) rfl (y_assign rfl) ?_
    refine s_nil ?_
    refine W_ret ?_
    refine ret1 rfl rfl rfl ⟨_, rfl, ?_⟩
    exact ⟨congrArg (Value.int .i64) (if_neg (by omega)).symm, E13⟩
namespace T70
theorem mx : Try.prog.follows .mixedOrders = true := by kernel_rfl
theorem one_62 : oneB Try.prog 62 = true := by kernel_rfl
theorem sl_24_62_1 : slB Try.prog 24 62 1 = true := by kernel_rfl
theorem slt_24 : SlT Try.prog 24 62 1 4 (.float .f32 0) := ⟨by kernel_rfl, by kernel_rfl, rfl, by decide⟩
theorem sz_62_1 : szB Try.prog 62 1 = true := by kernel_rfl
end T70
set_option maxRecDepth 100000 in
set_option maxHeartbeats 4000000 in
theorem c_l_toFloat32S {a : Option Addr} {n c : Nat} {x X : List Nat} (w : World) (qs : Sl w a (flts x)) (ql : x.length = n) (qk : cn x = X) (hl : n ≤ 1048576) :
    Calls Try.prog 70 #[.slice a n c] w (Rt fun v w' => ∃ a', v = .slice a' n n ∧ Own w' w.heap.size a' n n 62 1 (flts x) ∧ Ext0 w w') := by
  have E0 : Ext no w w := Ext.refl _ _
  have lo_a := Sl.low qs
  refine calls_W (n := 22) Try.func70 rfl rfl (Nat.le_of_ble_eq_true rfl) ?_
  refine W_seq ?_
  refine W_region (by kernel_rfl) ?_
  refine s_y (v := .slice none 0 0) rfl (y_assign rfl) ?_
  refine s_nil ?_
  refine W_seq ?_
  refine W_region (by kernel_rfl) ?_
  refine s_y (v := .slice a n c) rfl (y_move rfl) ?_
  refine s_y (v := .int .i64 ((n : Nat) : Int)) rfl (y_len T70.sl_24_62_1 rfl rfl) ?_
  refine s_k rfl (k_mk T70.slt_24 rfl rfl (by omega) (by omega) (by omega) (fun b1 w2 q4 e3 hO5 => ?_))
  have hS6 := qs.ext0 e3
  have E7 := E0.fresh e3 (fun _ h _ => h.elim)
  have d8 : ∀ k, inA (some ⟨b1, 0, none⟩) k → w.heap.size ≤ k := fun kx hk => (hO5.blk kx hk).1
  have fr9 : ∀ k, inA (some ⟨b1, 0, none⟩) k → k < w.heap.size → False := fun kx h1 h2 => Nat.not_lt.2 (Nat.le_trans E0.size (d8 kx h1)) h2
  have hO10 := hO5.base E0.size
  have hO11 := hO10.cast rfl (made_flts ((((n : Nat) : Int)).toNat) rfl)
  have hl12 : (List.replicate ((((n : Nat) : Int)).toNat) 0).length = (((n : Nat) : Int)).toNat := List.length_replicate ..
  have hc13 := cn_zeros ((((n : Nat) : Int)).toNat)
  refine s_y (v := .slice (some ⟨b1, 0, none⟩) ((((n : Nat) : Int)).toNat) ((((n : Nat) : Int)).toNat)) rfl (y_assign rfl) ?_
  refine s_nil ?_
  refine W_seq ?_
  refine W_seq ?_
  refine W_region (by kernel_rfl) ?_
  refine s_y (v := .int .i64 0) rfl (y_assign rfl) ?_
  refine s_nil ?_
  refine W_block ?_
  refine W_loop (fun ρ' w' => ∃ (ρ1 : Env) (k : Int) (zs : List Nat), ρ' = updL ρ1 [(0, .slice a n c), (2, .slice none 0 0), (3, .slice (some ⟨b1, 0, none⟩) ((((n : Nat) : Int)).toNat) ((((n : Nat) : Int)).toNat)), (4, .int .i64 k)] ∧ Ext no w w' ∧ Sl w' a (flts x) ∧ Own w' w.heap.size (some ⟨b1, 0, none⟩) n n 62 1 (flts zs) ∧ (0 ≤ k) ∧ (k ≤ (n : Int)) ∧ (zs.length = n) ∧ (∀ i, 0 ≤ i → i < k → el zs i = el x i)) (fun ρ' _ => ((n : Int) - iv (ρ' 4)).toNat) ?_ ?_
  · exact ⟨_, 0, _, Fits.eq ⟨rfl, rfl, rfl, rfl, trivial⟩, E7, hS6, hO11, (Int.le_refl _), (by omega), (by simp), (by intro i h0 h1; omega)⟩
  · rintro _ w14 ⟨ρ18, k, zs, rfl, E15, hS16, hO17, h0k, h1k, hz, hq⟩
    refine W_seq ?_
    refine W_seq ?_
    refine W_region (by kernel_rfl) ?_
    refine s_y (v := .int .i64 k) rfl (y_move rfl) ?_
    refine s_y (v := .slice a n c) rfl (y_move rfl) ?_
    refine s_y (v := .int .i64 ((n : Nat) : Int)) rfl (y_len T70.sl_24_62_1 rfl rfl) ?_
    by_cases c19 : k < ((n : Nat) : Int)
    · refine s_y (v := .bool true) rfl (y_lss rfl rfl (decide_eq_true c19)) ?_
      refine s_nil ?_
      refine W_if_t (by decide) rfl ?_
      refine W_skip ?_
      refine W_seq ?_
      refine W_block ?_
      refine W_region (by kernel_rfl) ?_
      refine s_y (v := .slice (some ⟨b1, 0, none⟩) ((((n : Nat) : Int)).toNat) ((((n : Nat) : Int)).toNat)) rfl (y_move rfl) ?_
      refine s_y (v := .int .i64 k) rfl (y_move rfl) ?_
      refine s_y (v := .slice a n c) rfl (y_move rfl) ?_
      refine s_y (v := .int .i64 k) rfl (y_move rfl) ?_
      refine s_y (v := .pointer (some (sat a ((k).toNat * 1)))) rfl (y_idx T70.sl_24_62_1 rfl rfl (hS16.addr (by rw [flts_length]; omega)) (by omega) (by omega)) ?_
      refine s_y (v := .float .f32 (el x k)) rfl (y_load T70.one_62 rfl (hS16.cell (fl_at (by omega) (by omega)))) ?_
      refine s_y (v := .pointer (some (sat (some ⟨b1, 0, none⟩) ((k).toNat * 1)))) rfl (y_idx T70.sl_24_62_1 rfl rfl (hO17.sl.addr (by rw [flts_length]; omega)) (by omega) (by omega)) ?_
      refine s_k0 rfl (k_storeEl (v := .float .f32 (el x k)) T70.sz_62_1 rfl rfl rfl rfl hO17 (by rw [flts_length]; omega) (fun w20 e21 z22 hO23 => ?_))
      clear z22
      have hS24 := hS16.extL lo_a e21 (fun kx hs hl => (fun hs => fr9 kx hs hl) hs)
      have E25 := E15.fresh e21 (fun kx hs hl => (fun hs => (fr9 kx hs hl).elim) hs)
      have hO26 := hO23.cast rfl (flts_put zs k (el x k))
      have hl27 := (put_length zs k (el x k)).trans hz
      have hc28 := cn_put (rfl : cn zs = cn zs) (cn_el qk k) k
      refine s_nil ?_
      refine W_region (by kernel_rfl) ?_
      refine s_y (v := .int .i64 k) rfl (y_move rfl) ?_
      refine s_y (v := .int .i64 (k + 1)) rfl (y_add rfl rfl rfl (by omega)) ?_
      refine s_y (v := .int .i64 (k + 1)) rfl (y_assign rfl) ?_
      refine s_nil ?_
      refine ⟨⟨_, k + 1, _, Fits.eq ⟨rfl, rfl, rfl, rfl, trivial⟩, E25, hS24, hO26, (by omega), (by omega), hl27, (el_same (by omega) (by omega) (by omega) hq)⟩, ?_⟩
      show ((n : Int) - (k + 1)).toNat < ((n : Int) - k).toNat
      omega
    · refine s_y (v := .bool false) rfl (y_lss rfl rfl (decide_eq_false c19)) ?_
      refine s_nil ?_
      refine W_if_f (by decide) rfl ?_
      refine W_exit ?_
      refine W_seq ?_
      refine W_region (by kernel_rfl) ?_
      refine s_y (v := .slice (some ⟨b1, 0, none⟩) ((((n : Nat) : Int)).toNat) ((((n : Nat) : Int)).toNat)) rfl (y_move rfl) ?_
      refine s_y (v := .slice (some ⟨b1, 0, none⟩) ((((n : Nat) : Int)).toNat) ((((n : Nat) : Int)).toNat)) rfl (y_assign rfl) ?_
      refine s_nil ?_
      refine W_ret ?_
      refine ret1 rfl rfl rfl ⟨_, rfl, ?_⟩
      obtain rfl : zs = x := ext_el (by omega) (fun i h0 h1 => hq i h0 (by omega))
      exact ⟨_, rfl, hO17, E15⟩
namespace T23
theorem mx : Try.prog.follows .mixedOrders = true := by kernel_rfl
theorem agg_26_5 : aggB Try.prog 26 5 = true := by kernel_rfl
theorem fld_26_0_0 : fldB Try.prog 26 0 0 = true := by kernel_rfl
theorem fld_26_1_1 : fldB Try.prog 26 1 1 = true := by kernel_rfl
theorem fld_26_2_2 : fldB Try.prog 26 2 2 = true := by kernel_rfl
theorem fld_26_3_3 : fldB Try.prog 26 3 3 = true := by kernel_rfl
theorem fld_26_4_4 : fldB Try.prog 26 4 4 = true := by kernel_rfl
theorem fld_36_0_0 : fldB Try.prog 36 0 0 = true := by kernel_rfl
theorem fld_36_1_1 : fldB Try.prog 36 1 1 = true := by kernel_rfl
theorem fld_36_2_2 : fldB Try.prog 36 2 2 = true := by kernel_rfl
theorem fld_36_3_3 : fldB Try.prog 36 3 3 = true := by kernel_rfl
theorem fld_36_4_4 : fldB Try.prog 36 4 4 = true := by kernel_rfl
theorem fn_70 : fnB Try.prog 70 = true := by kernel_rfl
theorem one_2 : oneB Try.prog 2 = true := by kernel_rfl
theorem one_24 : oneB Try.prog 24 = true := by kernel_rfl
theorem one_4 : oneB Try.prog 4 = true := by kernel_rfl
theorem sz_2_1 : szB Try.prog 2 1 = true := by kernel_rfl
theorem sz_24_1 : szB Try.prog 24 1 = true := by kernel_rfl
theorem sz_26_5 : szB Try.prog 26 5 = true := by kernel_rfl
theorem sz_4_1 : szB Try.prog 4 1 = true := by kernel_rfl
theorem zero_26 : zeroB Try.prog 26 (.agg #[.int .i64 0, .int .i64 0, .bool false, .slice none 0 0, .slice none 0 0]) := by unfold zeroB; kernel_rfl
end T23
set_option maxRecDepth 100000 in
set_option maxHeartbeats 4000000 in
theorem c_l_toSheet {wd hi : Int} {wr : Bool} {asp : Option Addr} {nsp csp : Nat} {xsp Xsp : List Nat} {als : Option Addr} {nls cls : Nat} {xls Xls : List Nat} (w : World) (qssp : Sl w asp (flts xsp)) (qlsp : xsp.length = nsp) (qksp : cn xsp = Xsp) (qsls : Sl w als (flts xls)) (qlls : xls.length = nls) (qkls : cn xls = Xls) (b1 : nsp ≤ 1048576) (b2 : nls ≤ 1048576) :
    Calls Try.prog 23 #[.agg #[.int .i64 wd, .int .i64 hi, .bool wr, .slice asp nsp csp, .slice als nls cls]] w (Rt fun v w' => (∃ (a1 : Option Addr) (c1 : Nat) (z1 : List Nat) (a2 : Option Addr) (c2 : Nat) (z2 : List Nat), v = .agg #[.int .i64 wd, .int .i64 hi, .bool wr, .slice a1 nsp c1, .slice a2 nls c2] ∧ Own w' w.heap.size a1 nsp c1 62 1 (flts z1) ∧ z1.length = nsp ∧ cn z1 = Xsp ∧ Own w' w.heap.size a2 nls c2 62 1 (flts z2) ∧ z2.length = nls ∧ cn z2 = Xls ∧ (∀ k, inA a1 k → inA a2 k → False)) ∧ Ext0 w w') := by
  have E0 : Ext no w w := Ext.refl _ _
  have hlP : Xsp.length = nsp := (cn_lenX qksp).trans qlsp
  have hlL : Xls.length = nls := (cn_lenX qkls).trans qlls
  have lo_asp := Sl.low qssp
  have lo_als := Sl.low qsls
  refine calls_W (n := 22) Try.func23 rfl rfl (Nat.le_of_ble_eq_true rfl) ?_
  refine W_seq ?_
  refine W_region (by kernel_rfl) ?_
  refine s_k rfl (k_box (v := .agg #[.int .i64 wd, .int .i64 hi, .bool wr, .slice asp nsp csp, .slice als nls cls]) (cs := [.int .i64 wd, .int .i64 hi, .bool wr, .slice asp nsp csp, .slice als nls cls]) rfl rfl (fun b1 w2 q4 e3 hB5 => ?_))
  have hS6 := qssp.ext0 e3
  have hS7 := qsls.ext0 e3
  have E8 := E0.fresh e3 (fun _ h _ => h.elim)
  have fr9 : NotLt b1 w.heap.size := fun h => Nat.not_lt.2 (Nat.le_trans E0.size (Nat.le_of_eq q4.symm)) h
  clear q4
  refine s_k rfl (k_alloc (z := (.agg #[.int .i64 0, .int .i64 0, .bool false, .slice none 0 0, .slice none 0 0])) (cs := [.int .i64 0, .int .i64 0, .bool false, .slice none 0 0, .slice none 0 0]) T23.zero_26 rfl (fun b10 w11 q13 e12 hB14 => ?_))
  have hB15 := hB5.ext0 e12
  have hS16 := hS6.ext0 e12
  have hS17 := hS7.ext0 e12
  have E18 := E8.fresh e12 (fun _ h _ => h.elim)
  have dj19 : NeB b1 b10 := fun h => Nat.ne_of_lt hB5.lt (h.trans q13)
  have fr20 : NotLt b10 w.heap.size := fun h => Nat.not_lt.2 (Nat.le_trans E8.size (Nat.le_of_eq q13.symm)) h
  clear q13
  refine s_nil ?_
  refine W_seq ?_
  refine W_region (by kernel_rfl) ?_
  refine s_k rfl (k_alloc (z := (.agg #[.int .i64 0, .int .i64 0, .bool false, .slice none 0 0, .slice none 0 0])) (cs := [.int .i64 0, .int .i64 0, .bool false, .slice none 0 0, .slice none 0 0]) T23.zero_26 rfl (fun b21 w22 q24 e23 hB25 => ?_))
  have hB26 := hB15.ext0 e23
  have hB27 := hB14.ext0 e23
  have hS28 := hS16.ext0 e23
  have hS29 := hS17.ext0 e23
  have E30 := E18.fresh e23 (fun _ h _ => h.elim)
  have dj31 : NeB b1 b21 := fun h => Nat.ne_of_lt hB15.lt (h.trans q24)
  have dj32 : NeB b10 b21 := fun h => Nat.ne_of_lt hB14.lt (h.trans q24)
  have fr33 : NotLt b21 w.heap.size := fun h => Nat.not_lt.2 (Nat.le_trans E18.size (Nat.le_of_eq q24.symm)) h
  clear q24
  refine s_nil ?_
  refine W_seq ?_
  refine W_region (by kernel_rfl) ?_
  refine s_y (v := .pointer (some ⟨b1, 0, none⟩)) rfl (y_fld (o := 0) T23.fld_36_0_0 rfl) ?_
  refine s_y (v := .int .i64 wd) rfl (y_load T23.one_2 rfl (hB26.cell (j := 0) rfl)) ?_
  refine s_y (v := .pointer (some ⟨b21, 0, none⟩)) rfl (y_fld (o := 0) T23.fld_26_0_0 rfl) ?_
  refine s_k0 rfl (k_store (v := .int .i64 wd) (n := 1) (cs' := [.int .i64 wd, .int .i64 0, .bool false, .slice none 0 0, .slice none 0 0]) T23.sz_2_1 rfl rfl rfl hB25 (by simp [Value.cells, Value.oneCell']) (Nat.le_of_ble_eq_true rfl) rfl (fun w34 e35 z36 hB37 => ?_))
  clear z36
  have hB38 := hB26.ext e35 dj31
  have hB39 := hB27.ext e35 dj32
  have hS40 := hS28.extL lo_asp e35 (fun kx (hs : kx = b21) hl => fr33 (hs ▸ hl))
  have hS41 := hS29.extL lo_als e35 (fun kx (hs : kx = b21) hl => fr33 (hs ▸ hl))
  have E42 := E30.fresh e35 (fun kx (hs : kx = b21) hl => (fr33 (hs ▸ hl)).elim)
  refine s_nil ?_
  refine W_seq ?_
  refine W_region (by kernel_rfl) ?_
  refine s_y (v := .pointer (some ⟨b1, 1, none⟩)) rfl (y_fld (o := 0) T23.fld_36_1_1 rfl) ?_
  refine s_y (v := .int .i64 hi) rfl (y_load T23.one_2 rfl (hB38.cell (j := 1) rfl)) ?_
  refine s_y (v := .pointer (some ⟨b21, 1, none⟩)) rfl (y_fld (o := 0) T23.fld_26_1_1 rfl) ?_
  refine s_k0 rfl (k_store (v := .int .i64 hi) (n := 1) (cs' := [.int .i64 wd, .int .i64 hi, .bool false, .slice none 0 0, .slice none 0 0]) T23.sz_2_1 rfl rfl rfl hB37 (by simp [Value.cells, Value.oneCell']) (Nat.le_of_ble_eq_true rfl) rfl (fun w43 e44 z45 hB46 => ?_))
  clear z45
  have hB47 := hB38.ext e44 dj31
  have hB48 := hB39.ext e44 dj32
  have hS49 := hS40.extL lo_asp e44 (fun kx (hs : kx = b21) hl => fr33 (hs ▸ hl))
  have hS50 := hS41.extL lo_als e44 (fun kx (hs : kx = b21) hl => fr33 (hs ▸ hl))
  have E51 := E42.fresh e44 (fun kx (hs : kx = b21) hl => (fr33 (hs ▸ hl)).elim)
  refine s_nil ?_
  refine W_seq ?_
  refine W_region (by kernel_rfl) ?_
  refine s_y (v := .pointer (some ⟨b1, 2, none⟩)) rfl (y_fld (o := 0) T23.fld_36_2_2 rfl) ?_
  refine s_y (v := .bool wr) rfl (y_load T23.one_4 rfl (hB47.cell (j := 2) rfl)) ?_
  refine s_y (v := .pointer (some ⟨b21, 2, none⟩)) rfl (y_fld (o := 0) T23.fld_26_2_2 rfl) ?_
  refine s_k0 rfl (k_store (v := .bool wr) (n := 1) (cs' := [.int .i64 wd, .int .i64 hi, .bool wr, .slice none 0 0, .slice none 0 0]) T23.sz_4_1 rfl rfl rfl hB46 (by simp [Value.cells, Value.oneCell']) (Nat.le_of_ble_eq_true rfl) rfl (fun w52 e53 z54 hB55 => ?_))
  clear z54
  have hB56 := hB47.ext e53 dj31
  have hB57 := hB48.ext e53 dj32
  have hS58 := hS49.extL lo_asp e53 (fun kx (hs : kx = b21) hl => fr33 (hs ▸ hl))
  have hS59 := hS50.extL lo_als e53 (fun kx (hs : kx = b21) hl => fr33 (hs ▸ hl))
  have E60 := E51.fresh e53 (fun kx (hs : kx = b21) hl => (fr33 (hs ▸ hl)).elim)
  refine s_nil ?_
  refine W_seq ?_
  refine W_region (by kernel_rfl) ?_
  refine s_y (v := .pointer (some ⟨b1, 3, none⟩)) rfl (y_fld (o := 0) T23.fld_36_3_3 rfl) ?_
  refine s_y (v := .slice asp nsp csp) rfl (y_load T23.one_24 rfl (hB56.cell (j := 3) rfl)) ?_
  refine s_k rfl (k_call T23.fn_70 (c_l_toFloat32S _ hS58 qlsp rfl (by omega)) rfl ?_)
  rintro _ w61 ⟨a63, rfl, hO64, e62⟩
  have hB65 := hB56.ext0 e62
  have hB66 := hB57.ext0 e62
  have hB67 := hB55.ext0 e62
  have hS68 := hS58.ext0 e62
  have hS69 := hS59.ext0 e62
  have E70 := E60.fresh e62 (fun _ h _ => h.elim)
  have d71 : ∀ k, inA a63 k → w52.heap.size ≤ k := fun kx hk => (hO64.blk kx hk).1
  have dj72 : inA a63 b1 → False := fun h => Nat.not_lt.2 (d71 _ h) hB56.lt
  have dj73 : inA a63 b10 → False := fun h => Nat.not_lt.2 (d71 _ h) hB57.lt
  have dj74 : inA a63 b21 → False := fun h => Nat.not_lt.2 (d71 _ h) hB55.lt
  have fr75 : ∀ k, inA a63 k → k < w.heap.size → False := fun kx h1 h2 => Nat.not_lt.2 (Nat.le_trans E60.size (d71 kx h1)) h2
  have hO76 := hO64.base E60.size
  refine s_y (v := .pointer (some ⟨b21, 3, none⟩)) rfl (y_fld (o := 0) T23.fld_26_3_3 rfl) ?_
  refine s_k0 rfl (k_store (v := .slice a63 nsp nsp) (n := 1) (cs' := [.int .i64 wd, .int .i64 hi, .bool wr, .slice a63 nsp nsp, .slice none 0 0]) T23.sz_24_1 rfl rfl rfl hB67 (by simp [Value.cells, Value.oneCell']) (Nat.le_of_ble_eq_true rfl) rfl (fun w77 e78 z79 hB80 => ?_))
  clear z79
  have hB81 := hB65.ext e78 dj31
  have hB82 := hB66.ext e78 dj32
  have hS83 := hS68.extL lo_asp e78 (fun kx (hs : kx = b21) hl => fr33 (hs ▸ hl))
  have hS84 := hS69.extL lo_als e78 (fun kx (hs : kx = b21) hl => fr33 (hs ▸ hl))
  have hO85 := hO76.ext e78 (fun kx hk (hs : kx = b21) => dj74 (hs ▸ hk))
  have E86 := E70.fresh e78 (fun kx (hs : kx = b21) hl => (fr33 (hs ▸ hl)).elim)
  refine s_nil ?_
  refine W_seq ?_
  refine W_region (by kernel_rfl) ?_
  refine s_y (v := .pointer (some ⟨b1, 4, none⟩)) rfl (y_fld (o := 0) T23.fld_36_4_4 rfl) ?_
  refine s_y (v := .slice als nls cls) rfl (y_load T23.one_24 rfl (hB81.cell (j := 4) rfl)) ?_
  refine s_k rfl (k_call T23.fn_70 (c_l_toFloat32S _ hS84 qlls rfl (by omega)) rfl ?_)
  rintro _ w87 ⟨a89, rfl, hO90, e88⟩
  have hB91 := hB81.ext0 e88
  have hB92 := hB82.ext0 e88
  have hB93 := hB80.ext0 e88
  have hS94 := hS83.ext0 e88
  have hS95 := hS84.ext0 e88
  have hO96 := hO85.ext0 e88
  have E97 := E86.fresh e88 (fun _ h _ => h.elim)
  have d98 : ∀ k, inA a89 k → w77.heap.size ≤ k := fun kx hk => (hO90.blk kx hk).1
  have dj99 : inA a89 b1 → False := fun h => Nat.not_lt.2 (d98 _ h) hB81.lt
  have dj100 : inA a89 b10 → False := fun h => Nat.not_lt.2 (d98 _ h) hB82.lt
  have dj101 : inA a89 b21 → False := fun h => Nat.not_lt.2 (d98 _ h) hB80.lt
  have dj102 : ∀ k, inA a63 k → inA a89 k → False := fun kx h1 h2 => Nat.not_lt.2 (d98 kx h2) (hO85.blk kx h1).2
  have fr103 : ∀ k, inA a89 k → k < w.heap.size → False := fun kx h1 h2 => Nat.not_lt.2 (Nat.le_trans E86.size (d98 kx h1)) h2
  have hO104 := hO90.base E86.size
  refine s_y (v := .pointer (some ⟨b21, 4, none⟩)) rfl (y_fld (o := 0) T23.fld_26_4_4 rfl) ?_
  refine s_k0 rfl (k_store (v := .slice a89 nls nls) (n := 1) (cs' := [.int .i64 wd, .int .i64 hi, .bool wr, .slice a63 nsp nsp, .slice a89 nls nls]) T23.sz_24_1 rfl rfl rfl hB93 (by simp [Value.cells, Value.oneCell']) (Nat.le_of_ble_eq_true rfl) rfl (fun w105 e106 z107 hB108 => ?_))
  clear z107
  have hB109 := hB91.ext e106 dj31
  have hB110 := hB92.ext e106 dj32
  have hS111 := hS94.extL lo_asp e106 (fun kx (hs : kx = b21) hl => fr33 (hs ▸ hl))
  have hS112 := hS95.extL lo_als e106 (fun kx (hs : kx = b21) hl => fr33 (hs ▸ hl))
  have hO113 := hO96.ext e106 (fun kx hk (hs : kx = b21) => dj74 (hs ▸ hk))
  have hO114 := hO104.ext e106 (fun kx hk (hs : kx = b21) => dj101 (hs ▸ hk))
  have E115 := E97.fresh e106 (fun kx (hs : kx = b21) hl => (fr33 (hs ▸ hl)).elim)
  refine s_nil ?_
  refine W_seq ?_
  refine W_region (by kernel_rfl) ?_
  refine s_y (v := .agg #[.int .i64 wd, .int .i64 hi, .bool wr, .slice a63 nsp nsp, .slice a89 nls nls]) rfl (y_loadn (b := b21) (o := 0) (vs := [.int .i64 wd, .int .i64 hi, .bool wr, .slice a63 nsp nsp, .slice a89 nls nls]) T23.agg_26_5 rfl rfl (hB108.cells (o := 0) rfl)) ?_
  refine s_k0 rfl (k_store (v := .agg #[.int .i64 wd, .int .i64 hi, .bool wr, .slice a63 nsp nsp, .slice a89 nls nls]) (n := 5) (cs' := [.int .i64 wd, .int .i64 hi, .bool wr, .slice a63 nsp nsp, .slice a89 nls nls]) T23.sz_26_5 rfl rfl rfl hB110 (by simp [Value.cells, Value.oneCell']) (Nat.le_of_ble_eq_true rfl) rfl (fun w116 e117 z118 hB119 => ?_))
  clear z118
  have hB120 := hB109.ext e117 dj19
  have hB121 := hB108.ext e117 (fun h => dj32 h.symm)
  have hS122 := hS111.extL lo_asp e117 (fun kx (hs : kx = b10) hl => fr20 (hs ▸ hl))
  have hS123 := hS112.extL lo_als e117 (fun kx (hs : kx = b10) hl => fr20 (hs ▸ hl))
  have hO124 := hO113.ext e117 (fun kx hk (hs : kx = b10) => dj73 (hs ▸ hk))
  have hO125 := hO114.ext e117 (fun kx hk (hs : kx = b10) => dj100 (hs ▸ hk))
  have E126 := E115.fresh e117 (fun kx (hs : kx = b10) hl => (fr20 (hs ▸ hl)).elim)
  refine s_nil ?_
  refine W_ret ?_
  refine ret1 rfl rfl ⟨_, [.int .i64 wd, .int .i64 hi, .bool wr, .slice a63 nsp nsp, .slice a89 nls nls], _, rfl, hB119, T23.agg_26_5, rfl⟩ ⟨_, rfl, ?_⟩
  exact ⟨⟨_, _, _, _, _, _, rfl, hO124, qlsp, qksp, hO125, qlls, qkls, dj102⟩, E126⟩
namespace T43
theorem mx : Try.prog.follows .mixedOrders = true := by kernel_rfl
theorem agg_65_3 : aggB Try.prog 65 3 = true := by kernel_rfl
theorem fld_60_0_0 : fldB Try.prog 60 0 0 = true := by kernel_rfl
theorem fld_60_1_1 : fldB Try.prog 60 1 1 = true := by kernel_rfl
theorem fld_60_2_2 : fldB Try.prog 60 2 2 = true := by kernel_rfl
theorem fld_65_0_0 : fldB Try.prog 65 0 0 = true := by kernel_rfl
theorem fld_65_1_1 : fldB Try.prog 65 1 1 = true := by kernel_rfl
theorem fld_65_2_2 : fldB Try.prog 65 2 2 = true := by kernel_rfl
theorem fn_70 : fnB Try.prog 70 = true := by kernel_rfl
theorem one_24 : oneB Try.prog 24 = true := by kernel_rfl
theorem sz_24_1 : szB Try.prog 24 1 = true := by kernel_rfl
theorem sz_65_3 : szB Try.prog 65 3 = true := by kernel_rfl
theorem zero_65 : zeroB Try.prog 65 (.agg #[.slice none 0 0, .slice none 0 0, .slice none 0 0]) := by unfold zeroB; kernel_rfl
end T43
set_option maxRecDepth 100000 in
set_option maxHeartbeats 4000000 in
theorem c_l_toField {afe : Option Addr} {nfe cfe : Nat} {xfe Xfe : List Nat} {afx : Option Addr} {nfx cfx : Nat} {xfx Xfx : List Nat} {afy : Option Addr} {nfy cfy : Nat} {xfy Xfy : List Nat} (w : World) (qsfe : Sl w afe (flts xfe)) (qlfe : xfe.length = nfe) (qkfe : cn xfe = Xfe) (qsfx : Sl w afx (flts xfx)) (qlfx : xfx.length = nfx) (qkfx : cn xfx = Xfx) (qsfy : Sl w afy (flts xfy)) (qlfy : xfy.length = nfy) (qkfy : cn xfy = Xfy) (bfe : nfe ≤ 1048576) (bfx : nfx ≤ 1048576) (bfy : nfy ≤ 1048576) :
    Calls Try.prog 43 #[.agg #[.slice afe nfe cfe, .slice afx nfx cfx, .slice afy nfy cfy]] w (Rt fun v w' => (∃ (a1 : Option Addr) (c1 : Nat) (z1 : List Nat) (a2 : Option Addr) (c2 : Nat) (z2 : List Nat) (a3 : Option Addr) (c3 : Nat) (z3 : List Nat), v = .agg #[.slice a1 nfe c1, .slice a2 nfx c2, .slice a3 nfy c3] ∧ Own w' w.heap.size a1 nfe c1 62 1 (flts z1) ∧ z1.length = nfe ∧ cn z1 = Xfe ∧ Own w' w.heap.size a2 nfx c2 62 1 (flts z2) ∧ z2.length = nfx ∧ cn z2 = Xfx ∧ Own w' w.heap.size a3 nfy c3 62 1 (flts z3) ∧ z3.length = nfy ∧ cn z3 = Xfy ∧ (∀ k, inA a1 k → inA a2 k → False) ∧ (∀ k, inA a1 k → inA a3 k → False) ∧ (∀ k, inA a2 k → inA a3 k → False)) ∧ Ext0 w w') := by
  have E0 : Ext no w w := Ext.refl _ _
  have lo_afe := Sl.low qsfe
  have lo_afx := Sl.low qsfx
  have lo_afy := Sl.low qsfy
  refine calls_W (n := 17) Try.func43 rfl rfl (Nat.le_of_ble_eq_true rfl) ?_
  refine W_seq ?_
  refine W_region (by kernel_rfl) ?_
  refine s_k rfl (k_box (v := .agg #[.slice afe nfe cfe, .slice afx nfx cfx, .slice afy nfy cfy]) (cs := [.slice afe nfe cfe, .slice afx nfx cfx, .slice afy nfy cfy]) rfl rfl (fun b1 w2 q4 e3 hB5 => ?_))
  have hS6 := qsfe.ext0 e3
  have hS7 := qsfx.ext0 e3
  have hS8 := qsfy.ext0 e3
  have E9 := E0.fresh e3 (fun _ h _ => h.elim)
  have fr10 : NotLt b1 w.heap.size := fun h => Nat.not_lt.2 (Nat.le_trans E0.size (Nat.le_of_eq q4.symm)) h
  clear q4
  refine s_k rfl (k_alloc (z := (.agg #[.slice none 0 0, .slice none 0 0, .slice none 0 0])) (cs := [.slice none 0 0, .slice none 0 0, .slice none 0 0]) T43.zero_65 rfl (fun b11 w12 q14 e13 hB15 => ?_))
  have hB16 := hB5.ext0 e13
  have hS17 := hS6.ext0 e13
  have hS18 := hS7.ext0 e13
  have hS19 := hS8.ext0 e13
  have E20 := E9.fresh e13 (fun _ h _ => h.elim)
  have dj21 : NeB b1 b11 := fun h => Nat.ne_of_lt hB5.lt (h.trans q14)
  have fr22 : NotLt b11 w.heap.size := fun h => Nat.not_lt.2 (Nat.le_trans E9.size (Nat.le_of_eq q14.symm)) h
  clear q14
  refine s_nil ?_
  refine W_seq ?_
  refine W_region (by kernel_rfl) ?_
  refine s_k rfl (k_alloc (z := (.agg #[.slice none 0 0, .slice none 0 0, .slice none 0 0])) (cs := [.slice none 0 0, .slice none 0 0, .slice none 0 0]) T43.zero_65 rfl (fun b23 w24 q26 e25 hB27 => ?_))
  have hB28 := hB16.ext0 e25
  have hB29 := hB15.ext0 e25
  have hS30 := hS17.ext0 e25
  have hS31 := hS18.ext0 e25
  have hS32 := hS19.ext0 e25
  have E33 := E20.fresh e25 (fun _ h _ => h.elim)
  have dj34 : NeB b1 b23 := fun h => Nat.ne_of_lt hB16.lt (h.trans q26)
  have dj35 : NeB b11 b23 := fun h => Nat.ne_of_lt hB15.lt (h.trans q26)
  have fr36 : NotLt b23 w.heap.size := fun h => Nat.not_lt.2 (Nat.le_trans E20.size (Nat.le_of_eq q26.symm)) h
  clear q26
  refine s_nil ?_
  refine W_seq ?_
  refine W_region (by kernel_rfl) ?_
  refine s_y (v := .pointer (some ⟨b1, 0, none⟩)) rfl (y_fld (o := 0) T43.fld_60_0_0 rfl) ?_
  refine s_y (v := .slice afe nfe cfe) rfl (y_load T43.one_24 rfl (hB28.cell (j := 0) rfl)) ?_
  refine s_k rfl (k_call T43.fn_70 (c_l_toFloat32S _ hS30 qlfe rfl (by omega)) rfl ?_)
  rintro _ w37 ⟨a39, rfl, hO40, e38⟩
  have hB41 := hB28.ext0 e38
  have hB42 := hB29.ext0 e38
  have hB43 := hB27.ext0 e38
  have hS44 := hS30.ext0 e38
  have hS45 := hS31.ext0 e38
  have hS46 := hS32.ext0 e38
  have E47 := E33.fresh e38 (fun _ h _ => h.elim)
  have d48 : ∀ k, inA a39 k → w24.heap.size ≤ k := fun kx hk => (hO40.blk kx hk).1
  have dj49 : inA a39 b1 → False := fun h => Nat.not_lt.2 (d48 _ h) hB28.lt
  have dj50 : inA a39 b11 → False := fun h => Nat.not_lt.2 (d48 _ h) hB29.lt
  have dj51 : inA a39 b23 → False := fun h => Nat.not_lt.2 (d48 _ h) hB27.lt
  have fr52 : ∀ k, inA a39 k → k < w.heap.size → False := fun kx h1 h2 => Nat.not_lt.2 (Nat.le_trans E33.size (d48 kx h1)) h2
  have hO53 := hO40.base E33.size
  refine s_y (v := .pointer (some ⟨b23, 0, none⟩)) rfl (y_fld (o := 0) T43.fld_65_0_0 rfl) ?_
  refine s_k0 rfl (k_store (v := .slice a39 nfe nfe) (n := 1) (cs' := [.slice a39 nfe nfe, .slice none 0 0, .slice none 0 0]) T43.sz_24_1 rfl rfl rfl hB43 (by simp [Value.cells, Value.oneCell']) (Nat.le_of_ble_eq_true rfl) rfl (fun w54 e55 z56 hB57 => ?_))
  clear z56
  have hB58 := hB41.ext e55 dj34
  have hB59 := hB42.ext e55 dj35
  have hS60 := hS44.extL lo_afe e55 (fun kx (hs : kx = b23) hl => fr36 (hs ▸ hl))
  have hS61 := hS45.extL lo_afx e55 (fun kx (hs : kx = b23) hl => fr36 (hs ▸ hl))
  have hS62 := hS46.extL lo_afy e55 (fun kx (hs : kx = b23) hl => fr36 (hs ▸ hl))
  have hO63 := hO53.ext e55 (fun kx hk (hs : kx = b23) => dj51 (hs ▸ hk))
  have E64 := E47.fresh e55 (fun kx (hs : kx = b23) hl => (fr36 (hs ▸ hl)).elim)
  refine s_nil ?_
  refine W_seq ?_
  refine W_region (by kernel_rfl) ?_
  refine s_y (v := .pointer (some ⟨b1, 1, none⟩)) rfl (y_fld (o := 0) T43.fld_60_1_1 rfl) ?_
  refine s_y (v := .slice afx nfx cfx) rfl (y_load T43.one_24 rfl (hB58.cell (j := 1) rfl)) ?_
  refine s_k rfl (k_call T43.fn_70 (c_l_toFloat32S _ hS61 qlfx rfl (by omega)) rfl ?_)
  rintro _ w65 ⟨a67, rfl, hO68, e66⟩
  have hB69 := hB58.ext0 e66
  have hB70 := hB59.ext0 e66
  have hB71 := hB57.ext0 e66
  have hS72 := hS60.ext0 e66
  have hS73 := hS61.ext0 e66
  have hS74 := hS62.ext0 e66
  have hO75 := hO63.ext0 e66
  have E76 := E64.fresh e66 (fun _ h _ => h.elim)
  have d77 : ∀ k, inA a67 k → w54.heap.size ≤ k := fun kx hk => (hO68.blk kx hk).1
  have dj78 : inA a67 b1 → False := fun h => Nat.not_lt.2 (d77 _ h) hB58.lt
  have dj79 : inA a67 b11 → False := fun h => Nat.not_lt.2 (d77 _ h) hB59.lt
  have dj80 : inA a67 b23 → False := fun h => Nat.not_lt.2 (d77 _ h) hB57.lt
  have dj81 : ∀ k, inA a39 k → inA a67 k → False := fun kx h1 h2 => Nat.not_lt.2 (d77 kx h2) (hO63.blk kx h1).2
  have fr82 : ∀ k, inA a67 k → k < w.heap.size → False := fun kx h1 h2 => Nat.not_lt.2 (Nat.le_trans E64.size (d77 kx h1)) h2
  have hO83 := hO68.base E64.size
  refine s_y (v := .pointer (some ⟨b23, 1, none⟩)) rfl (y_fld (o := 0) T43.fld_65_1_1 rfl) ?_
  refine s_k0 rfl (k_store (v := .slice a67 nfx nfx) (n := 1) (cs' := [.slice a39 nfe nfe, .slice a67 nfx nfx, .slice none 0 0]) T43.sz_24_1 rfl rfl rfl hB71 (by simp [Value.cells, Value.oneCell']) (Nat.le_of_ble_eq_true rfl) rfl (fun w84 e85 z86 hB87 => ?_))
  clear z86
  have hB88 := hB69.ext e85 dj34
  have hB89 := hB70.ext e85 dj35
  have hS90 := hS72.extL lo_afe e85 (fun kx (hs : kx = b23) hl => fr36 (hs ▸ hl))
  have hS91 := hS73.extL lo_afx e85 (fun kx (hs : kx = b23) hl => fr36 (hs ▸ hl))
  have hS92 := hS74.extL lo_afy e85 (fun kx (hs : kx = b23) hl => fr36 (hs ▸ hl))
  have hO93 := hO75.ext e85 (fun kx hk (hs : kx = b23) => dj51 (hs ▸ hk))
  have hO94 := hO83.ext e85 (fun kx hk (hs : kx = b23) => dj80 (hs ▸ hk))
  have E95 := E76.fresh e85 (fun kx (hs : kx = b23) hl => (fr36 (hs ▸ hl)).elim)
  refine s_nil ?_
  refine W_seq ?_
  refine W_region (by kernel_rfl) ?_
  refine s_y (v := .pointer (some ⟨b1, 2, none⟩)) rfl (y_fld (o := 0) T43.fld_60_2_2 rfl) ?_
  refine s_y (v := .slice afy nfy cfy) rfl (y_load T43.one_24 rfl (hB88.cell (j := 2) rfl)) ?_
  refine s_k rfl (k_call T43.fn_70 (c_l_toFloat32S _ hS92 qlfy rfl (by omega)) rfl ?_)
  rintro _ w96 ⟨a98, rfl, hO99, e97⟩
  have hB100 := hB88.ext0 e97
  have hB101 := hB89.ext0 e97
  have hB102 := hB87.ext0 e97
  have hS103 := hS90.ext0 e97
  have hS104 := hS91.ext0 e97
  have hS105 := hS92.ext0 e97
  have hO106 := hO93.ext0 e97
  have hO107 := hO94.ext0 e97
  have E108 := E95.fresh e97 (fun _ h _ => h.elim)
  have d109 : ∀ k, inA a98 k → w84.heap.size ≤ k := fun kx hk => (hO99.blk kx hk).1
  have dj110 : inA a98 b1 → False := fun h => Nat.not_lt.2 (d109 _ h) hB88.lt
  have dj111 : inA a98 b11 → False := fun h => Nat.not_lt.2 (d109 _ h) hB89.lt
  have dj112 : inA a98 b23 → False := fun h => Nat.not_lt.2 (d109 _ h) hB87.lt
  have dj113 : ∀ k, inA a39 k → inA a98 k → False := fun kx h1 h2 => Nat.not_lt.2 (d109 kx h2) (hO93.blk kx h1).2
  have dj114 : ∀ k, inA a67 k → inA a98 k → False := fun kx h1 h2 => Nat.not_lt.2 (d109 kx h2) (hO94.blk kx h1).2
  have fr115 : ∀ k, inA a98 k → k < w.heap.size → False := fun kx h1 h2 => Nat.not_lt.2 (Nat.le_trans E95.size (d109 kx h1)) h2
  have hO116 := hO99.base E95.size
  refine s_y (v := .pointer (some ⟨b23, 2, none⟩)) rfl (y_fld (o := 0) T43.fld_65_2_2 rfl) ?_
  refine s_k0 rfl (k_store (v := .slice a98 nfy nfy) (n := 1) (cs' := [.slice a39 nfe nfe, .slice a67 nfx nfx, .slice a98 nfy nfy]) T43.sz_24_1 rfl rfl rfl hB102 (by simp [Value.cells, Value.oneCell']) (Nat.le_of_ble_eq_true rfl) rfl (fun w117 e118 z119 hB120 => ?_))
  clear z119
  have hB121 := hB100.ext e118 dj34
  have hB122 := hB101.ext e118 dj35
  have hS123 := hS103.extL lo_afe e118 (fun kx (hs : kx = b23) hl => fr36 (hs ▸ hl))
  have hS124 := hS104.extL lo_afx e118 (fun kx (hs : kx = b23) hl => fr36 (hs ▸ hl))
  have hS125 := hS105.extL lo_afy e118 (fun kx (hs : kx = b23) hl => fr36 (hs ▸ hl))
  have hO126 := hO106.ext e118 (fun kx hk (hs : kx = b23) => dj51 (hs ▸ hk))
  have hO127 := hO107.ext e118 (fun kx hk (hs : kx = b23) => dj80 (hs ▸ hk))
  have hO128 := hO116.ext e118 (fun kx hk (hs : kx = b23) => dj112 (hs ▸ hk))
  have E129 := E108.fresh e118 (fun kx (hs : kx = b23) hl => (fr36 (hs ▸ hl)).elim)
  refine s_nil ?_
  refine W_seq ?_
  refine W_region (by kernel_rfl) ?_
  refine s_y (v := .agg #[.slice a39 nfe nfe, .slice a67 nfx nfx, .slice a98 nfy nfy]) rfl (y_loadn (b := b23) (o := 0) (vs := [.slice a39 nfe nfe, .slice a67 nfx nfx, .slice a98 nfy nfy]) T43.agg_65_3 rfl rfl (hB120.cells (o := 0) rfl)) ?_
  refine s_k0 rfl (k_store (v := .agg #[.slice a39 nfe nfe, .slice a67 nfx nfx, .slice a98 nfy nfy]) (n := 3) (cs' := [.slice a39 nfe nfe, .slice a67 nfx nfx, .slice a98 nfy nfy]) T43.sz_65_3 rfl rfl rfl hB122 (by simp [Value.cells, Value.oneCell']) (Nat.le_of_ble_eq_true rfl) rfl (fun w130 e131 z132 hB133 => ?_))
  clear z132
  have hB134 := hB121.ext e131 dj21
  have hB135 := hB120.ext e131 (fun h => dj35 h.symm)
  have hS136 := hS123.extL lo_afe e131 (fun kx (hs : kx = b11) hl => fr22 (hs ▸ hl))
  have hS137 := hS124.extL lo_afx e131 (fun kx (hs : kx = b11) hl => fr22 (hs ▸ hl))
  have hS138 := hS125.extL lo_afy e131 (fun kx (hs : kx = b11) hl => fr22 (hs ▸ hl))
  have hO139 := hO126.ext e131 (fun kx hk (hs : kx = b11) => dj50 (hs ▸ hk))
  have hO140 := hO127.ext e131 (fun kx hk (hs : kx = b11) => dj79 (hs ▸ hk))
  have hO141 := hO128.ext e131 (fun kx hk (hs : kx = b11) => dj111 (hs ▸ hk))
  have E142 := E129.fresh e131 (fun kx (hs : kx = b11) hl => (fr22 (hs ▸ hl)).elim)
  refine s_nil ?_
  refine W_ret ?_
  refine ret1 rfl rfl ⟨_, [.slice a39 nfe nfe, .slice a67 nfx nfx, .slice a98 nfy nfy], _, rfl, hB133, T43.agg_65_3, rfl⟩ ⟨_, rfl, ?_⟩
  exact ⟨⟨_, _, _, _, _, _, _, _, _, rfl, hO139, qlfe, qkfe, hO140, qlfx, qkfx, hO141, qlfy, qkfy, dj81, dj113, dj114⟩, E142⟩
namespace T88
theorem mx : Try.prog.follows .mixedOrders = true := by kernel_rfl
end T88
set_option maxRecDepth 100000 in
set_option maxHeartbeats 4000000 in
theorem c_s_l00In (n lo hi : Int) (w : World) :
    Calls Try.prog 88 #[.int .i64 n, .int .i64 lo, .int .i64 hi] w (Rt fun v w' => v = .bool (within n lo hi) ∧ Ext0 w w') := by
  have E0 : Ext no w w := Ext.refl _ _
  refine calls_W (n := 15) Try.func88 rfl rfl (Nat.le_of_ble_eq_true rfl) ?_
  refine W_seq ?_
  refine W_region (by kernel_rfl) ?_
  refine s_y (v := .bool false) rfl (y_assign rfl) ?_
  refine s_nil ?_
  refine W_seq ?_
  refine W_region (by kernel_rfl) ?_
  refine s_y (v := .int .i64 n) rfl (y_move rfl) ?_
  refine s_y (v := .int .i64 lo) rfl (y_move rfl) ?_
  by_cases c1 : lo ≤ n
  · refine s_y (v := .bool true) rfl (y_geq rfl rfl (decide_eq_true c1)) ?_
    refine s_y (v := .bool true) rfl (y_move rfl) ?_
    refine s_y (v := .int .i64 n) rfl (y_move rfl) ?_
    refine s_y (v := .int .i64 hi) rfl (y_move rfl) ?_
    by_cases c2 : n ≤ hi
    · refine s_y (v := .bool true) rfl (y_leq rfl rfl (decide_eq_true c2)) ?_
      refine s_y (v := .bool true) rfl (y_pick_t rfl rfl) ?_
      refine s_y (v := .bool true) rfl (y_assign rfl) ?_
      refine s_nil ?_
      refine W_ret ?_
      refine ret1 rfl rfl rfl ⟨_, rfl, ?_⟩
      exact ⟨congrArg Value.bool (by simp [within] <;> omega), E0⟩
    · refine s_y (v := .bool false) rfl (y_leq rfl rfl (decide_eq_false c2)) ?_
      refine s_y (v := .bool false) rfl (y_pick_t rfl rfl) ?_
      refine s_y (v := .bool false) rfl (y_assign rfl) ?_
      refine s_nil ?_
      refine W_ret ?_
      refine ret1 rfl rfl rfl ⟨_, rfl, ?_⟩
      exact ⟨congrArg Value.bool (by simp [within] <;> omega), E0⟩
  · refine s_y (v := .bool false) rfl (y_geq rfl rfl (decide_eq_false c1)) ?_
    refine s_y (v := .bool false) rfl (y_move rfl) ?_
    refine s_skip rfl ?_
    refine s_skip rfl ?_
    refine s_skip rfl ?_
    refine s_y (v := .bool false) rfl (y_pick_f rfl rfl) ?_
    refine s_y (v := .bool false) rfl (y_assign rfl) ?_
    refine s_nil ?_
    refine W_ret ?_
    refine ret1 rfl rfl rfl ⟨_, rfl, ?_⟩
    exact ⟨congrArg Value.bool (by simp [within] <;> omega), E0⟩
namespace T103
theorem mx : Try.prog.follows .mixedOrders = true := by kernel_rfl
theorem fn_88 : fnB Try.prog 88 = true := by kernel_rfl
end T103
set_option maxRecDepth 100000 in
set_option maxHeartbeats 4000000 in
theorem c_s_l02Sides {wd hi : Int} (w : World) :
    Calls Try.prog 103 #[.int .i64 wd, .int .i64 hi] w (Rt fun v w' => v = .bool (sidesB wd hi) ∧ Ext0 w w') := by
  have E0 : Ext no w w := Ext.refl _ _
  refine calls_W (n := 17) Try.func103 rfl rfl (Nat.le_of_ble_eq_true rfl) ?_
  refine W_seq ?_
  refine W_region (by kernel_rfl) ?_
  refine s_y (v := .bool false) rfl (y_assign rfl) ?_
  refine s_nil ?_
  refine W_seq ?_
  refine W_region (by kernel_rfl) ?_
  refine s_y (v := .int .i64 wd) rfl (y_move rfl) ?_
  refine s_k rfl (k_call T103.fn_88 (c_s_l00In _ _ _ _) rfl ?_)
  rintro v3 w1 ⟨hv4, e2⟩
  have E5 := E0.fresh e2 (fun _ h _ => h.elim)
  by_cases c6 : within wd 3 16 = true
  · have hb7 := within_b c6
    obtain rfl : v3 = .bool true := hv4.trans (congrArg Value.bool c6)
    refine s_y (v := .bool true) rfl (y_move rfl) ?_
    refine s_y (v := .int .i64 hi) rfl (y_move rfl) ?_
    refine s_k rfl (k_call T103.fn_88 (c_s_l00In _ _ _ _) rfl ?_)
    rintro v10 w8 ⟨hv11, e9⟩
    have E12 := E5.fresh e9 (fun _ h _ => h.elim)
    by_cases c13 : within hi 3 16 = true
    · have hb14 := within_b c13
      obtain rfl : v10 = .bool true := hv11.trans (congrArg Value.bool c13)
      refine s_y (v := .bool true) rfl (y_pick_t rfl rfl) ?_
      refine s_y (v := .bool true) rfl (y_move rfl) ?_
      refine s_y (v := .int .i64 wd) rfl (y_move rfl) ?_
      refine s_y (v := .int .i64 hi) rfl (y_move rfl) ?_
      have hm15 := mulb (a := wd) (b := hi) (by omega) (by omega) (by omega) (by omega)
      refine s_y (v := .int .i64 (wd * hi)) rfl (y_mul rfl rfl rfl (by omega)) ?_
      have hk16 : (wd * hi) ≤ 256 := (mul16 (And.intro (within_b c6) (within_b c13))).2
      refine s_y (v := .bool true) rfl (y_leq rfl rfl (decide_eq_true hk16)) ?_
      refine s_y (v := .bool true) rfl (y_pick_t rfl rfl) ?_
      refine s_y (v := .bool true) rfl (y_assign rfl) ?_
      refine s_nil ?_
      refine W_ret ?_
      refine ret1 rfl rfl rfl ⟨_, rfl, ?_⟩
      exact ⟨congrArg Value.bool (by simp only [sidesB, c6, c13, (decide_eq_true hk16), Bool.and_true, Bool.true_and, Bool.and_false, Bool.false_and, Bool.not_true, Bool.not_false, Bool.or_true, Bool.true_or, Bool.or_false, Bool.false_or]), E12⟩
    · obtain rfl : v10 = .bool false := hv11.trans (congrArg Value.bool (Bool.eq_false_iff.2 c13))
      refine s_y (v := .bool false) rfl (y_pick_t rfl rfl) ?_
      refine s_y (v := .bool false) rfl (y_move rfl) ?_
      refine s_skip rfl ?_
      refine s_skip rfl ?_
      refine s_skip rfl ?_
      refine s_skip rfl ?_
      refine s_y (v := .bool false) rfl (y_pick_f rfl rfl) ?_
      refine s_y (v := .bool false) rfl (y_assign rfl) ?_
      refine s_nil ?_
      refine W_ret ?_
      refine ret1 rfl rfl rfl ⟨_, rfl, ?_⟩
      exact ⟨congrArg Value.bool (by simp only [sidesB, c6, (Bool.eq_false_iff.2 c13), Bool.and_true, Bool.true_and, Bool.and_false, Bool.false_and, Bool.not_true, Bool.not_false, Bool.or_true, Bool.true_or, Bool.or_false, Bool.false_or]), E12⟩
  · obtain rfl : v3 = .bool false := hv4.trans (congrArg Value.bool (Bool.eq_false_iff.2 c6))
    refine s_y (v := .bool false) rfl (y_move rfl) ?_
    refine s_skip rfl ?_
    refine s_skip rfl ?_
    refine s_y (v := .bool false) rfl (y_pick_f rfl rfl) ?_
    refine s_y (v := .bool false) rfl (y_move rfl) ?_
    refine s_skip rfl ?_
    refine s_skip rfl ?_
    refine s_skip rfl ?_
    refine s_skip rfl ?_
    refine s_y (v := .bool false) rfl (y_pick_f rfl rfl) ?_
    refine s_y (v := .bool false) rfl (y_assign rfl) ?_
    refine s_nil ?_
    refine W_ret ?_
    refine ret1 rfl rfl rfl ⟨_, rfl, ?_⟩
    exact ⟨congrArg Value.bool (by simp only [sidesB, (Bool.eq_false_iff.2 c6), Bool.and_true, Bool.true_and, Bool.and_false, Bool.false_and, Bool.not_true, Bool.not_false, Bool.or_true, Bool.true_or, Bool.or_false, Bool.false_or]), E5⟩
namespace T69
theorem mx : Try.prog.follows .mixedOrders = true := by kernel_rfl
theorem fld_26_0_0 : fldB Try.prog 26 0 0 = true := by kernel_rfl
theorem fld_26_1_1 : fldB Try.prog 26 1 1 = true := by kernel_rfl
theorem fld_26_3_3 : fldB Try.prog 26 3 3 = true := by kernel_rfl
theorem fld_26_4_4 : fldB Try.prog 26 4 4 = true := by kernel_rfl
theorem fn_103 : fnB Try.prog 103 = true := by kernel_rfl
theorem one_2 : oneB Try.prog 2 = true := by kernel_rfl
theorem one_24 : oneB Try.prog 24 = true := by kernel_rfl
theorem one_62 : oneB Try.prog 62 = true := by kernel_rfl
theorem sl_24_62_1 : slB Try.prog 24 62 1 = true := by kernel_rfl
end T69
set_option maxRecDepth 100000 in
set_option maxHeartbeats 4000000 in
theorem c_s_l02Is {wd hi : Int} {wr : Bool} {asp : Option Addr} {nsp csp : Nat} {xsp Xsp : List Nat} {als : Option Addr} {nls cls : Nat} {xls Xls : List Nat} {b o : Nat} (w : World) (qssp : Sl w asp (flts xsp)) (qlsp : xsp.length = nsp) (qksp : cn xsp = Xsp) (qsls : Sl w als (flts xls)) (qlls : xls.length = nls) (qkls : cn xls = Xls) (hP : Sl w (some ⟨b, o, none⟩) [.int .i64 wd, .int .i64 hi, .bool wr, .slice asp nsp csp, .slice als nls cls]) (hb1 : nsp ≤ 9223372036854775806) (hb2 : nls ≤ 9223372036854775806) :
    Calls Try.prog 69 #[.pointer (some ⟨b, o, none⟩)] w (Rt fun v w' => v = .bool (validS wd hi Xsp Xls) ∧ Ext0 w w') := by
  have E0 : Ext no w w := Ext.refl _ _
  have hlP : Xsp.length = nsp := (cn_lenX qksp).trans qlsp
  have hlL : Xls.length = nls := (cn_lenX qkls).trans qlls
  have lo_asp := Sl.low qssp
  have lo_als := Sl.low qsls
  have lo_some_b_o_none := Sl.low hP
  refine calls_W (n := 97) Try.func69 rfl rfl (Nat.le_of_ble_eq_true rfl) ?_
  refine W_seq ?_
  refine W_region (by kernel_rfl) ?_
  refine s_y (v := .bool false) rfl (y_assign rfl) ?_
  refine s_nil ?_
  refine W_seq ?_
  refine W_seq ?_
  refine W_draw (no) T69.mx (by kernel_rfl) (fun w1 e2 => ?_)
  have hS3 := qssp.ext0 e2
  have hS4 := qsls.ext0 e2
  have hS5 := hP.ext0 e2
  have E6 := E0.fresh e2 (fun _ h _ => h.elim)
  have R7 := (Ext.refl (no) w).trans (Ext0.any e2)
  refine m_y (v := .pointer (some ⟨b, o, none⟩)) 0 rfl (by kernel_rfl) rfl rfl (fun w' e' => y_move rfl) ?_
  refine m_y (v := .pointer (some ⟨b, o, none⟩)) 1 rfl (by kernel_rfl) rfl rfl (fun w' e' => y_nil rfl) ?_
  refine m_y (v := .pointer (some ⟨b, o, none⟩)) 2 rfl (by kernel_rfl) rfl rfl (fun w' e' => y_fld (o := o + 0) T69.fld_26_0_0 rfl) ?_
  refine m_y (v := .int .i64 wd) 3 rfl (by kernel_rfl) rfl rfl (fun w' e' => y_load T69.one_2 rfl ((hP.ext0 e').cell (j := 0) rfl)) ?_
  refine m_y (v := .pointer (some ⟨b, o, none⟩)) 4 rfl (by kernel_rfl) rfl rfl (fun w' e' => y_move rfl) ?_
  refine m_y (v := .pointer (some ⟨b, o, none⟩)) 5 rfl (by kernel_rfl) rfl rfl (fun w' e' => y_nil rfl) ?_
  refine m_y (v := .pointer (some ⟨b, o + 1, none⟩)) 6 rfl (by kernel_rfl) rfl rfl (fun w' e' => y_fld (o := o + 0) T69.fld_26_1_1 rfl) ?_
  refine m_y (v := .int .i64 hi) 7 rfl (by kernel_rfl) rfl rfl (fun w' e' => y_load T69.one_2 rfl ((hP.ext0 e').cell (j := 1) rfl)) ?_
  refine m_k 8 [9, 10, 11, 12, 13, 14, 15, 16, 17, 18, 19, 20, 21, 22, 23, 24, 25, 26, 27, 28, 29, 30, 31, 32, 33, 34, 35, 36, 37, 38, 39, 40, 41, 42, 43] rfl (by kernel_rfl) rfl rfl (fun w8 e9 => ?_)
  have hS10 := hS3.ext0 e9
  have hS11 := hS4.ext0 e9
  have hS12 := hS5.ext0 e9
  have E13 := E6.fresh e9 (fun _ h _ => h.elim)
  have R14 := R7.trans (Ext0.any e9)
  refine k_call T69.fn_103 (c_s_l02Sides _) rfl ?_
  rintro v17 w15 ⟨hv18, e16⟩
  have hS19 := hS10.ext0 e16
  have hS20 := hS11.ext0 e16
  have hS21 := hS12.ext0 e16
  have E22 := E13.fresh e16 (fun _ h _ => h.elim)
  have R23 := R14.trans (Ext0.any e16)
  refine ⟨fun _ => R23, ?_⟩
  by_cases c24 : sidesB wd hi = true
  · have hb25 := sides_b c24
    obtain rfl : v17 = .bool true := hv18.trans (congrArg Value.bool c24)
    refine m_y (v := .bool false) 9 rfl (by kernel_rfl) rfl rfl (fun w' e' => y_not rfl rfl) ?_
    refine m_y (v := .bool false) 10 rfl (by kernel_rfl) rfl rfl (fun w' e' => y_move rfl) ?_
    refine m_y (v := .pointer (some ⟨b, o, none⟩)) 11 rfl (by kernel_rfl) rfl rfl (fun w' e' => y_move rfl) ?_
    refine m_y (v := .pointer (some ⟨b, o, none⟩)) 12 rfl (by kernel_rfl) rfl rfl (fun w' e' => y_nil rfl) ?_
    refine m_y (v := .pointer (some ⟨b, o + 3, none⟩)) 13 rfl (by kernel_rfl) rfl rfl (fun w' e' => y_fld (o := o + 0) T69.fld_26_3_3 rfl) ?_
    refine m_y (v := .slice asp nsp csp) 14 rfl (by kernel_rfl) rfl rfl (fun w' e' => y_load T69.one_24 rfl ((hP.ext0 e').cell (j := 3) rfl)) ?_
    refine m_y (v := .int .i64 ((nsp : Nat) : Int)) 15 rfl (by kernel_rfl) rfl rfl (fun w' e' => y_len T69.sl_24_62_1 rfl rfl) ?_
    refine m_y (v := .pointer (some ⟨b, o, none⟩)) 16 rfl (by kernel_rfl) rfl rfl (fun w' e' => y_move rfl) ?_
    refine m_y (v := .pointer (some ⟨b, o, none⟩)) 17 rfl (by kernel_rfl) rfl rfl (fun w' e' => y_nil rfl) ?_
    refine m_y (v := .pointer (some ⟨b, o, none⟩)) 18 rfl (by kernel_rfl) rfl rfl (fun w' e' => y_fld (o := o + 0) T69.fld_26_0_0 rfl) ?_
    refine m_y (v := .int .i64 wd) 19 rfl (by kernel_rfl) rfl rfl (fun w' e' => y_load T69.one_2 rfl ((hP.ext0 e').cell (j := 0) rfl)) ?_
    refine m_y (v := .pointer (some ⟨b, o, none⟩)) 20 rfl (by kernel_rfl) rfl rfl (fun w' e' => y_move rfl) ?_
    refine m_y (v := .pointer (some ⟨b, o, none⟩)) 21 rfl (by kernel_rfl) rfl rfl (fun w' e' => y_nil rfl) ?_
    refine m_y (v := .pointer (some ⟨b, o + 1, none⟩)) 22 rfl (by kernel_rfl) rfl rfl (fun w' e' => y_fld (o := o + 0) T69.fld_26_1_1 rfl) ?_
    refine m_y (v := .int .i64 hi) 23 rfl (by kernel_rfl) rfl rfl (fun w' e' => y_load T69.one_2 rfl ((hP.ext0 e').cell (j := 1) rfl)) ?_
    refine m_y (v := .int .i64 (wd * hi)) 24 rfl (by kernel_rfl) rfl rfl (fun w' e' => y_mul rfl rfl rfl (by omega)) ?_
    by_cases c27 : ((nsp : Nat) : Int) ≠ (wd * hi)
    · refine m_y (v := .bool true) 25 rfl (by kernel_rfl) rfl rfl (fun w' e' => y_neq rfl rfl (decide_eq_true c27)) ?_
      refine m_y (v := .bool true) 26 rfl (by kernel_rfl) rfl rfl (fun w' e' => y_pick_f rfl rfl) ?_
      refine m_y (v := .bool true) 27 rfl (by kernel_rfl) rfl rfl (fun w' e' => y_move rfl) ?_
      refine m_skip 28 rfl (by kernel_rfl) rfl ?_
      refine m_skip 29 rfl (by kernel_rfl) rfl ?_
      refine m_skip 30 rfl (by kernel_rfl) rfl ?_
      refine m_skip 31 rfl (by kernel_rfl) rfl ?_
      refine m_skip 32 rfl (by kernel_rfl) rfl ?_
      refine m_skip 33 rfl (by kernel_rfl) rfl ?_
      refine m_skip 34 rfl (by kernel_rfl) rfl ?_
      refine m_skip 35 rfl (by kernel_rfl) rfl ?_
      refine m_skip 36 rfl (by kernel_rfl) rfl ?_
      refine m_skip 37 rfl (by kernel_rfl) rfl ?_
      refine m_skip 38 rfl (by kernel_rfl) rfl ?_
      refine m_skip 39 rfl (by kernel_rfl) rfl ?_
      refine m_skip 40 rfl (by kernel_rfl) rfl ?_
      refine m_skip 41 rfl (by kernel_rfl) rfl ?_
      refine m_skip 42 rfl (by kernel_rfl) rfl ?_
      refine m_y (v := .bool true) 43 rfl (by kernel_rfl) rfl rfl (fun w' e' => y_pick_t rfl rfl) ?_
      refine m_done (by kernel_rfl) (fun w28 e29 => ?_)
      have hS30 := hS19.ext0 e29
      have hS31 := hS20.ext0 e29
      have hS32 := hS21.ext0 e29
      have E33 := E22.fresh e29 (fun _ h _ => h.elim)
      have R34 := R23.trans (Ext0.any e29)
      refine W_if_t (by decide) rfl ?_
      refine W_seq ?_
      refine W_region (by kernel_rfl) ?_
      refine s_y (v := .bool false) rfl (y_assign rfl) ?_
      refine s_nil ?_
      refine W_ret ?_
      refine ret1 rfl rfl rfl ⟨_, rfl, ?_⟩
      exact ⟨congrArg Value.bool (by simp [validS, hlP, hlL, *]), E33⟩
    · refine m_y (v := .bool false) 25 rfl (by kernel_rfl) rfl rfl (fun w' e' => y_neq rfl rfl (decide_eq_false c27)) ?_
      refine m_y (v := .bool false) 26 rfl (by kernel_rfl) rfl rfl (fun w' e' => y_pick_f rfl rfl) ?_
      refine m_y (v := .bool false) 27 rfl (by kernel_rfl) rfl rfl (fun w' e' => y_move rfl) ?_
      refine m_y (v := .pointer (some ⟨b, o, none⟩)) 28 rfl (by kernel_rfl) rfl rfl (fun w' e' => y_move rfl) ?_
      refine m_y (v := .pointer (some ⟨b, o, none⟩)) 29 rfl (by kernel_rfl) rfl rfl (fun w' e' => y_nil rfl) ?_
      refine m_y (v := .pointer (some ⟨b, o + 4, none⟩)) 30 rfl (by kernel_rfl) rfl rfl (fun w' e' => y_fld (o := o + 0) T69.fld_26_4_4 rfl) ?_
      refine m_y (v := .slice als nls cls) 31 rfl (by kernel_rfl) rfl rfl (fun w' e' => y_load T69.one_24 rfl ((hP.ext0 e').cell (j := 4) rfl)) ?_
      refine m_y (v := .int .i64 ((nls : Nat) : Int)) 32 rfl (by kernel_rfl) rfl rfl (fun w' e' => y_len T69.sl_24_62_1 rfl rfl) ?_
      refine m_y (v := .pointer (some ⟨b, o, none⟩)) 33 rfl (by kernel_rfl) rfl rfl (fun w' e' => y_move rfl) ?_
      refine m_y (v := .pointer (some ⟨b, o, none⟩)) 34 rfl (by kernel_rfl) rfl rfl (fun w' e' => y_nil rfl) ?_
      refine m_y (v := .pointer (some ⟨b, o, none⟩)) 35 rfl (by kernel_rfl) rfl rfl (fun w' e' => y_fld (o := o + 0) T69.fld_26_0_0 rfl) ?_
      refine m_y (v := .int .i64 wd) 36 rfl (by kernel_rfl) rfl rfl (fun w' e' => y_load T69.one_2 rfl ((hP.ext0 e').cell (j := 0) rfl)) ?_
      refine m_y (v := .pointer (some ⟨b, o, none⟩)) 37 rfl (by kernel_rfl) rfl rfl (fun w' e' => y_move rfl) ?_
      refine m_y (v := .pointer (some ⟨b, o, none⟩)) 38 rfl (by kernel_rfl) rfl rfl (fun w' e' => y_nil rfl) ?_
      refine m_y (v := .pointer (some ⟨b, o + 1, none⟩)) 39 rfl (by kernel_rfl) rfl rfl (fun w' e' => y_fld (o := o + 0) T69.fld_26_1_1 rfl) ?_
      refine m_y (v := .int .i64 hi) 40 rfl (by kernel_rfl) rfl rfl (fun w' e' => y_load T69.one_2 rfl ((hP.ext0 e').cell (j := 1) rfl)) ?_
      refine m_y (v := .int .i64 (wd * hi)) 41 rfl (by kernel_rfl) rfl rfl (fun w' e' => y_mul rfl rfl rfl (by omega)) ?_
      by_cases c36 : ((nls : Nat) : Int) ≠ (wd * hi)
      · refine m_y (v := .bool true) 42 rfl (by kernel_rfl) rfl rfl (fun w' e' => y_neq rfl rfl (decide_eq_true c36)) ?_
        refine m_y (v := .bool true) 43 rfl (by kernel_rfl) rfl rfl (fun w' e' => y_pick_f rfl rfl) ?_
        refine m_done (by kernel_rfl) (fun w37 e38 => ?_)
        have hS39 := hS19.ext0 e38
        have hS40 := hS20.ext0 e38
        have hS41 := hS21.ext0 e38
        have E42 := E22.fresh e38 (fun _ h _ => h.elim)
        have R43 := R23.trans (Ext0.any e38)
        refine W_if_t (by decide) rfl ?_
        refine W_seq ?_
        refine W_region (by kernel_rfl) ?_
        refine s_y (v := .bool false) rfl (y_assign rfl) ?_
        refine s_nil ?_
        refine W_ret ?_
        refine ret1 rfl rfl rfl ⟨_, rfl, ?_⟩
        exact ⟨congrArg Value.bool (by simp [validS, hlP, hlL, *]), E42⟩
      · refine m_y (v := .bool false) 42 rfl (by kernel_rfl) rfl rfl (fun w' e' => y_neq rfl rfl (decide_eq_false c36)) ?_
        refine m_y (v := .bool false) 43 rfl (by kernel_rfl) rfl rfl (fun w' e' => y_pick_f rfl rfl) ?_
        refine m_done (by kernel_rfl) (fun w44 e45 => ?_)
        have hS46 := hS19.ext0 e45
        have hS47 := hS20.ext0 e45
        have hS48 := hS21.ext0 e45
        have E49 := E22.fresh e45 (fun _ h _ => h.elim)
        have R50 := R23.trans (Ext0.any e45)
        refine W_if_f (by decide) rfl ?_
        refine W_skip ?_
        refine W_seq ?_
        refine W_seq ?_
        refine W_region (by kernel_rfl) ?_
        refine s_y (v := .int .i64 0) rfl (y_assign rfl) ?_
        refine s_nil ?_
        refine W_block ?_
-- loop drops slots [2]
        refine W_loop (fun ρ' w' => ∃ (ρ1 : Env) (k : Int), ρ' = updL ρ1 [(0, .pointer (some ⟨b, o, none⟩)), (3, .int .i64 k)] ∧ Ext no w w' ∧ Sl w' asp (flts xsp) ∧ Sl w' als (flts xls) ∧ Sl w' (some ⟨b, o, none⟩) [.int .i64 wd, .int .i64 hi, .bool wr, .slice asp nsp csp, .slice als nls cls] ∧ (0 ≤ k) ∧ (k ≤ wd * hi) ∧ (∀ i, 0 ≤ i → i < k → (betw 1056964608 Xsp i && betw 1065353216 Xls i) = true)) (fun ρ' _ => (wd * hi - iv (ρ' 3)).toNat) ?_ ?_
        · exact ⟨_, 0, Fits.eq ⟨rfl, rfl, trivial⟩, E49, hS46, hS47, hS48, (Int.le_refl _), (by omega), (by intro i h0 h1; omega)⟩
        · rintro _ w51 ⟨ρ56, k, rfl, E52, hS53, hS54, hS55, h0k, h1k, hq⟩
          refine W_seq ?_
          refine W_seq ?_
          refine W_region (by kernel_rfl) ?_
          refine s_y (v := .int .i64 k) rfl (y_move rfl) ?_
          refine s_y (v := .pointer (some ⟨b, o, none⟩)) rfl (y_move rfl) ?_
          refine s_y (v := .pointer (some ⟨b, o, none⟩)) rfl (y_nil rfl) ?_
          refine s_y (v := .pointer (some ⟨b, o + 3, none⟩)) rfl (y_fld (o := o + 0) T69.fld_26_3_3 rfl) ?_
          refine s_y (v := .slice asp nsp csp) rfl (y_load T69.one_24 rfl (hS55.cell (j := 3) rfl)) ?_
          refine s_y (v := .int .i64 ((nsp : Nat) : Int)) rfl (y_len T69.sl_24_62_1 rfl rfl) ?_
          by_cases c57 : k < ((nsp : Nat) : Int)
          · refine s_y (v := .bool true) rfl (y_lss rfl rfl (decide_eq_true c57)) ?_
            refine s_nil ?_
            refine W_if_t (by decide) rfl ?_
            refine W_skip ?_
            refine W_seq ?_
            refine W_block ?_
            refine W_seq ?_
            refine W_region (by kernel_rfl) ?_
            refine s_y (v := .pointer (some ⟨b, o, none⟩)) rfl (y_move rfl) ?_
            refine s_y (v := .pointer (some ⟨b, o, none⟩)) rfl (y_nil rfl) ?_
            refine s_y (v := .pointer (some ⟨b, o + 3, none⟩)) rfl (y_fld (o := o + 0) T69.fld_26_3_3 rfl) ?_
            refine s_y (v := .slice asp nsp csp) rfl (y_load T69.one_24 rfl (hS55.cell (j := 3) rfl)) ?_
            refine s_y (v := .int .i64 k) rfl (y_move rfl) ?_
            refine s_y (v := .pointer (some (sat asp ((k).toNat * 1)))) rfl (y_idx T69.sl_24_62_1 rfl rfl (hS53.addr (by rw [flts_length]; omega)) (by omega) (by omega)) ?_
            refine s_y (v := .float .f32 (el xsp k)) rfl (y_load T69.one_62 rfl (hS53.cell (fl_at (by omega) (by omega)))) ?_
            by_cases c58 : fge .f32 (el Xsp k) 0 = true
            · refine s_y (v := .bool true) rfl (y_fgeq rfl rfl (fgeC (cn_el qksp k) (show can .f32 0 = 0 by kernel_rfl) c58)) ?_
              refine s_y (v := .bool false) rfl (y_not rfl rfl) ?_
              refine s_y (v := .bool false) rfl (y_move rfl) ?_
              refine s_y (v := .pointer (some ⟨b, o, none⟩)) rfl (y_move rfl) ?_
              refine s_y (v := .pointer (some ⟨b, o, none⟩)) rfl (y_nil rfl) ?_
              refine s_y (v := .pointer (some ⟨b, o + 3, none⟩)) rfl (y_fld (o := o + 0) T69.fld_26_3_3 rfl) ?_
              refine s_y (v := .slice asp nsp csp) rfl (y_load T69.one_24 rfl (hS55.cell (j := 3) rfl)) ?_
              refine s_y (v := .int .i64 k) rfl (y_move rfl) ?_
              refine s_y (v := .pointer (some (sat asp ((k).toNat * 1)))) rfl (y_idx T69.sl_24_62_1 rfl rfl (hS53.addr (by rw [flts_length]; omega)) (by omega) (by omega)) ?_
              refine s_y (v := .float .f32 (el xsp k)) rfl (y_load T69.one_62 rfl (hS53.cell (fl_at (by omega) (by omega)))) ?_
              by_cases c59 : fgt .f32 (el Xsp k) 1056964608 = true
              · refine s_y (v := .bool true) rfl (y_fgtr rfl rfl (fgtC (cn_el qksp k) (show can .f32 1056964608 = 1056964608 by kernel_rfl) c59)) ?_
                refine s_y (v := .bool true) rfl (y_pick_f rfl rfl) ?_
                refine s_y (v := .bool true) rfl (y_move rfl) ?_
                refine s_skip rfl ?_
                refine s_skip rfl ?_
                refine s_skip rfl ?_
                refine s_skip rfl ?_
                refine s_skip rfl ?_
                refine s_skip rfl ?_
                refine s_skip rfl ?_
                refine s_skip rfl ?_
                refine s_skip rfl ?_
                refine s_y (v := .bool true) rfl (y_pick_t rfl rfl) ?_
                refine s_y (v := .bool true) rfl (y_move rfl) ?_
                refine s_skip rfl ?_
                refine s_skip rfl ?_
                refine s_skip rfl ?_
                refine s_skip rfl ?_
                refine s_skip rfl ?_
                refine s_skip rfl ?_
                refine s_skip rfl ?_
                refine s_skip rfl ?_
                refine s_y (v := .bool true) rfl (y_pick_t rfl rfl) ?_
                refine s_nil ?_
                refine W_if_t (by decide) rfl ?_
                refine W_seq ?_
                refine W_region (by kernel_rfl) ?_
                refine s_y (v := .bool false) rfl (y_assign rfl) ?_
                refine s_nil ?_
                refine W_ret ?_
                refine ret1 rfl rfl rfl ⟨_, rfl, ?_⟩
                exact ⟨congrArg Value.bool (validS_no (i := k) (by omega) (by omega) (by omega) (by first | exact .inl (betw_no1 (by assumption)) | exact .inl (betw_ng half_not (by assumption) (by assumption)) | exact .inr (betw_no1 (by assumption)) | exact .inr (betw_ng one_not (by assumption) (by assumption)))).symm, E52⟩
              · refine s_y (v := .bool false) rfl (y_fgtr rfl rfl (fgtC (cn_el qksp k) (show can .f32 1056964608 = 1056964608 by kernel_rfl) (Bool.eq_false_iff.2 c59))) ?_
                refine s_y (v := .bool false) rfl (y_pick_f rfl rfl) ?_
                refine s_y (v := .bool false) rfl (y_move rfl) ?_
                refine s_y (v := .pointer (some ⟨b, o, none⟩)) rfl (y_move rfl) ?_
                refine s_y (v := .pointer (some ⟨b, o, none⟩)) rfl (y_nil rfl) ?_
                refine s_y (v := .pointer (some ⟨b, o + 4, none⟩)) rfl (y_fld (o := o + 0) T69.fld_26_4_4 rfl) ?_
                refine s_y (v := .slice als nls cls) rfl (y_load T69.one_24 rfl (hS55.cell (j := 4) rfl)) ?_
                refine s_y (v := .int .i64 k) rfl (y_move rfl) ?_
                refine s_y (v := .pointer (some (sat als ((k).toNat * 1)))) rfl (y_idx T69.sl_24_62_1 rfl rfl (hS54.addr (by rw [flts_length]; omega)) (by omega) (by omega)) ?_
                refine s_y (v := .float .f32 (el xls k)) rfl (y_load T69.one_62 rfl (hS54.cell (fl_at (by omega) (by omega)))) ?_
                by_cases c60 : fge .f32 (el Xls k) 0 = true
                · refine s_y (v := .bool true) rfl (y_fgeq rfl rfl (fgeC (cn_el qkls k) (show can .f32 0 = 0 by kernel_rfl) c60)) ?_
                  refine s_y (v := .bool false) rfl (y_not rfl rfl) ?_
                  refine s_y (v := .bool false) rfl (y_pick_f rfl rfl) ?_
                  refine s_y (v := .bool false) rfl (y_move rfl) ?_
                  refine s_y (v := .pointer (some ⟨b, o, none⟩)) rfl (y_move rfl) ?_
                  refine s_y (v := .pointer (some ⟨b, o, none⟩)) rfl (y_nil rfl) ?_
                  refine s_y (v := .pointer (some ⟨b, o + 4, none⟩)) rfl (y_fld (o := o + 0) T69.fld_26_4_4 rfl) ?_
                  refine s_y (v := .slice als nls cls) rfl (y_load T69.one_24 rfl (hS55.cell (j := 4) rfl)) ?_
                  refine s_y (v := .int .i64 k) rfl (y_move rfl) ?_
                  refine s_y (v := .pointer (some (sat als ((k).toNat * 1)))) rfl (y_idx T69.sl_24_62_1 rfl rfl (hS54.addr (by rw [flts_length]; omega)) (by omega) (by omega)) ?_
                  refine s_y (v := .float .f32 (el xls k)) rfl (y_load T69.one_62 rfl (hS54.cell (fl_at (by omega) (by omega)))) ?_
                  by_cases c61 : fgt .f32 (el Xls k) 1065353216 = true
                  · refine s_y (v := .bool true) rfl (y_fgtr rfl rfl (fgtC (cn_el qkls k) (show can .f32 1065353216 = 1065353216 by kernel_rfl) c61)) ?_
                    refine s_y (v := .bool true) rfl (y_pick_f rfl rfl) ?_
                    refine s_nil ?_
                    refine W_if_t (by decide) rfl ?_
                    refine W_seq ?_
                    refine W_region (by kernel_rfl) ?_
                    refine s_y (v := .bool false) rfl (y_assign rfl) ?_
                    refine s_nil ?_
                    refine W_ret ?_
                    refine ret1 rfl rfl rfl ⟨_, rfl, ?_⟩
                    exact ⟨congrArg Value.bool (validS_no (i := k) (by omega) (by omega) (by omega) (by first | exact .inl (betw_no1 (by assumption)) | exact .inl (betw_ng half_not (by assumption) (by assumption)) | exact .inr (betw_no1 (by assumption)) | exact .inr (betw_ng one_not (by assumption) (by assumption)))).symm, E52⟩
                  · refine s_y (v := .bool false) rfl (y_fgtr rfl rfl (fgtC (cn_el qkls k) (show can .f32 1065353216 = 1065353216 by kernel_rfl) (Bool.eq_false_iff.2 c61))) ?_
                    refine s_y (v := .bool false) rfl (y_pick_f rfl rfl) ?_
                    refine s_nil ?_
                    refine W_if_f (by decide) rfl ?_
                    refine W_skip ?_
                    refine W_region (by kernel_rfl) ?_
                    refine s_y (v := .int .i64 k) rfl (y_move rfl) ?_
                    refine s_y (v := .int .i64 (k + 1)) rfl (y_add rfl rfl rfl (by omega)) ?_
                    refine s_y (v := .int .i64 (k + 1)) rfl (y_assign rfl) ?_
                    refine s_nil ?_
                    refine ⟨⟨_, k + 1, Fits.eq ⟨rfl, rfl, trivial⟩, E52, hS53, hS54, hS55, (by omega), (by omega), (allI_more hq (by simp only [Bool.and_eq_true]; exact ⟨betw_g half_not (by assumption) (by assumption), betw_g one_not (by assumption) (by assumption)⟩))⟩, ?_⟩
                    show (wd * hi - (k + 1)).toNat < (wd * hi - k).toNat
                    omega
                · refine s_y (v := .bool false) rfl (y_fgeq rfl rfl (fgeC (cn_el qkls k) (show can .f32 0 = 0 by kernel_rfl) (Bool.eq_false_iff.2 c60))) ?_
                  refine s_y (v := .bool true) rfl (y_not rfl rfl) ?_
                  refine s_y (v := .bool true) rfl (y_pick_f rfl rfl) ?_
                  refine s_y (v := .bool true) rfl (y_move rfl) ?_
                  refine s_skip rfl ?_
                  refine s_skip rfl ?_
                  refine s_skip rfl ?_
                  refine s_skip rfl ?_
                  refine s_skip rfl ?_
                  refine s_skip rfl ?_
                  refine s_skip rfl ?_
                  refine s_skip rfl ?_
                  refine s_y (v := .bool true) rfl (y_pick_t rfl rfl) ?_
                  refine s_nil ?_
                  refine W_if_t (by decide) rfl ?_
                  refine W_seq ?_
                  refine W_region (by kernel_rfl) ?_
                  refine s_y (v := .bool false) rfl (y_assign rfl) ?_
                  refine s_nil ?_
                  refine W_ret ?_
                  refine ret1 rfl rfl rfl ⟨_, rfl, ?_⟩
                  exact ⟨congrArg Value.bool (validS_no (i := k) (by omega) (by omega) (by omega) (by first | exact .inl (betw_no1 (by assumption)) | exact .inl (betw_ng half_not (by assumption) (by assumption)) | exact .inr (betw_no1 (by assumption)) | exact .inr (betw_ng one_not (by assumption) (by assumption)))).symm, E52⟩
            · refine s_y (v := .bool false) rfl (y_fgeq rfl rfl (fgeC (cn_el qksp k) (show can .f32 0 = 0 by kernel_rfl) (Bool.eq_false_iff.2 c58))) ?_
              refine s_y (v := .bool true) rfl (y_not rfl rfl) ?_
              refine s_y (v := .bool true) rfl (y_move rfl) ?_
              refine s_skip rfl ?_
              refine s_skip rfl ?_
              refine s_skip rfl ?_
              refine s_skip rfl ?_
              refine s_skip rfl ?_
              refine s_skip rfl ?_
              refine s_skip rfl ?_
              refine s_skip rfl ?_
              refine s_y (v := .bool true) rfl (y_pick_t rfl rfl) ?_
              refine s_y (v := .bool true) rfl (y_move rfl) ?_
              refine s_skip rfl ?_
              refine s_skip rfl ?_
              refine s_skip rfl ?_
              refine s_skip rfl ?_
              refine s_skip rfl ?_
              refine s_skip rfl ?_
              refine s_skip rfl ?_
              refine s_skip rfl ?_
              refine s_skip rfl ?_
              refine s_y (v := .bool true) rfl (y_pick_t rfl rfl) ?_
              refine s_y (v := .bool true) rfl (y_move rfl) ?_
              refine s_skip rfl ?_
              refine s_skip rfl ?_
              refine s_skip rfl ?_
              refine s_skip rfl ?_
              refine s_skip rfl ?_
              refine s_skip rfl ?_
              refine s_skip rfl ?_
              refine s_skip rfl ?_
              refine s_y (v := .bool true) rfl (y_pick_t rfl rfl) ?_
              refine s_nil ?_
              refine W_if_t (by decide) rfl ?_
              refine W_seq ?_
              refine W_region (by kernel_rfl) ?_
              refine s_y (v := .bool false) rfl (y_assign rfl) ?_
              refine s_nil ?_
              refine W_ret ?_
              refine ret1 rfl rfl rfl ⟨_, rfl, ?_⟩
              exact ⟨congrArg Value.bool (validS_no (i := k) (by omega) (by omega) (by omega) (by first | exact .inl (betw_no1 (by assumption)) | exact .inl (betw_ng half_not (by assumption) (by assumption)) | exact .inr (betw_no1 (by assumption)) | exact .inr (betw_ng one_not (by assumption) (by assumption)))).symm, E52⟩
          · refine s_y (v := .bool false) rfl (y_lss rfl rfl (decide_eq_false c57)) ?_
            refine s_nil ?_
            refine W_if_f (by decide) rfl ?_
            refine W_exit ?_
            refine W_seq ?_
            refine W_region (by kernel_rfl) ?_
            refine s_y (v := .bool true) rfl (y_assign rfl) ?_
            refine s_nil ?_
            refine W_ret ?_
            refine ret1 rfl rfl rfl ⟨_, rfl, ?_⟩
            exact ⟨congrArg Value.bool (validS_yes (by assumption) (by omega) (by omega) (fun i h0 h1 => hq i h0 (by omega))).symm, E52⟩
  · obtain rfl : v17 = .bool false := hv18.trans (congrArg Value.bool (Bool.eq_false_iff.2 c24))
    refine m_y (v := .bool true) 9 rfl (by kernel_rfl) rfl rfl (fun w' e' => y_not rfl rfl) ?_
    refine m_y (v := .bool true) 10 rfl (by kernel_rfl) rfl rfl (fun w' e' => y_move rfl) ?_
    refine m_skip 11 rfl (by kernel_rfl) rfl ?_
    refine m_skip 12 rfl (by kernel_rfl) rfl ?_
    refine m_skip 13 rfl (by kernel_rfl) rfl ?_
    refine m_skip 14 rfl (by kernel_rfl) rfl ?_
    refine m_skip 15 rfl (by kernel_rfl) rfl ?_
    refine m_skip 16 rfl (by kernel_rfl) rfl ?_
    refine m_skip 17 rfl (by kernel_rfl) rfl ?_
    refine m_skip 18 rfl (by kernel_rfl) rfl ?_
    refine m_skip 19 rfl (by kernel_rfl) rfl ?_
    refine m_skip 20 rfl (by kernel_rfl) rfl ?_
    refine m_skip 21 rfl (by kernel_rfl) rfl ?_
    refine m_skip 22 rfl (by kernel_rfl) rfl ?_
    refine m_skip 23 rfl (by kernel_rfl) rfl ?_
    refine m_skip 24 rfl (by kernel_rfl) rfl ?_
    refine m_skip 25 rfl (by kernel_rfl) rfl ?_
    refine m_y (v := .bool true) 26 rfl (by kernel_rfl) rfl rfl (fun w' e' => y_pick_t rfl rfl) ?_
    refine m_y (v := .bool true) 27 rfl (by kernel_rfl) rfl rfl (fun w' e' => y_move rfl) ?_
    refine m_skip 28 rfl (by kernel_rfl) rfl ?_
    refine m_skip 29 rfl (by kernel_rfl) rfl ?_
    refine m_skip 30 rfl (by kernel_rfl) rfl ?_
    refine m_skip 31 rfl (by kernel_rfl) rfl ?_
    refine m_skip 32 rfl (by kernel_rfl) rfl ?_
    refine m_skip 33 rfl (by kernel_rfl) rfl ?_
    refine m_skip 34 rfl (by kernel_rfl) rfl ?_
    refine m_skip 35 rfl (by kernel_rfl) rfl ?_
    refine m_skip 36 rfl (by kernel_rfl) rfl ?_
    refine m_skip 37 rfl (by kernel_rfl) rfl ?_
    refine m_skip 38 rfl (by kernel_rfl) rfl ?_
    refine m_skip 39 rfl (by kernel_rfl) rfl ?_
    refine m_skip 40 rfl (by kernel_rfl) rfl ?_
    refine m_skip 41 rfl (by kernel_rfl) rfl ?_
    refine m_skip 42 rfl (by kernel_rfl) rfl ?_
    refine m_y (v := .bool true) 43 rfl (by kernel_rfl) rfl rfl (fun w' e' => y_pick_t rfl rfl) ?_
    refine m_done (by kernel_rfl) (fun w62 e63 => ?_)
    have hS64 := hS19.ext0 e63
    have hS65 := hS20.ext0 e63
    have hS66 := hS21.ext0 e63
    have E67 := E22.fresh e63 (fun _ h _ => h.elim)
    have R68 := R23.trans (Ext0.any e63)
    refine W_if_t (by decide) rfl ?_
    refine W_seq ?_
    refine W_region (by kernel_rfl) ?_
    refine s_y (v := .bool false) rfl (y_assign rfl) ?_
    refine s_nil ?_
    refine W_ret ?_
    refine ret1 rfl rfl rfl ⟨_, rfl, ?_⟩
    exact ⟨congrArg Value.bool (by simp [validS, hlP, hlL, *]), E67⟩
namespace T106
theorem mx : Try.prog.follows .mixedOrders = true := by kernel_rfl
theorem fld_26_0_0 : fldB Try.prog 26 0 0 = true := by kernel_rfl
theorem fld_26_1_1 : fldB Try.prog 26 1 1 = true := by kernel_rfl
theorem fld_26_2_2 : fldB Try.prog 26 2 2 = true := by kernel_rfl
theorem one_2 : oneB Try.prog 2 = true := by kernel_rfl
theorem one_4 : oneB Try.prog 4 = true := by kernel_rfl
end T106
set_option maxRecDepth 100000 in
set_option maxHeartbeats 4000000 in
theorem c_s_l02Border {wd hi : Int} {wr : Bool} {asp als : Option Addr} {nsp nls csp cls : Nat} {x : Int} {y : Int} {b o : Nat} (w : World) (hP : Sl w (some ⟨b, o, none⟩) [.int .i64 wd, .int .i64 hi, .bool wr, .slice asp nsp csp, .slice als nls cls]) (h1 : 3 ≤ wd) (h2 : wd ≤ 16) (h3 : 3 ≤ hi) (h4 : hi ≤ 16) :
    Calls Try.prog 106 #[.pointer (some ⟨b, o, none⟩), .int .i64 x, .int .i64 y] w (Rt fun v w' => v = .bool (bordB wd hi wr x y) ∧ Ext0 w w') := by
  have E0 : Ext no w w := Ext.refl _ _
  have lo_some_b_o_none := Sl.low hP
  refine calls_W (n := 38) Try.func106 rfl rfl (Nat.le_of_ble_eq_true rfl) ?_
  refine W_seq ?_
  refine W_region (by kernel_rfl) ?_
  refine s_y (v := .bool false) rfl (y_assign rfl) ?_
  refine s_nil ?_
  refine W_seq ?_
  refine W_region (by kernel_rfl) ?_
  refine s_y (v := .pointer (some ⟨b, o, none⟩)) rfl (y_move rfl) ?_
  refine s_y (v := .pointer (some ⟨b, o, none⟩)) rfl (y_nil rfl) ?_
  refine s_y (v := .pointer (some ⟨b, o + 2, none⟩)) rfl (y_fld (o := o + 0) T106.fld_26_2_2 rfl) ?_
  refine s_y (v := .bool wr) rfl (y_load T106.one_4 rfl (hP.cell (j := 2) rfl)) ?_
  refine s_y (v := .bool (!wr)) rfl (y_not rfl rfl) ?_
  refine s_y (v := .bool (!wr)) rfl (y_move rfl) ?_
  cases wr
  · refine s_y (v := .int .i64 x) rfl (y_move rfl) ?_
    by_cases c1 : x = 0
    · refine s_y (v := .bool true) rfl (y_eql rfl rfl (decide_eq_true c1)) ?_
      refine s_y (v := .bool true) rfl (y_move rfl) ?_
      refine s_skip rfl ?_
      refine s_skip rfl ?_
      refine s_skip rfl ?_
      refine s_skip rfl ?_
      refine s_skip rfl ?_
      refine s_skip rfl ?_
      refine s_skip rfl ?_
      refine s_y (v := .bool true) rfl (y_pick_t rfl rfl) ?_
      refine s_y (v := .bool true) rfl (y_move rfl) ?_
      refine s_skip rfl ?_
      refine s_skip rfl ?_
      refine s_y (v := .bool true) rfl (y_pick_t rfl rfl) ?_
      refine s_y (v := .bool true) rfl (y_move rfl) ?_
      refine s_skip rfl ?_
      refine s_skip rfl ?_
      refine s_skip rfl ?_
      refine s_skip rfl ?_
      refine s_skip rfl ?_
      refine s_skip rfl ?_
      refine s_skip rfl ?_
      refine s_y (v := .bool true) rfl (y_pick_t rfl rfl) ?_
      refine s_y (v := .bool true) rfl (y_pick_t rfl rfl) ?_
      refine s_y (v := .bool true) rfl (y_assign rfl) ?_
      refine s_nil ?_
      refine W_ret ?_
      refine ret1 rfl rfl rfl ⟨_, rfl, ?_⟩
      exact ⟨congrArg Value.bool (by simp only [bordB, (decide_eq_true c1), Bool.and_true, Bool.true_and, Bool.and_false, Bool.false_and, Bool.not_true, Bool.not_false, Bool.or_true, Bool.true_or, Bool.or_false, Bool.false_or]), E0⟩
    · refine s_y (v := .bool false) rfl (y_eql rfl rfl (decide_eq_false c1)) ?_
      refine s_y (v := .bool false) rfl (y_move rfl) ?_
      refine s_y (v := .int .i64 x) rfl (y_move rfl) ?_
      refine s_y (v := .pointer (some ⟨b, o, none⟩)) rfl (y_move rfl) ?_
      refine s_y (v := .pointer (some ⟨b, o, none⟩)) rfl (y_nil rfl) ?_
      refine s_y (v := .pointer (some ⟨b, o, none⟩)) rfl (y_fld (o := o + 0) T106.fld_26_0_0 rfl) ?_
      refine s_y (v := .int .i64 wd) rfl (y_load T106.one_2 rfl (hP.cell (j := 0) rfl)) ?_
      refine s_y (v := .int .i64 (wd - 1)) rfl (y_sub rfl rfl rfl (by omega)) ?_
      by_cases c2 : x = (wd - 1)
      · refine s_y (v := .bool true) rfl (y_eql rfl rfl (decide_eq_true c2)) ?_
        refine s_y (v := .bool true) rfl (y_pick_f rfl rfl) ?_
        refine s_y (v := .bool true) rfl (y_move rfl) ?_
        refine s_skip rfl ?_
        refine s_skip rfl ?_
        refine s_y (v := .bool true) rfl (y_pick_t rfl rfl) ?_
        refine s_y (v := .bool true) rfl (y_move rfl) ?_
        refine s_skip rfl ?_
        refine s_skip rfl ?_
        refine s_skip rfl ?_
        refine s_skip rfl ?_
        refine s_skip rfl ?_
        refine s_skip rfl ?_
        refine s_skip rfl ?_
        refine s_y (v := .bool true) rfl (y_pick_t rfl rfl) ?_
        refine s_y (v := .bool true) rfl (y_pick_t rfl rfl) ?_
        refine s_y (v := .bool true) rfl (y_assign rfl) ?_
        refine s_nil ?_
        refine W_ret ?_
        refine ret1 rfl rfl rfl ⟨_, rfl, ?_⟩
        exact ⟨congrArg Value.bool (by simp only [bordB, (decide_eq_false c1), (decide_eq_true c2), Bool.and_true, Bool.true_and, Bool.and_false, Bool.false_and, Bool.not_true, Bool.not_false, Bool.or_true, Bool.true_or, Bool.or_false, Bool.false_or]), E0⟩
      · refine s_y (v := .bool false) rfl (y_eql rfl rfl (decide_eq_false c2)) ?_
        refine s_y (v := .bool false) rfl (y_pick_f rfl rfl) ?_
        refine s_y (v := .bool false) rfl (y_move rfl) ?_
        refine s_y (v := .int .i64 y) rfl (y_move rfl) ?_
        by_cases c3 : y = 0
        · refine s_y (v := .bool true) rfl (y_eql rfl rfl (decide_eq_true c3)) ?_
          refine s_y (v := .bool true) rfl (y_pick_f rfl rfl) ?_
          refine s_y (v := .bool true) rfl (y_move rfl) ?_
          refine s_skip rfl ?_
          refine s_skip rfl ?_
          refine s_skip rfl ?_
          refine s_skip rfl ?_
          refine s_skip rfl ?_
          refine s_skip rfl ?_
          refine s_skip rfl ?_
          refine s_y (v := .bool true) rfl (y_pick_t rfl rfl) ?_
          refine s_y (v := .bool true) rfl (y_pick_t rfl rfl) ?_
          refine s_y (v := .bool true) rfl (y_assign rfl) ?_
          refine s_nil ?_
          refine W_ret ?_
          refine ret1 rfl rfl rfl ⟨_, rfl, ?_⟩
          exact ⟨congrArg Value.bool (by simp only [bordB, (decide_eq_false c1), (decide_eq_false c2), (decide_eq_true c3), Bool.and_true, Bool.true_and, Bool.and_false, Bool.false_and, Bool.not_true, Bool.not_false, Bool.or_true, Bool.true_or, Bool.or_false, Bool.false_or]), E0⟩
        · refine s_y (v := .bool false) rfl (y_eql rfl rfl (decide_eq_false c3)) ?_
          refine s_y (v := .bool false) rfl (y_pick_f rfl rfl) ?_
          refine s_y (v := .bool false) rfl (y_move rfl) ?_
          refine s_y (v := .int .i64 y) rfl (y_move rfl) ?_
          refine s_y (v := .pointer (some ⟨b, o, none⟩)) rfl (y_move rfl) ?_
          refine s_y (v := .pointer (some ⟨b, o, none⟩)) rfl (y_nil rfl) ?_
          refine s_y (v := .pointer (some ⟨b, o + 1, none⟩)) rfl (y_fld (o := o + 0) T106.fld_26_1_1 rfl) ?_
          refine s_y (v := .int .i64 hi) rfl (y_load T106.one_2 rfl (hP.cell (j := 1) rfl)) ?_
          refine s_y (v := .int .i64 (hi - 1)) rfl (y_sub rfl rfl rfl (by omega)) ?_
          by_cases c4 : y = (hi - 1)
          · refine s_y (v := .bool true) rfl (y_eql rfl rfl (decide_eq_true c4)) ?_
            refine s_y (v := .bool true) rfl (y_pick_f rfl rfl) ?_
            refine s_y (v := .bool true) rfl (y_pick_t rfl rfl) ?_
            refine s_y (v := .bool true) rfl (y_assign rfl) ?_
            refine s_nil ?_
            refine W_ret ?_
            refine ret1 rfl rfl rfl ⟨_, rfl, ?_⟩
            exact ⟨congrArg Value.bool (by simp only [bordB, (decide_eq_false c1), (decide_eq_false c2), (decide_eq_false c3), (decide_eq_true c4), Bool.and_true, Bool.true_and, Bool.and_false, Bool.false_and, Bool.not_true, Bool.not_false, Bool.or_true, Bool.true_or, Bool.or_false, Bool.false_or]), E0⟩
          · refine s_y (v := .bool false) rfl (y_eql rfl rfl (decide_eq_false c4)) ?_
            refine s_y (v := .bool false) rfl (y_pick_f rfl rfl) ?_
            refine s_y (v := .bool false) rfl (y_pick_t rfl rfl) ?_
            refine s_y (v := .bool false) rfl (y_assign rfl) ?_
            refine s_nil ?_
            refine W_ret ?_
            refine ret1 rfl rfl rfl ⟨_, rfl, ?_⟩
            exact ⟨congrArg Value.bool (by simp only [bordB, (decide_eq_false c1), (decide_eq_false c2), (decide_eq_false c3), (decide_eq_false c4), Bool.and_true, Bool.true_and, Bool.and_false, Bool.false_and, Bool.not_true, Bool.not_false, Bool.or_true, Bool.true_or, Bool.or_false, Bool.false_or]), E0⟩
  · refine s_skip rfl ?_
    refine s_skip rfl ?_
    refine s_skip rfl ?_
    refine s_skip rfl ?_
    refine s_skip rfl ?_
    refine s_skip rfl ?_
    refine s_skip rfl ?_
    refine s_skip rfl ?_
    refine s_skip rfl ?_
    refine s_skip rfl ?_
    refine s_skip rfl ?_
    refine s_skip rfl ?_
    refine s_skip rfl ?_
    refine s_skip rfl ?_
    refine s_skip rfl ?_
    refine s_skip rfl ?_
    refine s_skip rfl ?_
    refine s_skip rfl ?_
    refine s_skip rfl ?_
    refine s_skip rfl ?_
    refine s_skip rfl ?_
    refine s_skip rfl ?_
    refine s_skip rfl ?_
    refine s_skip rfl ?_
    refine s_y (v := .bool false) rfl (y_pick_f rfl rfl) ?_
    refine s_y (v := .bool false) rfl (y_assign rfl) ?_
    refine s_nil ?_
    refine W_ret ?_
    refine ret1 rfl rfl rfl ⟨_, rfl, ?_⟩
    exact ⟨congrArg Value.bool (by simp only [bordB, Bool.and_true, Bool.true_and, Bool.and_false, Bool.false_and, Bool.not_true, Bool.not_false, Bool.or_true, Bool.true_or, Bool.or_false, Bool.false_or]), E0⟩
namespace T85
theorem mx : Try.prog.follows .mixedOrders = true := by kernel_rfl
theorem fld_26_0_0 : fldB Try.prog 26 0 0 = true := by kernel_rfl
theorem fld_26_1_1 : fldB Try.prog 26 1 1 = true := by kernel_rfl
theorem fld_26_2_2 : fldB Try.prog 26 2 2 = true := by kernel_rfl
theorem fld_65_0_0 : fldB Try.prog 65 0 0 = true := by kernel_rfl
theorem fld_65_1_1 : fldB Try.prog 65 1 1 = true := by kernel_rfl
theorem fld_65_2_2 : fldB Try.prog 65 2 2 = true := by kernel_rfl
theorem fn_106 : fnB Try.prog 106 = true := by kernel_rfl
theorem one_2 : oneB Try.prog 2 = true := by kernel_rfl
theorem one_24 : oneB Try.prog 24 = true := by kernel_rfl
theorem one_4 : oneB Try.prog 4 = true := by kernel_rfl
theorem one_62 : oneB Try.prog 62 = true := by kernel_rfl
theorem sl_24_62_1 : slB Try.prog 24 62 1 = true := by kernel_rfl
end T85
set_option maxRecDepth 100000 in
set_option maxHeartbeats 4000000 in
theorem c_s_l02Fits {wd hi : Int} {wr : Bool} {asp als : Option Addr} {nsp nls csp cls : Nat} {b o b2 o2 : Nat} {afe : Option Addr} {nfe cfe : Nat} {xfe Xfe : List Nat} {afx : Option Addr} {nfx cfx : Nat} {xfx Xfx : List Nat} {afy : Option Addr} {nfy cfy : Nat} {xfy Xfy : List Nat} (w : World) (hP : Sl w (some ⟨b, o, none⟩) [.int .i64 wd, .int .i64 hi, .bool wr, .slice asp nsp csp, .slice als nls cls]) (hQ : Sl w (some ⟨b2, o2, none⟩) [.slice afe nfe cfe, .slice afx nfx cfx, .slice afy nfy cfy]) (h1 : 3 ≤ wd) (h2 : wd ≤ 16) (h3 : 3 ≤ hi) (h4 : hi ≤ 16) (qsfe : Sl w afe (flts xfe)) (qlfe : xfe.length = nfe) (qkfe : cn xfe = Xfe) (qsfx : Sl w afx (flts xfx)) (qlfx : xfx.length = nfx) (qkfx : cn xfx = Xfx) (qsfy : Sl w afy (flts xfy)) (qlfy : xfy.length = nfy) (qkfy : cn xfy = Xfy) (hc1 : nfe ≤ 9223372036854775806) (hc2 : nfx ≤ 9223372036854775806) (hc3 : nfy ≤ 9223372036854775806) :
    Calls Try.prog 85 #[.pointer (some ⟨b, o, none⟩), .pointer (some ⟨b2, o2, none⟩)] w (Rt fun v w' => v = .bool (fitsB wd hi wr Xfe Xfx Xfy) ∧ Ext0 w w') := by
  have E0 : Ext no w w := Ext.refl _ _
  have hlfe : Xfe.length = nfe := (cn_lenX qkfe).trans qlfe
  have hlfx : Xfx.length = nfx := (cn_lenX qkfx).trans qlfx
  have hlfy : Xfy.length = nfy := (cn_lenX qkfy).trans qlfy
  have lo_some_b_o_none := Sl.low hP
  have lo_some_b2_o2_none := Sl.low hQ
  have lo_afe := Sl.low qsfe
  have lo_afx := Sl.low qsfx
  have lo_afy := Sl.low qsfy
  refine calls_W (n := 126) Try.func85 rfl rfl (Nat.le_of_ble_eq_true rfl) ?_
  refine W_seq ?_
  refine W_region (by kernel_rfl) ?_
  refine s_y (v := .bool false) rfl (y_assign rfl) ?_
  refine s_nil ?_
  refine W_seq ?_
  refine W_draw (no) T85.mx (by kernel_rfl) (fun w1 e2 => ?_)
  have hS3 := hP.ext0 e2
  have hS4 := hQ.ext0 e2
  have hS5 := qsfe.ext0 e2
  have hS6 := qsfx.ext0 e2
  have hS7 := qsfy.ext0 e2
  have E8 := E0.fresh e2 (fun _ h _ => h.elim)
  have R9 := (Ext.refl (no) w).trans (Ext0.any e2)
  refine m_y (v := .pointer (some ⟨b, o, none⟩)) 0 rfl (by kernel_rfl) rfl rfl (fun w' e' => y_move rfl) ?_
  refine m_y (v := .pointer (some ⟨b, o, none⟩)) 1 rfl (by kernel_rfl) rfl rfl (fun w' e' => y_nil rfl) ?_
  refine m_y (v := .pointer (some ⟨b, o, none⟩)) 2 rfl (by kernel_rfl) rfl rfl (fun w' e' => y_fld (o := o + 0) T85.fld_26_0_0 rfl) ?_
  refine m_y (v := .int .i64 wd) 3 rfl (by kernel_rfl) rfl rfl (fun w' e' => y_load T85.one_2 rfl ((hP.ext0 e').cell (j := 0) rfl)) ?_
  refine m_y (v := .pointer (some ⟨b, o, none⟩)) 4 rfl (by kernel_rfl) rfl rfl (fun w' e' => y_move rfl) ?_
  refine m_y (v := .pointer (some ⟨b, o, none⟩)) 5 rfl (by kernel_rfl) rfl rfl (fun w' e' => y_nil rfl) ?_
  refine m_y (v := .pointer (some ⟨b, o + 1, none⟩)) 6 rfl (by kernel_rfl) rfl rfl (fun w' e' => y_fld (o := o + 0) T85.fld_26_1_1 rfl) ?_
  refine m_y (v := .int .i64 hi) 7 rfl (by kernel_rfl) rfl rfl (fun w' e' => y_load T85.one_2 rfl ((hP.ext0 e').cell (j := 1) rfl)) ?_
  have hm10 := mulb (a := wd) (b := hi) (by omega) (by omega) (by omega) (by omega)
  refine m_y (v := .int .i64 (wd * hi)) 8 rfl (by kernel_rfl) rfl rfl (fun w' e' => y_mul rfl rfl rfl (by omega)) ?_
  refine m_y (v := .int .i64 (wd * hi)) 9 rfl (by kernel_rfl) rfl rfl (fun w' e' => y_assign rfl) ?_
  refine m_done (by kernel_rfl) (fun w11 e12 => ?_)
  have hS13 := hS3.ext0 e12
  have hS14 := hS4.ext0 e12
  have hS15 := hS5.ext0 e12
  have hS16 := hS6.ext0 e12
  have hS17 := hS7.ext0 e12
  have E18 := E8.fresh e12 (fun _ h _ => h.elim)
  have R19 := R9.trans (Ext0.any e12)
  refine W_seq ?_
  refine W_seq ?_
  refine W_region (by kernel_rfl) ?_
  refine s_y (v := .pointer (some ⟨b2, o2, none⟩)) rfl (y_move rfl) ?_
  refine s_y (v := .pointer (some ⟨b2, o2, none⟩)) rfl (y_nil rfl) ?_
  refine s_y (v := .pointer (some ⟨b2, o2, none⟩)) rfl (y_fld (o := o2 + 0) T85.fld_65_0_0 rfl) ?_
  refine s_y (v := .slice afe nfe cfe) rfl (y_load T85.one_24 rfl (hS14.cell (j := 0) rfl)) ?_
  refine s_y (v := .int .i64 ((nfe : Nat) : Int)) rfl (y_len T85.sl_24_62_1 rfl rfl) ?_
  refine s_y (v := .int .i64 (wd * hi)) rfl (y_move rfl) ?_
  by_cases c20 : ((nfe : Nat) : Int) ≠ (wd * hi)
  · refine s_y (v := .bool true) rfl (y_neq rfl rfl (decide_eq_true c20)) ?_
    refine s_y (v := .bool true) rfl (y_move rfl) ?_
    refine s_skip rfl ?_
    refine s_skip rfl ?_
    refine s_skip rfl ?_
    refine s_skip rfl ?_
    refine s_skip rfl ?_
    refine s_skip rfl ?_
    refine s_skip rfl ?_
    refine s_y (v := .bool true) rfl (y_pick_t rfl rfl) ?_
    refine s_y (v := .bool true) rfl (y_move rfl) ?_
    refine s_skip rfl ?_
    refine s_skip rfl ?_
    refine s_skip rfl ?_
    refine s_skip rfl ?_
    refine s_skip rfl ?_
    refine s_skip rfl ?_
    refine s_skip rfl ?_
    refine s_y (v := .bool true) rfl (y_pick_t rfl rfl) ?_
    refine s_nil ?_
    refine W_if_t (by decide) rfl ?_
    refine W_seq ?_
    refine W_region (by kernel_rfl) ?_
    refine s_y (v := .bool false) rfl (y_assign rfl) ?_
    refine s_nil ?_
    refine W_ret ?_
    refine ret1 rfl rfl rfl ⟨_, rfl, ?_⟩
    exact ⟨congrArg Value.bool (by first | exact (fits_n1 (by omega)).symm | exact (fits_n2 (by omega)).symm | exact (fits_n3 (by omega)).symm), E18⟩
  · refine s_y (v := .bool false) rfl (y_neq rfl rfl (decide_eq_false c20)) ?_
    refine s_y (v := .bool false) rfl (y_move rfl) ?_
    refine s_y (v := .pointer (some ⟨b2, o2, none⟩)) rfl (y_move rfl) ?_
    refine s_y (v := .pointer (some ⟨b2, o2, none⟩)) rfl (y_nil rfl) ?_
    refine s_y (v := .pointer (some ⟨b2, o2 + 1, none⟩)) rfl (y_fld (o := o2 + 0) T85.fld_65_1_1 rfl) ?_
    refine s_y (v := .slice afx nfx cfx) rfl (y_load T85.one_24 rfl (hS14.cell (j := 1) rfl)) ?_
    refine s_y (v := .int .i64 ((nfx : Nat) : Int)) rfl (y_len T85.sl_24_62_1 rfl rfl) ?_
    refine s_y (v := .int .i64 (wd * hi)) rfl (y_move rfl) ?_
    by_cases c21 : ((nfx : Nat) : Int) ≠ (wd * hi)
    · refine s_y (v := .bool true) rfl (y_neq rfl rfl (decide_eq_true c21)) ?_
      refine s_y (v := .bool true) rfl (y_pick_f rfl rfl) ?_
      refine s_y (v := .bool true) rfl (y_move rfl) ?_
      refine s_skip rfl ?_
      refine s_skip rfl ?_
      refine s_skip rfl ?_
      refine s_skip rfl ?_
      refine s_skip rfl ?_
      refine s_skip rfl ?_
      refine s_skip rfl ?_
      refine s_y (v := .bool true) rfl (y_pick_t rfl rfl) ?_
      refine s_nil ?_
      refine W_if_t (by decide) rfl ?_
      refine W_seq ?_
      refine W_region (by kernel_rfl) ?_
      refine s_y (v := .bool false) rfl (y_assign rfl) ?_
      refine s_nil ?_
      refine W_ret ?_
      refine ret1 rfl rfl rfl ⟨_, rfl, ?_⟩
      exact ⟨congrArg Value.bool (by first | exact (fits_n1 (by omega)).symm | exact (fits_n2 (by omega)).symm | exact (fits_n3 (by omega)).symm), E18⟩
    · refine s_y (v := .bool false) rfl (y_neq rfl rfl (decide_eq_false c21)) ?_
      refine s_y (v := .bool false) rfl (y_pick_f rfl rfl) ?_
      refine s_y (v := .bool false) rfl (y_move rfl) ?_
      refine s_y (v := .pointer (some ⟨b2, o2, none⟩)) rfl (y_move rfl) ?_
      refine s_y (v := .pointer (some ⟨b2, o2, none⟩)) rfl (y_nil rfl) ?_
      refine s_y (v := .pointer (some ⟨b2, o2 + 2, none⟩)) rfl (y_fld (o := o2 + 0) T85.fld_65_2_2 rfl) ?_
      refine s_y (v := .slice afy nfy cfy) rfl (y_load T85.one_24 rfl (hS14.cell (j := 2) rfl)) ?_
      refine s_y (v := .int .i64 ((nfy : Nat) : Int)) rfl (y_len T85.sl_24_62_1 rfl rfl) ?_
      refine s_y (v := .int .i64 (wd * hi)) rfl (y_move rfl) ?_
      by_cases c22 : ((nfy : Nat) : Int) ≠ (wd * hi)
      · refine s_y (v := .bool true) rfl (y_neq rfl rfl (decide_eq_true c22)) ?_
        refine s_y (v := .bool true) rfl (y_pick_f rfl rfl) ?_
        refine s_nil ?_
        refine W_if_t (by decide) rfl ?_
        refine W_seq ?_
        refine W_region (by kernel_rfl) ?_
        refine s_y (v := .bool false) rfl (y_assign rfl) ?_
        refine s_nil ?_
        refine W_ret ?_
        refine ret1 rfl rfl rfl ⟨_, rfl, ?_⟩
        exact ⟨congrArg Value.bool (by first | exact (fits_n1 (by omega)).symm | exact (fits_n2 (by omega)).symm | exact (fits_n3 (by omega)).symm), E18⟩
      · refine s_y (v := .bool false) rfl (y_neq rfl rfl (decide_eq_false c22)) ?_
        refine s_y (v := .bool false) rfl (y_pick_f rfl rfl) ?_
        refine s_nil ?_
        refine W_if_f (by decide) rfl ?_
        refine W_skip ?_
        refine W_seq ?_
        refine W_seq ?_
        refine W_region (by kernel_rfl) ?_
        refine s_y (v := .int .i64 0) rfl (y_assign rfl) ?_
        refine s_nil ?_
        refine W_block ?_
        refine W_loop (fun ρ' w' => ∃ (ρ1 : Env) (py : Int), ρ' = updL ρ1 [(0, .pointer (some ⟨b, o, none⟩)), (1, .pointer (some ⟨b2, o2, none⟩)), (6, .int .i64 py)] ∧ Ext no w w' ∧ Sl w' (some ⟨b, o, none⟩) [.int .i64 wd, .int .i64 hi, .bool wr, .slice asp nsp csp, .slice als nls cls] ∧ Sl w' (some ⟨b2, o2, none⟩) [.slice afe nfe cfe, .slice afx nfx cfx, .slice afy nfy cfy] ∧ Sl w' afe (flts xfe) ∧ Sl w' afx (flts xfx) ∧ Sl w' afy (flts xfy) ∧ (0 ≤ py) ∧ (py ≤ hi) ∧ (wr = true → py = 0) ∧ (∀ j, 0 ≤ j → j < wd * py → edgeB wd hi Xfe Xfx Xfy (j % wd) (j / wd) j = false)) (fun ρ' _ => (hi - iv (ρ' 6)).toNat) ?_ ?_
        · exact ⟨_, 0, Fits.eq ⟨rfl, rfl, rfl, trivial⟩, E18, hS13, hS14, hS15, hS16, hS17, (Int.le_refl _), (by omega), (fun _ => rfl), (by intro j h0 h1; rw [Int.mul_zero] at h1; omega)⟩
        · rintro _ w23 ⟨ρ30, py, rfl, E24, hS25, hS26, hS27, hS28, hS29, h0y, h1y, hwr, hq0⟩
          have hwy := mulb (a := wd) (b := py) (by omega) (by omega) (by omega) (by omega)
          refine W_seq ?_
          refine W_seq ?_
          refine W_region (by kernel_rfl) ?_
          refine s_y (v := .int .i64 py) rfl (y_move rfl) ?_
          refine s_y (v := .pointer (some ⟨b, o, none⟩)) rfl (y_move rfl) ?_
          refine s_y (v := .pointer (some ⟨b, o, none⟩)) rfl (y_nil rfl) ?_
          refine s_y (v := .pointer (some ⟨b, o + 1, none⟩)) rfl (y_fld (o := o + 0) T85.fld_26_1_1 rfl) ?_
          refine s_y (v := .int .i64 hi) rfl (y_load T85.one_2 rfl (hS25.cell (j := 1) rfl)) ?_
          by_cases c31 : py < hi
          · refine s_y (v := .bool true) rfl (y_lss rfl rfl (decide_eq_true c31)) ?_
            refine s_y (v := .bool true) rfl (y_move rfl) ?_
            refine s_y (v := .pointer (some ⟨b, o, none⟩)) rfl (y_move rfl) ?_
            refine s_y (v := .pointer (some ⟨b, o, none⟩)) rfl (y_nil rfl) ?_
            refine s_y (v := .pointer (some ⟨b, o + 2, none⟩)) rfl (y_fld (o := o + 0) T85.fld_26_2_2 rfl) ?_
            refine s_y (v := .bool wr) rfl (y_load T85.one_4 rfl (hS25.cell (j := 2) rfl)) ?_
            refine s_y (v := .bool (!wr)) rfl (y_not rfl rfl) ?_
            refine s_y (v := .bool (!wr)) rfl (y_pick_t rfl rfl) ?_
            refine s_nil ?_
            cases wr
            · refine W_if_t (by decide) rfl ?_
              refine W_skip ?_
              refine W_seq ?_
              refine W_block ?_
              refine W_seq ?_
              refine W_region (by kernel_rfl) ?_
              refine s_y (v := .int .i64 0) rfl (y_assign rfl) ?_
              refine s_nil ?_
              refine W_block ?_
              refine W_loop (fun ρ' w' => ∃ (ρ1 : Env) (px : Int), ρ' = updL ρ1 [(0, .pointer (some ⟨b, o, none⟩)), (1, .pointer (some ⟨b2, o2, none⟩)), (6, .int .i64 py), (7, .int .i64 px), (43, .int .i64 py), (44, .pointer (some ⟨b, o, none⟩)), (45, .pointer (some ⟨b, o, none⟩)), (46, .pointer (some ⟨b, o + 1, none⟩)), (47, .int .i64 hi), (48, .bool true), (49, .bool true), (50, .pointer (some ⟨b, o, none⟩)), (51, .pointer (some ⟨b, o, none⟩)), (52, .pointer (some ⟨b, o + 2, none⟩)), (53, .bool false), (54, .bool true), (55, .bool true)] ∧ Ext no w w' ∧ Sl w' (some ⟨b, o, none⟩) [.int .i64 wd, .int .i64 hi, .bool false, .slice asp nsp csp, .slice als nls cls] ∧ Sl w' (some ⟨b2, o2, none⟩) [.slice afe nfe cfe, .slice afx nfx cfx, .slice afy nfy cfy] ∧ Sl w' afe (flts xfe) ∧ Sl w' afx (flts xfx) ∧ Sl w' afy (flts xfy) ∧ (0 ≤ px) ∧ (px ≤ wd) ∧ (∀ j, 0 ≤ j → j < wd * py + px → edgeB wd hi Xfe Xfx Xfy (j % wd) (j / wd) j = false)) (fun ρ' _ => (wd - iv (ρ' 7)).toNat) ?_ ?_
              · exact ⟨_, 0, Fits.eq ⟨rfl, rfl, rfl, rfl, rfl, rfl, rfl, rfl, rfl, rfl, rfl, rfl, rfl, rfl, rfl, rfl, rfl, trivial⟩, E24, hS25, hS26, hS27, hS28, hS29, (Int.le_refl _), (by omega), (by intro j h0 h1; exact hq0 j h0 (by omega))⟩
              · rintro _ w32 ⟨ρ39, px, rfl, E33, hS34, hS35, hS36, hS37, hS38, h0x, h1x, hq1⟩
                refine W_seq ?_
                refine W_seq ?_
                refine W_region (by kernel_rfl) ?_
                refine s_y (v := .int .i64 px) rfl (y_move rfl) ?_
                refine s_y (v := .pointer (some ⟨b, o, none⟩)) rfl (y_move rfl) ?_
                refine s_y (v := .pointer (some ⟨b, o, none⟩)) rfl (y_nil rfl) ?_
                refine s_y (v := .pointer (some ⟨b, o, none⟩)) rfl (y_fld (o := o + 0) T85.fld_26_0_0 rfl) ?_
                refine s_y (v := .int .i64 wd) rfl (y_load T85.one_2 rfl (hS34.cell (j := 0) rfl)) ?_
                by_cases c40 : px < wd
                · refine s_y (v := .bool true) rfl (y_lss rfl rfl (decide_eq_true c40)) ?_
                  refine s_nil ?_
                  refine W_if_t (by decide) rfl ?_
                  refine W_skip ?_
                  refine W_seq ?_
                  refine W_block ?_
                  refine W_seq ?_
                  refine W_region (by kernel_rfl) ?_
                  refine s_y (v := .int .i64 px) rfl (y_move rfl) ?_
                  refine s_y (v := .pointer (some ⟨b, o, none⟩)) rfl (y_move rfl) ?_
                  refine s_y (v := .pointer (some ⟨b, o, none⟩)) rfl (y_nil rfl) ?_
                  refine s_y (v := .pointer (some ⟨b, o, none⟩)) rfl (y_fld (o := o + 0) T85.fld_26_0_0 rfl) ?_
                  refine s_y (v := .int .i64 wd) rfl (y_load T85.one_2 rfl (hS34.cell (j := 0) rfl)) ?_
                  refine s_y (v := .int .i64 py) rfl (y_move rfl) ?_
                  have hm41 := mulb (a := wd) (b := py) (by omega) (by omega) (by omega) (by omega)
                  refine s_y (v := .int .i64 (wd * py)) rfl (y_mul rfl rfl rfl (by omega)) ?_
                  refine s_y (v := .int .i64 (px + (wd * py))) rfl (y_add rfl rfl rfl (by omega)) ?_
                  refine s_y (v := .int .i64 (px + (wd * py))) rfl (y_assign rfl) ?_
                  refine s_nil ?_
                  refine W_seq ?_
                  refine W_region (by kernel_rfl) ?_
                  refine s_y (v := .pointer (some ⟨b, o, none⟩)) rfl (y_move rfl) ?_
                  refine s_y (v := .int .i64 px) rfl (y_move rfl) ?_
                  refine s_y (v := .int .i64 py) rfl (y_move rfl) ?_
                  refine s_k rfl (k_call T85.fn_106 (c_s_l02Border _ hS34 (by omega) (by omega) (by omega) (by omega)) rfl ?_)
                  rintro v44 w42 ⟨hv45, e43⟩
                  have hS46 := hS34.ext0 e43
                  have hS47 := hS35.ext0 e43
                  have hS48 := hS36.ext0 e43
                  have hS49 := hS37.ext0 e43
                  have hS50 := hS38.ext0 e43
                  have E51 := E33.fresh e43 (fun _ h _ => h.elim)
                  by_cases c52 : bordB wd hi false px py = true
                  · obtain rfl : v44 = .bool true := hv45.trans (congrArg Value.bool c52)
                    refine s_y (v := .bool true) rfl (y_move rfl) ?_
                    refine s_y (v := .pointer (some ⟨b2, o2, none⟩)) rfl (y_move rfl) ?_
                    refine s_y (v := .pointer (some ⟨b2, o2, none⟩)) rfl (y_nil rfl) ?_
                    refine s_y (v := .pointer (some ⟨b2, o2, none⟩)) rfl (y_fld (o := o2 + 0) T85.fld_65_0_0 rfl) ?_
                    refine s_y (v := .slice afe nfe cfe) rfl (y_load T85.one_24 rfl (hS47.cell (j := 0) rfl)) ?_
                    refine s_y (v := .int .i64 (px + (wd * py))) rfl (y_move rfl) ?_
                    have hx53 := row_lt (wd := wd) (hi := hi) (a := px) (b := py) (by omega) (by omega) (by omega) (by omega)
                    refine s_y (v := .pointer (some (sat afe ((px + (wd * py)).toNat * 1)))) rfl (y_idx T85.sl_24_62_1 rfl rfl (hS48.addr (by rw [flts_length]; omega)) (by omega) (by omega)) ?_
                    refine s_y (v := .float .f32 (el xfe (px + (wd * py)))) rfl (y_load T85.one_62 rfl (hS48.cell (fl_at (by omega) (by omega)))) ?_
                    by_cases c54 : fne .f32 (el Xfe (px + (wd * py))) 0 = true
                    · refine s_y (v := .bool true) rfl (y_fneq rfl rfl (fneC (cn_el qkfe (px + (wd * py))) (show can .f32 0 = 0 by kernel_rfl) c54)) ?_
                      refine s_y (v := .bool true) rfl (y_pick_t rfl rfl) ?_
                      refine s_y (v := .bool true) rfl (y_move rfl) ?_
                      refine s_skip rfl ?_
                      refine s_skip rfl ?_
                      refine s_skip rfl ?_
                      refine s_skip rfl ?_
                      refine s_skip rfl ?_
                      refine s_skip rfl ?_
                      refine s_skip rfl ?_
                      refine s_skip rfl ?_
                      refine s_skip rfl ?_
                      refine s_skip rfl ?_
                      refine s_skip rfl ?_
                      refine s_skip rfl ?_
                      refine s_skip rfl ?_
                      refine s_skip rfl ?_
                      refine s_skip rfl ?_
                      refine s_skip rfl ?_
                      refine s_skip rfl ?_
                      refine s_y (v := .bool true) rfl (y_pick_t rfl rfl) ?_
                      refine s_y (v := .bool true) rfl (y_move rfl) ?_
                      refine s_skip rfl ?_
                      refine s_skip rfl ?_
                      refine s_skip rfl ?_
                      refine s_skip rfl ?_
                      refine s_skip rfl ?_
                      refine s_skip rfl ?_
                      refine s_skip rfl ?_
                      refine s_skip rfl ?_
                      refine s_skip rfl ?_
                      refine s_skip rfl ?_
                      refine s_skip rfl ?_
                      refine s_skip rfl ?_
                      refine s_skip rfl ?_
                      refine s_skip rfl ?_
                      refine s_skip rfl ?_
                      refine s_skip rfl ?_
                      refine s_skip rfl ?_
                      refine s_y (v := .bool true) rfl (y_pick_t rfl rfl) ?_
                      refine s_nil ?_
                      refine W_if_t (by decide) rfl ?_
                      refine W_seq ?_
                      refine W_region (by kernel_rfl) ?_
                      refine s_y (v := .bool false) rfl (y_assign rfl) ?_
                      refine s_nil ?_
                      refine W_ret ?_
                      refine ret1 rfl rfl rfl ⟨_, rfl, ?_⟩
                      exact ⟨congrArg Value.bool (fits_no (x := px) (y := py) (by omega) (by omega) (by omega) (by omega) (by simp only [edgeB, (decide_eq_false c20), (decide_eq_false c21), (decide_eq_false c22), (decide_eq_true c31), (decide_eq_true c40), c52, c54, Bool.and_true, Bool.true_and, Bool.and_false, Bool.false_and, Bool.not_true, Bool.not_false, Bool.or_true, Bool.true_or, Bool.or_false, Bool.false_or])).symm, E51⟩
                    · refine s_y (v := .bool false) rfl (y_fneq rfl rfl (fneC (cn_el qkfe (px + (wd * py))) (show can .f32 0 = 0 by kernel_rfl) (Bool.eq_false_iff.2 c54))) ?_
                      refine s_y (v := .bool false) rfl (y_pick_t rfl rfl) ?_
                      refine s_y (v := .bool false) rfl (y_move rfl) ?_
                      refine s_y (v := .int .i64 py) rfl (y_move rfl) ?_
                      refine s_y (v := .pointer (some ⟨b, o, none⟩)) rfl (y_move rfl) ?_
                      refine s_y (v := .pointer (some ⟨b, o, none⟩)) rfl (y_nil rfl) ?_
                      refine s_y (v := .pointer (some ⟨b, o + 1, none⟩)) rfl (y_fld (o := o + 0) T85.fld_26_1_1 rfl) ?_
                      refine s_y (v := .int .i64 hi) rfl (y_load T85.one_2 rfl (hS46.cell (j := 1) rfl)) ?_
                      refine s_y (v := .int .i64 (hi - 1)) rfl (y_sub rfl rfl rfl (by omega)) ?_
                      by_cases c55 : py = (hi - 1)
                      · refine s_y (v := .bool true) rfl (y_eql rfl rfl (decide_eq_true c55)) ?_
                        refine s_y (v := .bool true) rfl (y_move rfl) ?_
                        refine s_y (v := .pointer (some ⟨b2, o2, none⟩)) rfl (y_move rfl) ?_
                        refine s_y (v := .pointer (some ⟨b2, o2, none⟩)) rfl (y_nil rfl) ?_
                        refine s_y (v := .pointer (some ⟨b2, o2 + 1, none⟩)) rfl (y_fld (o := o2 + 0) T85.fld_65_1_1 rfl) ?_
                        refine s_y (v := .slice afx nfx cfx) rfl (y_load T85.one_24 rfl (hS47.cell (j := 1) rfl)) ?_
                        refine s_y (v := .int .i64 (px + (wd * py))) rfl (y_move rfl) ?_
                        have hx56 := row_lt (wd := wd) (hi := hi) (a := px) (b := py) (by omega) (by omega) (by omega) (by omega)
                        refine s_y (v := .pointer (some (sat afx ((px + (wd * py)).toNat * 1)))) rfl (y_idx T85.sl_24_62_1 rfl rfl (hS49.addr (by rw [flts_length]; omega)) (by omega) (by omega)) ?_
                        refine s_y (v := .float .f32 (el xfx (px + (wd * py)))) rfl (y_load T85.one_62 rfl (hS49.cell (fl_at (by omega) (by omega)))) ?_
                        by_cases c57 : fne .f32 (el Xfx (px + (wd * py))) 0 = true
                        · refine s_y (v := .bool true) rfl (y_fneq rfl rfl (fneC (cn_el qkfx (px + (wd * py))) (show can .f32 0 = 0 by kernel_rfl) c57)) ?_
                          refine s_y (v := .bool true) rfl (y_pick_t rfl rfl) ?_
                          refine s_y (v := .bool true) rfl (y_pick_f rfl rfl) ?_
                          refine s_y (v := .bool true) rfl (y_move rfl) ?_
                          refine s_skip rfl ?_
                          refine s_skip rfl ?_
                          refine s_skip rfl ?_
                          refine s_skip rfl ?_
                          refine s_skip rfl ?_
                          refine s_skip rfl ?_
                          refine s_skip rfl ?_
                          refine s_skip rfl ?_
                          refine s_skip rfl ?_
                          refine s_skip rfl ?_
                          refine s_skip rfl ?_
                          refine s_skip rfl ?_
                          refine s_skip rfl ?_
                          refine s_skip rfl ?_
                          refine s_skip rfl ?_
                          refine s_skip rfl ?_
                          refine s_skip rfl ?_
                          refine s_y (v := .bool true) rfl (y_pick_t rfl rfl) ?_
                          refine s_nil ?_
                          refine W_if_t (by decide) rfl ?_
                          refine W_seq ?_
                          refine W_region (by kernel_rfl) ?_
                          refine s_y (v := .bool false) rfl (y_assign rfl) ?_
                          refine s_nil ?_
                          refine W_ret ?_
                          refine ret1 rfl rfl rfl ⟨_, rfl, ?_⟩
                          exact ⟨congrArg Value.bool (fits_no (x := px) (y := py) (by omega) (by omega) (by omega) (by omega) (by simp only [edgeB, (decide_eq_false c20), (decide_eq_false c21), (decide_eq_false c22), (decide_eq_true c31), (decide_eq_true c40), c52, (Bool.eq_false_iff.2 c54), (decide_eq_true c55), c57, Bool.and_true, Bool.true_and, Bool.and_false, Bool.false_and, Bool.not_true, Bool.not_false, Bool.or_true, Bool.true_or, Bool.or_false, Bool.false_or])).symm, E51⟩
                        · refine s_y (v := .bool false) rfl (y_fneq rfl rfl (fneC (cn_el qkfx (px + (wd * py))) (show can .f32 0 = 0 by kernel_rfl) (Bool.eq_false_iff.2 c57))) ?_
                          refine s_y (v := .bool false) rfl (y_pick_t rfl rfl) ?_
                          refine s_y (v := .bool false) rfl (y_pick_f rfl rfl) ?_
                          refine s_y (v := .bool false) rfl (y_move rfl) ?_
                          refine s_y (v := .int .i64 px) rfl (y_move rfl) ?_
                          refine s_y (v := .pointer (some ⟨b, o, none⟩)) rfl (y_move rfl) ?_
                          refine s_y (v := .pointer (some ⟨b, o, none⟩)) rfl (y_nil rfl) ?_
                          refine s_y (v := .pointer (some ⟨b, o, none⟩)) rfl (y_fld (o := o + 0) T85.fld_26_0_0 rfl) ?_
                          refine s_y (v := .int .i64 wd) rfl (y_load T85.one_2 rfl (hS46.cell (j := 0) rfl)) ?_
                          refine s_y (v := .int .i64 (wd - 1)) rfl (y_sub rfl rfl rfl (by omega)) ?_
                          by_cases c58 : px = (wd - 1)
                          · refine s_y (v := .bool true) rfl (y_eql rfl rfl (decide_eq_true c58)) ?_
                            refine s_y (v := .bool true) rfl (y_move rfl) ?_
                            refine s_y (v := .pointer (some ⟨b2, o2, none⟩)) rfl (y_move rfl) ?_
                            refine s_y (v := .pointer (some ⟨b2, o2, none⟩)) rfl (y_nil rfl) ?_
                            refine s_y (v := .pointer (some ⟨b2, o2 + 2, none⟩)) rfl (y_fld (o := o2 + 0) T85.fld_65_2_2 rfl) ?_
                            refine s_y (v := .slice afy nfy cfy) rfl (y_load T85.one_24 rfl (hS47.cell (j := 2) rfl)) ?_
                            refine s_y (v := .int .i64 (px + (wd * py))) rfl (y_move rfl) ?_
                            have hx59 := row_lt (wd := wd) (hi := hi) (a := px) (b := py) (by omega) (by omega) (by omega) (by omega)
                            refine s_y (v := .pointer (some (sat afy ((px + (wd * py)).toNat * 1)))) rfl (y_idx T85.sl_24_62_1 rfl rfl (hS50.addr (by rw [flts_length]; omega)) (by omega) (by omega)) ?_
                            refine s_y (v := .float .f32 (el xfy (px + (wd * py)))) rfl (y_load T85.one_62 rfl (hS50.cell (fl_at (by omega) (by omega)))) ?_
                            by_cases c60 : fne .f32 (el Xfy (px + (wd * py))) 0 = true
                            · refine s_y (v := .bool true) rfl (y_fneq rfl rfl (fneC (cn_el qkfy (px + (wd * py))) (show can .f32 0 = 0 by kernel_rfl) c60)) ?_
                              refine s_y (v := .bool true) rfl (y_pick_t rfl rfl) ?_
                              refine s_y (v := .bool true) rfl (y_pick_f rfl rfl) ?_
                              refine s_nil ?_
                              refine W_if_t (by decide) rfl ?_
                              refine W_seq ?_
                              refine W_region (by kernel_rfl) ?_
                              refine s_y (v := .bool false) rfl (y_assign rfl) ?_
                              refine s_nil ?_
                              refine W_ret ?_
                              refine ret1 rfl rfl rfl ⟨_, rfl, ?_⟩
                              exact ⟨congrArg Value.bool (fits_no (x := px) (y := py) (by omega) (by omega) (by omega) (by omega) (by simp only [edgeB, (decide_eq_false c20), (decide_eq_false c21), (decide_eq_false c22), (decide_eq_true c31), (decide_eq_true c40), c52, (Bool.eq_false_iff.2 c54), (decide_eq_true c55), (Bool.eq_false_iff.2 c57), (decide_eq_true c58), c60, Bool.and_true, Bool.true_and, Bool.and_false, Bool.false_and, Bool.not_true, Bool.not_false, Bool.or_true, Bool.true_or, Bool.or_false, Bool.false_or])).symm, E51⟩
                            · refine s_y (v := .bool false) rfl (y_fneq rfl rfl (fneC (cn_el qkfy (px + (wd * py))) (show can .f32 0 = 0 by kernel_rfl) (Bool.eq_false_iff.2 c60))) ?_
                              refine s_y (v := .bool false) rfl (y_pick_t rfl rfl) ?_
                              refine s_y (v := .bool false) rfl (y_pick_f rfl rfl) ?_
                              refine s_nil ?_
                              refine W_if_f (by decide) rfl ?_
                              refine W_skip ?_
                              refine W_region (by kernel_rfl) ?_
                              refine s_y (v := .int .i64 px) rfl (y_move rfl) ?_
                              refine s_y (v := .int .i64 (px + 1)) rfl (y_add rfl rfl rfl (by omega)) ?_
                              refine s_y (v := .int .i64 (px + 1)) rfl (y_assign rfl) ?_
                              refine s_nil ?_
                              refine ⟨⟨_, px + 1, Fits.eq ⟨rfl, rfl, rfl, rfl, rfl, rfl, rfl, rfl, rfl, rfl, rfl, rfl, rfl, rfl, rfl, rfl, rfl, trivial⟩, E51, hS46, hS47, hS48, hS49, hS50, (by omega), (by omega), (edge_row hq1 (by simp only [edgeB, (decide_eq_false c20), (decide_eq_false c21), (decide_eq_false c22), (decide_eq_true c31), (decide_eq_true c40), c52, (Bool.eq_false_iff.2 c54), (decide_eq_true c55), (Bool.eq_false_iff.2 c57), (decide_eq_true c58), (Bool.eq_false_iff.2 c60), Bool.and_true, Bool.true_and, Bool.and_false, Bool.false_and, Bool.not_true, Bool.not_false, Bool.or_true, Bool.true_or, Bool.or_false, Bool.false_or]) (by omega) (by omega) (by omega))⟩, ?_⟩
                              show (wd - (px + 1)).toNat < (wd - px).toNat
                              omega
                          · refine s_y (v := .bool false) rfl (y_eql rfl rfl (decide_eq_false c58)) ?_
                            refine s_y (v := .bool false) rfl (y_move rfl) ?_
                            refine s_skip rfl ?_
                            refine s_skip rfl ?_
                            refine s_skip rfl ?_
                            refine s_skip rfl ?_
                            refine s_skip rfl ?_
                            refine s_skip rfl ?_
                            refine s_skip rfl ?_
                            refine s_skip rfl ?_
                            refine s_y (v := .bool false) rfl (y_pick_f rfl rfl) ?_
                            refine s_y (v := .bool false) rfl (y_pick_f rfl rfl) ?_
                            refine s_nil ?_
                            refine W_if_f (by decide) rfl ?_
                            refine W_skip ?_
                            refine W_region (by kernel_rfl) ?_
                            refine s_y (v := .int .i64 px) rfl (y_move rfl) ?_
                            refine s_y (v := .int .i64 (px + 1)) rfl (y_add rfl rfl rfl (by omega)) ?_
                            refine s_y (v := .int .i64 (px + 1)) rfl (y_assign rfl) ?_
                            refine s_nil ?_
                            refine ⟨⟨_, px + 1, Fits.eq ⟨rfl, rfl, rfl, rfl, rfl, rfl, rfl, rfl, rfl, rfl, rfl, rfl, rfl, rfl, rfl, rfl, rfl, trivial⟩, E51, hS46, hS47, hS48, hS49, hS50, (by omega), (by omega), (edge_row hq1 (by simp only [edgeB, (decide_eq_false c20), (decide_eq_false c21), (decide_eq_false c22), (decide_eq_true c31), (decide_eq_true c40), c52, (Bool.eq_false_iff.2 c54), (decide_eq_true c55), (Bool.eq_false_iff.2 c57), (decide_eq_false c58), Bool.and_true, Bool.true_and, Bool.and_false, Bool.false_and, Bool.not_true, Bool.not_false, Bool.or_true, Bool.true_or, Bool.or_false, Bool.false_or]) (by omega) (by omega) (by omega))⟩, ?_⟩
                            show (wd - (px + 1)).toNat < (wd - px).toNat
                            omega
                      · refine s_y (v := .bool false) rfl (y_eql rfl rfl (decide_eq_false c55)) ?_
                        refine s_y (v := .bool false) rfl (y_move rfl) ?_
                        refine s_skip rfl ?_
                        refine s_skip rfl ?_
                        refine s_skip rfl ?_
                        refine s_skip rfl ?_
                        refine s_skip rfl ?_
                        refine s_skip rfl ?_
                        refine s_skip rfl ?_
                        refine s_skip rfl ?_
                        refine s_y (v := .bool false) rfl (y_pick_f rfl rfl) ?_
                        refine s_y (v := .bool false) rfl (y_pick_f rfl rfl) ?_
                        refine s_y (v := .bool false) rfl (y_move rfl) ?_
                        refine s_y (v := .int .i64 px) rfl (y_move rfl) ?_
                        refine s_y (v := .pointer (some ⟨b, o, none⟩)) rfl (y_move rfl) ?_
                        refine s_y (v := .pointer (some ⟨b, o, none⟩)) rfl (y_nil rfl) ?_
                        refine s_y (v := .pointer (some ⟨b, o, none⟩)) rfl (y_fld (o := o + 0) T85.fld_26_0_0 rfl) ?_
                        refine s_y (v := .int .i64 wd) rfl (y_load T85.one_2 rfl (hS46.cell (j := 0) rfl)) ?_
                        refine s_y (v := .int .i64 (wd - 1)) rfl (y_sub rfl rfl rfl (by omega)) ?_
                        by_cases c61 : px = (wd - 1)
                        · refine s_y (v := .bool true) rfl (y_eql rfl rfl (decide_eq_true c61)) ?_
                          refine s_y (v := .bool true) rfl (y_move rfl) ?_
                          refine s_y (v := .pointer (some ⟨b2, o2, none⟩)) rfl (y_move rfl) ?_
                          refine s_y (v := .pointer (some ⟨b2, o2, none⟩)) rfl (y_nil rfl) ?_
                          refine s_y (v := .pointer (some ⟨b2, o2 + 2, none⟩)) rfl (y_fld (o := o2 + 0) T85.fld_65_2_2 rfl) ?_
                          refine s_y (v := .slice afy nfy cfy) rfl (y_load T85.one_24 rfl (hS47.cell (j := 2) rfl)) ?_
                          refine s_y (v := .int .i64 (px + (wd * py))) rfl (y_move rfl) ?_
                          have hx62 := row_lt (wd := wd) (hi := hi) (a := px) (b := py) (by omega) (by omega) (by omega) (by omega)
                          refine s_y (v := .pointer (some (sat afy ((px + (wd * py)).toNat * 1)))) rfl (y_idx T85.sl_24_62_1 rfl rfl (hS50.addr (by rw [flts_length]; omega)) (by omega) (by omega)) ?_
                          refine s_y (v := .float .f32 (el xfy (px + (wd * py)))) rfl (y_load T85.one_62 rfl (hS50.cell (fl_at (by omega) (by omega)))) ?_
                          by_cases c63 : fne .f32 (el Xfy (px + (wd * py))) 0 = true
                          · refine s_y (v := .bool true) rfl (y_fneq rfl rfl (fneC (cn_el qkfy (px + (wd * py))) (show can .f32 0 = 0 by kernel_rfl) c63)) ?_
                            refine s_y (v := .bool true) rfl (y_pick_t rfl rfl) ?_
                            refine s_y (v := .bool true) rfl (y_pick_f rfl rfl) ?_
                            refine s_nil ?_
                            refine W_if_t (by decide) rfl ?_
                            refine W_seq ?_
                            refine W_region (by kernel_rfl) ?_
                            refine s_y (v := .bool false) rfl (y_assign rfl) ?_
                            refine s_nil ?_
                            refine W_ret ?_
                            refine ret1 rfl rfl rfl ⟨_, rfl, ?_⟩
                            exact ⟨congrArg Value.bool (fits_no (x := px) (y := py) (by omega) (by omega) (by omega) (by omega) (by simp only [edgeB, (decide_eq_false c20), (decide_eq_false c21), (decide_eq_false c22), (decide_eq_true c31), (decide_eq_true c40), c52, (Bool.eq_false_iff.2 c54), (decide_eq_false c55), (decide_eq_true c61), c63, Bool.and_true, Bool.true_and, Bool.and_false, Bool.false_and, Bool.not_true, Bool.not_false, Bool.or_true, Bool.true_or, Bool.or_false, Bool.false_or])).symm, E51⟩
                          · refine s_y (v := .bool false) rfl (y_fneq rfl rfl (fneC (cn_el qkfy (px + (wd * py))) (show can .f32 0 = 0 by kernel_rfl) (Bool.eq_false_iff.2 c63))) ?_
                            refine s_y (v := .bool false) rfl (y_pick_t rfl rfl) ?_
                            refine s_y (v := .bool false) rfl (y_pick_f rfl rfl) ?_
                            refine s_nil ?_
                            refine W_if_f (by decide) rfl ?_
                            refine W_skip ?_
                            refine W_region (by kernel_rfl) ?_
                            refine s_y (v := .int .i64 px) rfl (y_move rfl) ?_
                            refine s_y (v := .int .i64 (px + 1)) rfl (y_add rfl rfl rfl (by omega)) ?_
                            refine s_y (v := .int .i64 (px + 1)) rfl (y_assign rfl) ?_
                            refine s_nil ?_
                            refine ⟨⟨_, px + 1, Fits.eq ⟨rfl, rfl, rfl, rfl, rfl, rfl, rfl, rfl, rfl, rfl, rfl, rfl, rfl, rfl, rfl, rfl, rfl, trivial⟩, E51, hS46, hS47, hS48, hS49, hS50, (by omega), (by omega), (edge_row hq1 (by simp only [edgeB, (decide_eq_false c20), (decide_eq_false c21), (decide_eq_false c22), (decide_eq_true c31), (decide_eq_true c40), c52, (Bool.eq_false_iff.2 c54), (decide_eq_false c55), (decide_eq_true c61), (Bool.eq_false_iff.2 c63), Bool.and_true, Bool.true_and, Bool.and_false, Bool.false_and, Bool.not_true, Bool.not_false, Bool.or_true, Bool.true_or, Bool.or_false, Bool.false_or]) (by omega) (by omega) (by omega))⟩, ?_⟩
                            show (wd - (px + 1)).toNat < (wd - px).toNat
                            omega
                        · refine s_y (v := .bool false) rfl (y_eql rfl rfl (decide_eq_false c61)) ?_
                          refine s_y (v := .bool false) rfl (y_move rfl) ?_
                          refine s_skip rfl ?_
                          refine s_skip rfl ?_
                          refine s_skip rfl ?_
                          refine s_skip rfl ?_
                          refine s_skip rfl ?_
                          refine s_skip rfl ?_
                          refine s_skip rfl ?_
                          refine s_skip rfl ?_
                          refine s_y (v := .bool false) rfl (y_pick_f rfl rfl) ?_
                          refine s_y (v := .bool false) rfl (y_pick_f rfl rfl) ?_
                          refine s_nil ?_
                          refine W_if_f (by decide) rfl ?_
                          refine W_skip ?_
                          refine W_region (by kernel_rfl) ?_
                          refine s_y (v := .int .i64 px) rfl (y_move rfl) ?_
                          refine s_y (v := .int .i64 (px + 1)) rfl (y_add rfl rfl rfl (by omega)) ?_
                          refine s_y (v := .int .i64 (px + 1)) rfl (y_assign rfl) ?_
                          refine s_nil ?_
                          refine ⟨⟨_, px + 1, Fits.eq ⟨rfl, rfl, rfl, rfl, rfl, rfl, rfl, rfl, rfl, rfl, rfl, rfl, rfl, rfl, rfl, rfl, rfl, trivial⟩, E51, hS46, hS47, hS48, hS49, hS50, (by omega), (by omega), (edge_row hq1 (by simp only [edgeB, (decide_eq_false c20), (decide_eq_false c21), (decide_eq_false c22), (decide_eq_true c31), (decide_eq_true c40), c52, (Bool.eq_false_iff.2 c54), (decide_eq_false c55), (decide_eq_false c61), Bool.and_true, Bool.true_and, Bool.and_false, Bool.false_and, Bool.not_true, Bool.not_false, Bool.or_true, Bool.true_or, Bool.or_false, Bool.false_or]) (by omega) (by omega) (by omega))⟩, ?_⟩
                          show (wd - (px + 1)).toNat < (wd - px).toNat
                          omega
                  · obtain rfl : v44 = .bool false := hv45.trans (congrArg Value.bool (Bool.eq_false_iff.2 c52))
                    refine s_y (v := .bool false) rfl (y_move rfl) ?_
                    refine s_skip rfl ?_
                    refine s_skip rfl ?_
                    refine s_skip rfl ?_
                    refine s_skip rfl ?_
                    refine s_skip rfl ?_
                    refine s_skip rfl ?_
                    refine s_skip rfl ?_
                    refine s_skip rfl ?_
                    refine s_y (v := .bool false) rfl (y_pick_f rfl rfl) ?_
                    refine s_y (v := .bool false) rfl (y_move rfl) ?_
                    refine s_y (v := .int .i64 py) rfl (y_move rfl) ?_
                    refine s_y (v := .pointer (some ⟨b, o, none⟩)) rfl (y_move rfl) ?_
                    refine s_y (v := .pointer (some ⟨b, o, none⟩)) rfl (y_nil rfl) ?_
                    refine s_y (v := .pointer (some ⟨b, o + 1, none⟩)) rfl (y_fld (o := o + 0) T85.fld_26_1_1 rfl) ?_
                    refine s_y (v := .int .i64 hi) rfl (y_load T85.one_2 rfl (hS46.cell (j := 1) rfl)) ?_
                    refine s_y (v := .int .i64 (hi - 1)) rfl (y_sub rfl rfl rfl (by omega)) ?_
                    by_cases c64 : py = (hi - 1)
                    · refine s_y (v := .bool true) rfl (y_eql rfl rfl (decide_eq_true c64)) ?_
                      refine s_y (v := .bool true) rfl (y_move rfl) ?_
                      refine s_y (v := .pointer (some ⟨b2, o2, none⟩)) rfl (y_move rfl) ?_
                      refine s_y (v := .pointer (some ⟨b2, o2, none⟩)) rfl (y_nil rfl) ?_
                      refine s_y (v := .pointer (some ⟨b2, o2 + 1, none⟩)) rfl (y_fld (o := o2 + 0) T85.fld_65_1_1 rfl) ?_
                      refine s_y (v := .slice afx nfx cfx) rfl (y_load T85.one_24 rfl (hS47.cell (j := 1) rfl)) ?_
                      refine s_y (v := .int .i64 (px + (wd * py))) rfl (y_move rfl) ?_
                      have hx65 := row_lt (wd := wd) (hi := hi) (a := px) (b := py) (by omega) (by omega) (by omega) (by omega)
                      refine s_y (v := .pointer (some (sat afx ((px + (wd * py)).toNat * 1)))) rfl (y_idx T85.sl_24_62_1 rfl rfl (hS49.addr (by rw [flts_length]; omega)) (by omega) (by omega)) ?_
                      refine s_y (v := .float .f32 (el xfx (px + (wd * py)))) rfl (y_load T85.one_62 rfl (hS49.cell (fl_at (by omega) (by omega)))) ?_
                      by_cases c66 : fne .f32 (el Xfx (px + (wd * py))) 0 = true
                      · refine s_y (v := .bool true) rfl (y_fneq rfl rfl (fneC (cn_el qkfx (px + (wd * py))) (show can .f32 0 = 0 by kernel_rfl) c66)) ?_
                        refine s_y (v := .bool true) rfl (y_pick_t rfl rfl) ?_
                        refine s_y (v := .bool true) rfl (y_pick_f rfl rfl) ?_
                        refine s_y (v := .bool true) rfl (y_move rfl) ?_
                        refine s_skip rfl ?_
                        refine s_skip rfl ?_
                        refine s_skip rfl ?_
                        refine s_skip rfl ?_
                        refine s_skip rfl ?_
                        refine s_skip rfl ?_
                        refine s_skip rfl ?_
                        refine s_skip rfl ?_
                        refine s_skip rfl ?_
                        refine s_skip rfl ?_
                        refine s_skip rfl ?_
                        refine s_skip rfl ?_
                        refine s_skip rfl ?_
                        refine s_skip rfl ?_
                        refine s_skip rfl ?_
                        refine s_skip rfl ?_
                        refine s_skip rfl ?_
                        refine s_y (v := .bool true) rfl (y_pick_t rfl rfl) ?_
                        refine s_nil ?_
                        refine W_if_t (by decide) rfl ?_
                        refine W_seq ?_
                        refine W_region (by kernel_rfl) ?_
                        refine s_y (v := .bool false) rfl (y_assign rfl) ?_
                        refine s_nil ?_
                        refine W_ret ?_
                        refine ret1 rfl rfl rfl ⟨_, rfl, ?_⟩
                        exact ⟨congrArg Value.bool (fits_no (x := px) (y := py) (by omega) (by omega) (by omega) (by omega) (by simp only [edgeB, (decide_eq_false c20), (decide_eq_false c21), (decide_eq_false c22), (decide_eq_true c31), (decide_eq_true c40), (Bool.eq_false_iff.2 c52), (decide_eq_true c64), c66, Bool.and_true, Bool.true_and, Bool.and_false, Bool.false_and, Bool.not_true, Bool.not_false, Bool.or_true, Bool.true_or, Bool.or_false, Bool.false_or])).symm, E51⟩
                      · refine s_y (v := .bool false) rfl (y_fneq rfl rfl (fneC (cn_el qkfx (px + (wd * py))) (show can .f32 0 = 0 by kernel_rfl) (Bool.eq_false_iff.2 c66))) ?_
                        refine s_y (v := .bool false) rfl (y_pick_t rfl rfl) ?_
                        refine s_y (v := .bool false) rfl (y_pick_f rfl rfl) ?_
                        refine s_y (v := .bool false) rfl (y_move rfl) ?_
                        refine s_y (v := .int .i64 px) rfl (y_move rfl) ?_
                        refine s_y (v := .pointer (some ⟨b, o, none⟩)) rfl (y_move rfl) ?_
                        refine s_y (v := .pointer (some ⟨b, o, none⟩)) rfl (y_nil rfl) ?_
                        refine s_y (v := .pointer (some ⟨b, o, none⟩)) rfl (y_fld (o := o + 0) T85.fld_26_0_0 rfl) ?_
                        refine s_y (v := .int .i64 wd) rfl (y_load T85.one_2 rfl (hS46.cell (j := 0) rfl)) ?_
                        refine s_y (v := .int .i64 (wd - 1)) rfl (y_sub rfl rfl rfl (by omega)) ?_
                        by_cases c67 : px = (wd - 1)
                        · refine s_y (v := .bool true) rfl (y_eql rfl rfl (decide_eq_true c67)) ?_
                          refine s_y (v := .bool true) rfl (y_move rfl) ?_
                          refine s_y (v := .pointer (some ⟨b2, o2, none⟩)) rfl (y_move rfl) ?_
                          refine s_y (v := .pointer (some ⟨b2, o2, none⟩)) rfl (y_nil rfl) ?_
                          refine s_y (v := .pointer (some ⟨b2, o2 + 2, none⟩)) rfl (y_fld (o := o2 + 0) T85.fld_65_2_2 rfl) ?_
                          refine s_y (v := .slice afy nfy cfy) rfl (y_load T85.one_24 rfl (hS47.cell (j := 2) rfl)) ?_
                          refine s_y (v := .int .i64 (px + (wd * py))) rfl (y_move rfl) ?_
                          have hx68 := row_lt (wd := wd) (hi := hi) (a := px) (b := py) (by omega) (by omega) (by omega) (by omega)
                          refine s_y (v := .pointer (some (sat afy ((px + (wd * py)).toNat * 1)))) rfl (y_idx T85.sl_24_62_1 rfl rfl (hS50.addr (by rw [flts_length]; omega)) (by omega) (by omega)) ?_
                          refine s_y (v := .float .f32 (el xfy (px + (wd * py)))) rfl (y_load T85.one_62 rfl (hS50.cell (fl_at (by omega) (by omega)))) ?_
                          by_cases c69 : fne .f32 (el Xfy (px + (wd * py))) 0 = true
                          · refine s_y (v := .bool true) rfl (y_fneq rfl rfl (fneC (cn_el qkfy (px + (wd * py))) (show can .f32 0 = 0 by kernel_rfl) c69)) ?_
                            refine s_y (v := .bool true) rfl (y_pick_t rfl rfl) ?_
                            refine s_y (v := .bool true) rfl (y_pick_f rfl rfl) ?_
                            refine s_nil ?_
                            refine W_if_t (by decide) rfl ?_
                            refine W_seq ?_
                            refine W_region (by kernel_rfl) ?_
                            refine s_y (v := .bool false) rfl (y_assign rfl) ?_
                            refine s_nil ?_
                            refine W_ret ?_
                            refine ret1 rfl rfl rfl ⟨_, rfl, ?_⟩
                            exact ⟨congrArg Value.bool (fits_no (x := px) (y := py) (by omega) (by omega) (by omega) (by omega) (by simp only [edgeB, (decide_eq_false c20), (decide_eq_false c21), (decide_eq_false c22), (decide_eq_true c31), (decide_eq_true c40), (Bool.eq_false_iff.2 c52), (decide_eq_true c64), (Bool.eq_false_iff.2 c66), (decide_eq_true c67), c69, Bool.and_true, Bool.true_and, Bool.and_false, Bool.false_and, Bool.not_true, Bool.not_false, Bool.or_true, Bool.true_or, Bool.or_false, Bool.false_or])).symm, E51⟩
                          · refine s_y (v := .bool false) rfl (y_fneq rfl rfl (fneC (cn_el qkfy (px + (wd * py))) (show can .f32 0 = 0 by kernel_rfl) (Bool.eq_false_iff.2 c69))) ?_
                            refine s_y (v := .bool false) rfl (y_pick_t rfl rfl) ?_
                            refine s_y (v := .bool false) rfl (y_pick_f rfl rfl) ?_
                            refine s_nil ?_
                            refine W_if_f (by decide) rfl ?_
                            refine W_skip ?_
                            refine W_region (by kernel_rfl) ?_
                            refine s_y (v := .int .i64 px) rfl (y_move rfl) ?_
                            refine s_y (v := .int .i64 (px + 1)) rfl (y_add rfl rfl rfl (by omega)) ?_
                            refine s_y (v := .int .i64 (px + 1)) rfl (y_assign rfl) ?_
                            refine s_nil ?_
                            refine ⟨⟨_, px + 1, Fits.eq ⟨rfl, rfl, rfl, rfl, rfl, rfl, rfl, rfl, rfl, rfl, rfl, rfl, rfl, rfl, rfl, rfl, rfl, trivial⟩, E51, hS46, hS47, hS48, hS49, hS50, (by omega), (by omega), (edge_row hq1 (by simp only [edgeB, (decide_eq_false c20), (decide_eq_false c21), (decide_eq_false c22), (decide_eq_true c31), (decide_eq_true c40), (Bool.eq_false_iff.2 c52), (decide_eq_true c64), (Bool.eq_false_iff.2 c66), (decide_eq_true c67), (Bool.eq_false_iff.2 c69), Bool.and_true, Bool.true_and, Bool.and_false, Bool.false_and, Bool.not_true, Bool.not_false, Bool.or_true, Bool.true_or, Bool.or_false, Bool.false_or]) (by omega) (by omega) (by omega))⟩, ?_⟩
                            show (wd - (px + 1)).toNat < (wd - px).toNat
                            omega
                        · refine s_y (v := .bool false) rfl (y_eql rfl rfl (decide_eq_false c67)) ?_
                          refine s_y (v := .bool false) rfl (y_move rfl) ?_
                          refine s_skip rfl ?_
                          refine s_skip rfl ?_
                          refine s_skip rfl ?_
                          refine s_skip rfl ?_
                          refine s_skip rfl ?_
                          refine s_skip rfl ?_
                          refine s_skip rfl ?_
                          refine s_skip rfl ?_
                          refine s_y (v := .bool false) rfl (y_pick_f rfl rfl) ?_
                          refine s_y (v := .bool false) rfl (y_pick_f rfl rfl) ?_
                          refine s_nil ?_
                          refine W_if_f (by decide) rfl ?_
                          refine W_skip ?_
                          refine W_region (by kernel_rfl) ?_
                          refine s_y (v := .int .i64 px) rfl (y_move rfl) ?_
                          refine s_y (v := .int .i64 (px + 1)) rfl (y_add rfl rfl rfl (by omega)) ?_
                          refine s_y (v := .int .i64 (px + 1)) rfl (y_assign rfl) ?_
                          refine s_nil ?_
                          refine ⟨⟨_, px + 1, Fits.eq ⟨rfl, rfl, rfl, rfl, rfl, rfl, rfl, rfl, rfl, rfl, rfl, rfl, rfl, rfl, rfl, rfl, rfl, trivial⟩, E51, hS46, hS47, hS48, hS49, hS50, (by omega), (by omega), (edge_row hq1 (by simp only [edgeB, (decide_eq_false c20), (decide_eq_false c21), (decide_eq_false c22), (decide_eq_true c31), (decide_eq_true c40), (Bool.eq_false_iff.2 c52), (decide_eq_true c64), (Bool.eq_false_iff.2 c66), (decide_eq_false c67), Bool.and_true, Bool.true_and, Bool.and_false, Bool.false_and, Bool.not_true, Bool.not_false, Bool.or_true, Bool.true_or, Bool.or_false, Bool.false_or]) (by omega) (by omega) (by omega))⟩, ?_⟩
                          show (wd - (px + 1)).toNat < (wd - px).toNat
                          omega
                    · refine s_y (v := .bool false) rfl (y_eql rfl rfl (decide_eq_false c64)) ?_
                      refine s_y (v := .bool false) rfl (y_move rfl) ?_
                      refine s_skip rfl ?_
                      refine s_skip rfl ?_
                      refine s_skip rfl ?_
                      refine s_skip rfl ?_
                      refine s_skip rfl ?_
                      refine s_skip rfl ?_
                      refine s_skip rfl ?_
                      refine s_skip rfl ?_
                      refine s_y (v := .bool false) rfl (y_pick_f rfl rfl) ?_
                      refine s_y (v := .bool false) rfl (y_pick_f rfl rfl) ?_
                      refine s_y (v := .bool false) rfl (y_move rfl) ?_
                      refine s_y (v := .int .i64 px) rfl (y_move rfl) ?_
                      refine s_y (v := .pointer (some ⟨b, o, none⟩)) rfl (y_move rfl) ?_
                      refine s_y (v := .pointer (some ⟨b, o, none⟩)) rfl (y_nil rfl) ?_
                      refine s_y (v := .pointer (some ⟨b, o, none⟩)) rfl (y_fld (o := o + 0) T85.fld_26_0_0 rfl) ?_
                      refine s_y (v := .int .i64 wd) rfl (y_load T85.one_2 rfl (hS46.cell (j := 0) rfl)) ?_
                      refine s_y (v := .int .i64 (wd - 1)) rfl (y_sub rfl rfl rfl (by omega)) ?_
                      by_cases c70 : px = (wd - 1)
                      · refine s_y (v := .bool true) rfl (y_eql rfl rfl (decide_eq_true c70)) ?_
                        refine s_y (v := .bool true) rfl (y_move rfl) ?_
                        refine s_y (v := .pointer (some ⟨b2, o2, none⟩)) rfl (y_move rfl) ?_
                        refine s_y (v := .pointer (some ⟨b2, o2, none⟩)) rfl (y_nil rfl) ?_
                        refine s_y (v := .pointer (some ⟨b2, o2 + 2, none⟩)) rfl (y_fld (o := o2 + 0) T85.fld_65_2_2 rfl) ?_
                        refine s_y (v := .slice afy nfy cfy) rfl (y_load T85.one_24 rfl (hS47.cell (j := 2) rfl)) ?_
                        refine s_y (v := .int .i64 (px + (wd * py))) rfl (y_move rfl) ?_
                        have hx71 := row_lt (wd := wd) (hi := hi) (a := px) (b := py) (by omega) (by omega) (by omega) (by omega)
                        refine s_y (v := .pointer (some (sat afy ((px + (wd * py)).toNat * 1)))) rfl (y_idx T85.sl_24_62_1 rfl rfl (hS50.addr (by rw [flts_length]; omega)) (by omega) (by omega)) ?_
                        refine s_y (v := .float .f32 (el xfy (px + (wd * py)))) rfl (y_load T85.one_62 rfl (hS50.cell (fl_at (by omega) (by omega)))) ?_
                        by_cases c72 : fne .f32 (el Xfy (px + (wd * py))) 0 = true
                        · refine s_y (v := .bool true) rfl (y_fneq rfl rfl (fneC (cn_el qkfy (px + (wd * py))) (show can .f32 0 = 0 by kernel_rfl) c72)) ?_
                          refine s_y (v := .bool true) rfl (y_pick_t rfl rfl) ?_
                          refine s_y (v := .bool true) rfl (y_pick_f rfl rfl) ?_
                          refine s_nil ?_
                          refine W_if_t (by decide) rfl ?_
                          refine W_seq ?_
                          refine W_region (by kernel_rfl) ?_
                          refine s_y (v := .bool false) rfl (y_assign rfl) ?_
                          refine s_nil ?_
                          refine W_ret ?_
                          refine ret1 rfl rfl rfl ⟨_, rfl, ?_⟩
                          exact ⟨congrArg Value.bool (fits_no (x := px) (y := py) (by omega) (by omega) (by omega) (by omega) (by simp only [edgeB, (decide_eq_false c20), (decide_eq_false c21), (decide_eq_false c22), (decide_eq_true c31), (decide_eq_true c40), (Bool.eq_false_iff.2 c52), (decide_eq_false c64), (decide_eq_true c70), c72, Bool.and_true, Bool.true_and, Bool.and_false, Bool.false_and, Bool.not_true, Bool.not_false, Bool.or_true, Bool.true_or, Bool.or_false, Bool.false_or])).symm, E51⟩
                        · refine s_y (v := .bool false) rfl (y_fneq rfl rfl (fneC (cn_el qkfy (px + (wd * py))) (show can .f32 0 = 0 by kernel_rfl) (Bool.eq_false_iff.2 c72))) ?_
                          refine s_y (v := .bool false) rfl (y_pick_t rfl rfl) ?_
                          refine s_y (v := .bool false) rfl (y_pick_f rfl rfl) ?_
                          refine s_nil ?_
                          refine W_if_f (by decide) rfl ?_
                          refine W_skip ?_
                          refine W_region (by kernel_rfl) ?_
                          refine s_y (v := .int .i64 px) rfl (y_move rfl) ?_
                          refine s_y (v := .int .i64 (px + 1)) rfl (y_add rfl rfl rfl (by omega)) ?_
                          refine s_y (v := .int .i64 (px + 1)) rfl (y_assign rfl) ?_
                          refine s_nil ?_
                          refine ⟨⟨_, px + 1, Fits.eq ⟨rfl, rfl, rfl, rfl, rfl, rfl, rfl, rfl, rfl, rfl, rfl, rfl, rfl, rfl, rfl, rfl, rfl, trivial⟩, E51, hS46, hS47, hS48, hS49, hS50, (by omega), (by omega), (edge_row hq1 (by simp only [edgeB, (decide_eq_false c20), (decide_eq_false c21), (decide_eq_false c22), (decide_eq_true c31), (decide_eq_true c40), (Bool.eq_false_iff.2 c52), (decide_eq_false c64), (decide_eq_true c70), (Bool.eq_false_iff.2 c72), Bool.and_true, Bool.true_and, Bool.and_false, Bool.false_and, Bool.not_true, Bool.not_false, Bool.or_true, Bool.true_or, Bool.or_false, Bool.false_or]) (by omega) (by omega) (by omega))⟩, ?_⟩
                          show (wd - (px + 1)).toNat < (wd - px).toNat
                          omega
                      · refine s_y (v := .bool false) rfl (y_eql rfl rfl (decide_eq_false c70)) ?_
                        refine s_y (v := .bool false) rfl (y_move rfl) ?_
                        refine s_skip rfl ?_
                        refine s_skip rfl ?_
                        refine s_skip rfl ?_
                        refine s_skip rfl ?_
                        refine s_skip rfl ?_
                        refine s_skip rfl ?_
                        refine s_skip rfl ?_
                        refine s_skip rfl ?_
                        refine s_y (v := .bool false) rfl (y_pick_f rfl rfl) ?_
                        refine s_y (v := .bool false) rfl (y_pick_f rfl rfl) ?_
                        refine s_nil ?_
                        refine W_if_f (by decide) rfl ?_
                        refine W_skip ?_
                        refine W_region (by kernel_rfl) ?_
                        refine s_y (v := .int .i64 px) rfl (y_move rfl) ?_
                        refine s_y (v := .int .i64 (px + 1)) rfl (y_add rfl rfl rfl (by omega)) ?_
                        refine s_y (v := .int .i64 (px + 1)) rfl (y_assign rfl) ?_
                        refine s_nil ?_
                        refine ⟨⟨_, px + 1, Fits.eq ⟨rfl, rfl, rfl, rfl, rfl, rfl, rfl, rfl, rfl, rfl, rfl, rfl, rfl, rfl, rfl, rfl, rfl, trivial⟩, E51, hS46, hS47, hS48, hS49, hS50, (by omega), (by omega), (edge_row hq1 (by simp only [edgeB, (decide_eq_false c20), (decide_eq_false c21), (decide_eq_false c22), (decide_eq_true c31), (decide_eq_true c40), (Bool.eq_false_iff.2 c52), (decide_eq_false c64), (decide_eq_false c70), Bool.and_true, Bool.true_and, Bool.and_false, Bool.false_and, Bool.not_true, Bool.not_false, Bool.or_true, Bool.true_or, Bool.or_false, Bool.false_or]) (by omega) (by omega) (by omega))⟩, ?_⟩
                        show (wd - (px + 1)).toNat < (wd - px).toNat
                        omega
                · refine s_y (v := .bool false) rfl (y_lss rfl rfl (decide_eq_false c40)) ?_
                  refine s_nil ?_
                  refine W_if_f (by decide) rfl ?_
                  refine W_exit ?_
                  refine W_region (by kernel_rfl) ?_
                  refine s_y (v := .int .i64 py) rfl (y_move rfl) ?_
                  refine s_y (v := .int .i64 (py + 1)) rfl (y_add rfl rfl rfl (by omega)) ?_
                  refine s_y (v := .int .i64 (py + 1)) rfl (y_assign rfl) ?_
                  refine s_nil ?_
                  refine ⟨⟨_, py + 1, Fits.eq ⟨rfl, rfl, rfl, trivial⟩, E33, hS34, hS35, hS36, hS37, hS38, (by omega), (by omega), (fun h => by cases h), (by intro j h0 h1; refine hq1 j h0 ?_; rw [Int.mul_add, Int.mul_one] at h1; omega)⟩, ?_⟩
                  show (hi - (py + 1)).toNat < (hi - py).toNat
                  omega
            · refine W_if_f (by decide) rfl ?_
              refine W_exit ?_
              refine W_seq ?_
              refine W_region (by kernel_rfl) ?_
              refine s_y (v := .bool true) rfl (y_assign rfl) ?_
              refine s_nil ?_
              refine W_ret ?_
              refine ret1 rfl rfl rfl ⟨_, rfl, ?_⟩
              exact ⟨congrArg Value.bool (fits_wrap (by omega) (by omega) (by omega)).symm, E24⟩
          · refine s_y (v := .bool false) rfl (y_lss rfl rfl (decide_eq_false c31)) ?_
            refine s_y (v := .bool false) rfl (y_move rfl) ?_
            refine s_skip rfl ?_
            refine s_skip rfl ?_
            refine s_skip rfl ?_
            refine s_skip rfl ?_
            refine s_skip rfl ?_
            refine s_y (v := .bool false) rfl (y_pick_f rfl rfl) ?_
            refine s_nil ?_
            refine W_if_f (by decide) rfl ?_
            refine W_exit ?_
            refine W_seq ?_
            refine W_region (by kernel_rfl) ?_
            refine s_y (v := .bool true) rfl (y_assign rfl) ?_
            refine s_nil ?_
            refine W_ret ?_
            refine ret1 rfl rfl rfl ⟨_, rfl, ?_⟩
            exact ⟨congrArg Value.bool (fits_yes (by omega) (by omega) (by omega) (fun j h0 h1 => hq0 j h0 (by rw [show py = hi by omega]; exact h1))).symm, E24⟩
namespace T73
theorem mx : Try.prog.follows .mixedOrders = true := by kernel_rfl
theorem fld_26_0_0 : fldB Try.prog 26 0 0 = true := by kernel_rfl
theorem fld_26_1_1 : fldB Try.prog 26 1 1 = true := by kernel_rfl
theorem fn_88 : fnB Try.prog 88 = true := by kernel_rfl
theorem one_2 : oneB Try.prog 2 = true := by kernel_rfl
end T73
set_option maxRecDepth 100000 in
set_option maxHeartbeats 4000000 in
theorem c_s_l02Cell {wd hi : Int} {wr : Bool} {asp als : Option Addr} {nsp nls csp cls : Nat} {x : Int} {y : Int} {b o : Nat} (w : World) (hP : Sl w (some ⟨b, o, none⟩) [.int .i64 wd, .int .i64 hi, .bool wr, .slice asp nsp csp, .slice als nls cls]) (h1 : 3 ≤ wd) (h2 : wd ≤ 16) (h3 : 3 ≤ hi) (h4 : hi ≤ 16) :
    Calls Try.prog 73 #[.pointer (some ⟨b, o, none⟩), .int .i64 x, .int .i64 y] w (Rt fun v w' => v = .bool (cellB wd hi x y) ∧ Ext0 w w') := by
  have E0 : Ext no w w := Ext.refl _ _
  have lo_some_b_o_none := Sl.low hP
  refine calls_W (n := 23) Try.func73 rfl rfl (Nat.le_of_ble_eq_true rfl) ?_
  refine W_seq ?_
  refine W_region (by kernel_rfl) ?_
  refine s_y (v := .bool false) rfl (y_assign rfl) ?_
  refine s_nil ?_
  refine W_seq ?_
  refine W_region (by kernel_rfl) ?_
  refine s_y (v := .int .i64 x) rfl (y_move rfl) ?_
  refine s_y (v := .pointer (some ⟨b, o, none⟩)) rfl (y_move rfl) ?_
  refine s_y (v := .pointer (some ⟨b, o, none⟩)) rfl (y_nil rfl) ?_
  refine s_y (v := .pointer (some ⟨b, o, none⟩)) rfl (y_fld (o := o + 0) T73.fld_26_0_0 rfl) ?_
  refine s_y (v := .int .i64 wd) rfl (y_load T73.one_2 rfl (hP.cell (j := 0) rfl)) ?_
  refine s_y (v := .int .i64 (wd - 1)) rfl (y_sub rfl rfl rfl (by omega)) ?_
  refine s_k rfl (k_call T73.fn_88 (c_s_l00In _ _ _ _) rfl ?_)
  rintro v3 w1 ⟨hv4, e2⟩
  have hS5 := hP.ext0 e2
  have E6 := E0.fresh e2 (fun _ h _ => h.elim)
  by_cases c7 : within x 0 (wd - 1) = true
  · have hb8 := within_b c7
    obtain rfl : v3 = .bool true := hv4.trans (congrArg Value.bool c7)
    refine s_y (v := .bool true) rfl (y_move rfl) ?_
    refine s_y (v := .int .i64 y) rfl (y_move rfl) ?_
    refine s_y (v := .pointer (some ⟨b, o, none⟩)) rfl (y_move rfl) ?_
    refine s_y (v := .pointer (some ⟨b, o, none⟩)) rfl (y_nil rfl) ?_
    refine s_y (v := .pointer (some ⟨b, o + 1, none⟩)) rfl (y_fld (o := o + 0) T73.fld_26_1_1 rfl) ?_
    refine s_y (v := .int .i64 hi) rfl (y_load T73.one_2 rfl (hS5.cell (j := 1) rfl)) ?_
    refine s_y (v := .int .i64 (hi - 1)) rfl (y_sub rfl rfl rfl (by omega)) ?_
    refine s_k rfl (k_call T73.fn_88 (c_s_l00In _ _ _ _) rfl ?_)
    rintro v11 w9 ⟨hv12, e10⟩
    have hS13 := hS5.ext0 e10
    have E14 := E6.fresh e10 (fun _ h _ => h.elim)
    by_cases c15 : within y 0 (hi - 1) = true
    · have hb16 := within_b c15
      obtain rfl : v11 = .bool true := hv12.trans (congrArg Value.bool c15)
      refine s_y (v := .bool true) rfl (y_pick_t rfl rfl) ?_
      refine s_y (v := .bool true) rfl (y_assign rfl) ?_
      refine s_nil ?_
      refine W_ret ?_
      refine ret1 rfl rfl rfl ⟨_, rfl, ?_⟩
      exact ⟨congrArg Value.bool (by simp only [cellB, c7, c15, Bool.and_true, Bool.true_and, Bool.and_false, Bool.false_and, Bool.not_true, Bool.not_false, Bool.or_true, Bool.true_or, Bool.or_false, Bool.false_or]), E14⟩
    · obtain rfl : v11 = .bool false := hv12.trans (congrArg Value.bool (Bool.eq_false_iff.2 c15))
      refine s_y (v := .bool false) rfl (y_pick_t rfl rfl) ?_
      refine s_y (v := .bool false) rfl (y_assign rfl) ?_
      refine s_nil ?_
      refine W_ret ?_
      refine ret1 rfl rfl rfl ⟨_, rfl, ?_⟩
      exact ⟨congrArg Value.bool (by simp only [cellB, c7, (Bool.eq_false_iff.2 c15), Bool.and_true, Bool.true_and, Bool.and_false, Bool.false_and, Bool.not_true, Bool.not_false, Bool.or_true, Bool.true_or, Bool.or_false, Bool.false_or]), E14⟩
  · obtain rfl : v3 = .bool false := hv4.trans (congrArg Value.bool (Bool.eq_false_iff.2 c7))
    refine s_y (v := .bool false) rfl (y_move rfl) ?_
    refine s_skip rfl ?_
    refine s_skip rfl ?_
    refine s_skip rfl ?_
    refine s_skip rfl ?_
    refine s_skip rfl ?_
    refine s_skip rfl ?_
    refine s_skip rfl ?_
    refine s_y (v := .bool false) rfl (y_pick_f rfl rfl) ?_
    refine s_y (v := .bool false) rfl (y_assign rfl) ?_
    refine s_nil ?_
    refine W_ret ?_
    refine ret1 rfl rfl rfl ⟨_, rfl, ?_⟩
    exact ⟨congrArg Value.bool (by simp only [cellB, (Bool.eq_false_iff.2 c7), Bool.and_true, Bool.true_and, Bool.and_false, Bool.false_and, Bool.not_true, Bool.not_false, Bool.or_true, Bool.true_or, Bool.or_false, Bool.false_or]), E6⟩
namespace T42
theorem mx : Try.prog.follows .mixedOrders = true := by kernel_rfl
theorem fld_26_0_0 : fldB Try.prog 26 0 0 = true := by kernel_rfl
theorem fld_65_0_0 : fldB Try.prog 65 0 0 = true := by kernel_rfl
theorem fn_69 : fnB Try.prog 69 = true := by kernel_rfl
theorem fn_73 : fnB Try.prog 73 = true := by kernel_rfl
theorem fn_85 : fnB Try.prog 85 = true := by kernel_rfl
theorem one_2 : oneB Try.prog 2 = true := by kernel_rfl
theorem one_24 : oneB Try.prog 24 = true := by kernel_rfl
theorem one_62 : oneB Try.prog 62 = true := by kernel_rfl
theorem sl_24_62_1 : slB Try.prog 24 62 1 = true := by kernel_rfl
end T42
set_option maxRecDepth 100000 in
set_option maxHeartbeats 4000000 in
theorem c_s_ValueAt {wd hi : Int} {wr : Bool} {asp : Option Addr} {nsp csp : Nat} {xsp Xsp : List Nat} {als : Option Addr} {nls cls : Nat} {xls Xls : List Nat} {afe : Option Addr} {nfe cfe : Nat} {xfe Xfe : List Nat} {afx : Option Addr} {nfx cfx : Nat} {xfx Xfx : List Nat} {afy : Option Addr} {nfy cfy : Nat} {xfy Xfy : List Nat} {x y : Int} (w : World) (qssp : Sl w asp (flts xsp)) (qlsp : xsp.length = nsp) (qksp : cn xsp = Xsp) (qsls : Sl w als (flts xls)) (qlls : xls.length = nls) (qkls : cn xls = Xls) (hb1 : nsp ≤ 9223372036854775806) (hb2 : nls ≤ 9223372036854775806) (qsfe : Sl w afe (flts xfe)) (qlfe : xfe.length = nfe) (qkfe : cn xfe = Xfe) (qsfx : Sl w afx (flts xfx)) (qlfx : xfx.length = nfx) (qkfx : cn xfx = Xfx) (qsfy : Sl w afy (flts xfy)) (qlfy : xfy.length = nfy) (qkfy : cn xfy = Xfy) (hc1 : nfe ≤ 9223372036854775806) (hc2 : nfx ≤ 9223372036854775806) (hc3 : nfy ≤ 9223372036854775806) :
    Calls Try.prog 42 #[.agg #[.int .i64 wd, .int .i64 hi, .bool wr, .slice asp nsp csp, .slice als nls cls], .agg #[.slice afe nfe cfe, .slice afx nfx cfx, .slice afy nfy cfy], .int .i64 x, .int .i64 y] w (Rt fun v w' => ((valB wd hi wr Xsp Xls Xfe Xfx Xfy x y = true ∧ ∃ r, v = .tuple #[.float .f32 r, .bool true] ∧ can .f32 r = el Xfe (x + wd * y)) ∨ (valB wd hi wr Xsp Xls Xfe Xfx Xfy x y = false ∧ v = .tuple #[.float .f32 0, .bool false])) ∧ Ext0 w w') := by
  have E0 : Ext no w w := Ext.refl _ _
  have hlP : Xsp.length = nsp := (cn_lenX qksp).trans qlsp
  have hlL : Xls.length = nls := (cn_lenX qkls).trans qlls
  have hlfe : Xfe.length = nfe := (cn_lenX qkfe).trans qlfe
  have hlfx : Xfx.length = nfx := (cn_lenX qkfx).trans qlfx
  have hlfy : Xfy.length = nfy := (cn_lenX qkfy).trans qlfy
  have lo_asp := Sl.low qssp
  have lo_als := Sl.low qsls
  have lo_afe := Sl.low qsfe
  have lo_afx := Sl.low qsfx
  have lo_afy := Sl.low qsfy
  refine calls_W (n := 32) Try.func42 rfl rfl (Nat.le_of_ble_eq_true rfl) ?_
  refine W_seq ?_
  refine W_region (by kernel_rfl) ?_
  refine s_k rfl (k_box (v := .agg #[.int .i64 wd, .int .i64 hi, .bool wr, .slice asp nsp csp, .slice als nls cls]) (cs := [.int .i64 wd, .int .i64 hi, .bool wr, .slice asp nsp csp, .slice als nls cls]) rfl rfl (fun b1 w2 q4 e3 hB5 => ?_))
  have hS6 := qssp.ext0 e3
  have hS7 := qsls.ext0 e3
  have hS8 := qsfe.ext0 e3
  have hS9 := qsfx.ext0 e3
  have hS10 := qsfy.ext0 e3
  have E11 := E0.fresh e3 (fun _ h _ => h.elim)
  have fr12 : NotLt b1 w.heap.size := fun h => Nat.not_lt.2 (Nat.le_trans E0.size (Nat.le_of_eq q4.symm)) h
  clear q4
  refine s_k rfl (k_box (v := .agg #[.slice afe nfe cfe, .slice afx nfx cfx, .slice afy nfy cfy]) (cs := [.slice afe nfe cfe, .slice afx nfx cfx, .slice afy nfy cfy]) rfl rfl (fun b13 w14 q16 e15 hB17 => ?_))
  have hB18 := hB5.ext0 e15
  have hS19 := hS6.ext0 e15
  have hS20 := hS7.ext0 e15
  have hS21 := hS8.ext0 e15
  have hS22 := hS9.ext0 e15
  have hS23 := hS10.ext0 e15
  have E24 := E11.fresh e15 (fun _ h _ => h.elim)
  have dj25 : NeB b1 b13 := fun h => Nat.ne_of_lt hB5.lt (h.trans q16)
  have fr26 : NotLt b13 w.heap.size := fun h => Nat.not_lt.2 (Nat.le_trans E11.size (Nat.le_of_eq q16.symm)) h
  clear q16
  refine s_y (v := .float .f32 0) rfl (y_assign rfl) ?_
  refine s_y (v := .bool false) rfl (y_assign rfl) ?_
  refine s_nil ?_
  refine W_seq ?_
  refine W_seq ?_
  refine W_region (by kernel_rfl) ?_
  refine s_k rfl (k_call T42.fn_69 (c_s_l02Is _ hS19 qlsp qksp hS20 qlls qkls hB18.sl (by omega) (by omega)) rfl ?_)
  rintro v29 w27 ⟨hv30, e28⟩
  have hB31 := hB18.ext0 e28
  have hB32 := hB17.ext0 e28
  have hS33 := hS19.ext0 e28
  have hS34 := hS20.ext0 e28
  have hS35 := hS21.ext0 e28
  have hS36 := hS22.ext0 e28
  have hS37 := hS23.ext0 e28
  have E38 := E24.fresh e28 (fun _ h _ => h.elim)
  by_cases c39 : validS wd hi Xsp Xls = true
  · have hb40 := validS_b c39
    obtain rfl : v29 = .bool true := hv30.trans (congrArg Value.bool c39)
    refine s_y (v := .bool false) rfl (y_not rfl rfl) ?_
    refine s_y (v := .bool false) rfl (y_move rfl) ?_
    refine s_k rfl (k_call T42.fn_85 (c_s_l02Fits _ hB31.sl hB32.sl (by omega) (by omega) (by omega) (by omega) hS35 qlfe qkfe hS36 qlfx qkfx hS37 qlfy qkfy (by omega) (by omega) (by omega)) rfl ?_)
    rintro v43 w41 ⟨hv44, e42⟩
    have hB45 := hB31.ext0 e42
    have hB46 := hB32.ext0 e42
    have hS47 := hS33.ext0 e42
    have hS48 := hS34.ext0 e42
    have hS49 := hS35.ext0 e42
    have hS50 := hS36.ext0 e42
    have hS51 := hS37.ext0 e42
    have E52 := E38.fresh e42 (fun _ h _ => h.elim)
    by_cases c53 : fitsB wd hi wr Xfe Xfx Xfy = true
    · have hb54 := fitsB_b c53
      obtain rfl : v43 = .bool true := hv44.trans (congrArg Value.bool c53)
      refine s_y (v := .bool false) rfl (y_not rfl rfl) ?_
      refine s_y (v := .bool false) rfl (y_pick_f rfl rfl) ?_
      refine s_y (v := .bool false) rfl (y_move rfl) ?_
      refine s_y (v := .int .i64 x) rfl (y_move rfl) ?_
      refine s_y (v := .int .i64 y) rfl (y_move rfl) ?_
      refine s_k rfl (k_call T42.fn_73 (c_s_l02Cell _ hB45.sl (by omega) (by omega) (by omega) (by omega)) rfl ?_)
      rintro v57 w55 ⟨hv58, e56⟩
      have hB59 := hB45.ext0 e56
      have hB60 := hB46.ext0 e56
      have hS61 := hS47.ext0 e56
      have hS62 := hS48.ext0 e56
      have hS63 := hS49.ext0 e56
      have hS64 := hS50.ext0 e56
      have hS65 := hS51.ext0 e56
      have E66 := E52.fresh e56 (fun _ h _ => h.elim)
      by_cases c67 : cellB wd hi x y = true
      · have hb68 := cellB_b c67
        obtain rfl : v57 = .bool true := hv58.trans (congrArg Value.bool c67)
        refine s_y (v := .bool false) rfl (y_not rfl rfl) ?_
        refine s_y (v := .bool false) rfl (y_pick_f rfl rfl) ?_
        refine s_nil ?_
        refine W_if_f (by decide) rfl ?_
        refine W_skip ?_
        refine W_seq ?_
        refine W_region (by kernel_rfl) ?_
        refine s_y (v := .pointer (some ⟨b13, 0, none⟩)) rfl (y_fld (o := 0) T42.fld_65_0_0 rfl) ?_
        refine s_y (v := .slice afe nfe cfe) rfl (y_load T42.one_24 rfl (hB60.cell (j := 0) rfl)) ?_
        refine s_y (v := .int .i64 x) rfl (y_move rfl) ?_
        refine s_y (v := .pointer (some ⟨b1, 0, none⟩)) rfl (y_fld (o := 0) T42.fld_26_0_0 rfl) ?_
        refine s_y (v := .int .i64 wd) rfl (y_load T42.one_2 rfl (hB59.cell (j := 0) rfl)) ?_
        refine s_y (v := .int .i64 y) rfl (y_move rfl) ?_
        have hm69 := mulb (a := wd) (b := y) (by omega) (by omega) (by omega) (by omega)
        refine s_y (v := .int .i64 (wd * y)) rfl (y_mul rfl rfl rfl (by omega)) ?_
        refine s_y (v := .int .i64 (x + (wd * y))) rfl (y_add rfl rfl rfl (by omega)) ?_
        have hx70 := row_lt (wd := wd) (hi := hi) (a := x) (b := y) (by omega) (by omega) (by omega) (by omega)
        refine s_y (v := .pointer (some (sat afe ((x + (wd * y)).toNat * 1)))) rfl (y_idx T42.sl_24_62_1 rfl rfl (hS63.addr (by rw [flts_length]; omega)) (by omega) (by omega)) ?_
        refine s_y (v := .float .f32 (el xfe (x + (wd * y)))) rfl (y_load T42.one_62 rfl (hS63.cell (fl_at (by omega) (by omega)))) ?_
        refine s_y (v := .float .f32 (el xfe (x + (wd * y)))) rfl (y_assign rfl) ?_
        refine s_y (v := .bool true) rfl (y_assign rfl) ?_
        refine s_nil ?_
        refine W_ret ?_
        refine ret2 rfl rfl rfl rfl rfl ⟨_, rfl, ?_⟩
        exact ⟨.inl ⟨by simp only [valB, fieldB, c39, c53, c67, Bool.and_true, Bool.true_and, Bool.and_false, Bool.false_and, Bool.not_true, Bool.not_false, Bool.or_true, Bool.true_or, Bool.or_false, Bool.false_or], _, rfl, (cn_el qkfe (x + (wd * y)))⟩, E66⟩
      · obtain rfl : v57 = .bool false := hv58.trans (congrArg Value.bool (Bool.eq_false_iff.2 c67))
        refine s_y (v := .bool true) rfl (y_not rfl rfl) ?_
        refine s_y (v := .bool true) rfl (y_pick_f rfl rfl) ?_
        refine s_nil ?_
        refine W_if_t (by decide) rfl ?_
        refine W_seq ?_
        refine W_region (by kernel_rfl) ?_
        refine s_y (v := .float .f32 0) rfl (y_assign rfl) ?_
        refine s_y (v := .bool false) rfl (y_assign rfl) ?_
        refine s_nil ?_
        refine W_ret ?_
        refine ret2 rfl rfl rfl rfl rfl ⟨_, rfl, ?_⟩
        exact ⟨.inr ⟨by simp only [valB, fieldB, c39, c53, (Bool.eq_false_iff.2 c67), Bool.and_true, Bool.true_and, Bool.and_false, Bool.false_and, Bool.not_true, Bool.not_false, Bool.or_true, Bool.true_or, Bool.or_false, Bool.false_or], rfl⟩, E66⟩
    · obtain rfl : v43 = .bool false := hv44.trans (congrArg Value.bool (Bool.eq_false_iff.2 c53))
      refine s_y (v := .bool true) rfl (y_not rfl rfl) ?_
      refine s_y (v := .bool true) rfl (y_pick_f rfl rfl) ?_
      refine s_y (v := .bool true) rfl (y_move rfl) ?_
      refine s_skip rfl ?_
      refine s_skip rfl ?_
      refine s_skip rfl ?_
      refine s_skip rfl ?_
      refine s_y (v := .bool true) rfl (y_pick_t rfl rfl) ?_
      refine s_nil ?_
      refine W_if_t (by decide) rfl ?_
      refine W_seq ?_
      refine W_region (by kernel_rfl) ?_
      refine s_y (v := .float .f32 0) rfl (y_assign rfl) ?_
      refine s_y (v := .bool false) rfl (y_assign rfl) ?_
      refine s_nil ?_
      refine W_ret ?_
      refine ret2 rfl rfl rfl rfl rfl ⟨_, rfl, ?_⟩
      exact ⟨.inr ⟨by simp only [valB, fieldB, c39, (Bool.eq_false_iff.2 c53), Bool.and_true, Bool.true_and, Bool.and_false, Bool.false_and, Bool.not_true, Bool.not_false, Bool.or_true, Bool.true_or, Bool.or_false, Bool.false_or], rfl⟩, E52⟩
  · obtain rfl : v29 = .bool false := hv30.trans (congrArg Value.bool (Bool.eq_false_iff.2 c39))
    refine s_y (v := .bool true) rfl (y_not rfl rfl) ?_
    refine s_y (v := .bool true) rfl (y_move rfl) ?_
    refine s_skip rfl ?_
    refine s_skip rfl ?_
    refine s_y (v := .bool true) rfl (y_pick_t rfl rfl) ?_
    refine s_y (v := .bool true) rfl (y_move rfl) ?_
    refine s_skip rfl ?_
    refine s_skip rfl ?_
    refine s_skip rfl ?_
    refine s_skip rfl ?_
    refine s_y (v := .bool true) rfl (y_pick_t rfl rfl) ?_
    refine s_nil ?_
    refine W_if_t (by decide) rfl ?_
    refine W_seq ?_
    refine W_region (by kernel_rfl) ?_
    refine s_y (v := .float .f32 0) rfl (y_assign rfl) ?_
    refine s_y (v := .bool false) rfl (y_assign rfl) ?_
    refine s_nil ?_
    refine W_ret ?_
    refine ret2 rfl rfl rfl rfl rfl ⟨_, rfl, ?_⟩
    exact ⟨.inr ⟨by simp only [valB, fieldB, (Bool.eq_false_iff.2 c39), Bool.and_true, Bool.true_and, Bool.and_false, Bool.false_and, Bool.not_true, Bool.not_false, Bool.or_true, Bool.true_or, Bool.or_false, Bool.false_or], rfl⟩, E38⟩
namespace T65
theorem mx : Try.prog.follows .mixedOrders = true := by kernel_rfl
end T65
set_option maxRecDepth 100000 in
set_option maxHeartbeats 4000000 in
theorem c_i_within (n lo hi : Int) (w : World) :
    Calls Try.prog 65 #[.int .i64 n, .int .i64 lo, .int .i64 hi] w (Rt fun v w' => v = .bool (within n lo hi) ∧ Ext0 w w') := by
  have E0 : Ext no w w := Ext.refl _ _
  refine calls_W (n := 15) Try.func65 rfl rfl (Nat.le_of_ble_eq_true rfl) ?_
  refine W_seq ?_
  refine W_region (by kernel_rfl) ?_
  refine s_y (v := .bool false) rfl (y_assign rfl) ?_
  refine s_nil ?_
  refine W_seq ?_
  refine W_region (by kernel_rfl) ?_
  refine s_y (v := .int .i64 n) rfl (y_move rfl) ?_
  refine s_y (v := .int .i64 lo) rfl (y_move rfl) ?_
  by_cases c1 : lo ≤ n
  · refine s_y (v := .bool true) rfl (y_geq rfl rfl (decide_eq_true c1)) ?_
    refine s_y (v := .bool true) rfl (y_move rfl) ?_
    refine s_y (v := .int .i64 n) rfl (y_move rfl) ?_
    refine s_y (v := .int .i64 hi) rfl (y_move rfl) ?_
    by_cases c2 : n ≤ hi
    · refine s_y (v := .bool true) rfl (y_leq rfl rfl (decide_eq_true c2)) ?_
      refine s_y (v := .bool true) rfl (y_pick_t rfl rfl) ?_
      refine s_y (v := .bool true) rfl (y_assign rfl) ?_
      refine s_nil ?_
      refine W_ret ?_
      refine ret1 rfl rfl rfl ⟨_, rfl, ?_⟩
      exact ⟨congrArg Value.bool (by simp [within] <;> omega), E0⟩
    · refine s_y (v := .bool false) rfl (y_leq rfl rfl (decide_eq_false c2)) ?_
      refine s_y (v := .bool false) rfl (y_pick_t rfl rfl) ?_
      refine s_y (v := .bool false) rfl (y_assign rfl) ?_
      refine s_nil ?_
      refine W_ret ?_
      refine ret1 rfl rfl rfl ⟨_, rfl, ?_⟩
      exact ⟨congrArg Value.bool (by simp [within] <;> omega), E0⟩
  · refine s_y (v := .bool false) rfl (y_geq rfl rfl (decide_eq_false c1)) ?_
    refine s_y (v := .bool false) rfl (y_move rfl) ?_
    refine s_skip rfl ?_
    refine s_skip rfl ?_
    refine s_skip rfl ?_
    refine s_y (v := .bool false) rfl (y_pick_f rfl rfl) ?_
    refine s_y (v := .bool false) rfl (y_assign rfl) ?_
    refine s_nil ?_
    refine W_ret ?_
    refine ret1 rfl rfl rfl ⟨_, rfl, ?_⟩
    exact ⟨congrArg Value.bool (by simp [within] <;> omega), E0⟩
namespace T66
theorem mx : Try.prog.follows .mixedOrders = true := by kernel_rfl
theorem one_62 : oneB Try.prog 62 = true := by kernel_rfl
theorem sl_24_62_1 : slB Try.prog 24 62 1 = true := by kernel_rfl
end T66
set_option maxRecDepth 100000 in
set_option maxHeartbeats 4000000 in
theorem c_i_areBetween {a : Option Addr} {n c : Nat} {x X : List Nat} {m M : Nat} (w : World) (qs : Sl w a (flts x)) (ql : x.length = n) (qk : cn x = X) (hm : can .f32 m = M) (hb : n ≤ 9223372036854775806) :
    Calls Try.prog 66 #[.slice a n c, .float .f32 m] w (Rt fun v w' => v = .bool (allI (n : Nat) (betw M X)) ∧ Ext0 w w') := by
  have E0 : Ext no w w := Ext.refl _ _
  have lo_a := Sl.low qs
  refine calls_W (n := 22) Try.func66 rfl rfl (Nat.le_of_ble_eq_true rfl) ?_
  refine W_seq ?_
  refine W_region (by kernel_rfl) ?_
  refine s_y (v := .bool false) rfl (y_assign rfl) ?_
  refine s_nil ?_
  refine W_seq ?_
  refine W_seq ?_
  refine W_region (by kernel_rfl) ?_
  refine s_y (v := .slice a n c) rfl (y_move rfl) ?_
  refine s_y (v := .int .i64 ((n : Nat) : Int)) rfl (y_len T66.sl_24_62_1 rfl rfl) ?_
  refine s_y (v := .int .i64 0) rfl (y_move rfl) ?_
  refine s_nil ?_
  refine W_block ?_
-- loop drops slots [4]
  refine W_loop (fun ρ' w' => ∃ (ρ1 : Env) (k : Int), ρ' = updL ρ1 [(1, .float .f32 m), (7, .slice a n c), (8, .int .i64 ((n : Nat) : Int)), (9, .int .i64 k)] ∧ Ext no w w' ∧ Sl w' a (flts x) ∧ (0 ≤ k) ∧ (k ≤ (n : Int)) ∧ (∀ i, 0 ≤ i → i < k → betw M X i = true)) (fun ρ' _ => ((n : Int) - iv (ρ' 9)).toNat) ?_ ?_
  · exact ⟨_, 0, Fits.eq ⟨rfl, rfl, rfl, rfl, trivial⟩, E0, qs, (Int.le_refl _), (by omega), (by intro i h0 h1; omega)⟩
  · rintro _ w1 ⟨ρ4, k, rfl, E2, hS3, h0k, h1k, hq⟩
    refine W_seq ?_
    refine W_region (by kernel_rfl) ?_
    by_cases c5 : k < ((n : Nat) : Int)
    · refine s_y (v := .bool true) rfl (y_lss rfl rfl (decide_eq_true c5)) ?_
      refine s_nil ?_
      refine W_seq ?_
      refine W_if_t (by decide) rfl ?_
      refine W_skip ?_
      refine W_seq ?_
      refine W_block ?_
      refine W_seq ?_
      refine W_region (by kernel_rfl) ?_
      refine s_y (v := .pointer (some (sat a ((k).toNat * 1)))) rfl (y_idx T66.sl_24_62_1 rfl rfl (hS3.addr (by rw [flts_length]; omega)) (by omega) (by omega)) ?_
      refine s_y (v := .float .f32 (el x k)) rfl (y_load T66.one_62 rfl (hS3.cell (fl_at (by omega) (by omega)))) ?_
      refine s_y (v := .float .f32 (el x k)) rfl (y_assign rfl) ?_
      refine s_nil ?_
      refine W_seq ?_
      refine W_region (by kernel_rfl) ?_
      refine s_y (v := .float .f32 (el x k)) rfl (y_move rfl) ?_
      by_cases c6 : fge .f32 (el X k) 0 = true
      · refine s_y (v := .bool true) rfl (y_fgeq rfl rfl (fgeC (cn_el qk k) (show can .f32 0 = 0 by kernel_rfl) c6)) ?_
        refine s_y (v := .bool true) rfl (y_move rfl) ?_
        refine s_y (v := .float .f32 (el x k)) rfl (y_move rfl) ?_
        refine s_y (v := .float .f32 m) rfl (y_move rfl) ?_
        by_cases c7 : fle .f32 (el X k) M = true
        · refine s_y (v := .bool true) rfl (y_fleq rfl rfl (fleC (cn_el qk k) hm c7)) ?_
          refine s_y (v := .bool true) rfl (y_pick_t rfl rfl) ?_
          refine s_y (v := .bool false) rfl (y_not rfl rfl) ?_
          refine s_nil ?_
          refine W_if_f (by decide) rfl ?_
          refine W_skip ?_
          refine W_region (by kernel_rfl) ?_
          refine s_y (v := .int .i64 (k + 1)) rfl (y_add rfl rfl rfl (by omega)) ?_
          refine s_y (v := .int .i64 (k + 1)) rfl (y_move rfl) ?_
          refine s_nil ?_
          refine ⟨⟨_, k + 1, Fits.eq ⟨rfl, rfl, rfl, rfl, trivial⟩, E2, hS3, (by omega), (by omega), (allI_more hq (betw_yes (by assumption) (by assumption)))⟩, ?_⟩
          show ((n : Int) - (k + 1)).toNat < ((n : Int) - k).toNat
          omega
        · refine s_y (v := .bool false) rfl (y_fleq rfl rfl (fleC (cn_el qk k) hm (Bool.eq_false_iff.2 c7))) ?_
          refine s_y (v := .bool false) rfl (y_pick_t rfl rfl) ?_
          refine s_y (v := .bool true) rfl (y_not rfl rfl) ?_
          refine s_nil ?_
          refine W_if_t (by decide) rfl ?_
          refine W_seq ?_
          refine W_region (by kernel_rfl) ?_
          refine s_y (v := .bool false) rfl (y_assign rfl) ?_
          refine s_nil ?_
          refine W_ret ?_
          refine ret1 rfl rfl rfl ⟨_, rfl, ?_⟩
          exact ⟨congrArg Value.bool (allI_false (by omega) (by omega) (by first | exact betw_no1 (by assumption) | exact betw_no2 (by assumption))).symm, E2⟩
      · refine s_y (v := .bool false) rfl (y_fgeq rfl rfl (fgeC (cn_el qk k) (show can .f32 0 = 0 by kernel_rfl) (Bool.eq_false_iff.2 c6))) ?_
        refine s_y (v := .bool false) rfl (y_move rfl) ?_
        refine s_skip rfl ?_
        refine s_skip rfl ?_
        refine s_skip rfl ?_
        refine s_y (v := .bool false) rfl (y_pick_f rfl rfl) ?_
        refine s_y (v := .bool true) rfl (y_not rfl rfl) ?_
        refine s_nil ?_
        refine W_if_t (by decide) rfl ?_
        refine W_seq ?_
        refine W_region (by kernel_rfl) ?_
        refine s_y (v := .bool false) rfl (y_assign rfl) ?_
        refine s_nil ?_
        refine W_ret ?_
        refine ret1 rfl rfl rfl ⟨_, rfl, ?_⟩
        exact ⟨congrArg Value.bool (allI_false (by omega) (by omega) (by first | exact betw_no1 (by assumption) | exact betw_no2 (by assumption))).symm, E2⟩
    · refine s_y (v := .bool false) rfl (y_lss rfl rfl (decide_eq_false c5)) ?_
      refine s_nil ?_
      refine W_seq ?_
      refine W_if_f (by decide) rfl ?_
      refine W_exit ?_
      refine W_seq ?_
      refine W_region (by kernel_rfl) ?_
      refine s_y (v := .bool true) rfl (y_assign rfl) ?_
      refine s_nil ?_
      refine W_ret ?_
      refine ret1 rfl rfl rfl ⟨_, rfl, ?_⟩
      exact ⟨congrArg Value.bool (allI_true (fun i h0 h1 => hq i h0 (by omega))).symm, E2⟩
end Go.Proofs.Ytcggpjocghigcaa
