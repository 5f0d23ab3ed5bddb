/- Walks: what the functions under FnExactPeakOf do (part 1). Printed by a program of this claim's author. -/
import Derived.Test.YtalkhbnlphefdaaBw1
set_option linter.unusedSimpArgs false
set_option linter.unusedVariables false
open Go.Wv
namespace Go.Proofs.Ytalkhbnlphefdaa
open Go.Proofs
namespace T107
theorem mx : Try.prog.follows .mixedOrders = true := by kernel_rfl
end T107
set_option maxRecDepth 100000 in
set_option maxHeartbeats 4000000 in
theorem c_s_l02Size {x : Nat} {X : Nat} {w : World} (hx : can .f32 x = X) :
    Calls Try.prog 107 #[.float .f32 x] w (Rt fun v w' => (∃ r, v = .float .f32 r ∧ can .f32 r = szX X) ∧ Ext0 w w') := by
  have B : Bu w no w [] := Bu.ro All.nil rfl
  refine calls_W (n := 8) Try.func107 rfl rfl (Nat.le_of_ble_eq_true rfl) ?_
  refine W_seq ?_
  refine W_region (by kernel_rfl) ?_
  refine s_y (v := .float .f32 0) rfl (y_assign rfl) ?_
  refine s_nil ?_
  refine W_seq ?_
  refine W_seq ?_
  refine W_region (by kernel_rfl) ?_
  refine s_y (v := .float .f32 x) rfl (y_move rfl) ?_
  by_cases c1 : fle .f32 X 0 = true
  · refine s_y (v := .bool true) rfl (y_fleq rfl rfl (fleC hx (show can .f32 0 = 0 by kernel_rfl) c1)) ?_
    refine s_nil ?_
    refine W_if_t (by decide) rfl ?_
    refine W_seq ?_
    refine W_region (by kernel_rfl) ?_
    refine s_y (v := .float .f32 x) rfl (y_move rfl) ?_
    refine s_n rfl (n_arith (by decide) rfl rfl) ?_
    rintro _ w5 e6 ⟨r3, rfl, hr4⟩
    replace B := B.ext0 e6
    clear e6
    have hc7 := fopC hr4 (show can .f32 0 = 0 by kernel_rfl) hx
    refine s_y (v := .float .f32 r3) rfl (y_assign rfl) ?_
    refine s_nil ?_
    refine W_ret ?_
    refine ret1 (v := .float .f32 r3) rfl rfl rfl ⟨_, rfl, ?_⟩
    exact ⟨⟨_, rfl, hc7.trans (szX_le hx (by assumption))⟩, B.ext⟩
  · refine s_y (v := .bool false) rfl (y_fleq rfl rfl (fleC hx (show can .f32 0 = 0 by kernel_rfl) (Bool.eq_false_iff.2 c1))) ?_
    refine s_nil ?_
    refine W_if_f (by decide) rfl ?_
    refine W_skip ?_
    refine W_seq ?_
    refine W_region (by kernel_rfl) ?_
    refine s_y (v := .float .f32 x) rfl (y_move rfl) ?_
    refine s_y (v := .float .f32 x) rfl (y_assign rfl) ?_
    refine s_nil ?_
    refine W_ret ?_
    refine ret1 (v := .float .f32 x) rfl rfl rfl ⟨_, rfl, ?_⟩
    exact ⟨⟨_, rfl, hx.trans (szX_gt (by assumption))⟩, B.ext⟩
namespace T77
theorem mx : Try.prog.follows .mixedOrders = true := by kernel_rfl
theorem fn_107 : fnB Try.prog 107 = true := by kernel_rfl
theorem one_56 : oneB Try.prog 56 = true := by kernel_rfl
theorem sl_24_56_1 : slB Try.prog 24 56 1 = true := by kernel_rfl
end T77
set_option maxRecDepth 100000 in
set_option maxHeartbeats 4000000 in
theorem c_s_l02Peak {a : Option Addr} {n : Nat} {c : Nat} {X : List Nat} {w : World} (q : Rd w kF a n X) (hb : n ≤ 9223372036854775806) :
    Calls Try.prog 77 #[.slice a n c] w (Rt fun v w' => v = .int .i64 (peakI X X.length) ∧ Ext0 w w') := by
  have hl := q.len
  have B : Bu w no w [.rd kF a n X] := Bu.ro (All.cons q All.nil) rfl
  refine calls_W (n := 39) Try.func77 rfl rfl (Nat.le_of_ble_eq_true rfl) ?_
  refine W_seq ?_
  refine W_region (by kernel_rfl) ?_
  refine s_y (v := .int .i64 0) rfl (y_assign rfl) ?_
  refine s_nil ?_
  refine W_seq ?_
  refine W_region (by kernel_rfl) ?_
  refine s_y (v := .int .i64 (-1)) rfl (y_assign rfl) ?_
  refine s_nil ?_
  refine W_seq ?_
  refine W_seq ?_
  refine W_region (by kernel_rfl) ?_
  refine s_y (v := .int .i64 0) rfl (y_assign rfl) ?_
  refine s_nil ?_
  refine W_block ?_
  refine W_loop (fun ρ' w' => ∃ (ρ1 : Env) (k : Int) (b : Int), ρ' = updL ρ1 [(0, .slice a n c), (2, .int .i64 0), (3, .int .i64 b), (4, .int .i64 k)] ∧ Bu w no w' [.rd kF a n X] ∧ (0 ≤ k) ∧ (k ≤ (n : Int)) ∧ (-1 ≤ b) ∧ (b < k) ∧ (b = peakI X k.toNat)) (fun ρ' _ => ((n : Int) - iv (ρ' 4)).toNat) ?_ ?_
  · exact ⟨_, 0, (-1), Fits.eq ⟨rfl, rfl, rfl, rfl, trivial⟩, B, (Int.le_refl _), (by omega), (by omega), (by omega), rfl⟩
  · clear B; rintro _ w1 ⟨ρ2, k, b, rfl, B, h0k, h1k, hb0, hb1, hq⟩
    refine W_seq ?_
    refine W_seq ?_
    refine W_region (by kernel_rfl) ?_
    refine s_y (v := .int .i64 k) rfl (y_move rfl) ?_
    refine s_y (v := .slice a n c) rfl (y_move rfl) ?_
    refine s_y (v := .int .i64 ((n : Nat) : Int)) rfl (y_len T77.sl_24_56_1 rfl rfl) ?_
    by_cases c3 : k < ((n : Nat) : Int)
    · refine s_y (v := .bool true) rfl (y_lss rfl rfl (decide_eq_true c3)) ?_
      refine s_nil ?_
      refine W_if_t (by decide) rfl ?_
      refine W_skip ?_
      refine W_seq ?_
      refine W_block ?_
      refine W_seq ?_
      have B0_8 := B
      refine W_draw (no) T77.mx (by kernel_rfl) (fun w6 e7 => ?_)
      have R9 := Ext.refl (no) w1
      replace R9 := R9.trans (Ext0.any e7)
      replace B := B.ext0 e7
      clear e7
      refine m_y (v := .slice a n c) 0 rfl (by kernel_rfl) rfl rfl (fun w' e' => y_move rfl) ?_
      refine m_y (v := .int .i64 k) 1 rfl (by kernel_rfl) rfl rfl (fun w' e' => y_move rfl) ?_
      refine m_y (v := .pointer (some (sat a ((k).toNat * 1)))) 2 rfl (by kernel_rfl) rfl rfl (fun w' e' => y_idx T77.sl_24_56_1 rfl rfl ((B.r 0 rfl).addr (by omega)) (by omega) (by omega)) ?_
      obtain ⟨r11, hr12, hR10⟩ := Rd.atF (B0_8.r 0 rfl) k (by omega) (by omega)
      refine m_y (v := .float .f32 r11) 3 rfl (by kernel_rfl) rfl rfl (fun w' e' => y_load T77.one_56 rfl ((hR10.ext0 e').cell (i := 0) rfl)) ?_
      refine m_y (v := .slice a n c) 4 rfl (by kernel_rfl) rfl rfl (fun w' e' => y_move rfl) ?_
      refine m_y (v := .int .i64 k) 5 rfl (by kernel_rfl) rfl rfl (fun w' e' => y_move rfl) ?_
      refine m_y (v := .pointer (some (sat a ((k).toNat * 1)))) 6 rfl (by kernel_rfl) rfl rfl (fun w' e' => y_idx T77.sl_24_56_1 rfl rfl ((B.r 0 rfl).addr (by omega)) (by omega) (by omega)) ?_
      obtain ⟨r14, hr15, hR13⟩ := Rd.atF (B0_8.r 0 rfl) k (by omega) (by omega)
      refine m_y (v := .float .f32 r14) 7 rfl (by kernel_rfl) rfl rfl (fun w' e' => y_load T77.one_56 rfl ((hR13.ext0 e').cell (i := 0) rfl)) ?_
      by_cases c16 : feq .f32 (el X k) (el X k) = true
      · refine m_y (v := .bool true) 8 rfl (by kernel_rfl) rfl rfl (fun w' e' => y_feql rfl rfl (feqC hr12 hr15 c16)) ?_
        refine m_y (v := .bool true) 9 rfl (by kernel_rfl) rfl rfl (fun w' e' => y_move rfl) ?_
        refine m_y (v := .int .i64 b) 10 rfl (by kernel_rfl) rfl rfl (fun w' e' => y_move rfl) ?_
        by_cases c17 : b < 0
        · refine m_y (v := .bool true) 11 rfl (by kernel_rfl) rfl rfl (fun w' e' => y_lss rfl rfl (decide_eq_true c17)) ?_
          refine m_y (v := .bool true) 12 rfl (by kernel_rfl) rfl rfl (fun w' e' => y_move rfl) ?_
          refine m_skip 13 rfl (by kernel_rfl) rfl ?_
          refine m_skip 14 rfl (by kernel_rfl) rfl ?_
          refine m_skip 15 rfl (by kernel_rfl) rfl ?_
          refine m_skip 16 rfl (by kernel_rfl) rfl ?_
          refine m_skip 17 rfl (by kernel_rfl) rfl ?_
          refine m_skip 18 rfl (by kernel_rfl) rfl ?_
          refine m_skip 19 rfl (by kernel_rfl) rfl ?_
          refine m_skip 20 rfl (by kernel_rfl) rfl ?_
          refine m_skip 21 rfl (by kernel_rfl) rfl ?_
          refine m_skip 22 rfl (by kernel_rfl) rfl ?_
          refine m_skip 23 rfl (by kernel_rfl) rfl ?_
          refine m_y (v := .bool true) 24 rfl (by kernel_rfl) rfl rfl (fun w' e' => y_pick_t rfl rfl) ?_
          refine m_y (v := .bool true) 25 rfl (by kernel_rfl) rfl rfl (fun w' e' => y_pick_t rfl rfl) ?_
          refine m_done (by kernel_rfl) (fun w18 e19 => ?_)
          replace B := B.ext0 e19
          clear e19
          clear B0_8 R9
          refine W_if_t (by decide) rfl ?_
          refine W_region (by kernel_rfl) ?_
          refine s_y (v := .int .i64 k) rfl (y_move rfl) ?_
          refine s_y (v := .int .i64 k) rfl (y_assign rfl) ?_
          refine s_nil ?_
          refine W_region (by kernel_rfl) ?_
          refine s_y (v := .int .i64 k) rfl (y_move rfl) ?_
          refine s_y (v := .int .i64 (k + 1)) rfl (y_add rfl rfl rfl (by omega)) ?_
          refine s_y (v := .int .i64 (k + 1)) rfl (y_assign rfl) ?_
          refine s_nil ?_
          refine ⟨⟨_, k + 1, k, Fits.eq ⟨rfl, rfl, rfl, rfl, trivial⟩, B, (by omega), (by omega), (by omega), (by omega), (peak_yes (by omega) hq (by simp only [Bool.false_or, (decide_eq_true c3), c16, (decide_eq_true c17), Bool.and_true, Bool.true_and, Bool.and_false, Bool.false_and, Bool.not_true, Bool.not_false, Bool.or_true, Bool.true_or, Bool.or_false, Bool.false_or]))⟩, ?_⟩
          show ((n : Int) - (k + 1)).toNat < ((n : Int) - k).toNat
          omega
        · refine m_y (v := .bool false) 11 rfl (by kernel_rfl) rfl rfl (fun w' e' => y_lss rfl rfl (decide_eq_false c17)) ?_
          refine m_y (v := .bool false) 12 rfl (by kernel_rfl) rfl rfl (fun w' e' => y_move rfl) ?_
          refine m_y (v := .slice a n c) 13 rfl (by kernel_rfl) rfl rfl (fun w' e' => y_move rfl) ?_
          refine m_y (v := .int .i64 k) 14 rfl (by kernel_rfl) rfl rfl (fun w' e' => y_move rfl) ?_
          refine m_y (v := .pointer (some (sat a ((k).toNat * 1)))) 15 rfl (by kernel_rfl) rfl rfl (fun w' e' => y_idx T77.sl_24_56_1 rfl rfl ((B.r 0 rfl).addr (by omega)) (by omega) (by omega)) ?_
          obtain ⟨r21, hr22, hR20⟩ := Rd.atF (B0_8.r 0 rfl) k (by omega) (by omega)
          refine m_y (v := .float .f32 r21) 16 rfl (by kernel_rfl) rfl rfl (fun w' e' => y_load T77.one_56 rfl ((hR20.ext0 e').cell (i := 0) rfl)) ?_
          refine m_y (v := .slice a n c) 18 rfl (by kernel_rfl) rfl rfl (fun w' e' => y_move rfl) ?_
          refine m_y (v := .int .i64 b) 19 rfl (by kernel_rfl) rfl rfl (fun w' e' => y_move rfl) ?_
          refine m_y (v := .pointer (some (sat a ((b).toNat * 1)))) 20 rfl (by kernel_rfl) rfl rfl (fun w' e' => y_idx T77.sl_24_56_1 rfl rfl ((B.r 0 rfl).addr (by omega)) (by omega) (by omega)) ?_
          obtain ⟨r24, hr25, hR23⟩ := Rd.atF (B0_8.r 0 rfl) b (by omega) (by omega)
          refine m_y (v := .float .f32 r24) 21 rfl (by kernel_rfl) rfl rfl (fun w' e' => y_load T77.one_56 rfl ((hR23.ext0 e').cell (i := 0) rfl)) ?_
          refine m_k 17 [22, 23, 24, 25] rfl (by kernel_rfl) rfl rfl (fun w26 e27 => ?_)
          replace R9 := R9.trans (Ext0.any e27)
          replace B := B.ext0 e27
          clear e27
          refine k_call T77.fn_107 (c_s_l02Size hr22) rfl ?_
          rintro _ w28 ⟨⟨r30, rfl, hr31⟩, e29⟩
          replace R9 := R9.trans (Ext0.any e29)
          replace B := B.ext0 e29
          clear e29
          refine ⟨fun _ => R9, ?_⟩
          refine m_k 22 [23, 24, 25] rfl (by kernel_rfl) rfl rfl (fun w32 e33 => ?_)
          replace R9 := R9.trans (Ext0.any e33)
          replace B := B.ext0 e33
          clear e33
          refine k_call T77.fn_107 (c_s_l02Size hr25) rfl ?_
          rintro _ w34 ⟨⟨r36, rfl, hr37⟩, e35⟩
          replace R9 := R9.trans (Ext0.any e35)
          replace B := B.ext0 e35
          clear e35
          refine ⟨fun _ => R9, ?_⟩
          by_cases c38 : fgt .f32 (szX (el X k)) (szX (el X b)) = true
          · refine m_y (v := .bool true) 23 rfl (by kernel_rfl) rfl rfl (fun w' e' => y_fgtr rfl rfl (fgtC hr31 hr37 c38)) ?_
            refine m_y (v := .bool true) 24 rfl (by kernel_rfl) rfl rfl (fun w' e' => y_pick_f rfl rfl) ?_
            refine m_y (v := .bool true) 25 rfl (by kernel_rfl) rfl rfl (fun w' e' => y_pick_t rfl rfl) ?_
            refine m_done (by kernel_rfl) (fun w39 e40 => ?_)
            replace B := B.ext0 e40
            clear e40
            clear B0_8 R9
            refine W_if_t (by decide) rfl ?_
            refine W_region (by kernel_rfl) ?_
            refine s_y (v := .int .i64 k) rfl (y_move rfl) ?_
            refine s_y (v := .int .i64 k) rfl (y_assign rfl) ?_
            refine s_nil ?_
            refine W_region (by kernel_rfl) ?_
            refine s_y (v := .int .i64 k) rfl (y_move rfl) ?_
            refine s_y (v := .int .i64 (k + 1)) rfl (y_add rfl rfl rfl (by omega)) ?_
            refine s_y (v := .int .i64 (k + 1)) rfl (y_assign rfl) ?_
            refine s_nil ?_
            refine ⟨⟨_, k + 1, k, Fits.eq ⟨rfl, rfl, rfl, rfl, trivial⟩, B, (by omega), (by omega), (by omega), (by omega), (peak_yes (by omega) hq (by simp only [Bool.false_or, (decide_eq_true c3), c16, (decide_eq_false c17), c38, Bool.and_true, Bool.true_and, Bool.and_false, Bool.false_and, Bool.not_true, Bool.not_false, Bool.or_true, Bool.true_or, Bool.or_false, Bool.false_or]))⟩, ?_⟩
            show ((n : Int) - (k + 1)).toNat < ((n : Int) - k).toNat
            omega
          · refine m_y (v := .bool false) 23 rfl (by kernel_rfl) rfl rfl (fun w' e' => y_fgtr rfl rfl (fgtC hr31 hr37 (Bool.eq_false_iff.2 c38))) ?_
            refine m_y (v := .bool false) 24 rfl (by kernel_rfl) rfl rfl (fun w' e' => y_pick_f rfl rfl) ?_
            refine m_y (v := .bool false) 25 rfl (by kernel_rfl) rfl rfl (fun w' e' => y_pick_t rfl rfl) ?_
            refine m_done (by kernel_rfl) (fun w41 e42 => ?_)
            replace B := B.ext0 e42
            clear e42
            clear B0_8 R9
            refine W_if_f (by decide) rfl ?_
            refine W_skip ?_
            refine W_region (by kernel_rfl) ?_
            refine s_y (v := .int .i64 k) rfl (y_move rfl) ?_
            refine s_y (v := .int .i64 (k + 1)) rfl (y_add rfl rfl rfl (by omega)) ?_
            refine s_y (v := .int .i64 (k + 1)) rfl (y_assign rfl) ?_
            refine s_nil ?_
            refine ⟨⟨_, k + 1, b, Fits.eq ⟨rfl, rfl, rfl, rfl, trivial⟩, B, (by omega), (by omega), (by omega), (by omega), (peak_no (by omega) hq (by simp only [Bool.false_or, (decide_eq_true c3), c16, (decide_eq_false c17), (Bool.eq_false_iff.2 c38), Bool.and_true, Bool.true_and, Bool.and_false, Bool.false_and, Bool.not_true, Bool.not_false, Bool.or_true, Bool.true_or, Bool.or_false, Bool.false_or]))⟩, ?_⟩
            show ((n : Int) - (k + 1)).toNat < ((n : Int) - k).toNat
            omega
      · refine m_y (v := .bool false) 8 rfl (by kernel_rfl) rfl rfl (fun w' e' => y_feql rfl rfl (feqC hr12 hr15 (Bool.eq_false_iff.2 c16))) ?_
        refine m_y (v := .bool false) 9 rfl (by kernel_rfl) rfl rfl (fun w' e' => y_move rfl) ?_
        refine m_skip 10 rfl (by kernel_rfl) rfl ?_
        refine m_skip 11 rfl (by kernel_rfl) rfl ?_
        refine m_skip 12 rfl (by kernel_rfl) rfl ?_
        refine m_skip 13 rfl (by kernel_rfl) rfl ?_
        refine m_skip 14 rfl (by kernel_rfl) rfl ?_
        refine m_skip 15 rfl (by kernel_rfl) rfl ?_
        refine m_skip 16 rfl (by kernel_rfl) rfl ?_
        refine m_skip 17 rfl (by kernel_rfl) rfl ?_
        refine m_skip 18 rfl (by kernel_rfl) rfl ?_
        refine m_skip 19 rfl (by kernel_rfl) rfl ?_
        refine m_skip 20 rfl (by kernel_rfl) rfl ?_
        refine m_skip 21 rfl (by kernel_rfl) rfl ?_
        refine m_skip 22 rfl (by kernel_rfl) rfl ?_
        refine m_skip 23 rfl (by kernel_rfl) rfl ?_
        refine m_skip 24 rfl (by kernel_rfl) rfl ?_
        refine m_y (v := .bool false) 25 rfl (by kernel_rfl) rfl rfl (fun w' e' => y_pick_f rfl rfl) ?_
        refine m_done (by kernel_rfl) (fun w43 e44 => ?_)
        replace B := B.ext0 e44
        clear e44
        clear B0_8 R9
        refine W_if_f (by decide) rfl ?_
        refine W_skip ?_
        refine W_region (by kernel_rfl) ?_
        refine s_y (v := .int .i64 k) rfl (y_move rfl) ?_
        refine s_y (v := .int .i64 (k + 1)) rfl (y_add rfl rfl rfl (by omega)) ?_
        refine s_y (v := .int .i64 (k + 1)) rfl (y_assign rfl) ?_
        refine s_nil ?_
        refine ⟨⟨_, k + 1, b, Fits.eq ⟨rfl, rfl, rfl, rfl, trivial⟩, B, (by omega), (by omega), (by omega), (by omega), (peak_no (by omega) hq (by simp only [Bool.false_or, (decide_eq_true c3), (Bool.eq_false_iff.2 c16), Bool.and_true, Bool.true_and, Bool.and_false, Bool.false_and, Bool.not_true, Bool.not_false, Bool.or_true, Bool.true_or, Bool.or_false, Bool.false_or]))⟩, ?_⟩
        show ((n : Int) - (k + 1)).toNat < ((n : Int) - k).toNat
        omega
    · refine s_y (v := .bool false) rfl (y_lss rfl rfl (decide_eq_false c3)) ?_
      refine s_nil ?_
      refine W_if_f (by decide) rfl ?_
      refine W_exit ?_
      refine W_seq ?_
      refine W_region (by kernel_rfl) ?_
      refine s_y (v := .int .i64 b) rfl (y_move rfl) ?_
      refine s_y (v := .int .i64 b) rfl (y_assign rfl) ?_
      refine s_nil ?_
      refine W_ret ?_
      refine ret1 (v := .int .i64 b) rfl rfl rfl ⟨_, rfl, ?_⟩
      exact ⟨congrArg (Value.int .i64) (by rw [hq]; congr 1; omega), B.ext⟩
namespace T38
theorem mx : Try.prog.follows .mixedOrders = true := by kernel_rfl
theorem fld_49_0_0 : fldB Try.prog 49 0 0 = true := by kernel_rfl
theorem fn_68 : fnB Try.prog 68 = true := by kernel_rfl
theorem fn_76 : fnB Try.prog 76 = true := by kernel_rfl
theorem fn_77 : fnB Try.prog 77 = true := by kernel_rfl
theorem one_24 : oneB Try.prog 24 = true := by kernel_rfl
theorem one_56 : oneB Try.prog 56 = true := by kernel_rfl
theorem sl_24_56_1 : slB Try.prog 24 56 1 = true := by kernel_rfl
end T38
set_option maxRecDepth 100000 in
set_option maxHeartbeats 4000000 in
theorem c_s_PeakOf {wd : Int} {hi : Int} {wr : Bool} {asp : Option Addr} {nsp : Nat} {csp : Nat} {Xsp : List Nat} {als : Option Addr} {nls : Nat} {cls : Nat} {Xls : List Nat} {afe : Option Addr} {nfe : Nat} {cfe : Nat} {Xfe : List Nat} {afx : Option Addr} {nfx : Nat} {cfx : Nat} {Xfx : List Nat} {afy : Option Addr} {nfy : Nat} {cfy : Nat} {Xfy : List Nat} {w : World} (qsp : Rd w kF asp nsp Xsp) (qls : Rd w kF als nls Xls) (qfe : Rd w kF afe nfe Xfe) (qfx : Rd w kF afx nfx Xfx) (qfy : Rd w kF afy nfy Xfy) (hbsp : nsp ≤ 9223372036854775806) (hbls : nls ≤ 9223372036854775806) (hbfe : nfe ≤ 9223372036854775806) (hbfx : nfx ≤ 9223372036854775806) (hbfy : nfy ≤ 9223372036854775806) :
    Calls Try.prog 38 #[.agg #[.int .i64 wd, .int .i64 hi, .bool wr, .slice asp nsp csp, .slice als nls cls], .agg #[.slice afe nfe cfe, .slice afx nfx cfx, .slice afy nfy cfy]] w (Rt fun v w' => (peakB wd hi wr Xsp Xls Xfe Xfx Xfy = true ∧ ∃ (r1 : Nat), v = .tuple #[.int .i64 (peakI Xfe Xfe.length), .float .f32 r1, .bool true] ∧ can .f32 r1 = el Xfe (peakI Xfe Xfe.length) ∧ Ext0 w w') ∨ (peakB wd hi wr Xsp Xls Xfe Xfx Xfy = false ∧ v = .tuple #[.int .i64 0, .float .f32 0, .bool false] ∧ Ext0 w w')) := by
  have hlsp := qsp.len
  have hlls := qls.len
  have hlfe := qfe.len
  have hlfx := qfx.len
  have hlfy := qfy.len
  have B : Bu w no w [.rd kF asp nsp Xsp, .rd kF als nls Xls, .rd kF afe nfe Xfe, .rd kF afx nfx Xfx, .rd kF afy nfy Xfy] := Bu.ro (All.cons qsp (All.cons qls (All.cons qfe (All.cons qfx (All.cons qfy All.nil))))) rfl
  refine calls_W (n := 29) Try.func38 rfl rfl (Nat.le_of_ble_eq_true rfl) ?_
  refine W_seq ?_
  refine W_region (by kernel_rfl) ?_
  refine s_k rfl (k_boxN (v := .agg #[.int .i64 wd, .int .i64 hi, .bool wr, .slice asp nsp csp, .slice als nls cls]) (cs := [.int .i64 wd, .int .i64 hi, .bool wr, .slice asp nsp csp, .slice als nls cls]) rfl rfl (fun b1 w2 hN3 => ?_))
  replace B := B.new1 hN3
  clear hN3
  refine s_k rfl (k_boxN (v := .agg #[.slice afe nfe cfe, .slice afx nfx cfx, .slice afy nfy cfy]) (cs := [.slice afe nfe cfe, .slice afx nfx cfx, .slice afy nfy cfy]) rfl rfl (fun b4 w5 hN6 => ?_))
  replace B := B.new1 hN6
  clear hN6
  refine s_y (v := .int .i64 0) rfl (y_assign rfl) ?_
  refine s_y (v := .float .f32 0) rfl (y_assign rfl) ?_
  refine s_y (v := .bool false) rfl (y_assign rfl) ?_
  refine s_nil ?_
  refine W_seq ?_
  refine W_seq ?_
  refine W_region (by kernel_rfl) ?_
  refine s_k rfl (k_call T38.fn_68 (c_s_l02Is (B.r 2 rfl) (B.r 3 rfl) ((B.b 1 rfl).sl) (by omega) (by omega)) rfl ?_)
  rintro v9 w7 ⟨hv10, e8⟩
  replace B := B.ext0 e8
  clear e8
  by_cases c11 : validS wd hi Xsp Xls = true
  · have hb12 := validS_b c11
    obtain rfl : v9 = .bool true := hv10.trans (congrArg Value.bool c11)
    refine s_y (v := .bool false) rfl (y_not rfl rfl) ?_
    refine s_y (v := .bool false) rfl (y_move rfl) ?_
    refine s_k rfl (k_call T38.fn_76 (c_s_l02Fits ((B.b 1 rfl).sl) (B.r 4 rfl) (B.r 5 rfl) (B.r 6 rfl) ((B.b 0 rfl).sl) (by omega) (by omega) (by omega) (by omega) (by omega) (by omega) (by omega)) rfl ?_)
    rintro v15 w13 ⟨hv16, e14⟩
    replace B := B.ext0 e14
    clear e14
    by_cases c17 : fitsB wd hi wr Xfe Xfx Xfy = true
    · have hb18 := fitsB_b c17
      obtain rfl : v15 = .bool true := hv16.trans (congrArg Value.bool c17)
      refine s_y (v := .bool false) rfl (y_not rfl rfl) ?_
      refine s_y (v := .bool false) rfl (y_pick_f rfl rfl) ?_
      refine s_y (v := .bool false) rfl (y_move rfl) ?_
      refine s_y (v := .pointer (some ⟨b4, 0, none⟩)) rfl (y_fld (o := 0) T38.fld_49_0_0 rfl) ?_
      refine s_y (v := .slice afe nfe cfe) rfl (y_load T38.one_24 rfl ((B.b 0 rfl).cell (j := 0) rfl)) ?_
      refine s_k rfl (k_call T38.fn_77 (c_s_l02Peak (B.r 4 rfl) (by omega)) rfl ?_)
      rintro _ w19 ⟨rfl, e20⟩
      replace B := B.ext0 e20
      clear e20
      have hpk21 := peakI_b Xfe (List.length Xfe)
      by_cases c22 : (peakI Xfe Xfe.length) < 0
      · refine s_y (v := .bool true) rfl (y_lss rfl rfl (decide_eq_true c22)) ?_
        refine s_y (v := .bool true) rfl (y_pick_f rfl rfl) ?_
        refine s_nil ?_
        refine W_if_t (by decide) rfl ?_
        refine W_seq ?_
        refine W_region (by kernel_rfl) ?_
        refine s_y (v := .int .i64 0) rfl (y_assign rfl) ?_
        refine s_y (v := .float .f32 0) rfl (y_assign rfl) ?_
        refine s_y (v := .bool false) rfl (y_assign rfl) ?_
        refine s_nil ?_
        refine W_ret ?_
        refine ret3 (v1 := .int .i64 0) (v2 := .float .f32 0) (v3 := .bool false) rfl rfl rfl rfl rfl rfl rfl ⟨_, rfl, ?_⟩
        exact .inr ⟨by simp only [peakB, fieldB, c11, c17, (decide_eq_true c22), Bool.and_true, Bool.true_and, Bool.false_and, Bool.and_false, decide_eq_true_eq, decide_eq_false_iff_not, Bool.and_true, Bool.true_and, Bool.and_false, Bool.false_and, Bool.not_true, Bool.not_false, Bool.or_true, Bool.true_or, Bool.or_false, Bool.false_or] <;> omega, rfl, B.ext⟩
      · refine s_y (v := .bool false) rfl (y_lss rfl rfl (decide_eq_false c22)) ?_
        refine s_y (v := .bool false) rfl (y_pick_f rfl rfl) ?_
        refine s_nil ?_
        refine W_if_f (by decide) rfl ?_
        refine W_skip ?_
        refine W_seq ?_
        refine W_region (by kernel_rfl) ?_
        refine s_y (v := .pointer (some ⟨b4, 0, none⟩)) rfl (y_fld (o := 0) T38.fld_49_0_0 rfl) ?_
        refine s_y (v := .slice afe nfe cfe) rfl (y_load T38.one_24 rfl ((B.b 0 rfl).cell (j := 0) rfl)) ?_
        refine s_k rfl (k_call T38.fn_77 (c_s_l02Peak (B.r 4 rfl) (by omega)) rfl ?_)
        rintro _ w23 ⟨rfl, e24⟩
        replace B := B.ext0 e24
        clear e24
        have hpk25 := peakI_b Xfe (List.length Xfe)
        refine s_y (v := .int .i64 (peakI Xfe Xfe.length)) rfl (y_assign rfl) ?_
        refine s_nil ?_
        refine W_seq ?_
        have B0_30 := B
        refine W_draw (no) T38.mx (by kernel_rfl) (fun w28 e29 => ?_)
        have R31 := Ext.refl (no) w23
        replace R31 := R31.trans (Ext0.any e29)
        replace B := B.ext0 e29
        clear e29
        refine m_y (v := .int .i64 (peakI Xfe Xfe.length)) 0 rfl (by kernel_rfl) rfl rfl (fun w' e' => y_move rfl) ?_
        refine m_y (v := .pointer (some ⟨b4, 0, none⟩)) 1 rfl (by kernel_rfl) rfl rfl (fun w' e' => y_fld (o := 0) T38.fld_49_0_0 rfl) ?_
        refine m_y (v := .slice afe nfe cfe) 2 rfl (by kernel_rfl) rfl rfl (fun w' e' => y_load T38.one_24 rfl (((B0_30.b 0 rfl).ext0 e').cell (j := 0) rfl)) ?_
        refine m_y (v := .int .i64 (peakI Xfe Xfe.length)) 3 rfl (by kernel_rfl) rfl rfl (fun w' e' => y_move rfl) ?_
        refine m_y (v := .pointer (some (sat afe ((peakI Xfe Xfe.length).toNat * 1)))) 4 rfl (by kernel_rfl) rfl rfl (fun w' e' => y_idx T38.sl_24_56_1 rfl rfl ((B.r 4 rfl).addr (by omega)) (by omega) (by omega)) ?_
        obtain ⟨r33, hr34, hR32⟩ := Rd.atF (B0_30.r 4 rfl) (peakI Xfe Xfe.length) (by omega) (by omega)
        refine m_y (v := .float .f32 r33) 5 rfl (by kernel_rfl) rfl rfl (fun w' e' => y_load T38.one_56 rfl ((hR32.ext0 e').cell (i := 0) rfl)) ?_
        refine m_y (v := .int .i64 (peakI Xfe Xfe.length)) 6 rfl (by kernel_rfl) rfl rfl (fun w' e' => y_assign rfl) ?_
        refine m_y (v := .float .f32 r33) 7 rfl (by kernel_rfl) rfl rfl (fun w' e' => y_assign rfl) ?_
        refine m_y (v := .bool true) 8 rfl (by kernel_rfl) rfl rfl (fun w' e' => y_assign rfl) ?_
        refine m_done (by kernel_rfl) (fun w35 e36 => ?_)
        replace B := B.ext0 e36
        clear e36
        clear B0_30 R31
        refine W_ret ?_
        refine ret3 (v1 := .int .i64 (peakI Xfe Xfe.length)) (v2 := .float .f32 r33) (v3 := .bool true) rfl rfl rfl rfl rfl rfl rfl ⟨_, rfl, ?_⟩
        have hcond : peakB wd hi wr Xsp Xls Xfe Xfx Xfy = true := by simp only [peakB, fieldB, c11, c17, (decide_eq_false c22), Bool.and_true, Bool.true_and, Bool.false_and, Bool.and_false, decide_eq_true_eq, decide_eq_false_iff_not, Bool.and_true, Bool.true_and, Bool.and_false, Bool.false_and, Bool.not_true, Bool.not_false, Bool.or_true, Bool.true_or, Bool.or_false, Bool.false_or] <;> omega
        exact .inl ⟨hcond, ⟨_, rfl, hr34, B.ext⟩⟩
    · obtain rfl : v15 = .bool false := hv16.trans (congrArg Value.bool (Bool.eq_false_iff.2 c17))
      refine s_y (v := .bool true) rfl (y_not rfl rfl) ?_
      refine s_y (v := .bool true) rfl (y_pick_f rfl rfl) ?_
      refine s_y (v := .bool true) rfl (y_move rfl) ?_
      refine s_skip rfl ?_
      refine s_skip rfl ?_
      refine s_skip rfl ?_
      refine s_skip rfl ?_
      refine s_y (v := .bool true) rfl (y_pick_t rfl rfl) ?_
      refine s_nil ?_
      refine W_if_t (by decide) rfl ?_
      refine W_seq ?_
      refine W_region (by kernel_rfl) ?_
      refine s_y (v := .int .i64 0) rfl (y_assign rfl) ?_
      refine s_y (v := .float .f32 0) rfl (y_assign rfl) ?_
      refine s_y (v := .bool false) rfl (y_assign rfl) ?_
      refine s_nil ?_
      refine W_ret ?_
      refine ret3 (v1 := .int .i64 0) (v2 := .float .f32 0) (v3 := .bool false) rfl rfl rfl rfl rfl rfl rfl ⟨_, rfl, ?_⟩
      exact .inr ⟨by simp only [peakB, fieldB, c11, (Bool.eq_false_iff.2 c17), Bool.and_true, Bool.true_and, Bool.false_and, Bool.and_false, decide_eq_true_eq, decide_eq_false_iff_not, Bool.and_true, Bool.true_and, Bool.and_false, Bool.false_and, Bool.not_true, Bool.not_false, Bool.or_true, Bool.true_or, Bool.or_false, Bool.false_or], rfl, B.ext⟩
  · obtain rfl : v9 = .bool false := hv10.trans (congrArg Value.bool (Bool.eq_false_iff.2 c11))
    refine s_y (v := .bool true) rfl (y_not rfl rfl) ?_
    refine s_y (v := .bool true) rfl (y_move rfl) ?_
    refine s_skip rfl ?_
    refine s_skip rfl ?_
    refine s_y (v := .bool true) rfl (y_pick_t rfl rfl) ?_
    refine s_y (v := .bool true) rfl (y_move rfl) ?_
    refine s_skip rfl ?_
    refine s_skip rfl ?_
    refine s_skip rfl ?_
    refine s_skip rfl ?_
    refine s_y (v := .bool true) rfl (y_pick_t rfl rfl) ?_
    refine s_nil ?_
    refine W_if_t (by decide) rfl ?_
    refine W_seq ?_
    refine W_region (by kernel_rfl) ?_
    refine s_y (v := .int .i64 0) rfl (y_assign rfl) ?_
    refine s_y (v := .float .f32 0) rfl (y_assign rfl) ?_
    refine s_y (v := .bool false) rfl (y_assign rfl) ?_
    refine s_nil ?_
    refine W_ret ?_
    refine ret3 (v1 := .int .i64 0) (v2 := .float .f32 0) (v3 := .bool false) rfl rfl rfl rfl rfl rfl rfl ⟨_, rfl, ?_⟩
    exact .inr ⟨by simp only [peakB, fieldB, (Bool.eq_false_iff.2 c11), Bool.and_true, Bool.true_and, Bool.false_and, Bool.and_false, decide_eq_true_eq, decide_eq_false_iff_not, Bool.and_true, Bool.true_and, Bool.and_false, Bool.false_and, Bool.not_true, Bool.not_false, Bool.or_true, Bool.true_or, Bool.or_false, Bool.false_or], rfl, B.ext⟩
namespace T108
theorem mx : Try.prog.follows .mixedOrders = true := by kernel_rfl
end T108
set_option maxRecDepth 100000 in
set_option maxHeartbeats 4000000 in
theorem c_i_size {x : Nat} {X : Nat} {w : World} (hx : can .f32 x = X) :
    Calls Try.prog 108 #[.float .f32 x] w (Rt fun v w' => (∃ r, v = .float .f32 r ∧ can .f32 r = szX X) ∧ Ext0 w w') := by
  have B : Bu w no w [] := Bu.ro All.nil rfl
  refine calls_W (n := 10) Try.func108 rfl rfl (Nat.le_of_ble_eq_true rfl) ?_
  refine W_seq ?_
  refine W_region (by kernel_rfl) ?_
  refine s_y (v := .float .f32 0) rfl (y_assign rfl) ?_
  refine s_nil ?_
  refine W_seq ?_
  refine W_seq ?_
  refine W_region (by kernel_rfl) ?_
  refine s_y (v := .float .f32 x) rfl (y_move rfl) ?_
  by_cases c1 : flt .f32 X 0 = true
  · refine s_y (v := .bool true) rfl (y_flss rfl rfl (fltC hx (show can .f32 0 = 0 by kernel_rfl) c1)) ?_
    refine s_nil ?_
    refine W_if_t (by decide) rfl ?_
    refine W_seq ?_
    refine W_region (by kernel_rfl) ?_
    refine s_y (v := .float .f32 x) rfl (y_move rfl) ?_
    refine s_y (v := .float .f32 (Op.negFloat .f32 x)) rfl (y_fneg rfl) ?_
    refine s_y (v := .float .f32 (Op.negFloat .f32 x)) rfl (y_assign rfl) ?_
    refine s_nil ?_
    refine W_ret ?_
    refine ret1 (v := .float .f32 (Op.negFloat .f32 x)) rfl rfl rfl ⟨_, rfl, ?_⟩
    exact ⟨⟨_, rfl, (negC hx).trans (by simp [szX, *])⟩, B.ext⟩
  · refine s_y (v := .bool false) rfl (y_flss rfl rfl (fltC hx (show can .f32 0 = 0 by kernel_rfl) (Bool.eq_false_iff.2 c1))) ?_
    refine s_nil ?_
    refine W_if_f (by decide) rfl ?_
    refine W_skip ?_
    refine W_seq ?_
    refine W_seq ?_
    refine W_region (by kernel_rfl) ?_
    refine s_y (v := .float .f32 x) rfl (y_move rfl) ?_
    by_cases c2 : feq .f32 X 0 = true
    · refine s_y (v := .bool true) rfl (y_feql rfl rfl (feqC hx (show can .f32 0 = 0 by kernel_rfl) c2)) ?_
      refine s_nil ?_
      refine W_if_t (by decide) rfl ?_
      refine W_seq ?_
      refine W_region (by kernel_rfl) ?_
      refine s_y (v := .float .f32 0) rfl (y_assign rfl) ?_
      refine s_nil ?_
      refine W_ret ?_
      refine ret1 (v := .float .f32 0) rfl rfl rfl ⟨_, rfl, ?_⟩
      exact ⟨⟨_, rfl, (show can .f32 0 = 0 by kernel_rfl).trans (by simp [szX, *])⟩, B.ext⟩
    · refine s_y (v := .bool false) rfl (y_feql rfl rfl (feqC hx (show can .f32 0 = 0 by kernel_rfl) (Bool.eq_false_iff.2 c2))) ?_
      refine s_nil ?_
      refine W_if_f (by decide) rfl ?_
      refine W_skip ?_
      refine W_seq ?_
      refine W_region (by kernel_rfl) ?_
      refine s_y (v := .float .f32 x) rfl (y_move rfl) ?_
      refine s_y (v := .float .f32 x) rfl (y_assign rfl) ?_
      refine s_nil ?_
      refine W_ret ?_
      refine ret1 (v := .float .f32 x) rfl rfl rfl ⟨_, rfl, ?_⟩
      exact ⟨⟨_, rfl, hx.trans (by simp [szX, *])⟩, B.ext⟩
namespace T78
theorem mx : Try.prog.follows .mixedOrders = true := by kernel_rfl
theorem fld_49_0_0 : fldB Try.prog 49 0 0 = true := by kernel_rfl
theorem fn_108 : fnB Try.prog 108 = true := by kernel_rfl
theorem one_24 : oneB Try.prog 24 = true := by kernel_rfl
theorem one_56 : oneB Try.prog 56 = true := by kernel_rfl
theorem sl_24_56_1 : slB Try.prog 24 56 1 = true := by kernel_rfl
end T78
set_option maxRecDepth 100000 in
set_option maxHeartbeats 4000000 in
theorem c_i_peakOf {afe : Option Addr} {nfe : Nat} {cfe : Nat} {Xfe : List Nat} {afx : Option Addr} {nfx : Nat} {cfx : Nat} {Xfx : List Nat} {afy : Option Addr} {nfy : Nat} {cfy : Nat} {Xfy : List Nat} {w : World} (qfe : Rd w kF afe nfe Xfe) (qfx : Rd w kF afx nfx Xfx) (qfy : Rd w kF afy nfy Xfy) (hbfe : nfe ≤ 9223372036854775806) :
    Calls Try.prog 78 #[.agg #[.slice afe nfe cfe, .slice afx nfx cfx, .slice afy nfy cfy]] w (Rt fun v w' => v = .int .i64 (peakI Xfe Xfe.length) ∧ Ext0 w w') := by
  have hlfe := qfe.len
  have hlfx := qfx.len
  have hlfy := qfy.len
  have B : Bu w no w [.rd kF afe nfe Xfe, .rd kF afx nfx Xfx, .rd kF afy nfy Xfy] := Bu.ro (All.cons qfe (All.cons qfx (All.cons qfy All.nil))) rfl
  refine calls_W (n := 35) Try.func78 rfl rfl (Nat.le_of_ble_eq_true rfl) ?_
  refine W_seq ?_
  refine W_region (by kernel_rfl) ?_
  refine s_k rfl (k_boxN (v := .agg #[.slice afe nfe cfe, .slice afx nfx cfx, .slice afy nfy cfy]) (cs := [.slice afe nfe cfe, .slice afx nfx cfx, .slice afy nfy cfy]) rfl rfl (fun b1 w2 hN3 => ?_))
  replace B := B.new1 hN3
  clear hN3
  refine s_y (v := .int .i64 0) rfl (y_assign rfl) ?_
  refine s_nil ?_
  refine W_seq ?_
  refine W_region (by kernel_rfl) ?_
  refine s_y (v := .int .i64 (-1)) rfl (y_assign rfl) ?_
  refine s_nil ?_
  refine W_seq ?_
  refine W_seq ?_
  refine W_region (by kernel_rfl) ?_
  refine s_y (v := .pointer (some ⟨b1, 0, none⟩)) rfl (y_fld (o := 0) T78.fld_49_0_0 rfl) ?_
  refine s_y (v := .slice afe nfe cfe) rfl (y_load T78.one_24 rfl ((B.b 0 rfl).cell (j := 0) rfl)) ?_
  refine s_y (v := .int .i64 ((nfe : Nat) : Int)) rfl (y_len T78.sl_24_56_1 rfl rfl) ?_
  refine s_y (v := .int .i64 0) rfl (y_move rfl) ?_
  refine s_nil ?_
  refine W_block ?_
  refine W_loop (fun ρ' w' => ∃ (ρ1 : Env) (k : Int) (b : Int), ρ' = updL ρ1 [(1, .pointer (some ⟨b1, 0, none⟩)), (2, .int .i64 0), (3, .int .i64 b), (7, .slice afe nfe cfe), (8, .int .i64 ((nfe : Nat) : Int)), (9, .int .i64 k)] ∧ Bu w no w' [.blk b1 [.slice afe nfe cfe, .slice afx nfx cfx, .slice afy nfy cfy] 49, .rd kF afe nfe Xfe, .rd kF afx nfx Xfx, .rd kF afy nfy Xfy] ∧ (0 ≤ k) ∧ (k ≤ (nfe : Int)) ∧ (-1 ≤ b) ∧ (b < k) ∧ (b = peakI Xfe k.toNat)) (fun ρ' _ => ((nfe : Int) - iv (ρ' 9)).toNat) ?_ ?_
  · exact ⟨_, 0, (-1), Fits.eq ⟨rfl, rfl, rfl, rfl, rfl, rfl, trivial⟩, B, (Int.le_refl _), (by omega), (by omega), (by omega), rfl⟩
  · clear B; rintro _ w4 ⟨ρ5, k, b, rfl, B, h0k, h1k, hb0, hb1, hq⟩
    refine W_seq ?_
    refine W_region (by kernel_rfl) ?_
    by_cases c6 : k < ((nfe : Nat) : Int)
    · refine s_y (v := .bool true) rfl (y_lss rfl rfl (decide_eq_true c6)) ?_
      refine s_nil ?_
      refine W_seq ?_
      refine W_if_t (by decide) rfl ?_
      refine W_skip ?_
      refine W_seq ?_
      refine W_block ?_
      refine W_seq ?_
      refine W_region (by kernel_rfl) ?_
      refine s_y (v := .int .i64 k) rfl (y_move rfl) ?_
      refine s_y (v := .pointer (some (sat afe ((k).toNat * 1)))) rfl (y_idx T78.sl_24_56_1 rfl rfl ((B.r 1 rfl).addr (by omega)) (by omega) (by omega)) ?_
      obtain ⟨r8, hr9, hR7⟩ := Rd.atF (B.r 1 rfl) k (by omega) (by omega)
      refine s_y (v := .float .f32 r8) rfl (y_load T78.one_56 rfl (hR7.cell (i := 0) rfl)) ?_
      refine s_y (v := .int .i64 k) rfl (y_assign rfl) ?_
      refine s_y (v := .float .f32 r8) rfl (y_assign rfl) ?_
      refine s_nil ?_
      refine W_seq ?_
      have B0_14 := B
      refine W_draw (no) T78.mx (by kernel_rfl) (fun w12 e13 => ?_)
      have R15 := Ext.refl (no) w4
      replace R15 := R15.trans (Ext0.any e13)
      replace B := B.ext0 e13
      clear e13
      refine m_y (v := .float .f32 r8) 0 rfl (by kernel_rfl) rfl rfl (fun w' e' => y_move rfl) ?_
      refine m_y (v := .float .f32 r8) 1 rfl (by kernel_rfl) rfl rfl (fun w' e' => y_move rfl) ?_
      by_cases c16 : feq .f32 (el Xfe k) (el Xfe k) = true
      · refine m_y (v := .bool true) 2 rfl (by kernel_rfl) rfl rfl (fun w' e' => y_feql rfl rfl (feqC hr9 hr9 c16)) ?_
        refine m_y (v := .bool true) 3 rfl (by kernel_rfl) rfl rfl (fun w' e' => y_move rfl) ?_
        refine m_y (v := .int .i64 b) 4 rfl (by kernel_rfl) rfl rfl (fun w' e' => y_move rfl) ?_
        by_cases c17 : b < 0
        · refine m_y (v := .bool true) 5 rfl (by kernel_rfl) rfl rfl (fun w' e' => y_lss rfl rfl (decide_eq_true c17)) ?_
          refine m_y (v := .bool true) 6 rfl (by kernel_rfl) rfl rfl (fun w' e' => y_move rfl) ?_
          refine m_skip 7 rfl (by kernel_rfl) rfl ?_
          refine m_skip 8 rfl (by kernel_rfl) rfl ?_
          refine m_skip 9 rfl (by kernel_rfl) rfl ?_
          refine m_skip 10 rfl (by kernel_rfl) rfl ?_
          refine m_skip 11 rfl (by kernel_rfl) rfl ?_
          refine m_skip 12 rfl (by kernel_rfl) rfl ?_
          refine m_skip 13 rfl (by kernel_rfl) rfl ?_
          refine m_skip 14 rfl (by kernel_rfl) rfl ?_
          refine m_skip 15 rfl (by kernel_rfl) rfl ?_
          refine m_y (v := .bool true) 16 rfl (by kernel_rfl) rfl rfl (fun w' e' => y_pick_t rfl rfl) ?_
          refine m_y (v := .bool true) 17 rfl (by kernel_rfl) rfl rfl (fun w' e' => y_pick_t rfl rfl) ?_
          refine m_done (by kernel_rfl) (fun w18 e19 => ?_)
          replace B := B.ext0 e19
          clear e19
          clear B0_14 R15
          refine W_if_t (by decide) rfl ?_
          refine W_region (by kernel_rfl) ?_
          refine s_y (v := .int .i64 k) rfl (y_move rfl) ?_
          refine s_y (v := .int .i64 k) rfl (y_assign rfl) ?_
          refine s_nil ?_
          refine W_region (by kernel_rfl) ?_
          refine s_y (v := .int .i64 (k + 1)) rfl (y_add rfl rfl rfl (by omega)) ?_
          refine s_y (v := .int .i64 (k + 1)) rfl (y_move rfl) ?_
          refine s_nil ?_
          refine ⟨⟨_, k + 1, k, Fits.eq ⟨rfl, rfl, rfl, rfl, rfl, rfl, trivial⟩, B, (by omega), (by omega), (by omega), (by omega), (peak_yes (by omega) hq (by simp only [Bool.false_or, (decide_eq_true c6), c16, (decide_eq_true c17), Bool.and_true, Bool.true_and, Bool.and_false, Bool.false_and, Bool.not_true, Bool.not_false, Bool.or_true, Bool.true_or, Bool.or_false, Bool.false_or]))⟩, ?_⟩
          show ((nfe : Int) - (k + 1)).toNat < ((nfe : Int) - k).toNat
          omega
        · refine m_y (v := .bool false) 5 rfl (by kernel_rfl) rfl rfl (fun w' e' => y_lss rfl rfl (decide_eq_false c17)) ?_
          refine m_y (v := .bool false) 6 rfl (by kernel_rfl) rfl rfl (fun w' e' => y_move rfl) ?_
          refine m_y (v := .float .f32 r8) 7 rfl (by kernel_rfl) rfl rfl (fun w' e' => y_move rfl) ?_
          refine m_y (v := .pointer (some ⟨b1, 0, none⟩)) 9 rfl (by kernel_rfl) rfl rfl (fun w' e' => y_fld (o := 0) T78.fld_49_0_0 rfl) ?_
          refine m_y (v := .slice afe nfe cfe) 10 rfl (by kernel_rfl) rfl rfl (fun w' e' => y_load T78.one_24 rfl (((B0_14.b 0 rfl).ext0 e').cell (j := 0) rfl)) ?_
          refine m_y (v := .int .i64 b) 11 rfl (by kernel_rfl) rfl rfl (fun w' e' => y_move rfl) ?_
          refine m_y (v := .pointer (some (sat afe ((b).toNat * 1)))) 12 rfl (by kernel_rfl) rfl rfl (fun w' e' => y_idx T78.sl_24_56_1 rfl rfl ((B.r 1 rfl).addr (by omega)) (by omega) (by omega)) ?_
          obtain ⟨r21, hr22, hR20⟩ := Rd.atF (B0_14.r 1 rfl) b (by omega) (by omega)
          refine m_y (v := .float .f32 r21) 13 rfl (by kernel_rfl) rfl rfl (fun w' e' => y_load T78.one_56 rfl ((hR20.ext0 e').cell (i := 0) rfl)) ?_
          refine m_k 8 [14, 15, 16, 17] rfl (by kernel_rfl) rfl rfl (fun w23 e24 => ?_)
          replace R15 := R15.trans (Ext0.any e24)
          replace B := B.ext0 e24
          clear e24
          refine k_call T78.fn_108 (c_i_size hr9) rfl ?_
          rintro _ w25 ⟨⟨r27, rfl, hr28⟩, e26⟩
          replace R15 := R15.trans (Ext0.any e26)
          replace B := B.ext0 e26
          clear e26
          refine ⟨fun _ => R15, ?_⟩
          refine m_k 14 [15, 16, 17] rfl (by kernel_rfl) rfl rfl (fun w29 e30 => ?_)
          replace R15 := R15.trans (Ext0.any e30)
          replace B := B.ext0 e30
          clear e30
          refine k_call T78.fn_108 (c_i_size hr22) rfl ?_
          rintro _ w31 ⟨⟨r33, rfl, hr34⟩, e32⟩
          replace R15 := R15.trans (Ext0.any e32)
          replace B := B.ext0 e32
          clear e32
          refine ⟨fun _ => R15, ?_⟩
          by_cases c35 : fgt .f32 (szX (el Xfe k)) (szX (el Xfe b)) = true
          · refine m_y (v := .bool true) 15 rfl (by kernel_rfl) rfl rfl (fun w' e' => y_fgtr rfl rfl (fgtC hr28 hr34 c35)) ?_
            refine m_y (v := .bool true) 16 rfl (by kernel_rfl) rfl rfl (fun w' e' => y_pick_f rfl rfl) ?_
            refine m_y (v := .bool true) 17 rfl (by kernel_rfl) rfl rfl (fun w' e' => y_pick_t rfl rfl) ?_
            refine m_done (by kernel_rfl) (fun w36 e37 => ?_)
            replace B := B.ext0 e37
            clear e37
            clear B0_14 R15
            refine W_if_t (by decide) rfl ?_
            refine W_region (by kernel_rfl) ?_
            refine s_y (v := .int .i64 k) rfl (y_move rfl) ?_
            refine s_y (v := .int .i64 k) rfl (y_assign rfl) ?_
            refine s_nil ?_
            refine W_region (by kernel_rfl) ?_
            refine s_y (v := .int .i64 (k + 1)) rfl (y_add rfl rfl rfl (by omega)) ?_
            refine s_y (v := .int .i64 (k + 1)) rfl (y_move rfl) ?_
            refine s_nil ?_
            refine ⟨⟨_, k + 1, k, Fits.eq ⟨rfl, rfl, rfl, rfl, rfl, rfl, trivial⟩, B, (by omega), (by omega), (by omega), (by omega), (peak_yes (by omega) hq (by simp only [Bool.false_or, (decide_eq_true c6), c16, (decide_eq_false c17), c35, Bool.and_true, Bool.true_and, Bool.and_false, Bool.false_and, Bool.not_true, Bool.not_false, Bool.or_true, Bool.true_or, Bool.or_false, Bool.false_or]))⟩, ?_⟩
            show ((nfe : Int) - (k + 1)).toNat < ((nfe : Int) - k).toNat
            omega
          · refine m_y (v := .bool false) 15 rfl (by kernel_rfl) rfl rfl (fun w' e' => y_fgtr rfl rfl (fgtC hr28 hr34 (Bool.eq_false_iff.2 c35))) ?_
            refine m_y (v := .bool false) 16 rfl (by kernel_rfl) rfl rfl (fun w' e' => y_pick_f rfl rfl) ?_
            refine m_y (v := .bool false) 17 rfl (by kernel_rfl) rfl rfl (fun w' e' => y_pick_t rfl rfl) ?_
            refine m_done (by kernel_rfl) (fun w38 e39 => ?_)
            replace B := B.ext0 e39
            clear e39
            clear B0_14 R15
            refine W_if_f (by decide) rfl ?_
            refine W_skip ?_
            refine W_region (by kernel_rfl) ?_
            refine s_y (v := .int .i64 (k + 1)) rfl (y_add rfl rfl rfl (by omega)) ?_
            refine s_y (v := .int .i64 (k + 1)) rfl (y_move rfl) ?_
            refine s_nil ?_
            refine ⟨⟨_, k + 1, b, Fits.eq ⟨rfl, rfl, rfl, rfl, rfl, rfl, trivial⟩, B, (by omega), (by omega), (by omega), (by omega), (peak_no (by omega) hq (by simp only [Bool.false_or, (decide_eq_true c6), c16, (decide_eq_false c17), (Bool.eq_false_iff.2 c35), Bool.and_true, Bool.true_and, Bool.and_false, Bool.false_and, Bool.not_true, Bool.not_false, Bool.or_true, Bool.true_or, Bool.or_false, Bool.false_or]))⟩, ?_⟩
            show ((nfe : Int) - (k + 1)).toNat < ((nfe : Int) - k).toNat
            omega
      · refine m_y (v := .bool false) 2 rfl (by kernel_rfl) rfl rfl (fun w' e' => y_feql rfl rfl (feqC hr9 hr9 (Bool.eq_false_iff.2 c16))) ?_
        refine m_y (v := .bool false) 3 rfl (by kernel_rfl) rfl rfl (fun w' e' => y_move rfl) ?_
        refine m_skip 4 rfl (by kernel_rfl) rfl ?_
        refine m_skip 5 rfl (by kernel_rfl) rfl ?_
        refine m_skip 6 rfl (by kernel_rfl) rfl ?_
        refine m_skip 7 rfl (by kernel_rfl) rfl ?_
        refine m_skip 8 rfl (by kernel_rfl) rfl ?_
        refine m_skip 9 rfl (by kernel_rfl) rfl ?_
        refine m_skip 10 rfl (by kernel_rfl) rfl ?_
        refine m_skip 11 rfl (by kernel_rfl) rfl ?_
        refine m_skip 12 rfl (by kernel_rfl) rfl ?_
        refine m_skip 13 rfl (by kernel_rfl) rfl ?_
        refine m_skip 14 rfl (by kernel_rfl) rfl ?_
        refine m_skip 15 rfl (by kernel_rfl) rfl ?_
        refine m_skip 16 rfl (by kernel_rfl) rfl ?_
        refine m_y (v := .bool false) 17 rfl (by kernel_rfl) rfl rfl (fun w' e' => y_pick_f rfl rfl) ?_
        refine m_done (by kernel_rfl) (fun w40 e41 => ?_)
        replace B := B.ext0 e41
        clear e41
        clear B0_14 R15
        refine W_if_f (by decide) rfl ?_
        refine W_skip ?_
        refine W_region (by kernel_rfl) ?_
        refine s_y (v := .int .i64 (k + 1)) rfl (y_add rfl rfl rfl (by omega)) ?_
        refine s_y (v := .int .i64 (k + 1)) rfl (y_move rfl) ?_
        refine s_nil ?_
        refine ⟨⟨_, k + 1, b, Fits.eq ⟨rfl, rfl, rfl, rfl, rfl, rfl, trivial⟩, B, (by omega), (by omega), (by omega), (by omega), (peak_no (by omega) hq (by simp only [Bool.false_or, (decide_eq_true c6), (Bool.eq_false_iff.2 c16), Bool.and_true, Bool.true_and, Bool.and_false, Bool.false_and, Bool.not_true, Bool.not_false, Bool.or_true, Bool.true_or, Bool.or_false, Bool.false_or]))⟩, ?_⟩
        show ((nfe : Int) - (k + 1)).toNat < ((nfe : Int) - k).toNat
        omega
    · refine s_y (v := .bool false) rfl (y_lss rfl rfl (decide_eq_false c6)) ?_
      refine s_nil ?_
      refine W_seq ?_
      refine W_if_f (by decide) rfl ?_
      refine W_exit ?_
      refine W_seq ?_
      refine W_region (by kernel_rfl) ?_
      refine s_y (v := .int .i64 b) rfl (y_move rfl) ?_
      refine s_y (v := .int .i64 b) rfl (y_assign rfl) ?_
      refine s_nil ?_
      refine W_ret ?_
      refine ret1 (v := .int .i64 b) rfl rfl rfl ⟨_, rfl, ?_⟩
      exact ⟨congrArg (Value.int .i64) (by rw [hq]; congr 1; omega), B.ext⟩
namespace T39
theorem mx : Try.prog.follows .mixedOrders = true := by kernel_rfl
theorem agg_26_5 : aggB Try.prog 26 5 = true := by kernel_rfl
theorem agg_49_3 : aggB Try.prog 49 3 = true := by kernel_rfl
theorem fld_49_0_0 : fldB Try.prog 49 0 0 = true := by kernel_rfl
theorem fn_74 : fnB Try.prog 74 = true := by kernel_rfl
theorem fn_78 : fnB Try.prog 78 = true := by kernel_rfl
theorem one_24 : oneB Try.prog 24 = true := by kernel_rfl
theorem one_56 : oneB Try.prog 56 = true := by kernel_rfl
theorem sl_24_56_1 : slB Try.prog 24 56 1 = true := by kernel_rfl
end T39
set_option maxRecDepth 100000 in
set_option maxHeartbeats 4000000 in
theorem c_i_PeakOf {wd : Int} {hi : Int} {wr : Bool} {asp : Option Addr} {nsp : Nat} {csp : Nat} {Xsp : List Nat} {als : Option Addr} {nls : Nat} {cls : Nat} {Xls : List Nat} {afe : Option Addr} {nfe : Nat} {cfe : Nat} {Xfe : List Nat} {afx : Option Addr} {nfx : Nat} {cfx : Nat} {Xfx : List Nat} {afy : Option Addr} {nfy : Nat} {cfy : Nat} {Xfy : List Nat} {w : World} (qsp : Rd w kF asp nsp Xsp) (qls : Rd w kF als nls Xls) (qfe : Rd w kF afe nfe Xfe) (qfx : Rd w kF afx nfx Xfx) (qfy : Rd w kF afy nfy Xfy) (hbsp : nsp ≤ 9223372036854775806) (hbls : nls ≤ 9223372036854775806) (hbfe : nfe ≤ 9223372036854775806) (hbfx : nfx ≤ 9223372036854775806) (hbfy : nfy ≤ 9223372036854775806) :
    Calls Try.prog 39 #[.agg #[.int .i64 wd, .int .i64 hi, .bool wr, .slice asp nsp csp, .slice als nls cls], .agg #[.slice afe nfe cfe, .slice afx nfx cfx, .slice afy nfy cfy]] w (Rt fun v w' => (peakB wd hi wr Xsp Xls Xfe Xfx Xfy = true ∧ ∃ (r1 : Nat), v = .tuple #[.int .i64 (peakI Xfe Xfe.length), .float .f32 r1, .bool true] ∧ can .f32 r1 = el Xfe (peakI Xfe Xfe.length) ∧ Ext0 w w') ∨ (peakB wd hi wr Xsp Xls Xfe Xfx Xfy = false ∧ v = .tuple #[.int .i64 0, .float .f32 0, .bool false] ∧ Ext0 w w')) := by
  have hlsp := qsp.len
  have hlls := qls.len
  have hlfe := qfe.len
  have hlfx := qfx.len
  have hlfy := qfy.len
  have B : Bu w no w [.rd kF asp nsp Xsp, .rd kF als nls Xls, .rd kF afe nfe Xfe, .rd kF afx nfx Xfx, .rd kF afy nfy Xfy] := Bu.ro (All.cons qsp (All.cons qls (All.cons qfe (All.cons qfx (All.cons qfy All.nil))))) rfl
  refine calls_W (n := 24) Try.func39 rfl rfl (Nat.le_of_ble_eq_true rfl) ?_
  refine W_seq ?_
  refine W_region (by kernel_rfl) ?_
  refine s_k rfl (k_boxN (v := .agg #[.int .i64 wd, .int .i64 hi, .bool wr, .slice asp nsp csp, .slice als nls cls]) (cs := [.int .i64 wd, .int .i64 hi, .bool wr, .slice asp nsp csp, .slice als nls cls]) rfl rfl (fun b1 w2 hN3 => ?_))
  replace B := B.new1 hN3
  clear hN3
  refine s_k rfl (k_boxN (v := .agg #[.slice afe nfe cfe, .slice afx nfx cfx, .slice afy nfy cfy]) (cs := [.slice afe nfe cfe, .slice afx nfx cfx, .slice afy nfy cfy]) rfl rfl (fun b4 w5 hN6 => ?_))
  replace B := B.new1 hN6
  clear hN6
  refine s_y (v := .int .i64 0) rfl (y_assign rfl) ?_
  refine s_y (v := .float .f32 0) rfl (y_assign rfl) ?_
  refine s_y (v := .bool false) rfl (y_assign rfl) ?_
  refine s_nil ?_
  refine W_seq ?_
  refine W_region (by kernel_rfl) ?_
  refine s_y (v := .agg #[.slice afe nfe cfe, .slice afx nfx cfx, .slice afy nfy cfy]) rfl (y_loadn (b := b4) (o := 0) (vs := [.slice afe nfe cfe, .slice afx nfx cfx, .slice afy nfy cfy]) T39.agg_49_3 rfl rfl ((B.b 0 rfl).cells (o := 0) rfl)) ?_
  refine s_k rfl (k_call T39.fn_78 (c_i_peakOf (B.r 4 rfl) (B.r 5 rfl) (B.r 6 rfl) (by omega)) rfl ?_)
  rintro _ w7 ⟨rfl, e8⟩
  replace B := B.ext0 e8
  clear e8
  have hpk9 := peakI_b Xfe (List.length Xfe)
  refine s_y (v := .int .i64 (peakI Xfe Xfe.length)) rfl (y_assign rfl) ?_
  refine s_nil ?_
  refine W_seq ?_
  refine W_seq ?_
  refine W_region (by kernel_rfl) ?_
  refine s_y (v := .agg #[.int .i64 wd, .int .i64 hi, .bool wr, .slice asp nsp csp, .slice als nls cls]) rfl (y_loadn (b := b1) (o := 0) (vs := [.int .i64 wd, .int .i64 hi, .bool wr, .slice asp nsp csp, .slice als nls cls]) T39.agg_26_5 rfl rfl ((B.b 1 rfl).cells (o := 0) rfl)) ?_
  refine s_y (v := .agg #[.slice afe nfe cfe, .slice afx nfx cfx, .slice afy nfy cfy]) rfl (y_loadn (b := b4) (o := 0) (vs := [.slice afe nfe cfe, .slice afx nfx cfx, .slice afy nfy cfy]) T39.agg_49_3 rfl rfl ((B.b 0 rfl).cells (o := 0) rfl)) ?_
  refine s_k rfl (k_call T39.fn_74 (c_i_IsField (B.r 2 rfl) (B.r 3 rfl) (B.r 4 rfl) (B.r 5 rfl) (B.r 6 rfl) (by omega) (by omega) (by omega) (by omega) (by omega)) rfl ?_)
  rintro v12 w10 ⟨hv13, e11⟩
  replace B := B.ext0 e11
  clear e11
  by_cases c14 : fieldB wd hi wr Xsp Xls Xfe Xfx Xfy = true
  · have hb15 := fieldB_b c14
    obtain rfl : v12 = .bool true := hv13.trans (congrArg Value.bool c14)
    refine s_y (v := .bool false) rfl (y_not rfl rfl) ?_
    refine s_y (v := .bool false) rfl (y_move rfl) ?_
    refine s_y (v := .int .i64 (peakI Xfe Xfe.length)) rfl (y_move rfl) ?_
    by_cases c16 : (peakI Xfe Xfe.length) < 0
    · refine s_y (v := .bool true) rfl (y_lss rfl rfl (decide_eq_true c16)) ?_
      refine s_y (v := .bool true) rfl (y_pick_f rfl rfl) ?_
      refine s_nil ?_
      refine W_if_t (by decide) rfl ?_
      refine W_seq ?_
      refine W_region (by kernel_rfl) ?_
      refine s_y (v := .int .i64 0) rfl (y_assign rfl) ?_
      refine s_y (v := .float .f32 0) rfl (y_assign rfl) ?_
      refine s_y (v := .bool false) rfl (y_assign rfl) ?_
      refine s_nil ?_
      refine W_ret ?_
      refine ret3 (v1 := .int .i64 0) (v2 := .float .f32 0) (v3 := .bool false) rfl rfl rfl rfl rfl rfl rfl ⟨_, rfl, ?_⟩
      exact .inr ⟨by simp only [peakB, c14, (decide_eq_true c16), Bool.and_true, Bool.true_and, Bool.false_and, Bool.and_false, decide_eq_true_eq, decide_eq_false_iff_not, Bool.and_true, Bool.true_and, Bool.and_false, Bool.false_and, Bool.not_true, Bool.not_false, Bool.or_true, Bool.true_or, Bool.or_false, Bool.false_or] <;> omega, rfl, B.ext⟩
    · refine s_y (v := .bool false) rfl (y_lss rfl rfl (decide_eq_false c16)) ?_
      refine s_y (v := .bool false) rfl (y_pick_f rfl rfl) ?_
      refine s_nil ?_
      refine W_if_f (by decide) rfl ?_
      refine W_skip ?_
      refine W_seq ?_
      have B0_21 := B
      refine W_draw (no) T39.mx (by kernel_rfl) (fun w19 e20 => ?_)
      have R22 := Ext.refl (no) w10
      replace R22 := R22.trans (Ext0.any e20)
      replace B := B.ext0 e20
      clear e20
      refine m_y (v := .int .i64 (peakI Xfe Xfe.length)) 0 rfl (by kernel_rfl) rfl rfl (fun w' e' => y_move rfl) ?_
      refine m_y (v := .pointer (some ⟨b4, 0, none⟩)) 1 rfl (by kernel_rfl) rfl rfl (fun w' e' => y_fld (o := 0) T39.fld_49_0_0 rfl) ?_
      refine m_y (v := .slice afe nfe cfe) 2 rfl (by kernel_rfl) rfl rfl (fun w' e' => y_load T39.one_24 rfl (((B0_21.b 0 rfl).ext0 e').cell (j := 0) rfl)) ?_
      refine m_y (v := .int .i64 (peakI Xfe Xfe.length)) 3 rfl (by kernel_rfl) rfl rfl (fun w' e' => y_move rfl) ?_
      refine m_y (v := .pointer (some (sat afe ((peakI Xfe Xfe.length).toNat * 1)))) 4 rfl (by kernel_rfl) rfl rfl (fun w' e' => y_idx T39.sl_24_56_1 rfl rfl ((B.r 4 rfl).addr (by omega)) (by omega) (by omega)) ?_
      obtain ⟨r24, hr25, hR23⟩ := Rd.atF (B0_21.r 4 rfl) (peakI Xfe Xfe.length) (by omega) (by omega)
      refine m_y (v := .float .f32 r24) 5 rfl (by kernel_rfl) rfl rfl (fun w' e' => y_load T39.one_56 rfl ((hR23.ext0 e').cell (i := 0) rfl)) ?_
      refine m_y (v := .int .i64 (peakI Xfe Xfe.length)) 6 rfl (by kernel_rfl) rfl rfl (fun w' e' => y_assign rfl) ?_
      refine m_y (v := .float .f32 r24) 7 rfl (by kernel_rfl) rfl rfl (fun w' e' => y_assign rfl) ?_
      refine m_y (v := .bool true) 8 rfl (by kernel_rfl) rfl rfl (fun w' e' => y_assign rfl) ?_
      refine m_done (by kernel_rfl) (fun w26 e27 => ?_)
      replace B := B.ext0 e27
      clear e27
      clear B0_21 R22
      refine W_ret ?_
      refine ret3 (v1 := .int .i64 (peakI Xfe Xfe.length)) (v2 := .float .f32 r24) (v3 := .bool true) rfl rfl rfl rfl rfl rfl rfl ⟨_, rfl, ?_⟩
      have hcond : peakB wd hi wr Xsp Xls Xfe Xfx Xfy = true := by simp only [peakB, c14, (decide_eq_false c16), Bool.and_true, Bool.true_and, Bool.false_and, Bool.and_false, decide_eq_true_eq, decide_eq_false_iff_not, Bool.and_true, Bool.true_and, Bool.and_false, Bool.false_and, Bool.not_true, Bool.not_false, Bool.or_true, Bool.true_or, Bool.or_false, Bool.false_or] <;> omega
      exact .inl ⟨hcond, ⟨_, rfl, hr25, B.ext⟩⟩
  · obtain rfl : v12 = .bool false := hv13.trans (congrArg Value.bool (Bool.eq_false_iff.2 c14))
    refine s_y (v := .bool true) rfl (y_not rfl rfl) ?_
    refine s_y (v := .bool true) rfl (y_move rfl) ?_
    refine s_skip rfl ?_
    refine s_skip rfl ?_
    refine s_y (v := .bool true) rfl (y_pick_t rfl rfl) ?_
    refine s_nil ?_
    refine W_if_t (by decide) rfl ?_
    refine W_seq ?_
    refine W_region (by kernel_rfl) ?_
    refine s_y (v := .int .i64 0) rfl (y_assign rfl) ?_
    refine s_y (v := .float .f32 0) rfl (y_assign rfl) ?_
    refine s_y (v := .bool false) rfl (y_assign rfl) ?_
    refine s_nil ?_
    refine W_ret ?_
    refine ret3 (v1 := .int .i64 0) (v2 := .float .f32 0) (v3 := .bool false) rfl rfl rfl rfl rfl rfl rfl ⟨_, rfl, ?_⟩
    exact .inr ⟨by simp only [peakB, (Bool.eq_false_iff.2 c14), Bool.and_true, Bool.true_and, Bool.false_and, Bool.and_false, decide_eq_true_eq, decide_eq_false_iff_not, Bool.and_true, Bool.true_and, Bool.and_false, Bool.false_and, Bool.not_true, Bool.not_false, Bool.or_true, Bool.true_or, Bool.or_false, Bool.false_or], rfl, B.ext⟩
namespace T6
theorem mx : Try.prog.follows .mixedOrders = true := by kernel_rfl
theorem agg_26_5 : aggB Try.prog 26 5 = true := by kernel_rfl
theorem agg_36_5 : aggB Try.prog 36 5 = true := by kernel_rfl
theorem agg_45_3 : aggB Try.prog 45 3 = true := by kernel_rfl
theorem agg_49_3 : aggB Try.prog 49 3 = true := by kernel_rfl
theorem bool_4 : Try.prog.underlying 4 = some .bool := by kernel_rfl
theorem flt_60_f64 : Try.prog.underlying 60 = some (.float .f64) := by kernel_rfl
theorem fn_21 : fnB Try.prog 21 = true := by kernel_rfl
theorem fn_23 : fnB Try.prog 23 = true := by kernel_rfl
theorem fn_25 : fnB Try.prog 25 = true := by kernel_rfl
theorem fn_29 : fnB Try.prog 29 = true := by kernel_rfl
theorem fn_31 : fnB Try.prog 31 = true := by kernel_rfl
theorem fn_34 : fnB Try.prog 34 = true := by kernel_rfl
theorem fn_38 : fnB Try.prog 38 = true := by kernel_rfl
theorem fn_39 : fnB Try.prog 39 = true := by kernel_rfl
theorem fn_40 : fnB Try.prog 40 = true := by kernel_rfl
theorem sz_26_5 : szB Try.prog 26 5 = true := by kernel_rfl
theorem sz_49_3 : szB Try.prog 49 3 = true := by kernel_rfl
theorem und_56 : (Try.prog.underlying 56).isSome = true := by kernel_rfl
theorem zero_26 : zeroB Try.prog 26 (.agg #[.int .i64 0, .int .i64 0, .bool false, .slice none 0 0, .slice none 0 0]) := by unfold zeroB; kernel_rfl
theorem zero_49 : zeroB Try.prog 49 (.agg #[.slice none 0 0, .slice none 0 0, .slice none 0 0]) := by unfold zeroB; kernel_rfl
end T6
set_option maxRecDepth 100000 in
set_option maxHeartbeats 20000000 in
theorem c_FnExactPeakOf {wd0 : Int} {hi0 : Int} {wr0 : Bool} {asp0 : Option Addr} {nsp0 : Nat} {csp0 : Nat} {Xsp0 : List Nat} {als0 : Option Addr} {nls0 : Nat} {cls0 : Nat} {Xls0 : List Nat} {afe1 : Option Addr} {nfe1 : Nat} {cfe1 : Nat} {Xfe1 : List Nat} {afx1 : Option Addr} {nfx1 : Nat} {cfx1 : Nat} {Xfx1 : List Nat} {afy1 : Option Addr} {nfy1 : Nat} {cfy1 : Nat} {Xfy1 : List Nat} {w : World} (qsp0 : Rd w kF asp0 nsp0 Xsp0) (qls0 : Rd w kF als0 nls0 Xls0) (qfe1 : Rd w kF afe1 nfe1 Xfe1) (qfx1 : Rd w kF afx1 nfx1 Xfx1) (qfy1 : Rd w kF afy1 nfy1 Xfy1) (gsp0 : nsp0 ≤ 9223372036854775807) (gls0 : nls0 ≤ 9223372036854775807) (gfe1 : nfe1 ≤ 9223372036854775807) (gfx1 : nfx1 ≤ 9223372036854775807) (gfy1 : nfy1 ≤ 9223372036854775807) :
    Calls Try.prog 6 #[.agg #[.int .i64 wd0, .int .i64 hi0, .bool wr0, .slice asp0 nsp0 csp0, .slice als0 nls0 cls0], .agg #[.slice afe1 nfe1 cfe1, .slice afx1 nfx1 cfx1, .slice afy1 nfy1 cfy1]] w (Rt fun v w' => v = .bool true ∧ Ext0 w w') := by
  have hlsp0 := qsp0.len
  have hlls0 := qls0.len
  have hlfe1 := qfe1.len
  have hlfx1 := qfx1.len
  have hlfy1 := qfy1.len
  have B : Bu w no w [.rd kF asp0 nsp0 Xsp0, .rd kF als0 nls0 Xls0, .rd kF afe1 nfe1 Xfe1, .rd kF afx1 nfx1 Xfx1, .rd kF afy1 nfy1 Xfy1] := Bu.ro (All.cons qsp0 (All.cons qls0 (All.cons qfe1 (All.cons qfx1 (All.cons qfy1 All.nil))))) rfl
  refine calls_W (n := 70) Try.func6 rfl rfl (Nat.le_of_ble_eq_true rfl) ?_
  refine W_seq ?_
  refine W_region (by kernel_rfl) ?_
  refine s_k rfl (k_boxN (v := .agg #[.int .i64 wd0, .int .i64 hi0, .bool wr0, .slice asp0 nsp0 csp0, .slice als0 nls0 cls0]) (cs := [.int .i64 wd0, .int .i64 hi0, .bool wr0, .slice asp0 nsp0 csp0, .slice als0 nls0 cls0]) rfl rfl (fun b1 w2 hN3 => ?_))
  replace B := B.new1 hN3
  clear hN3
  refine s_k rfl (k_boxN (v := .agg #[.slice afe1 nfe1 cfe1, .slice afx1 nfx1 cfx1, .slice afy1 nfy1 cfy1]) (cs := [.slice afe1 nfe1 cfe1, .slice afx1 nfx1 cfx1, .slice afy1 nfy1 cfy1]) rfl rfl (fun b4 w5 hN6 => ?_))
  replace B := B.new1 hN6
  clear hN6
  refine s_y (v := .bool false) rfl (y_assign rfl) ?_
  refine s_nil ?_
  refine W_seq ?_
  refine W_region (by kernel_rfl) ?_
  refine s_y (v := .int .i64 1048576) rfl (y_assign rfl) ?_
  refine s_nil ?_
  refine W_seq ?_
  refine W_region (by kernel_rfl) ?_
  refine s_y (v := .agg #[.int .i64 wd0, .int .i64 hi0, .bool wr0, .slice asp0 nsp0 csp0, .slice als0 nls0 cls0]) rfl (y_loadn (b := b1) (o := 0) (vs := [.int .i64 wd0, .int .i64 hi0, .bool wr0, .slice asp0 nsp0 csp0, .slice als0 nls0 cls0]) T6.agg_36_5 rfl rfl ((B.b 1 rfl).cells (o := 0) rfl)) ?_
  refine s_y (v := .int .i64 1048576) rfl (y_move rfl) ?_
  refine s_k rfl (k_call T6.fn_21 (c_l_szSheet (by omega) (by omega) (by omega) (by omega)) rfl ?_)
  rintro v9 w7 ⟨hv10, e8⟩
  replace B := B.ext0 e8
  clear e8
  by_cases c11 : ((nsp0 : Nat) : Int) + ((nls0 : Nat) : Int) ≤ 1048576
  · obtain rfl : v9 = .int .i64 (1048576 - ((nsp0 : Nat) : Int) - ((nls0 : Nat) : Int)) := hv10.trans (congrArg _ (if_pos c11))
    have hk12 : ¬ (1048576 - ((nsp0 : Nat) : Int) - ((nls0 : Nat) : Int)) < 0 := by omega
    refine s_y (v := .int .i64 (1048576 - ((nsp0 : Nat) : Int) - ((nls0 : Nat) : Int))) rfl (y_assign rfl) ?_
    refine s_nil ?_
    refine W_seq ?_
    refine W_seq ?_
    refine W_region (by kernel_rfl) ?_
    refine s_y (v := .int .i64 (1048576 - ((nsp0 : Nat) : Int) - ((nls0 : Nat) : Int))) rfl (y_move rfl) ?_
    refine s_y (v := .bool false) rfl (y_lss rfl rfl (decide_eq_false hk12)) ?_
    refine s_nil ?_
    refine W_if_f (by decide) rfl ?_
    refine W_skip ?_
    refine W_seq ?_
    refine W_region (by kernel_rfl) ?_
    refine s_y (v := .agg #[.slice afe1 nfe1 cfe1, .slice afx1 nfx1 cfx1, .slice afy1 nfy1 cfy1]) rfl (y_loadn (b := b4) (o := 0) (vs := [.slice afe1 nfe1 cfe1, .slice afx1 nfx1 cfx1, .slice afy1 nfy1 cfy1]) T6.agg_45_3 rfl rfl ((B.b 0 rfl).cells (o := 0) rfl)) ?_
    refine s_y (v := .int .i64 (1048576 - ((nsp0 : Nat) : Int) - ((nls0 : Nat) : Int))) rfl (y_move rfl) ?_
    refine s_k rfl (k_call T6.fn_29 (c_l_szField (by omega) (by omega) (by omega) (by omega) (by omega)) rfl ?_)
    rintro v15 w13 ⟨hv16, e14⟩
    replace B := B.ext0 e14
    clear e14
    by_cases c17 : ((nfe1 : Nat) : Int) + ((nfx1 : Nat) : Int) + ((nfy1 : Nat) : Int) ≤ (1048576 - ((nsp0 : Nat) : Int) - ((nls0 : Nat) : Int))
    · obtain rfl : v15 = .int .i64 ((1048576 - ((nsp0 : Nat) : Int) - ((nls0 : Nat) : Int)) - ((nfe1 : Nat) : Int) - ((nfx1 : Nat) : Int) - ((nfy1 : Nat) : Int)) := hv16.trans (congrArg _ (if_pos c17))
      have hk18 : ¬ ((1048576 - ((nsp0 : Nat) : Int) - ((nls0 : Nat) : Int)) - ((nfe1 : Nat) : Int) - ((nfx1 : Nat) : Int) - ((nfy1 : Nat) : Int)) < 0 := by omega
      refine s_y (v := .int .i64 ((1048576 - ((nsp0 : Nat) : Int) - ((nls0 : Nat) : Int)) - ((nfe1 : Nat) : Int) - ((nfx1 : Nat) : Int) - ((nfy1 : Nat) : Int))) rfl (y_assign rfl) ?_
      refine s_nil ?_
      refine W_seq ?_
      refine W_seq ?_
      refine W_region (by kernel_rfl) ?_
      refine s_y (v := .int .i64 ((1048576 - ((nsp0 : Nat) : Int) - ((nls0 : Nat) : Int)) - ((nfe1 : Nat) : Int) - ((nfx1 : Nat) : Int) - ((nfy1 : Nat) : Int))) rfl (y_move rfl) ?_
      refine s_y (v := .bool false) rfl (y_lss rfl rfl (decide_eq_false hk18)) ?_
      refine s_nil ?_
      refine W_if_f (by decide) rfl ?_
      refine W_skip ?_
      refine W_seq ?_
      have B0_23 := B
      refine W_draw (no) T6.mx (by kernel_rfl) (fun w21 e22 => ?_)
      have R24 := Ext.refl (no) w13
      replace R24 := R24.trans (Ext0.any e22)
      replace B := B.ext0 e22
      clear e22
      refine m_y (v := .agg #[.int .i64 wd0, .int .i64 hi0, .bool wr0, .slice asp0 nsp0 csp0, .slice als0 nls0 cls0]) 0 rfl (by kernel_rfl) rfl rfl (fun w' e' => y_loadn (b := b1) (o := 0) (vs := [.int .i64 wd0, .int .i64 hi0, .bool wr0, .slice asp0 nsp0 csp0, .slice als0 nls0 cls0]) T6.agg_36_5 rfl rfl (((B0_23.b 1 rfl).ext0 e').cells (o := 0) rfl)) ?_
      refine m_y (v := .agg #[.slice afe1 nfe1 cfe1, .slice afx1 nfx1 cfx1, .slice afy1 nfy1 cfy1]) 2 rfl (by kernel_rfl) rfl rfl (fun w' e' => y_loadn (b := b4) (o := 0) (vs := [.slice afe1 nfe1 cfe1, .slice afx1 nfx1 cfx1, .slice afy1 nfy1 cfy1]) T6.agg_45_3 rfl rfl (((B0_23.b 0 rfl).ext0 e').cells (o := 0) rfl)) ?_
      refine m_k 1 [3, 4, 5, 6, 7, 8, 9, 10, 11] rfl (by kernel_rfl) rfl rfl (fun w25 e26 => ?_)
      replace R24 := R24.trans (Ext0.any e26)
      replace B := B.ext0 e26
      clear e26
      refine k_call T6.fn_23 (c_l_toSheet (B.r 2 rfl) (B.r 3 rfl) (by omega) (by omega)) rfl ?_
      rintro _ w27 ⟨a28, c29, a30, c31, rfl, hN32⟩
      replace R24 := R24.trans (Ext0.any hN32.ext)
      replace B := B.new2 hN32
      clear hN32
      refine ⟨fun _ => R24, ?_⟩
      refine m_k 3 [4, 5, 6, 7, 8, 9, 10, 11] rfl (by kernel_rfl) rfl rfl (fun w33 e34 => ?_)
      replace R24 := R24.trans (Ext0.any e34)
      replace B := B.ext0 e34
      clear e34
      refine k_call T6.fn_31 (c_l_toField (B.r 6 rfl) (B.r 7 rfl) (B.r 8 rfl) (by omega) (by omega) (by omega)) rfl ?_
      rintro _ w35 ⟨a36, c37, a38, c39, a40, c41, rfl, hN42⟩
      replace R24 := R24.trans (Ext0.any hN42.ext)
      replace B := B.new3 hN42
      clear hN42
      refine ⟨fun _ => R24, ?_⟩
      refine m_k 4 [5, 6, 7, 8, 9, 10, 11] rfl (by kernel_rfl) rfl rfl (fun w43 e44 => ?_)
      replace R24 := R24.trans (Ext0.any e44)
      replace B := B.ext0 e44
      clear e44
      refine k_call T6.fn_38 (c_s_PeakOf ((B.o 3 rfl).rd) ((B.o 4 rfl).rd) ((B.o 0 rfl).rd) ((B.o 1 rfl).rd) ((B.o 2 rfl).rd) (by omega) (by omega) (by omega) (by omega) (by omega)) rfl ?_
      rintro v47 w45 hx46
      by_cases c48 : peakB wd0 hi0 wr0 Xsp0 Xls0 Xfe1 Xfx1 Xfy1 = true
      · have hb49 := peakB_b c48
        obtain ⟨r50, rfl, hr51, e52⟩ := (hx46.resolve_right (fun hz => by rw [c48] at hz; cases hz.1)).2
        clear hx46
        replace R24 := R24.trans (Ext0.any e52)
        replace B := B.ext0 e52
        clear e52
        refine ⟨fun _ => R24, ?_⟩
        refine m_y (v := .tuple #[.int .i64 (peakI Xfe1 Xfe1.length), .float .f32 r50, .bool true]) 5 rfl (by kernel_rfl) rfl rfl (fun w' e' => y_move rfl) ?_
        refine m_y (v := .int .i64 (peakI Xfe1 Xfe1.length)) 6 rfl (by kernel_rfl) rfl rfl (fun w' e' => y_extract rfl rfl) ?_
        refine m_y (v := .float .f32 r50) 7 rfl (by kernel_rfl) rfl rfl (fun w' e' => y_extract rfl rfl) ?_
        refine m_y (v := .bool true) 8 rfl (by kernel_rfl) rfl rfl (fun w' e' => y_extract rfl rfl) ?_
        refine m_y (v := .int .i64 (peakI Xfe1 Xfe1.length)) 9 rfl (by kernel_rfl) rfl rfl (fun w' e' => y_assign rfl) ?_
        refine m_y (v := .float .f32 r50) 10 rfl (by kernel_rfl) rfl rfl (fun w' e' => y_assign rfl) ?_
        refine m_y (v := .bool true) 11 rfl (by kernel_rfl) rfl rfl (fun w' e' => y_assign rfl) ?_
        refine m_done (by kernel_rfl) (fun w53 e54 => ?_)
        replace B := B.ext0 e54
        clear e54
        clear B0_23 R24
        refine W_seq ?_
        refine W_region (by kernel_rfl) ?_
        refine s_y (v := .agg #[.int .i64 wd0, .int .i64 hi0, .bool wr0, .slice asp0 nsp0 csp0, .slice als0 nls0 cls0]) rfl (y_loadn (b := b1) (o := 0) (vs := [.int .i64 wd0, .int .i64 hi0, .bool wr0, .slice asp0 nsp0 csp0, .slice als0 nls0 cls0]) T6.agg_36_5 rfl rfl ((B.b 6 rfl).cells (o := 0) rfl)) ?_
        refine s_k rfl (k_call T6.fn_23 (c_l_toSheet (B.r 7 rfl) (B.r 8 rfl) (by omega) (by omega)) rfl ?_)
        rintro _ w55 ⟨a56, c57, a58, c59, rfl, hN60⟩
        replace B := B.new2 hN60
        clear hN60
        refine s_k rfl (k_allocN (z := (.agg #[.int .i64 0, .int .i64 0, .bool false, .slice none 0 0, .slice none 0 0])) (cs := [.int .i64 0, .int .i64 0, .bool false, .slice none 0 0, .slice none 0 0]) T6.zero_26 rfl (fun b61 w62 hN63 => ?_))
        replace B := B.new1 hN63
        clear hN63
        refine s_k0 rfl (k_stB (v := .agg #[.int .i64 wd0, .int .i64 hi0, .bool wr0, .slice a56 nsp0 c57, .slice a58 nls0 c59]) (n := 5) (cs' := [.int .i64 wd0, .int .i64 hi0, .bool wr0, .slice a56 nsp0 c57, .slice a58 nls0 c59]) T6.sz_26_5 rfl rfl rfl (B.b 0 rfl) (by simp [Value.cells, Value.oneCell']) (Nat.le_of_ble_eq_true rfl) rfl (fun w64 hU65 => ?_))
        replace B : Bu w no w64 [.blk b61 [.int .i64 wd0, .int .i64 hi0, .bool wr0, .slice a56 nsp0 c57, .slice a58 nls0 c59] 26, .ow kF a56 nsp0 c57 56 Xsp0, .ow kF a58 nls0 c59 56 Xls0, .ow kF a36 nfe1 c37 56 Xfe1, .ow kF a38 nfx1 c39 56 Xfx1, .ow kF a40 nfy1 c41 56 Xfy1, .ow kF a28 nsp0 c29 56 Xsp0, .ow kF a30 nls0 c31 56 Xls0, .blk b4 [.slice afe1 nfe1 cfe1, .slice afx1 nfx1 cfx1, .slice afy1 nfy1 cfy1] 45, .blk b1 [.int .i64 wd0, .int .i64 hi0, .bool wr0, .slice asp0 nsp0 csp0, .slice als0 nls0 cls0] 36, .rd kF asp0 nsp0 Xsp0, .rd kF als0 nls0 Xls0, .rd kF afe1 nfe1 Xfe1, .rd kF afx1 nfx1 Xfx1, .rd kF afy1 nfy1 Xfy1] := B.upd [0] rfl hU65
        clear hU65
        refine s_nil ?_
        refine W_seq ?_
        refine W_region (by kernel_rfl) ?_
        refine s_y (v := .agg #[.slice afe1 nfe1 cfe1, .slice afx1 nfx1 cfx1, .slice afy1 nfy1 cfy1]) rfl (y_loadn (b := b4) (o := 0) (vs := [.slice afe1 nfe1 cfe1, .slice afx1 nfx1 cfx1, .slice afy1 nfy1 cfy1]) T6.agg_45_3 rfl rfl ((B.b 8 rfl).cells (o := 0) rfl)) ?_
        refine s_k rfl (k_call T6.fn_31 (c_l_toField (B.r 12 rfl) (B.r 13 rfl) (B.r 14 rfl) (by omega) (by omega) (by omega)) rfl ?_)
        rintro _ w66 ⟨a67, c68, a69, c70, a71, c72, rfl, hN73⟩
        replace B := B.new3 hN73
        clear hN73
        refine s_k rfl (k_allocN (z := (.agg #[.slice none 0 0, .slice none 0 0, .slice none 0 0])) (cs := [.slice none 0 0, .slice none 0 0, .slice none 0 0]) T6.zero_49 rfl (fun b74 w75 hN76 => ?_))
        replace B := B.new1 hN76
        clear hN76
        refine s_k0 rfl (k_stB (v := .agg #[.slice a67 nfe1 c68, .slice a69 nfx1 c70, .slice a71 nfy1 c72]) (n := 3) (cs' := [.slice a67 nfe1 c68, .slice a69 nfx1 c70, .slice a71 nfy1 c72]) T6.sz_49_3 rfl rfl rfl (B.b 0 rfl) (by simp [Value.cells, Value.oneCell']) (Nat.le_of_ble_eq_true rfl) rfl (fun w77 hU78 => ?_))
        replace B : Bu w no w77 [.blk b74 [.slice a67 nfe1 c68, .slice a69 nfx1 c70, .slice a71 nfy1 c72] 49, .ow kF a67 nfe1 c68 56 Xfe1, .ow kF a69 nfx1 c70 56 Xfx1, .ow kF a71 nfy1 c72 56 Xfy1, .blk b61 [.int .i64 wd0, .int .i64 hi0, .bool wr0, .slice a56 nsp0 c57, .slice a58 nls0 c59] 26, .ow kF a56 nsp0 c57 56 Xsp0, .ow kF a58 nls0 c59 56 Xls0, .ow kF a36 nfe1 c37 56 Xfe1, .ow kF a38 nfx1 c39 56 Xfx1, .ow kF a40 nfy1 c41 56 Xfy1, .ow kF a28 nsp0 c29 56 Xsp0, .ow kF a30 nls0 c31 56 Xls0, .blk b4 [.slice afe1 nfe1 cfe1, .slice afx1 nfx1 cfx1, .slice afy1 nfy1 cfy1] 45, .blk b1 [.int .i64 wd0, .int .i64 hi0, .bool wr0, .slice asp0 nsp0 csp0, .slice als0 nls0 cls0] 36, .rd kF asp0 nsp0 Xsp0, .rd kF als0 nls0 Xls0, .rd kF afe1 nfe1 Xfe1, .rd kF afx1 nfx1 Xfx1, .rd kF afy1 nfy1 Xfy1] := B.upd [0] rfl hU78
        clear hU78
        refine s_nil ?_
        refine W_seq ?_
        refine W_region (by kernel_rfl) ?_
        refine s_y (v := .agg #[.int .i64 wd0, .int .i64 hi0, .bool wr0, .slice a56 nsp0 c57, .slice a58 nls0 c59]) rfl (y_loadn (b := b61) (o := 0) (vs := [.int .i64 wd0, .int .i64 hi0, .bool wr0, .slice a56 nsp0 c57, .slice a58 nls0 c59]) T6.agg_26_5 rfl rfl ((B.b 4 rfl).cells (o := 0) rfl)) ?_
        refine s_y (v := .agg #[.slice a67 nfe1 c68, .slice a69 nfx1 c70, .slice a71 nfy1 c72]) rfl (y_loadn (b := b74) (o := 0) (vs := [.slice a67 nfe1 c68, .slice a69 nfx1 c70, .slice a71 nfy1 c72]) T6.agg_49_3 rfl rfl ((B.b 0 rfl).cells (o := 0) rfl)) ?_
        refine s_k rfl (k_call T6.fn_39 (c_i_PeakOf ((B.o 5 rfl).rd) ((B.o 6 rfl).rd) ((B.o 1 rfl).rd) ((B.o 2 rfl).rd) ((B.o 3 rfl).rd) (by omega) (by omega) (by omega) (by omega) (by omega)) rfl ?_)
        rintro v81 w79 hx80
        obtain ⟨r82, rfl, hr83, e84⟩ := (hx80.resolve_right (fun hz => by rw [c48] at hz; cases hz.1)).2
        clear hx80
        replace B := B.ext0 e84
        clear e84
        refine s_y (v := .tuple #[.int .i64 (peakI Xfe1 Xfe1.length), .float .f32 r82, .bool true]) rfl (y_move rfl) ?_
        refine s_y (v := .int .i64 (peakI Xfe1 Xfe1.length)) rfl (y_extract rfl rfl) ?_
        refine s_y (v := .float .f32 r82) rfl (y_extract rfl rfl) ?_
        refine s_y (v := .bool true) rfl (y_extract rfl rfl) ?_
        refine s_y (v := .int .i64 (peakI Xfe1 Xfe1.length)) rfl (y_assign rfl) ?_
        refine s_y (v := .float .f32 r82) rfl (y_assign rfl) ?_
        refine s_y (v := .bool true) rfl (y_assign rfl) ?_
        refine s_nil ?_
        refine W_seq ?_
        refine W_seq ?_
        refine W_region (by kernel_rfl) ?_
        refine s_y (v := .int .i64 (peakI Xfe1 Xfe1.length)) rfl (y_move rfl) ?_
        refine s_y (v := .int .i64 (peakI Xfe1 Xfe1.length)) rfl (y_move rfl) ?_
        refine s_y (v := .bool false) rfl (y_neq rfl rfl (decide_eq_false (fun hq => hq rfl))) ?_
        refine s_y (v := .bool false) rfl (y_move rfl) ?_
        refine s_y (v := .float .f32 r82) rfl (y_move rfl) ?_
        refine s_n rfl (n_wide T6.und_56 T6.flt_60_f64 rfl) ?_
        rintro _ w87 e88 ⟨r85, rfl, hr86⟩
        replace B := B.ext0 e88
        clear e88
        have hc89 := wideC hr86 hr83
        refine s_y (v := .float .f32 r50) rfl (y_move rfl) ?_
        refine s_n rfl (n_wide T6.und_56 T6.flt_60_f64 rfl) ?_
        rintro _ w92 e93 ⟨r90, rfl, hr91⟩
        replace B := B.ext0 e93
        clear e93
        have hc94 := wideC hr91 hr51
        refine s_k rfl (k_call T6.fn_40 (c_l_sameFloat hc89 hc94) rfl ?_)
        rintro _ w95 ⟨rfl, e96⟩
        replace B := B.ext0 e96
        clear e96
        refine s_y (v := .bool false) rfl (y_not rfl rfl) ?_
        refine s_y (v := .bool false) rfl (y_pick_f rfl rfl) ?_
        refine s_y (v := .bool false) rfl (y_move rfl) ?_
        refine s_y (v := .bool true) rfl (y_move rfl) ?_
        refine s_y (v := .bool true) rfl (y_move rfl) ?_
        refine s_y (v := .bool false) rfl (y_bneq T6.bool_4 rfl rfl rfl) ?_
        refine s_y (v := .bool false) rfl (y_pick_f rfl rfl) ?_
        refine s_nil ?_
        refine W_if_f (by decide) rfl ?_
        refine W_skip ?_
        refine W_seq ?_
        refine W_seq ?_
        have B0_101 := B
        refine W_draw (no) T6.mx (by kernel_rfl) (fun w99 e100 => ?_)
        have R102 := Ext.refl (no) w95
        replace R102 := R102.trans (Ext0.any e100)
        replace B := B.ext0 e100
        clear e100
        refine m_y (v := .agg #[.int .i64 wd0, .int .i64 hi0, .bool wr0, .slice a56 nsp0 c57, .slice a58 nls0 c59]) 0 rfl (by kernel_rfl) rfl rfl (fun w' e' => y_loadn (b := b61) (o := 0) (vs := [.int .i64 wd0, .int .i64 hi0, .bool wr0, .slice a56 nsp0 c57, .slice a58 nls0 c59]) T6.agg_26_5 rfl rfl (((B0_101.b 4 rfl).ext0 e').cells (o := 0) rfl)) ?_
        refine m_y (v := .agg #[.int .i64 wd0, .int .i64 hi0, .bool wr0, .slice asp0 nsp0 csp0, .slice als0 nls0 cls0]) 1 rfl (by kernel_rfl) rfl rfl (fun w' e' => y_loadn (b := b1) (o := 0) (vs := [.int .i64 wd0, .int .i64 hi0, .bool wr0, .slice asp0 nsp0 csp0, .slice als0 nls0 cls0]) T6.agg_36_5 rfl rfl (((B0_101.b 13 rfl).ext0 e').cells (o := 0) rfl)) ?_
        refine m_k 2 [3, 4] rfl (by kernel_rfl) rfl rfl (fun w103 e104 => ?_)
        replace R102 := R102.trans (Ext0.any e104)
        replace B := B.ext0 e104
        clear e104
        refine k_call T6.fn_23 (c_l_toSheet (B.r 14 rfl) (B.r 15 rfl) (by omega) (by omega)) rfl ?_
        rintro _ w105 ⟨a106, c107, a108, c109, rfl, hN110⟩
        replace R102 := R102.trans (Ext0.any hN110.ext)
        replace B := B.new2 hN110
        clear hN110
        refine ⟨fun _ => R102, ?_⟩
        refine m_k 3 [4] rfl (by kernel_rfl) rfl rfl (fun w111 e112 => ?_)
        replace R102 := R102.trans (Ext0.any e112)
        replace B := B.ext0 e112
        clear e112
        refine k_call T6.fn_25 (c_l_eqSheet ((B.o 7 rfl).rd) ((B.o 8 rfl).rd) ((B.o 0 rfl).rd) ((B.o 1 rfl).rd) (by omega) (by omega)) rfl ?_
        rintro _ w113 ⟨rfl, e114⟩
        replace R102 := R102.trans (Ext0.any e114)
        replace B := B.ext0 e114
        clear e114
        refine ⟨fun _ => R102, ?_⟩
        refine m_y (v := .bool false) 4 rfl (by kernel_rfl) rfl rfl (fun w' e' => y_not rfl rfl) ?_
        refine m_done (by kernel_rfl) (fun w115 e116 => ?_)
        replace B := B.ext0 e116
        clear e116
        clear B0_101 R102
        refine W_if_f (by decide) rfl ?_
        refine W_skip ?_
        refine W_seq ?_
        refine W_seq ?_
        have B0_121 := B
        refine W_draw (no) T6.mx (by kernel_rfl) (fun w119 e120 => ?_)
        have R122 := Ext.refl (no) w115
        replace R122 := R122.trans (Ext0.any e120)
        replace B := B.ext0 e120
        clear e120
        refine m_y (v := .agg #[.slice a67 nfe1 c68, .slice a69 nfx1 c70, .slice a71 nfy1 c72]) 0 rfl (by kernel_rfl) rfl rfl (fun w' e' => y_loadn (b := b74) (o := 0) (vs := [.slice a67 nfe1 c68, .slice a69 nfx1 c70, .slice a71 nfy1 c72]) T6.agg_49_3 rfl rfl (((B0_121.b 2 rfl).ext0 e').cells (o := 0) rfl)) ?_
        refine m_y (v := .agg #[.slice afe1 nfe1 cfe1, .slice afx1 nfx1 cfx1, .slice afy1 nfy1 cfy1]) 1 rfl (by kernel_rfl) rfl rfl (fun w' e' => y_loadn (b := b4) (o := 0) (vs := [.slice afe1 nfe1 cfe1, .slice afx1 nfx1 cfx1, .slice afy1 nfy1 cfy1]) T6.agg_45_3 rfl rfl (((B0_121.b 14 rfl).ext0 e').cells (o := 0) rfl)) ?_
        refine m_k 2 [3, 4] rfl (by kernel_rfl) rfl rfl (fun w123 e124 => ?_)
        replace R122 := R122.trans (Ext0.any e124)
        replace B := B.ext0 e124
        clear e124
        refine k_call T6.fn_31 (c_l_toField (B.r 18 rfl) (B.r 19 rfl) (B.r 20 rfl) (by omega) (by omega) (by omega)) rfl ?_
        rintro _ w125 ⟨a126, c127, a128, c129, a130, c131, rfl, hN132⟩
        replace R122 := R122.trans (Ext0.any hN132.ext)
        replace B := B.new3 hN132
        clear hN132
        refine ⟨fun _ => R122, ?_⟩
        refine m_k 3 [4] rfl (by kernel_rfl) rfl rfl (fun w133 e134 => ?_)
        replace R122 := R122.trans (Ext0.any e134)
        replace B := B.ext0 e134
        clear e134
        refine k_call T6.fn_34 (c_l_eqField ((B.o 6 rfl).rd) ((B.o 7 rfl).rd) ((B.o 8 rfl).rd) ((B.o 0 rfl).rd) ((B.o 1 rfl).rd) ((B.o 2 rfl).rd) (by omega) (by omega) (by omega)) rfl ?_
        rintro _ w135 ⟨rfl, e136⟩
        replace R122 := R122.trans (Ext0.any e136)
        replace B := B.ext0 e136
        clear e136
        refine ⟨fun _ => R122, ?_⟩
        refine m_y (v := .bool false) 4 rfl (by kernel_rfl) rfl rfl (fun w' e' => y_not rfl rfl) ?_
        refine m_done (by kernel_rfl) (fun w137 e138 => ?_)
        replace B := B.ext0 e138
        clear e138
        clear B0_121 R122
        refine W_if_f (by decide) rfl ?_
        refine W_skip ?_
        refine W_seq ?_
        refine W_region (by kernel_rfl) ?_
        refine s_y (v := .bool true) rfl (y_assign rfl) ?_
        refine s_nil ?_
        refine W_ret ?_
        refine ret1 (v := .bool true) rfl rfl rfl ⟨_, rfl, ?_⟩
        exact ⟨rfl, B.ext⟩
      · obtain ⟨_, rfl, e139⟩ := hx46.resolve_left (fun hz => c48 hz.1)
        clear hx46
        replace R24 := R24.trans (Ext0.any e139)
        replace B := B.ext0 e139
        clear e139
        refine ⟨fun _ => R24, ?_⟩
        refine m_y (v := .tuple #[.int .i64 0, .float .f32 0, .bool false]) 5 rfl (by kernel_rfl) rfl rfl (fun w' e' => y_move rfl) ?_
        refine m_y (v := .int .i64 0) 6 rfl (by kernel_rfl) rfl rfl (fun w' e' => y_extract rfl rfl) ?_
        refine m_y (v := .float .f32 0) 7 rfl (by kernel_rfl) rfl rfl (fun w' e' => y_extract rfl rfl) ?_
        refine m_y (v := .bool false) 8 rfl (by kernel_rfl) rfl rfl (fun w' e' => y_extract rfl rfl) ?_
        refine m_y (v := .int .i64 0) 9 rfl (by kernel_rfl) rfl rfl (fun w' e' => y_assign rfl) ?_
        refine m_y (v := .float .f32 0) 10 rfl (by kernel_rfl) rfl rfl (fun w' e' => y_assign rfl) ?_
        refine m_y (v := .bool false) 11 rfl (by kernel_rfl) rfl rfl (fun w' e' => y_assign rfl) ?_
        refine m_done (by kernel_rfl) (fun w140 e141 => ?_)
        replace B := B.ext0 e141
        clear e141
        clear B0_23 R24
        refine W_seq ?_
        refine W_region (by kernel_rfl) ?_
        refine s_y (v := .agg #[.int .i64 wd0, .int .i64 hi0, .bool wr0, .slice asp0 nsp0 csp0, .slice als0 nls0 cls0]) rfl (y_loadn (b := b1) (o := 0) (vs := [.int .i64 wd0, .int .i64 hi0, .bool wr0, .slice asp0 nsp0 csp0, .slice als0 nls0 cls0]) T6.agg_36_5 rfl rfl ((B.b 6 rfl).cells (o := 0) rfl)) ?_
        refine s_k rfl (k_call T6.fn_23 (c_l_toSheet (B.r 7 rfl) (B.r 8 rfl) (by omega) (by omega)) rfl ?_)
        rintro _ w142 ⟨a143, c144, a145, c146, rfl, hN147⟩
        replace B := B.new2 hN147
        clear hN147
        refine s_k rfl (k_allocN (z := (.agg #[.int .i64 0, .int .i64 0, .bool false, .slice none 0 0, .slice none 0 0])) (cs := [.int .i64 0, .int .i64 0, .bool false, .slice none 0 0, .slice none 0 0]) T6.zero_26 rfl (fun b148 w149 hN150 => ?_))
        replace B := B.new1 hN150
        clear hN150
        refine s_k0 rfl (k_stB (v := .agg #[.int .i64 wd0, .int .i64 hi0, .bool wr0, .slice a143 nsp0 c144, .slice a145 nls0 c146]) (n := 5) (cs' := [.int .i64 wd0, .int .i64 hi0, .bool wr0, .slice a143 nsp0 c144, .slice a145 nls0 c146]) T6.sz_26_5 rfl rfl rfl (B.b 0 rfl) (by simp [Value.cells, Value.oneCell']) (Nat.le_of_ble_eq_true rfl) rfl (fun w151 hU152 => ?_))
        replace B : Bu w no w151 [.blk b148 [.int .i64 wd0, .int .i64 hi0, .bool wr0, .slice a143 nsp0 c144, .slice a145 nls0 c146] 26, .ow kF a143 nsp0 c144 56 Xsp0, .ow kF a145 nls0 c146 56 Xls0, .ow kF a36 nfe1 c37 56 Xfe1, .ow kF a38 nfx1 c39 56 Xfx1, .ow kF a40 nfy1 c41 56 Xfy1, .ow kF a28 nsp0 c29 56 Xsp0, .ow kF a30 nls0 c31 56 Xls0, .blk b4 [.slice afe1 nfe1 cfe1, .slice afx1 nfx1 cfx1, .slice afy1 nfy1 cfy1] 45, .blk b1 [.int .i64 wd0, .int .i64 hi0, .bool wr0, .slice asp0 nsp0 csp0, .slice als0 nls0 cls0] 36, .rd kF asp0 nsp0 Xsp0, .rd kF als0 nls0 Xls0, .rd kF afe1 nfe1 Xfe1, .rd kF afx1 nfx1 Xfx1, .rd kF afy1 nfy1 Xfy1] := B.upd [0] rfl hU152
        clear hU152
        refine s_nil ?_
        refine W_seq ?_
        refine W_region (by kernel_rfl) ?_
        refine s_y (v := .agg #[.slice afe1 nfe1 cfe1, .slice afx1 nfx1 cfx1, .slice afy1 nfy1 cfy1]) rfl (y_loadn (b := b4) (o := 0) (vs := [.slice afe1 nfe1 cfe1, .slice afx1 nfx1 cfx1, .slice afy1 nfy1 cfy1]) T6.agg_45_3 rfl rfl ((B.b 8 rfl).cells (o := 0) rfl)) ?_
        refine s_k rfl (k_call T6.fn_31 (c_l_toField (B.r 12 rfl) (B.r 13 rfl) (B.r 14 rfl) (by omega) (by omega) (by omega)) rfl ?_)
        rintro _ w153 ⟨a154, c155, a156, c157, a158, c159, rfl, hN160⟩
        replace B := B.new3 hN160
        clear hN160
        refine s_k rfl (k_allocN (z := (.agg #[.slice none 0 0, .slice none 0 0, .slice none 0 0])) (cs := [.slice none 0 0, .slice none 0 0, .slice none 0 0]) T6.zero_49 rfl (fun b161 w162 hN163 => ?_))
        replace B := B.new1 hN163
        clear hN163
        refine s_k0 rfl (k_stB (v := .agg #[.slice a154 nfe1 c155, .slice a156 nfx1 c157, .slice a158 nfy1 c159]) (n := 3) (cs' := [.slice a154 nfe1 c155, .slice a156 nfx1 c157, .slice a158 nfy1 c159]) T6.sz_49_3 rfl rfl rfl (B.b 0 rfl) (by simp [Value.cells, Value.oneCell']) (Nat.le_of_ble_eq_true rfl) rfl (fun w164 hU165 => ?_))
        replace B : Bu w no w164 [.blk b161 [.slice a154 nfe1 c155, .slice a156 nfx1 c157, .slice a158 nfy1 c159] 49, .ow kF a154 nfe1 c155 56 Xfe1, .ow kF a156 nfx1 c157 56 Xfx1, .ow kF a158 nfy1 c159 56 Xfy1, .blk b148 [.int .i64 wd0, .int .i64 hi0, .bool wr0, .slice a143 nsp0 c144, .slice a145 nls0 c146] 26, .ow kF a143 nsp0 c144 56 Xsp0, .ow kF a145 nls0 c146 56 Xls0, .ow kF a36 nfe1 c37 56 Xfe1, .ow kF a38 nfx1 c39 56 Xfx1, .ow kF a40 nfy1 c41 56 Xfy1, .ow kF a28 nsp0 c29 56 Xsp0, .ow kF a30 nls0 c31 56 Xls0, .blk b4 [.slice afe1 nfe1 cfe1, .slice afx1 nfx1 cfx1, .slice afy1 nfy1 cfy1] 45, .blk b1 [.int .i64 wd0, .int .i64 hi0, .bool wr0, .slice asp0 nsp0 csp0, .slice als0 nls0 cls0] 36, .rd kF asp0 nsp0 Xsp0, .rd kF als0 nls0 Xls0, .rd kF afe1 nfe1 Xfe1, .rd kF afx1 nfx1 Xfx1, .rd kF afy1 nfy1 Xfy1] := B.upd [0] rfl hU165
        clear hU165
        refine s_nil ?_
        refine W_seq ?_
        refine W_region (by kernel_rfl) ?_
        refine s_y (v := .agg #[.int .i64 wd0, .int .i64 hi0, .bool wr0, .slice a143 nsp0 c144, .slice a145 nls0 c146]) rfl (y_loadn (b := b148) (o := 0) (vs := [.int .i64 wd0, .int .i64 hi0, .bool wr0, .slice a143 nsp0 c144, .slice a145 nls0 c146]) T6.agg_26_5 rfl rfl ((B.b 4 rfl).cells (o := 0) rfl)) ?_
        refine s_y (v := .agg #[.slice a154 nfe1 c155, .slice a156 nfx1 c157, .slice a158 nfy1 c159]) rfl (y_loadn (b := b161) (o := 0) (vs := [.slice a154 nfe1 c155, .slice a156 nfx1 c157, .slice a158 nfy1 c159]) T6.agg_49_3 rfl rfl ((B.b 0 rfl).cells (o := 0) rfl)) ?_
        refine s_k rfl (k_call T6.fn_39 (c_i_PeakOf ((B.o 5 rfl).rd) ((B.o 6 rfl).rd) ((B.o 1 rfl).rd) ((B.o 2 rfl).rd) ((B.o 3 rfl).rd) (by omega) (by omega) (by omega) (by omega) (by omega)) rfl ?_)
        rintro v168 w166 hx167
        obtain ⟨_, rfl, e169⟩ := hx167.resolve_left (fun hz => c48 hz.1)
        clear hx167
        replace B := B.ext0 e169
        clear e169
        refine s_y (v := .tuple #[.int .i64 0, .float .f32 0, .bool false]) rfl (y_move rfl) ?_
        refine s_y (v := .int .i64 0) rfl (y_extract rfl rfl) ?_
        refine s_y (v := .float .f32 0) rfl (y_extract rfl rfl) ?_
        refine s_y (v := .bool false) rfl (y_extract rfl rfl) ?_
        refine s_y (v := .int .i64 0) rfl (y_assign rfl) ?_
        refine s_y (v := .float .f32 0) rfl (y_assign rfl) ?_
        refine s_y (v := .bool false) rfl (y_assign rfl) ?_
        refine s_nil ?_
        refine W_seq ?_
        refine W_seq ?_
        refine W_region (by kernel_rfl) ?_
        refine s_y (v := .int .i64 0) rfl (y_move rfl) ?_
        refine s_y (v := .int .i64 0) rfl (y_move rfl) ?_
        have hk170 : ¬ ((0 : Int) ≠ 0) := (by decide)
        refine s_y (v := .bool false) rfl (y_neq rfl rfl (decide_eq_false hk170)) ?_
        refine s_y (v := .bool false) rfl (y_move rfl) ?_
        refine s_y (v := .float .f32 0) rfl (y_move rfl) ?_
        refine s_n rfl (n_wide T6.und_56 T6.flt_60_f64 rfl) ?_
        rintro _ w173 e174 ⟨r171, rfl, hr172⟩
        replace B := B.ext0 e174
        clear e174
        have hc175 := wideC hr172 (show can .f32 0 = 0 by kernel_rfl)
        refine s_y (v := .float .f32 0) rfl (y_move rfl) ?_
        refine s_n rfl (n_wide T6.und_56 T6.flt_60_f64 rfl) ?_
        rintro _ w178 e179 ⟨r176, rfl, hr177⟩
        replace B := B.ext0 e179
        clear e179
        have hc180 := wideC hr177 (show can .f32 0 = 0 by kernel_rfl)
        refine s_k rfl (k_call T6.fn_40 (c_l_sameFloat hc175 hc180) rfl ?_)
        rintro _ w181 ⟨rfl, e182⟩
        replace B := B.ext0 e182
        clear e182
        refine s_y (v := .bool false) rfl (y_not rfl rfl) ?_
        refine s_y (v := .bool false) rfl (y_pick_f rfl rfl) ?_
        refine s_y (v := .bool false) rfl (y_move rfl) ?_
        refine s_y (v := .bool false) rfl (y_move rfl) ?_
        refine s_y (v := .bool false) rfl (y_move rfl) ?_
        refine s_y (v := .bool false) rfl (y_bneq T6.bool_4 rfl rfl rfl) ?_
        refine s_y (v := .bool false) rfl (y_pick_f rfl rfl) ?_
        refine s_nil ?_
        refine W_if_f (by decide) rfl ?_
        refine W_skip ?_
        refine W_seq ?_
        refine W_seq ?_
        have B0_187 := B
        refine W_draw (no) T6.mx (by kernel_rfl) (fun w185 e186 => ?_)
        have R188 := Ext.refl (no) w181
        replace R188 := R188.trans (Ext0.any e186)
        replace B := B.ext0 e186
        clear e186
        refine m_y (v := .agg #[.int .i64 wd0, .int .i64 hi0, .bool wr0, .slice a143 nsp0 c144, .slice a145 nls0 c146]) 0 rfl (by kernel_rfl) rfl rfl (fun w' e' => y_loadn (b := b148) (o := 0) (vs := [.int .i64 wd0, .int .i64 hi0, .bool wr0, .slice a143 nsp0 c144, .slice a145 nls0 c146]) T6.agg_26_5 rfl rfl (((B0_187.b 4 rfl).ext0 e').cells (o := 0) rfl)) ?_
        refine m_y (v := .agg #[.int .i64 wd0, .int .i64 hi0, .bool wr0, .slice asp0 nsp0 csp0, .slice als0 nls0 cls0]) 1 rfl (by kernel_rfl) rfl rfl (fun w' e' => y_loadn (b := b1) (o := 0) (vs := [.int .i64 wd0, .int .i64 hi0, .bool wr0, .slice asp0 nsp0 csp0, .slice als0 nls0 cls0]) T6.agg_36_5 rfl rfl (((B0_187.b 13 rfl).ext0 e').cells (o := 0) rfl)) ?_
        refine m_k 2 [3, 4] rfl (by kernel_rfl) rfl rfl (fun w189 e190 => ?_)
        replace R188 := R188.trans (Ext0.any e190)
        replace B := B.ext0 e190
        clear e190
        refine k_call T6.fn_23 (c_l_toSheet (B.r 14 rfl) (B.r 15 rfl) (by omega) (by omega)) rfl ?_
        rintro _ w191 ⟨a192, c193, a194, c195, rfl, hN196⟩
        replace R188 := R188.trans (Ext0.any hN196.ext)
        replace B := B.new2 hN196
        clear hN196
        refine ⟨fun _ => R188, ?_⟩
        refine m_k 3 [4] rfl (by kernel_rfl) rfl rfl (fun w197 e198 => ?_)
        replace R188 := R188.trans (Ext0.any e198)
        replace B := B.ext0 e198
        clear e198
        refine k_call T6.fn_25 (c_l_eqSheet ((B.o 7 rfl).rd) ((B.o 8 rfl).rd) ((B.o 0 rfl).rd) ((B.o 1 rfl).rd) (by omega) (by omega)) rfl ?_
        rintro _ w199 ⟨rfl, e200⟩
        replace R188 := R188.trans (Ext0.any e200)
        replace B := B.ext0 e200
        clear e200
        refine ⟨fun _ => R188, ?_⟩
        refine m_y (v := .bool false) 4 rfl (by kernel_rfl) rfl rfl (fun w' e' => y_not rfl rfl) ?_
        refine m_done (by kernel_rfl) (fun w201 e202 => ?_)
        replace B := B.ext0 e202
        clear e202
        clear B0_187 R188
        refine W_if_f (by decide) rfl ?_
        refine W_skip ?_
        refine W_seq ?_
        refine W_seq ?_
        have B0_207 := B
        refine W_draw (no) T6.mx (by kernel_rfl) (fun w205 e206 => ?_)
        have R208 := Ext.refl (no) w201
        replace R208 := R208.trans (Ext0.any e206)
        replace B := B.ext0 e206
        clear e206
        refine m_y (v := .agg #[.slice a154 nfe1 c155, .slice a156 nfx1 c157, .slice a158 nfy1 c159]) 0 rfl (by kernel_rfl) rfl rfl (fun w' e' => y_loadn (b := b161) (o := 0) (vs := [.slice a154 nfe1 c155, .slice a156 nfx1 c157, .slice a158 nfy1 c159]) T6.agg_49_3 rfl rfl (((B0_207.b 2 rfl).ext0 e').cells (o := 0) rfl)) ?_
        refine m_y (v := .agg #[.slice afe1 nfe1 cfe1, .slice afx1 nfx1 cfx1, .slice afy1 nfy1 cfy1]) 1 rfl (by kernel_rfl) rfl rfl (fun w' e' => y_loadn (b := b4) (o := 0) (vs := [.slice afe1 nfe1 cfe1, .slice afx1 nfx1 cfx1, .slice afy1 nfy1 cfy1]) T6.agg_45_3 rfl rfl (((B0_207.b 14 rfl).ext0 e').cells (o := 0) rfl)) ?_
        refine m_k 2 [3, 4] rfl (by kernel_rfl) rfl rfl (fun w209 e210 => ?_)
        replace R208 := R208.trans (Ext0.any e210)
        replace B := B.ext0 e210
        clear e210
        refine k_call T6.fn_31 (c_l_toField (B.r 18 rfl) (B.r 19 rfl) (B.r 20 rfl) (by omega) (by omega) (by omega)) rfl ?_
        rintro _ w211 ⟨a212, c213, a214, c215, a216, c217, rfl, hN218⟩
        replace R208 := R208.trans (Ext0.any hN218.ext)
        replace B := B.new3 hN218
        clear hN218
        refine ⟨fun _ => R208, ?_⟩
        refine m_k 3 [4] rfl (by kernel_rfl) rfl rfl (fun w219 e220 => ?_)
        replace R208 := R208.trans (Ext0.any e220)
        replace B := B.ext0 e220
        clear e220
        refine k_call T6.fn_34 (c_l_eqField ((B.o 6 rfl).rd) ((B.o 7 rfl).rd) ((B.o 8 rfl).rd) ((B.o 0 rfl).rd) ((B.o 1 rfl).rd) ((B.o 2 rfl).rd) (by omega) (by omega) (by omega)) rfl ?_
        rintro _ w221 ⟨rfl, e222⟩
        replace R208 := R208.trans (Ext0.any e222)
        replace B := B.ext0 e222
        clear e222
        refine ⟨fun _ => R208, ?_⟩
        refine m_y (v := .bool false) 4 rfl (by kernel_rfl) rfl rfl (fun w' e' => y_not rfl rfl) ?_
        refine m_done (by kernel_rfl) (fun w223 e224 => ?_)
        replace B := B.ext0 e224
        clear e224
        clear B0_207 R208
        refine W_if_f (by decide) rfl ?_
        refine W_skip ?_
        refine W_seq ?_
        refine W_region (by kernel_rfl) ?_
        refine s_y (v := .bool true) rfl (y_assign rfl) ?_
        refine s_nil ?_
        refine W_ret ?_
        refine ret1 (v := .bool true) rfl rfl rfl ⟨_, rfl, ?_⟩
        exact ⟨rfl, B.ext⟩
    · obtain rfl : v15 = .int .i64 (-1) := hv16.trans (congrArg _ (if_neg c17))
      refine s_y (v := .int .i64 (-1)) rfl (y_assign rfl) ?_
      refine s_nil ?_
      refine W_seq ?_
      refine W_seq ?_
      refine W_region (by kernel_rfl) ?_
      refine s_y (v := .int .i64 (-1)) rfl (y_move rfl) ?_
      have hk225 : (-1 : Int) < 0 := (by decide)
      refine s_y (v := .bool true) rfl (y_lss rfl rfl (decide_eq_true hk225)) ?_
      refine s_nil ?_
      refine W_if_t (by decide) rfl ?_
      refine W_seq ?_
      refine W_region (by kernel_rfl) ?_
      refine s_y (v := .bool true) rfl (y_assign rfl) ?_
      refine s_nil ?_
      refine W_ret ?_
      refine ret1 (v := .bool true) rfl rfl rfl ⟨_, rfl, ?_⟩
      exact ⟨rfl, B.ext⟩
  · obtain rfl : v9 = .int .i64 (-1) := hv10.trans (congrArg _ (if_neg c11))
    refine s_y (v := .int .i64 (-1)) rfl (y_assign rfl) ?_
    refine s_nil ?_
    refine W_seq ?_
    refine W_seq ?_
    refine W_region (by kernel_rfl) ?_
    refine s_y (v := .int .i64 (-1)) rfl (y_move rfl) ?_
    have hk226 : (-1 : Int) < 0 := (by decide)
    refine s_y (v := .bool true) rfl (y_lss rfl rfl (decide_eq_true hk226)) ?_
    refine s_nil ?_
    refine W_if_t (by decide) rfl ?_
    refine W_seq ?_
    refine W_region (by kernel_rfl) ?_
    refine s_y (v := .bool true) rfl (y_assign rfl) ?_
    refine s_nil ?_
    refine W_ret ?_
    refine ret1 (v := .bool true) rfl rfl rfl ⟨_, rfl, ?_⟩
    exact ⟨rfl, B.ext⟩
end Go.Proofs.Ytalkhbnlphefdaa
