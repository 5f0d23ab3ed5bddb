/- Walks: what the functions under FnArrivals do (part 2). Printed by a program of this claim's author. -/
import Derived.Test.YtgohmocjjmkepaaArrivalsW0
set_option linter.unusedSimpArgs false
set_option linter.unusedVariables false
open Go.Wv
namespace Go.Proofs.Ytgohmocjjmkepaa
open Go.Proofs
namespace T46
theorem mx : Try.prog.follows .mixedOrders = true := by kernel_rfl
theorem agg_26_5 : aggB Try.prog 26 5 = true := by kernel_rfl
theorem agg_63_2 : aggB Try.prog 63 2 = true := by kernel_rfl
theorem fld_63_0_0 : fldB Try.prog 63 0 0 = true := by kernel_rfl
theorem fld_63_1_1 : fldB Try.prog 63 1 1 = true := by kernel_rfl
theorem fn_65 : fnB Try.prog 65 = true := by kernel_rfl
theorem fn_67 : fnB Try.prog 67 = true := by kernel_rfl
theorem one_2 : oneB Try.prog 2 = true := by kernel_rfl
theorem sl_64_63_2 : slB Try.prog 64 63 2 = true := by kernel_rfl
theorem sz_63_2 : szB Try.prog 63 2 = true := by kernel_rfl
theorem zero_63 : zeroB Try.prog 63 (.agg #[.int .i64 0, .int .i64 0]) := by unfold zeroB; kernel_rfl
end T46
set_option maxRecDepth 100000 in
set_option maxHeartbeats 4000000 in
theorem c_i_AreProbes {wd : Int} {hi : Int} {wr : Bool} {asp : Option Addr} {nsp : Nat} {csp : Nat} {Xsp : List Nat} {als : Option Addr} {nls : Nat} {cls : Nat} {Xls : List Nat} {ap : Option Addr} {np : Nat} {cp : Nat} {Xp : List (Int × Int)} {w : World} (qsp : Rd w kF asp nsp Xsp) (qls : Rd w kF als nls Xls) (qp : Rd w kP ap np Xp) (hbsp : nsp ≤ 9223372036854775806) (hbls : nls ≤ 9223372036854775806) :
    Calls Try.prog 46 #[.agg #[.int .i64 wd, .int .i64 hi, .bool wr, .slice asp nsp csp, .slice als nls cls], .slice ap np cp] w (Rt fun v w' => v = .bool (areProbesB wd hi Xsp Xls Xp) ∧ Ext0 w w') := by
  have hlsp := qsp.len
  have hlls := qls.len
  have hlp := qp.len
  have B : Bu w no w [.rd kF asp nsp Xsp, .rd kF als nls Xls, .rd kP ap np Xp] := Bu.ro (All.cons qsp (All.cons qls (All.cons qp All.nil))) rfl
  refine calls_W (n := 29) Try.func46 rfl rfl (Nat.le_of_ble_eq_true rfl) ?_
  refine W_seq ?_
  refine W_region (by kernel_rfl) ?_
  refine s_k rfl (k_boxN (v := .agg #[.int .i64 wd, .int .i64 hi, .bool wr, .slice asp nsp csp, .slice als nls cls]) (cs := [.int .i64 wd, .int .i64 hi, .bool wr, .slice asp nsp csp, .slice als nls cls]) rfl rfl (fun b1 w2 hN3 => ?_))
  replace B := B.new1 hN3
  clear hN3
  refine s_y (v := .bool false) rfl (y_assign rfl) ?_
  refine s_nil ?_
  refine W_seq ?_
  refine W_seq ?_
  refine W_region (by kernel_rfl) ?_
  refine s_y (v := .agg #[.int .i64 wd, .int .i64 hi, .bool wr, .slice asp nsp csp, .slice als nls cls]) rfl (y_loadn (b := b1) (o := 0) (vs := [.int .i64 wd, .int .i64 hi, .bool wr, .slice asp nsp csp, .slice als nls cls]) T46.agg_26_5 rfl rfl ((B.b 0 rfl).cells (o := 0) rfl)) ?_
  refine s_k rfl (k_call T46.fn_65 (c_i_ValidSheet (B.r 1 rfl) (B.r 2 rfl) (by omega) (by omega)) rfl ?_)
  rintro v6 w4 ⟨hv7, e5⟩
  replace B := B.ext0 e5
  clear e5
  by_cases c8 : validS wd hi Xsp Xls = true
  · have hb9 := validS_b c8
    obtain rfl : v6 = .bool true := hv7.trans (congrArg Value.bool c8)
    refine s_y (v := .bool false) rfl (y_not rfl rfl) ?_
    refine s_y (v := .bool false) rfl (y_move rfl) ?_
    refine s_y (v := .slice ap np cp) rfl (y_move rfl) ?_
    refine s_y (v := .int .i64 ((np : Nat) : Int)) rfl (y_len T46.sl_64_63_2 rfl rfl) ?_
    by_cases c10 : 8 < ((np : Nat) : Int)
    · refine s_y (v := .bool true) rfl (y_gtr rfl rfl (decide_eq_true c10)) ?_
      refine s_y (v := .bool true) rfl (y_pick_f rfl rfl) ?_
      refine s_nil ?_
      refine W_if_t (by decide) rfl ?_
      refine W_seq ?_
      refine W_region (by kernel_rfl) ?_
      refine s_y (v := .bool false) rfl (y_assign rfl) ?_
      refine s_nil ?_
      refine W_ret ?_
      refine ret1 (v := .bool false) rfl rfl rfl ⟨_, rfl, ?_⟩
      exact ⟨congrArg Value.bool (by first | exact (probesB_n1 (by assumption)).symm | exact (probesB_n2 (by omega)).symm), B.ext⟩
    · refine s_y (v := .bool false) rfl (y_gtr rfl rfl (decide_eq_false c10)) ?_
      refine s_y (v := .bool false) rfl (y_pick_f rfl rfl) ?_
      refine s_nil ?_
      refine W_if_f (by decide) rfl ?_
      refine W_skip ?_
      refine W_seq ?_
      refine W_seq ?_
      refine W_region (by kernel_rfl) ?_
      refine s_y (v := .slice ap np cp) rfl (y_move rfl) ?_
      refine s_y (v := .int .i64 ((np : Nat) : Int)) rfl (y_len T46.sl_64_63_2 rfl rfl) ?_
      refine s_y (v := .int .i64 0) rfl (y_move rfl) ?_
      refine s_nil ?_
      refine W_block ?_
      refine W_loop (fun ρ' w' => ∃ (ρ1 : Env) (k : Int), ρ' = updL ρ1 [(2, .pointer (some ⟨b1, 0, none⟩)), (15, .slice ap np cp), (16, .int .i64 ((np : Nat) : Int)), (17, .int .i64 k)] ∧ Bu w no w' [.blk b1 [.int .i64 wd, .int .i64 hi, .bool wr, .slice asp nsp csp, .slice als nls cls] 26, .rd kF asp nsp Xsp, .rd kF als nls Xls, .rd kP ap np Xp] ∧ (0 ≤ k) ∧ (k ≤ (np : Int)) ∧ (∀ i, 0 ≤ i → i < k → cellB wd hi (gl Xp i).1 (gl Xp i).2 = true)) (fun ρ' _ => ((np : Int) - iv (ρ' 17)).toNat) ?_ ?_
      · exact ⟨_, 0, Fits.eq ⟨rfl, rfl, rfl, rfl, trivial⟩, B, (Int.le_refl _), (by omega), (by intro i h0 h1; omega)⟩
      · clear B; rintro _ w11 ⟨ρ12, k, rfl, B, h0k, h1k, hq⟩
        refine W_seq ?_
        refine W_region (by kernel_rfl) ?_
        by_cases c13 : k < ((np : Nat) : Int)
        · refine s_y (v := .bool true) rfl (y_lss rfl rfl (decide_eq_true c13)) ?_
          refine s_nil ?_
          refine W_seq ?_
          refine W_if_t (by decide) rfl ?_
          refine W_skip ?_
          refine W_seq ?_
          refine W_block ?_
          refine W_seq ?_
          refine W_region (by kernel_rfl) ?_
          refine s_y (v := .pointer (some (sat ap ((k).toNat * 2)))) rfl (y_idx T46.sl_64_63_2 rfl rfl ((B.r 3 rfl).addr (by omega)) (by omega) (by omega)) ?_
          have hR14 := Rd.atP (B.r 3 rfl) k (by omega) (by omega)
          refine s_y (v := .agg #[.int .i64 ((gl Xp k).1), .int .i64 ((gl Xp k).2)]) rfl (y_loadR (vs := [.int .i64 ((gl Xp k).1), .int .i64 ((gl Xp k).2)]) T46.agg_63_2 rfl rfl (by decide) hR14) ?_
          refine s_k rfl (k_allocN (z := (.agg #[.int .i64 0, .int .i64 0])) (cs := [.int .i64 0, .int .i64 0]) T46.zero_63 rfl (fun b15 w16 hN17 => ?_))
          replace B := B.new1 hN17
          clear hN17
          refine s_k0 rfl (k_stB (v := .agg #[.int .i64 ((gl Xp k).1), .int .i64 ((gl Xp k).2)]) (n := 2) (cs' := [.int .i64 ((gl Xp k).1), .int .i64 ((gl Xp k).2)]) T46.sz_63_2 rfl rfl rfl (B.b 0 rfl) (by simp [Value.cells, Value.oneCell']) (Nat.le_of_ble_eq_true rfl) rfl (fun w18 hU19 => ?_))
          replace B : Bu w no w18 [.blk b15 [.int .i64 ((gl Xp k).1), .int .i64 ((gl Xp k).2)] 63, .blk b1 [.int .i64 wd, .int .i64 hi, .bool wr, .slice asp nsp csp, .slice als nls cls] 26, .rd kF asp nsp Xsp, .rd kF als nls Xls, .rd kP ap np Xp] := B.upd [0] rfl hU19
          clear hU19
          refine s_nil ?_
          refine W_seq ?_
          refine W_region (by kernel_rfl) ?_
          refine s_y (v := .agg #[.int .i64 wd, .int .i64 hi, .bool wr, .slice asp nsp csp, .slice als nls cls]) rfl (y_loadn (b := b1) (o := 0) (vs := [.int .i64 wd, .int .i64 hi, .bool wr, .slice asp nsp csp, .slice als nls cls]) T46.agg_26_5 rfl rfl ((B.b 1 rfl).cells (o := 0) rfl)) ?_
          refine s_y (v := .pointer (some ⟨b15, 0, none⟩)) rfl (y_fld (o := 0) T46.fld_63_0_0 rfl) ?_
          refine s_y (v := .int .i64 ((gl Xp k).1)) rfl (y_load T46.one_2 rfl ((B.b 0 rfl).cell (j := 0) rfl)) ?_
          refine s_y (v := .pointer (some ⟨b15, 1, none⟩)) rfl (y_fld (o := 0) T46.fld_63_1_1 rfl) ?_
          refine s_y (v := .int .i64 ((gl Xp k).2)) rfl (y_load T46.one_2 rfl ((B.b 0 rfl).cell (j := 1) rfl)) ?_
          refine s_k rfl (k_call T46.fn_67 (c_i_isCell (by omega) (by omega) (by omega) (by omega)) rfl ?_)
          rintro v22 w20 ⟨hv23, e21⟩
          replace B := B.ext0 e21
          clear e21
          by_cases c24 : cellB wd hi ((gl Xp k).1) ((gl Xp k).2) = true
          · have hb25 := cellB_b c24
            obtain rfl : v22 = .bool true := hv23.trans (congrArg Value.bool c24)
            refine s_y (v := .bool false) rfl (y_not rfl rfl) ?_
            refine s_nil ?_
            refine W_if_f (by decide) rfl ?_
            refine W_skip ?_
            refine W_region (by kernel_rfl) ?_
            refine s_y (v := .int .i64 (k + 1)) rfl (y_add rfl rfl rfl (by omega)) ?_
            refine s_y (v := .int .i64 (k + 1)) rfl (y_move rfl) ?_
            refine s_nil ?_
            refine ⟨⟨_, k + 1, Fits.eq ⟨rfl, rfl, rfl, rfl, trivial⟩, (B.pick [1, 2, 3, 4] rfl rfl), (by omega), (by omega), (allI_more (p := fun i => cellB wd hi (gl Xp i).1 (gl Xp i).2) hq (by assumption))⟩, ?_⟩
            show ((np : Int) - (k + 1)).toNat < ((np : Int) - k).toNat
            omega
          · obtain rfl : v22 = .bool false := hv23.trans (congrArg Value.bool (Bool.eq_false_iff.2 c24))
            refine s_y (v := .bool true) rfl (y_not rfl rfl) ?_
            refine s_nil ?_
            refine W_if_t (by decide) rfl ?_
            refine W_seq ?_
            refine W_region (by kernel_rfl) ?_
            refine s_y (v := .bool false) rfl (y_assign rfl) ?_
            refine s_nil ?_
            refine W_ret ?_
            refine ret1 (v := .bool false) rfl rfl rfl ⟨_, rfl, ?_⟩
            exact ⟨congrArg Value.bool ((probesB_no (i := k) (by omega) (by omega) (by assumption)).symm), B.ext⟩
        · refine s_y (v := .bool false) rfl (y_lss rfl rfl (decide_eq_false c13)) ?_
          refine s_nil ?_
          refine W_seq ?_
          refine W_if_f (by decide) rfl ?_
          refine W_exit ?_
          refine W_seq ?_
          refine W_region (by kernel_rfl) ?_
          refine s_y (v := .bool true) rfl (y_assign rfl) ?_
          refine s_nil ?_
          refine W_ret ?_
          refine ret1 (v := .bool true) rfl rfl rfl ⟨_, rfl, ?_⟩
          exact ⟨congrArg Value.bool ((probesB_yes (by assumption) (by omega) (fun i h0 h1 => hq i h0 (by omega))).symm), B.ext⟩
  · obtain rfl : v6 = .bool false := hv7.trans (congrArg Value.bool (Bool.eq_false_iff.2 c8))
    refine s_y (v := .bool true) rfl (y_not rfl rfl) ?_
    refine s_y (v := .bool true) rfl (y_move rfl) ?_
    refine s_skip rfl ?_
    refine s_skip rfl ?_
    refine s_skip rfl ?_
    refine s_y (v := .bool true) rfl (y_pick_t rfl rfl) ?_
    refine s_nil ?_
    refine W_if_t (by decide) rfl ?_
    refine W_seq ?_
    refine W_region (by kernel_rfl) ?_
    refine s_y (v := .bool false) rfl (y_assign rfl) ?_
    refine s_nil ?_
    refine W_ret ?_
    refine ret1 (v := .bool false) rfl rfl rfl ⟨_, rfl, ?_⟩
    exact ⟨congrArg Value.bool (by first | exact (probesB_n1 (by assumption)).symm | exact (probesB_n2 (by omega)).symm), B.ext⟩
namespace T82
theorem mx : Try.prog.follows .mixedOrders = true := by kernel_rfl
theorem fn_74 : fnB Try.prog 74 = true := by kernel_rfl
theorem fn_84 : fnB Try.prog 84 = true := by kernel_rfl
end T82
set_option maxRecDepth 100000 in
set_option maxHeartbeats 4000000 in
theorem c_i_areTicks {a : Int} {n : Int} {w : World} (ha : a ≤ 9000000000000000000) :
    Calls Try.prog 82 #[.int .i64 a, .int .i64 n] w (Rt fun v w' => v = .bool (ticksB a n) ∧ Ext0 w w') := by
  have B : Bu w no w [] := Bu.ro All.nil rfl
  refine calls_W (n := 22) Try.func82 rfl rfl (Nat.le_of_ble_eq_true rfl) ?_
  refine W_seq ?_
  refine W_region (by kernel_rfl) ?_
  refine s_y (v := .bool false) rfl (y_assign rfl) ?_
  refine s_nil ?_
  refine W_seq ?_
  refine W_region (by kernel_rfl) ?_
  refine s_y (v := .int .i64 a) rfl (y_move rfl) ?_
  refine s_k rfl (k_call T82.fn_84 (c_i_isTick) rfl ?_)
  rintro v3 w1 ⟨hv4, e2⟩
  replace B := B.ext0 e2
  clear e2
  by_cases c5 : isTick a = true
  · have hb6 := isTick_b c5
    obtain rfl : v3 = .bool true := hv4.trans (congrArg Value.bool c5)
    refine s_y (v := .bool true) rfl (y_move rfl) ?_
    refine s_y (v := .int .i64 n) rfl (y_move rfl) ?_
    refine s_k rfl (k_call T82.fn_74 (c_i_within) rfl ?_)
    rintro v9 w7 ⟨hv10, e8⟩
    replace B := B.ext0 e8
    clear e8
    by_cases c11 : within n 0 64 = true
    · have hb12 := within_b c11
      obtain rfl : v9 = .bool true := hv10.trans (congrArg Value.bool c11)
      refine s_y (v := .bool true) rfl (y_pick_t rfl rfl) ?_
      refine s_y (v := .bool true) rfl (y_move rfl) ?_
      refine s_y (v := .int .i64 n) rfl (y_move rfl) ?_
      by_cases c13 : n = 0
      · refine s_y (v := .bool true) rfl (y_eql rfl rfl (decide_eq_true c13)) ?_
        refine s_y (v := .bool true) rfl (y_move rfl) ?_
        refine s_skip rfl ?_
        refine s_skip rfl ?_
        refine s_skip rfl ?_
        refine s_skip rfl ?_
        refine s_skip rfl ?_
        refine s_y (v := .bool true) rfl (y_pick_t rfl rfl) ?_
        refine s_y (v := .bool true) rfl (y_pick_t rfl rfl) ?_
        refine s_y (v := .bool true) rfl (y_assign rfl) ?_
        refine s_nil ?_
        refine W_ret ?_
        refine ret1 (v := .bool true) rfl rfl rfl ⟨_, rfl, ?_⟩
        exact ⟨congrArg Value.bool (by simp only [ticksB, c5, c11, (decide_eq_true c13), Bool.and_true, Bool.true_and, Bool.and_false, Bool.false_and, Bool.not_true, Bool.not_false, Bool.or_true, Bool.true_or, Bool.or_false, Bool.false_or]), B.ext⟩
      · refine s_y (v := .bool false) rfl (y_eql rfl rfl (decide_eq_false c13)) ?_
        refine s_y (v := .bool false) rfl (y_move rfl) ?_
        refine s_y (v := .int .i64 a) rfl (y_move rfl) ?_
        refine s_y (v := .int .i64 n) rfl (y_move rfl) ?_
        refine s_y (v := .int .i64 (a + n)) rfl (y_add rfl rfl rfl (by omega)) ?_
        refine s_y (v := .int .i64 ((a + n) - 1)) rfl (y_sub rfl rfl rfl (by omega)) ?_
        refine s_k rfl (k_call T82.fn_84 (c_i_isTick) rfl ?_)
        rintro v16 w14 ⟨hv17, e15⟩
        replace B := B.ext0 e15
        clear e15
        by_cases c18 : isTick ((a + n) - 1) = true
        · have hb19 := isTick_b c18
          obtain rfl : v16 = .bool true := hv17.trans (congrArg Value.bool c18)
          refine s_y (v := .bool true) rfl (y_pick_f rfl rfl) ?_
          refine s_y (v := .bool true) rfl (y_pick_t rfl rfl) ?_
          refine s_y (v := .bool true) rfl (y_assign rfl) ?_
          refine s_nil ?_
          refine W_ret ?_
          refine ret1 (v := .bool true) rfl rfl rfl ⟨_, rfl, ?_⟩
          exact ⟨congrArg Value.bool (by simp only [ticksB, c5, c11, (decide_eq_false c13), c18, Bool.and_true, Bool.true_and, Bool.and_false, Bool.false_and, Bool.not_true, Bool.not_false, Bool.or_true, Bool.true_or, Bool.or_false, Bool.false_or]), B.ext⟩
        · obtain rfl : v16 = .bool false := hv17.trans (congrArg Value.bool (Bool.eq_false_iff.2 c18))
          refine s_y (v := .bool false) rfl (y_pick_f rfl rfl) ?_
          refine s_y (v := .bool false) rfl (y_pick_t rfl rfl) ?_
          refine s_y (v := .bool false) rfl (y_assign rfl) ?_
          refine s_nil ?_
          refine W_ret ?_
          refine ret1 (v := .bool false) rfl rfl rfl ⟨_, rfl, ?_⟩
          exact ⟨congrArg Value.bool (by simp only [ticksB, c5, c11, (decide_eq_false c13), (Bool.eq_false_iff.2 c18), Bool.and_true, Bool.true_and, Bool.and_false, Bool.false_and, Bool.not_true, Bool.not_false, Bool.or_true, Bool.true_or, Bool.or_false, Bool.false_or]), B.ext⟩
    · obtain rfl : v9 = .bool false := hv10.trans (congrArg Value.bool (Bool.eq_false_iff.2 c11))
      refine s_y (v := .bool false) rfl (y_pick_t rfl rfl) ?_
      refine s_y (v := .bool false) rfl (y_move rfl) ?_
      refine s_skip rfl ?_
      refine s_skip rfl ?_
      refine s_skip rfl ?_
      refine s_skip rfl ?_
      refine s_skip rfl ?_
      refine s_skip rfl ?_
      refine s_skip rfl ?_
      refine s_skip rfl ?_
      refine s_skip rfl ?_
      refine s_y (v := .bool false) rfl (y_pick_f rfl rfl) ?_
      refine s_y (v := .bool false) rfl (y_assign rfl) ?_
      refine s_nil ?_
      refine W_ret ?_
      refine ret1 (v := .bool false) rfl rfl rfl ⟨_, rfl, ?_⟩
      exact ⟨congrArg Value.bool (by simp only [ticksB, c5, (Bool.eq_false_iff.2 c11), Bool.and_true, Bool.true_and, Bool.and_false, Bool.false_and, Bool.not_true, Bool.not_false, Bool.or_true, Bool.true_or, Bool.or_false, Bool.false_or]), B.ext⟩
  · obtain rfl : v3 = .bool false := hv4.trans (congrArg Value.bool (Bool.eq_false_iff.2 c5))
    refine s_y (v := .bool false) rfl (y_move rfl) ?_
    refine s_skip rfl ?_
    refine s_skip rfl ?_
    refine s_y (v := .bool false) rfl (y_pick_f rfl rfl) ?_
    refine s_y (v := .bool false) rfl (y_move rfl) ?_
    refine s_skip rfl ?_
    refine s_skip rfl ?_
    refine s_skip rfl ?_
    refine s_skip rfl ?_
    refine s_skip rfl ?_
    refine s_skip rfl ?_
    refine s_skip rfl ?_
    refine s_skip rfl ?_
    refine s_skip rfl ?_
    refine s_y (v := .bool false) rfl (y_pick_f rfl rfl) ?_
    refine s_y (v := .bool false) rfl (y_assign rfl) ?_
    refine s_nil ?_
    refine W_ret ?_
    refine ret1 (v := .bool false) rfl rfl rfl ⟨_, rfl, ?_⟩
    exact ⟨congrArg Value.bool (by simp only [ticksB, (Bool.eq_false_iff.2 c5), Bool.and_true, Bool.true_and, Bool.and_false, Bool.false_and, Bool.not_true, Bool.not_false, Bool.or_true, Bool.true_or, Bool.or_false, Bool.false_or]), B.ext⟩
namespace T117
theorem mx : Try.prog.follows .mixedOrders = true := by kernel_rfl
theorem slt_24 : SlT Try.prog 24 34 1 4 (.float .f32 0) := ⟨by kernel_rfl, by kernel_rfl, rfl, by decide⟩
end T117
set_option maxRecDepth 100000 in
set_option maxHeartbeats 4000000 in
theorem c_i_copyOf {a : Option Addr} {n : Nat} {c : Nat} {X : List Nat} {w : World} (q : Rd w kF a n X) (hb : n ≤ 1048576) :
    Calls Try.prog 117 #[.slice a n c] w (Rt fun v w' => ∃ (a1 : Option Addr) (c1 : Nat), v = .slice a1 n c1 ∧ New w w' [.ow kF a1 n c1 34 X]) := by
  have hl := q.len
  have B : Bu w no w [.rd kF a n X] := Bu.ro (All.cons q All.nil) rfl
  refine calls_W (n := 6) Try.func117 rfl rfl (Nat.le_of_ble_eq_true rfl) ?_
  refine W_seq ?_
  refine W_region (by kernel_rfl) ?_
  refine s_y (v := .slice none 0 0) rfl (y_assign rfl) ?_
  refine s_nil ?_
  refine W_seq ?_
  refine W_region (by kernel_rfl) ?_
  refine s_k rfl (k_bsliceO (k := kF) (n := 0) (cells := #[]) (X := []) T117.slt_24 (by decide) (by first | rfl | kernel_rfl) (rfl : Reps kF [] []) rfl (fun b1 w2 hN3 => ?_))
  replace B := B.new1 hN3
  clear hN3
  refine s_y (v := .slice a n c) rfl (y_move rfl) ?_
  refine s_k rfl (k_appO (k := kF) T117.slt_24 rfl rfl rfl (B.o 0 rfl) (B.r 1 rfl) (by omega) (by unfold maxLen; omega) (fun a4 c5 w6 hU7 => ?_))
  replace B : Bu w no w6 [.ow kF a4 (0 + n) c5 34 (([] : List Nat) ++ X), .rd kF a n X] := B.upd [0] rfl hU7
  clear hU7
  refine s_y (v := .slice a4 (0 + n) c5) rfl (y_assign rfl) ?_
  refine s_nil ?_
  refine W_ret ?_
  refine ret1 (v := .slice a4 (0 + n) c5) rfl rfl rfl ⟨_, rfl, ?_⟩
  replace B : Bu w no w6 [.ow kF a4 n c5 34 X, .rd kF a n X] := B.castX 0 rfl (by omega) rfl
  exact ⟨_, _, (by rw [(show 0 + n = n from (by omega))]), B.give [0] rfl rfl rfl⟩
namespace T68
theorem mx : Try.prog.follows .mixedOrders = true := by kernel_rfl
theorem agg_30_3 : aggB Try.prog 30 3 = true := by kernel_rfl
theorem fld_30_0_0 : fldB Try.prog 30 0 0 = true := by kernel_rfl
theorem fld_30_1_1 : fldB Try.prog 30 1 1 = true := by kernel_rfl
theorem fld_30_2_2 : fldB Try.prog 30 2 2 = true := by kernel_rfl
theorem fn_117 : fnB Try.prog 117 = true := by kernel_rfl
theorem one_24 : oneB Try.prog 24 = true := by kernel_rfl
theorem sz_30_3 : szB Try.prog 30 3 = true := by kernel_rfl
theorem zero_30 : zeroB Try.prog 30 (.agg #[.slice none 0 0, .slice none 0 0, .slice none 0 0]) := by unfold zeroB; kernel_rfl
end T68
set_option maxRecDepth 100000 in
set_option maxHeartbeats 4000000 in
theorem c_i_copyField {afe : Option Addr} {nfe : Nat} {cfe : Nat} {Xfe : List Nat} {afx : Option Addr} {nfx : Nat} {cfx : Nat} {Xfx : List Nat} {afy : Option Addr} {nfy : Nat} {cfy : Nat} {Xfy : List Nat} {w : World} (qfe : Rd w kF afe nfe Xfe) (qfx : Rd w kF afx nfx Xfx) (qfy : Rd w kF afy nfy Xfy) (b1 : nfe ≤ 1048576) (b2 : nfx ≤ 1048576) (b3 : nfy ≤ 1048576) :
    Calls Try.prog 68 #[.agg #[.slice afe nfe cfe, .slice afx nfx cfx, .slice afy nfy cfy]] w (Rt fun v w' => ∃ (a1 : Option Addr) (c1 : Nat) (a2 : Option Addr) (c2 : Nat) (a3 : Option Addr) (c3 : Nat), v = .agg #[.slice a1 nfe c1, .slice a2 nfx c2, .slice a3 nfy c3] ∧ New w w' [.ow kF a1 nfe c1 34 Xfe, .ow kF a2 nfx c2 34 Xfx, .ow kF a3 nfy c3 34 Xfy]) := by
  have hlfe := qfe.len
  have hlfx := qfx.len
  have hlfy := qfy.len
  have B : Bu w no w [.rd kF afe nfe Xfe, .rd kF afx nfx Xfx, .rd kF afy nfy Xfy] := Bu.ro (All.cons qfe (All.cons qfx (All.cons qfy All.nil))) rfl
  refine calls_W (n := 13) Try.func68 rfl rfl (Nat.le_of_ble_eq_true rfl) ?_
  refine W_seq ?_
  refine W_region (by kernel_rfl) ?_
  refine s_k rfl (k_boxN (v := .agg #[.slice afe nfe cfe, .slice afx nfx cfx, .slice afy nfy cfy]) (cs := [.slice afe nfe cfe, .slice afx nfx cfx, .slice afy nfy cfy]) rfl rfl (fun b1 w2 hN3 => ?_))
  replace B := B.new1 hN3
  clear hN3
  refine s_k rfl (k_allocN (z := (.agg #[.slice none 0 0, .slice none 0 0, .slice none 0 0])) (cs := [.slice none 0 0, .slice none 0 0, .slice none 0 0]) T68.zero_30 rfl (fun b4 w5 hN6 => ?_))
  replace B := B.new1 hN6
  clear hN6
  refine s_nil ?_
  refine W_seq ?_
  have B0_11 := B
  refine W_draw (no) T68.mx (by kernel_rfl) (fun w9 e10 => ?_)
  have R12 := Ext.refl (no) w5
  replace R12 := R12.trans (Ext0.any e10)
  replace B := B.ext0 e10
  clear e10
  refine m_y (v := .pointer (some ⟨b1, 0, none⟩)) 0 rfl (by kernel_rfl) rfl rfl (fun w' e' => y_fld (o := 0) T68.fld_30_0_0 rfl) ?_
  refine m_y (v := .slice afe nfe cfe) 1 rfl (by kernel_rfl) rfl rfl (fun w' e' => y_load T68.one_24 rfl (((B0_11.b 1 rfl).ext0 e').cell (j := 0) rfl)) ?_
  refine m_y (v := .pointer (some ⟨b1, 1, none⟩)) 3 rfl (by kernel_rfl) rfl rfl (fun w' e' => y_fld (o := 0) T68.fld_30_1_1 rfl) ?_
  refine m_y (v := .slice afx nfx cfx) 4 rfl (by kernel_rfl) rfl rfl (fun w' e' => y_load T68.one_24 rfl (((B0_11.b 1 rfl).ext0 e').cell (j := 1) rfl)) ?_
  refine m_y (v := .pointer (some ⟨b1, 2, none⟩)) 6 rfl (by kernel_rfl) rfl rfl (fun w' e' => y_fld (o := 0) T68.fld_30_2_2 rfl) ?_
  refine m_y (v := .slice afy nfy cfy) 7 rfl (by kernel_rfl) rfl rfl (fun w' e' => y_load T68.one_24 rfl (((B0_11.b 1 rfl).ext0 e').cell (j := 2) rfl)) ?_
  refine m_k 2 [5, 8, 9, 10] rfl (by kernel_rfl) rfl rfl (fun w13 e14 => ?_)
  replace R12 := R12.trans (Ext0.any e14)
  replace B := B.ext0 e14
  clear e14
  refine k_call T68.fn_117 (c_i_copyOf (B.r 2 rfl) (by omega)) rfl ?_
  rintro _ w15 ⟨a16, c17, rfl, hN18⟩
  replace R12 := R12.trans (Ext0.any hN18.ext)
  replace B := B.new1 hN18
  clear hN18
  refine ⟨fun _ => R12, ?_⟩
  refine m_k 5 [8, 9, 10] rfl (by kernel_rfl) rfl rfl (fun w19 e20 => ?_)
  replace R12 := R12.trans (Ext0.any e20)
  replace B := B.ext0 e20
  clear e20
  refine k_call T68.fn_117 (c_i_copyOf (B.r 4 rfl) (by omega)) rfl ?_
  rintro _ w21 ⟨a22, c23, rfl, hN24⟩
  replace R12 := R12.trans (Ext0.any hN24.ext)
  replace B := B.new1 hN24
  clear hN24
  refine ⟨fun _ => R12, ?_⟩
  refine m_k 8 [9, 10] rfl (by kernel_rfl) rfl rfl (fun w25 e26 => ?_)
  replace R12 := R12.trans (Ext0.any e26)
  replace B := B.ext0 e26
  clear e26
  refine k_call T68.fn_117 (c_i_copyOf (B.r 6 rfl) (by omega)) rfl ?_
  rintro _ w27 ⟨a28, c29, rfl, hN30⟩
  replace R12 := R12.trans (Ext0.any hN30.ext)
  replace B := B.new1 hN30
  clear hN30
  refine ⟨fun _ => R12, ?_⟩
  refine m_y (v := .agg #[.slice a16 nfe c17, .slice a22 nfx c23, .slice a28 nfy c29]) 9 rfl (by kernel_rfl) rfl rfl (fun w' e' => y_build (cells := #[.slice a16 nfe c17, .slice a22 nfx c23, .slice a28 nfy c29]) (by kernel_rfl)) ?_
  refine m_kt 10 [] rfl (by kernel_rfl) rfl rfl (by kernel_rfl) (fun w33 e34 => ?_)
  replace R12 := R12.trans (Ext0.any e34)
  replace B := B.ext0 e34
  clear e34
  refine k_stB (v := .agg #[.slice a16 nfe c17, .slice a22 nfx c23, .slice a28 nfy c29]) (n := 3) (cs' := [.slice a16 nfe c17, .slice a22 nfx c23, .slice a28 nfy c29]) T68.sz_30_3 rfl rfl rfl (B.b 3 rfl) (by simp [Value.cells, Value.oneCell']) (Nat.le_of_ble_eq_true rfl) rfl (fun w31 hU32 => ?_)
  clear R12
  replace B : Bu w no w31 [.blk b4 [.slice a16 nfe c17, .slice a22 nfx c23, .slice a28 nfy c29] 30, .ow kF a28 nfy c29 34 Xfy, .ow kF a22 nfx c23 34 Xfx, .ow kF a16 nfe c17 34 Xfe, .blk b1 [.slice afe nfe cfe, .slice afx nfx cfx, .slice afy nfy cfy] 30, .rd kF afe nfe Xfe, .rd kF afx nfx Xfx, .rd kF afy nfy Xfy] := B.upd [3] rfl hU32
  clear hU32
  refine m_done (by kernel_rfl) (fun w35 e36 => ?_)
  replace B := B.ext0 e36
  clear e36
  clear B0_11
  refine W_ret ?_
  refine ret1 (v := .agg #[.slice a16 nfe c17, .slice a22 nfx c23, .slice a28 nfy c29]) rfl rfl ⟨_, [.slice a16 nfe c17, .slice a22 nfx c23, .slice a28 nfy c29], _, rfl, (B.b 0 rfl), T68.agg_30_3, rfl⟩ ⟨_, rfl, ?_⟩
  exact ⟨_, _, _, _, _, _, rfl, B.give [3, 2, 1] rfl rfl rfl⟩
namespace T130
theorem mx : Try.prog.follows .mixedOrders = true := by kernel_rfl
theorem agg_26_5 : aggB Try.prog 26 5 = true := by kernel_rfl
theorem fld_26_0_0 : fldB Try.prog 26 0 0 = true := by kernel_rfl
theorem fld_26_1_1 : fldB Try.prog 26 1 1 = true := by kernel_rfl
theorem fld_26_2_2 : fldB Try.prog 26 2 2 = true := by kernel_rfl
theorem fld_30_0_0 : fldB Try.prog 30 0 0 = true := by kernel_rfl
theorem fld_30_1_1 : fldB Try.prog 30 1 1 = true := by kernel_rfl
theorem fld_30_2_2 : fldB Try.prog 30 2 2 = true := by kernel_rfl
theorem fn_69 : fnB Try.prog 69 = true := by kernel_rfl
theorem one_2 : oneB Try.prog 2 = true := by kernel_rfl
theorem one_24 : oneB Try.prog 24 = true := by kernel_rfl
theorem one_34 : oneB Try.prog 34 = true := by kernel_rfl
theorem one_4 : oneB Try.prog 4 = true := by kernel_rfl
theorem sl_24_34_1 : slB Try.prog 24 34 1 = true := by kernel_rfl
theorem sz_34_1 : szB Try.prog 34 1 = true := by kernel_rfl
end T130
set_option maxRecDepth 100000 in
set_option maxHeartbeats 4000000 in
theorem c_i_halfStep {wd : Int} {hi : Int} {wr : Bool} {asp : Option Addr} {nsp : Nat} {csp : Nat} {als : Option Addr} {nls : Nat} {cls : Nat} {b : Nat} {afe : Option Addr} {nfe : Nat} {cfe : Nat} {Xfe : List Nat} {afx : Option Addr} {nfx : Nat} {cfx : Nat} {afy : Option Addr} {nfy : Nat} {cfy : Nat} {Xfx Xfy : List Nat} {w : World} (h1 : 3 ≤ wd) (h2 : wd ≤ 16) (h3 : 3 ≤ hi) (h4 : hi ≤ 16) (gfe : (nfe : Int) = wd * hi) (gfx : (nfx : Int) = wd * hi) (gfy : (nfy : Int) = wd * hi) (HA : All w [.ow kF afx nfx cfx 34 Xfx, .ow kF afy nfy cfy 34 Xfy, .rd kF afe nfe Xfe, .sl (some ⟨b, 0, none⟩) [.slice afe nfe cfe, .slice afx nfx cfx, .slice afy nfy cfy]]) (HP : Pw [.ow kF afx nfx cfx 34 Xfx, .ow kF afy nfy cfy 34 Xfy, .rd kF afe nfe Xfe, .sl (some ⟨b, 0, none⟩) [.slice afe nfe cfe, .slice afx nfx cfx, .slice afy nfy cfy]]) :
    Calls Try.prog 130 #[.agg #[.int .i64 wd, .int .i64 hi, .bool wr, .slice asp nsp csp, .slice als nls cls], .pointer (some ⟨b, 0, none⟩)] w (Rt fun v w' => v = .tuple #[] ∧ Upd w w' [.ow kF afx nfx cfx 34 Xfx, .ow kF afy nfy cfy 34 Xfy] [.ow kF afx nfx cfx 34 (hxL wd hi wr Xfe Xfx), .ow kF afy nfy cfy 34 (hyL wd hi wr Xfe Xfy)]) := by
  have B : Bu w (hasW [.ow kF afx nfx cfx 34 Xfx, .ow kF afy nfy cfy 34 Xfy]) w [.ow kF afx nfx cfx 34 Xfx, .ow kF afy nfy cfy 34 Xfy, .rd kF afe nfe Xfe, .sl (some ⟨b, 0, none⟩) [.slice afe nfe cfe, .slice afx nfx cfx, .slice afy nfy cfy]] := Bu.initW (W := [.ow kF afx nfx cfx 34 Xfx, .ow kF afy nfy cfy 34 Xfy]) (R := [.rd kF afe nfe Xfe, .sl (some ⟨b, 0, none⟩) [.slice afe nfe cfe, .slice afx nfx cfx, .slice afy nfy cfy]]) HA HP rfl
  have hlfx := (B.o 0 rfl).len
  have hlfy := (B.o 1 rfl).len
  have hlfe := (B.r 2 rfl).len
  have hwh := mul16 (And.intro (And.intro h1 h2) (And.intro h3 h4))
  refine calls_W (n := 109) Try.func130 rfl rfl (Nat.le_of_ble_eq_true rfl) ?_
  refine W_seq ?_
  refine W_region (by kernel_rfl) ?_
  refine s_k rfl (k_boxN (v := .agg #[.int .i64 wd, .int .i64 hi, .bool wr, .slice asp nsp csp, .slice als nls cls]) (cs := [.int .i64 wd, .int .i64 hi, .bool wr, .slice asp nsp csp, .slice als nls cls]) rfl rfl (fun b1 w2 hN3 => ?_))
  replace B := B.new1 hN3
  clear hN3
  refine s_nil ?_
  refine W_seq ?_
  refine W_region (by kernel_rfl) ?_
  refine s_y (v := .pointer (some ⟨b1, 1, none⟩)) rfl (y_fld (o := 0) T130.fld_26_1_1 rfl) ?_
  refine s_y (v := .int .i64 hi) rfl (y_load T130.one_2 rfl ((B.b 0 rfl).cell (j := 1) rfl)) ?_
  refine s_y (v := .int .i64 0) rfl (y_move rfl) ?_
  refine s_nil ?_
  refine W_block ?_
  refine W_loop (fun ρ' w' => ∃ (ρ1 : Env) (py : Int), ρ' = updL ρ1 [(1, .pointer (some ⟨b, 0, none⟩)), (2, .pointer (some ⟨b1, 0, none⟩)), (8, .int .i64 hi), (9, .int .i64 py)] ∧ Bu w (hasW [.ow kF afx nfx cfx 34 Xfx, .ow kF afy nfy cfy 34 Xfy]) w' [.ow kF afx nfx cfx 34 (mix (wd * hi) (wd * py) (fun i => hxF wd hi wr Xfe Xfx (i % wd) (i / wd)) Xfx), .ow kF afy nfy cfy 34 (mix (wd * hi) (wd * py) (fun i => hyF wd hi wr Xfe Xfy (i % wd) (i / wd)) Xfy), .blk b1 [.int .i64 wd, .int .i64 hi, .bool wr, .slice asp nsp csp, .slice als nls cls] 26, .rd kF afe nfe Xfe, .sl (some ⟨b, 0, none⟩) [.slice afe nfe cfe, .slice afx nfx cfx, .slice afy nfy cfy]] ∧ (0 ≤ py) ∧ (py ≤ hi)) (fun ρ' _ => (hi - iv (ρ' 9)).toNat) ?_ ?_
  · replace B : Bu w (hasW [.ow kF afx nfx cfx 34 Xfx, .ow kF afy nfy cfy 34 Xfy]) w2 [.blk b1 [.int .i64 wd, .int .i64 hi, .bool wr, .slice asp nsp csp, .slice als nls cls] 26, .ow kF afx nfx cfx 34 (mix (wd * hi) (wd * 0) (fun i => hxF wd hi wr Xfe Xfx (i % wd) (i / wd)) Xfx), .ow kF afy nfy cfy 34 Xfy, .rd kF afe nfe Xfe, .sl (some ⟨b, 0, none⟩) [.slice afe nfe cfe, .slice afx nfx cfx, .slice afy nfy cfy]] := B.castX 1 rfl rfl ((mix_zero (by omega)).trans (congrArg (fun q => mix (wd * hi) q (fun i => hxF wd hi wr Xfe Xfx (i % wd) (i / wd)) _) (Int.mul_zero wd).symm))
    replace B : Bu w (hasW [.ow kF afx nfx cfx 34 Xfx, .ow kF afy nfy cfy 34 Xfy]) w2 [.blk b1 [.int .i64 wd, .int .i64 hi, .bool wr, .slice asp nsp csp, .slice als nls cls] 26, .ow kF afx nfx cfx 34 (mix (wd * hi) (wd * 0) (fun i => hxF wd hi wr Xfe Xfx (i % wd) (i / wd)) Xfx), .ow kF afy nfy cfy 34 (mix (wd * hi) (wd * 0) (fun i => hyF wd hi wr Xfe Xfy (i % wd) (i / wd)) Xfy), .rd kF afe nfe Xfe, .sl (some ⟨b, 0, none⟩) [.slice afe nfe cfe, .slice afx nfx cfx, .slice afy nfy cfy]] := B.castX 2 rfl rfl ((mix_zero (by omega)).trans (congrArg (fun q => mix (wd * hi) q (fun i => hyF wd hi wr Xfe Xfy (i % wd) (i / wd)) _) (Int.mul_zero wd).symm))
    exact ⟨_, 0, Fits.eq ⟨rfl, rfl, rfl, rfl, trivial⟩, (B.pick [1, 2, 0, 3, 4] rfl rfl), (Int.le_refl _), (by omega)⟩
  · clear B; rintro _ w4 ⟨ρ5, py, rfl, B, h0py, h1py⟩
    refine W_seq ?_
    refine W_region (by kernel_rfl) ?_
    by_cases c6 : py < hi
    · refine s_y (v := .bool true) rfl (y_lss rfl rfl (decide_eq_true c6)) ?_
      refine s_nil ?_
      refine W_seq ?_
      refine W_if_t (by decide) rfl ?_
      refine W_skip ?_
      refine W_seq ?_
      refine W_block ?_
      refine W_seq ?_
      refine W_region (by kernel_rfl) ?_
      refine s_y (v := .int .i64 py) rfl (y_move rfl) ?_
      refine s_y (v := .int .i64 py) rfl (y_assign rfl) ?_
      refine s_nil ?_
      refine W_seq ?_
      refine W_region (by kernel_rfl) ?_
      refine s_y (v := .pointer (some ⟨b1, 0, none⟩)) rfl (y_fld (o := 0) T130.fld_26_0_0 rfl) ?_
      refine s_y (v := .int .i64 wd) rfl (y_load T130.one_2 rfl ((B.b 2 rfl).cell (j := 0) rfl)) ?_
      refine s_y (v := .int .i64 0) rfl (y_move rfl) ?_
      refine s_nil ?_
      refine W_block ?_
      refine W_loop (fun ρ' w' => ∃ (ρ1 : Env) (px : Int), ρ' = updL ρ1 [(1, .pointer (some ⟨b, 0, none⟩)), (2, .pointer (some ⟨b1, 0, none⟩)), (4, .int .i64 py), (8, .int .i64 hi), (9, .int .i64 py), (10, .bool true), (11, .int .i64 py), (12, .pointer (some ⟨b1, 0, none⟩)), (13, .int .i64 wd), (14, .int .i64 px)] ∧ Bu w (hasW [.ow kF afx nfx cfx 34 Xfx, .ow kF afy nfy cfy 34 Xfy]) w' [.ow kF afx nfx cfx 34 (mix (wd * hi) (wd * py + px) (fun i => hxF wd hi wr Xfe Xfx (i % wd) (i / wd)) Xfx), .ow kF afy nfy cfy 34 (mix (wd * hi) (wd * py + px) (fun i => hyF wd hi wr Xfe Xfy (i % wd) (i / wd)) Xfy), .blk b1 [.int .i64 wd, .int .i64 hi, .bool wr, .slice asp nsp csp, .slice als nls cls] 26, .rd kF afe nfe Xfe, .sl (some ⟨b, 0, none⟩) [.slice afe nfe cfe, .slice afx nfx cfx, .slice afy nfy cfy]] ∧ (0 ≤ px) ∧ (px ≤ wd)) (fun ρ' _ => (wd - iv (ρ' 14)).toNat) ?_ ?_
      · replace B : Bu w (hasW [.ow kF afx nfx cfx 34 Xfx, .ow kF afy nfy cfy 34 Xfy]) w4 [.ow kF afx nfx cfx 34 (mix (wd * hi) (wd * py + 0) (fun i => hxF wd hi wr Xfe Xfx (i % wd) (i / wd)) Xfx), .ow kF afy nfy cfy 34 (mix (wd * hi) (wd * py) (fun i => hyF wd hi wr Xfe Xfy (i % wd) (i / wd)) Xfy), .blk b1 [.int .i64 wd, .int .i64 hi, .bool wr, .slice asp nsp csp, .slice als nls cls] 26, .rd kF afe nfe Xfe, .sl (some ⟨b, 0, none⟩) [.slice afe nfe cfe, .slice afx nfx cfx, .slice afy nfy cfy]] := B.castX 0 rfl rfl (congrArg (fun q => mix (wd * hi) q (fun i => hxF wd hi wr Xfe Xfx (i % wd) (i / wd)) _) (Int.add_zero _).symm)
        replace B : Bu w (hasW [.ow kF afx nfx cfx 34 Xfx, .ow kF afy nfy cfy 34 Xfy]) w4 [.ow kF afx nfx cfx 34 (mix (wd * hi) (wd * py + 0) (fun i => hxF wd hi wr Xfe Xfx (i % wd) (i / wd)) Xfx), .ow kF afy nfy cfy 34 (mix (wd * hi) (wd * py + 0) (fun i => hyF wd hi wr Xfe Xfy (i % wd) (i / wd)) Xfy), .blk b1 [.int .i64 wd, .int .i64 hi, .bool wr, .slice asp nsp csp, .slice als nls cls] 26, .rd kF afe nfe Xfe, .sl (some ⟨b, 0, none⟩) [.slice afe nfe cfe, .slice afx nfx cfx, .slice afy nfy cfy]] := B.castX 1 rfl rfl (congrArg (fun q => mix (wd * hi) q (fun i => hyF wd hi wr Xfe Xfy (i % wd) (i / wd)) _) (Int.add_zero _).symm)
        exact ⟨_, 0, Fits.eq ⟨rfl, rfl, rfl, rfl, rfl, rfl, rfl, rfl, rfl, rfl, trivial⟩, B, (Int.le_refl _), (by omega)⟩
      · clear B; rintro _ w7 ⟨ρ8, px, rfl, B, h0px, h1px⟩
        refine W_seq ?_
        refine W_region (by kernel_rfl) ?_
        by_cases c9 : px < wd
        · refine s_y (v := .bool true) rfl (y_lss rfl rfl (decide_eq_true c9)) ?_
          refine s_nil ?_
          refine W_seq ?_
          refine W_if_t (by decide) rfl ?_
          refine W_skip ?_
          refine W_seq ?_
          refine W_block ?_
          refine W_seq ?_
          refine W_region (by kernel_rfl) ?_
          refine s_y (v := .int .i64 px) rfl (y_move rfl) ?_
          refine s_y (v := .int .i64 px) rfl (y_assign rfl) ?_
          refine s_nil ?_
          refine W_seq ?_
          refine W_region (by kernel_rfl) ?_
          refine s_y (v := .agg #[.int .i64 wd, .int .i64 hi, .bool wr, .slice asp nsp csp, .slice als nls cls]) rfl (y_loadn (b := b1) (o := 0) (vs := [.int .i64 wd, .int .i64 hi, .bool wr, .slice asp nsp csp, .slice als nls cls]) T130.agg_26_5 rfl rfl ((B.b 2 rfl).cells (o := 0) rfl)) ?_
          refine s_y (v := .int .i64 px) rfl (y_move rfl) ?_
          refine s_y (v := .int .i64 py) rfl (y_move rfl) ?_
          refine s_k rfl (k_call T130.fn_69 (c_i_at (by omega) (by omega) (by omega) (by omega) (by omega) (by omega) (by omega) (by omega)) rfl ?_)
          rintro _ w10 ⟨rfl, e11⟩
          replace B := B.ext0 e11
          clear e11
          have hat12 := atI_b (wd := wd) (hi := hi) (x := px) (y := py) (by omega) (by omega)
          refine s_y (v := .int .i64 (atI wd hi px py)) rfl (y_assign rfl) ?_
          refine s_nil ?_
          refine W_seq ?_
          refine W_seq ?_
          refine W_region (by kernel_rfl) ?_
          refine s_y (v := .pointer (some ⟨b1, 2, none⟩)) rfl (y_fld (o := 0) T130.fld_26_2_2 rfl) ?_
          refine s_y (v := .bool wr) rfl (y_load T130.one_4 rfl ((B.b 2 rfl).cell (j := 2) rfl)) ?_
          refine s_y (v := .bool wr) rfl (y_move rfl) ?_
          cases wr
          · refine s_y (v := .int .i64 py) rfl (y_move rfl) ?_
            refine s_y (v := .pointer (some ⟨b1, 1, none⟩)) rfl (y_fld (o := 0) T130.fld_26_1_1 rfl) ?_
            refine s_y (v := .int .i64 hi) rfl (y_load T130.one_2 rfl ((B.b 2 rfl).cell (j := 1) rfl)) ?_
            refine s_y (v := .int .i64 (hi - 1)) rfl (y_sub rfl rfl rfl (by omega)) ?_
            by_cases c13 : py < (hi - 1)
            · refine s_y (v := .bool true) rfl (y_lss rfl rfl (decide_eq_true c13)) ?_
              refine s_y (v := .bool true) rfl (y_pick_f rfl rfl) ?_
              refine s_nil ?_
              refine W_if_t (by decide) rfl ?_
              have B0_18 := B
              refine W_draw (no) T130.mx (by kernel_rfl) (fun w16 e17 => ?_)
              have R19 := Ext.refl (no) w10
              replace R19 := R19.trans (Ext0.any e17)
              replace B := B.ext0 e17
              clear e17
              refine m_y (v := .pointer (some ⟨b, 0, none⟩)) 0 rfl (by kernel_rfl) rfl rfl (fun w' e' => y_move rfl) ?_
              refine m_y (v := .pointer (some ⟨b, 0, none⟩)) 1 rfl (by kernel_rfl) rfl rfl (fun w' e' => y_nil rfl) ?_
              refine m_y (v := .pointer (some ⟨b, 0 + 1, none⟩)) 2 rfl (by kernel_rfl) rfl rfl (fun w' e' => y_fld (o := 0 + 0) T130.fld_30_1_1 rfl) ?_
              refine m_y (v := .slice afx nfx cfx) 3 rfl (by kernel_rfl) rfl rfl (fun w' e' => y_load T130.one_24 rfl (((B0_18.s 4 rfl).ext0 e').cell (j := 1) rfl)) ?_
              refine m_y (v := .int .i64 (atI wd hi px py)) 4 rfl (by kernel_rfl) rfl rfl (fun w' e' => y_move rfl) ?_
              refine m_y (v := .pointer (some ⟨b, 0, none⟩)) 5 rfl (by kernel_rfl) rfl rfl (fun w' e' => y_move rfl) ?_
              refine m_y (v := .pointer (some ⟨b, 0, none⟩)) 6 rfl (by kernel_rfl) rfl rfl (fun w' e' => y_nil rfl) ?_
              refine m_y (v := .pointer (some ⟨b, 0 + 1, none⟩)) 7 rfl (by kernel_rfl) rfl rfl (fun w' e' => y_fld (o := 0 + 0) T130.fld_30_1_1 rfl) ?_
              refine m_y (v := .slice afx nfx cfx) 8 rfl (by kernel_rfl) rfl rfl (fun w' e' => y_load T130.one_24 rfl (((B0_18.s 4 rfl).ext0 e').cell (j := 1) rfl)) ?_
              refine m_y (v := .int .i64 (atI wd hi px py)) 9 rfl (by kernel_rfl) rfl rfl (fun w' e' => y_move rfl) ?_
              refine m_y (v := .pointer (some (sat afx ((atI wd hi px py).toNat * 1)))) 10 rfl (by kernel_rfl) rfl rfl (fun w' e' => y_idx T130.sl_24_34_1 rfl rfl ((B.o 0 rfl).rd.addr (by omega)) (by omega) (by omega)) ?_
              obtain ⟨r21, hr22, hR20⟩ := Rd.atF (B0_18.o 0 rfl).rd (atI wd hi px py) (by omega) (by omega)
              refine m_y (v := .float .f32 r21) 11 rfl (by kernel_rfl) rfl rfl (fun w' e' => y_load T130.one_34 rfl ((hR20.ext0 e').cell (i := 0) rfl)) ?_
              refine m_y (v := .pointer (some ⟨b, 0, none⟩)) 12 rfl (by kernel_rfl) rfl rfl (fun w' e' => y_move rfl) ?_
              refine m_y (v := .pointer (some ⟨b, 0, none⟩)) 13 rfl (by kernel_rfl) rfl rfl (fun w' e' => y_nil rfl) ?_
              refine m_y (v := .pointer (some ⟨b, 0, none⟩)) 14 rfl (by kernel_rfl) rfl rfl (fun w' e' => y_fld (o := 0 + 0) T130.fld_30_0_0 rfl) ?_
              refine m_y (v := .slice afe nfe cfe) 15 rfl (by kernel_rfl) rfl rfl (fun w' e' => y_load T130.one_24 rfl (((B0_18.s 4 rfl).ext0 e').cell (j := 0) rfl)) ?_
              refine m_y (v := .agg #[.int .i64 wd, .int .i64 hi, .bool false, .slice asp nsp csp, .slice als nls cls]) 16 rfl (by kernel_rfl) rfl rfl (fun w' e' => y_loadn (b := b1) (o := 0) (vs := [.int .i64 wd, .int .i64 hi, .bool false, .slice asp nsp csp, .slice als nls cls]) T130.agg_26_5 rfl rfl (((B0_18.b 2 rfl).ext0 e').cells (o := 0) rfl)) ?_
              refine m_y (v := .int .i64 px) 17 rfl (by kernel_rfl) rfl rfl (fun w' e' => y_move rfl) ?_
              refine m_y (v := .int .i64 py) 18 rfl (by kernel_rfl) rfl rfl (fun w' e' => y_move rfl) ?_
              refine m_y (v := .int .i64 (py + 1)) 19 rfl (by kernel_rfl) rfl rfl (fun w' e' => y_add rfl rfl rfl (by omega)) ?_
              refine m_y (v := .pointer (some ⟨b, 0, none⟩)) 23 rfl (by kernel_rfl) rfl rfl (fun w' e' => y_move rfl) ?_
              refine m_y (v := .pointer (some ⟨b, 0, none⟩)) 24 rfl (by kernel_rfl) rfl rfl (fun w' e' => y_nil rfl) ?_
              refine m_y (v := .pointer (some ⟨b, 0, none⟩)) 25 rfl (by kernel_rfl) rfl rfl (fun w' e' => y_fld (o := 0 + 0) T130.fld_30_0_0 rfl) ?_
              refine m_y (v := .slice afe nfe cfe) 26 rfl (by kernel_rfl) rfl rfl (fun w' e' => y_load T130.one_24 rfl (((B0_18.s 4 rfl).ext0 e').cell (j := 0) rfl)) ?_
              refine m_y (v := .int .i64 (atI wd hi px py)) 27 rfl (by kernel_rfl) rfl rfl (fun w' e' => y_move rfl) ?_
              refine m_y (v := .pointer (some (sat afe ((atI wd hi px py).toNat * 1)))) 28 rfl (by kernel_rfl) rfl rfl (fun w' e' => y_idx T130.sl_24_34_1 rfl rfl ((B.r 3 rfl).addr (by omega)) (by omega) (by omega)) ?_
              obtain ⟨r24, hr25, hR23⟩ := Rd.atF (B0_18.r 3 rfl) (atI wd hi px py) (by omega) (by omega)
              refine m_y (v := .float .f32 r24) 29 rfl (by kernel_rfl) rfl rfl (fun w' e' => y_load T130.one_34 rfl ((hR23.ext0 e').cell (i := 0) rfl)) ?_
              refine m_k 20 [21, 22, 30, 31, 32, 33, 34] rfl (by kernel_rfl) rfl rfl (fun w26 e27 => ?_)
              replace R19 := R19.trans (Ext0.any e27)
              replace B := B.ext0 e27
              clear e27
              refine k_call T130.fn_69 (c_i_at (by omega) (by omega) (by omega) (by omega) (by omega) (by omega) (by omega) (by omega)) rfl ?_
              rintro _ w28 ⟨rfl, e29⟩
              replace R19 := R19.trans (Ext0.any e29)
              replace B := B.ext0 e29
              clear e29
              refine ⟨fun _ => R19, ?_⟩
              have hat30 := atI_b (wd := wd) (hi := hi) (x := px) (y := py + 1) (by omega) (by omega)
              refine m_y (v := .pointer (some (sat afe ((atI wd hi px (py + 1)).toNat * 1)))) 21 rfl (by kernel_rfl) rfl rfl (fun w' e' => y_idx T130.sl_24_34_1 rfl rfl ((B.r 3 rfl).addr (by omega)) (by omega) (by omega)) ?_
              obtain ⟨r32, hr33, hR31⟩ := Rd.atF (B0_18.r 3 rfl) (atI wd hi px (py + 1)) (by omega) (by omega)
              refine m_y (v := .float .f32 r32) 22 rfl (by kernel_rfl) rfl rfl (fun w' e' => y_load T130.one_34 rfl ((hR31.ext0 e').cell (i := 0) rfl)) ?_
              refine m_n 30 [31, 32, 33, 34] rfl (by kernel_rfl) rfl rfl (fun w' e' => n_arith (by decide) rfl rfl) ?_
              rintro _ ⟨r35, rfl, hr36⟩
              have hc39 := fopC hr36 hr33 hr25
              refine m_n 31 [32, 33, 34] rfl (by kernel_rfl) rfl rfl (fun w' e' => n_arith (by decide) rfl rfl) ?_
              rintro _ ⟨r41, rfl, hr42⟩
              have hc45 := fopC hr42 (cnLit (k := .f32) (t := 1056964608) (by kernel_rfl) (by kernel_rfl)) hc39
              refine m_n 32 [33, 34] rfl (by kernel_rfl) rfl rfl (fun w' e' => n_arith (by decide) rfl rfl) ?_
              rintro _ ⟨r47, rfl, hr48⟩
              have hc51 := fopC hr48 hr22 hc45
              refine m_y (v := .pointer (some (sat afx ((atI wd hi px py).toNat * 1)))) 33 rfl (by kernel_rfl) rfl rfl (fun w' e' => y_idx T130.sl_24_34_1 rfl rfl ((B.o 0 rfl).rd.addr (by omega)) (by omega) (by omega)) ?_
              refine m_kt 34 [] rfl (by kernel_rfl) rfl rfl (by kernel_rfl) (fun w54 e55 => ?_)
              replace R19 := R19.trans (Ext0.any e55)
              replace B := B.ext0 e55
              clear e55
              refine k_stO (k := kF) (i := atI wd hi px py) (j := 0) (x' := fop .sub .f32 (el (mix (wd * hi) (wd * py + px) (fun i => hxF wd hi false Xfe Xfx (i % wd) (i / wd)) Xfx) (atI wd hi px py)) (fop .mul .f32 1056964608 (fop .sub .f32 (el Xfe (atI wd hi px (py + 1))) (el Xfe (atI wd hi px py))))) (new := [.float .f32 r47]) T130.sz_34_1 rfl rfl rfl rfl rfl (by simp [Value.oneCell']) (by decide) (B.o 0 rfl) (by omega) (by omega) (by decide) (by rintro q ⟨_, rfl, _⟩; exact ⟨_, rfl, hc51⟩) (fun w52 hU53 => ?_)
              clear R19
              replace B : Bu w (hasW [.ow kF afx nfx cfx 34 Xfx, .ow kF afy nfy cfy 34 Xfy]) w52 [.ow kF afx nfx cfx 34 (put (mix (wd * hi) (wd * py + px) (fun i => hxF wd hi false Xfe Xfx (i % wd) (i / wd)) Xfx) (atI wd hi px py) (fop .sub .f32 (el (mix (wd * hi) (wd * py + px) (fun i => hxF wd hi false Xfe Xfx (i % wd) (i / wd)) Xfx) (atI wd hi px py)) (fop .mul .f32 1056964608 (fop .sub .f32 (el Xfe (atI wd hi px (py + 1))) (el Xfe (atI wd hi px py)))))), .ow kF afy nfy cfy 34 (mix (wd * hi) (wd * py + px) (fun i => hyF wd hi false Xfe Xfy (i % wd) (i / wd)) Xfy), .blk b1 [.int .i64 wd, .int .i64 hi, .bool false, .slice asp nsp csp, .slice als nls cls] 26, .rd kF afe nfe Xfe, .sl (some ⟨b, 0, none⟩) [.slice afe nfe cfe, .slice afx nfx cfx, .slice afy nfy cfy]] := B.upd [0] rfl hU53
              clear hU53
              refine m_done (by kernel_rfl) (fun w56 e57 => ?_)
              replace B := B.ext0 e57
              clear e57
              clear B0_18
              refine W_seq ?_
              refine W_region (by kernel_rfl) ?_
              refine s_y (v := .pointer (some ⟨b1, 2, none⟩)) rfl (y_fld (o := 0) T130.fld_26_2_2 rfl) ?_
              refine s_y (v := .bool false) rfl (y_load T130.one_4 rfl ((B.b 2 rfl).cell (j := 2) rfl)) ?_
              refine s_y (v := .bool false) rfl (y_move rfl) ?_
              refine s_y (v := .int .i64 px) rfl (y_move rfl) ?_
              refine s_y (v := .pointer (some ⟨b1, 0, none⟩)) rfl (y_fld (o := 0) T130.fld_26_0_0 rfl) ?_
              refine s_y (v := .int .i64 wd) rfl (y_load T130.one_2 rfl ((B.b 2 rfl).cell (j := 0) rfl)) ?_
              refine s_y (v := .int .i64 (wd - 1)) rfl (y_sub rfl rfl rfl (by omega)) ?_
              by_cases c58 : px < (wd - 1)
              · refine s_y (v := .bool true) rfl (y_lss rfl rfl (decide_eq_true c58)) ?_
                refine s_y (v := .bool true) rfl (y_pick_f rfl rfl) ?_
                refine s_nil ?_
                refine W_if_t (by decide) rfl ?_
                have B0_63 := B
                refine W_draw (no) T130.mx (by kernel_rfl) (fun w61 e62 => ?_)
                have R64 := Ext.refl (no) w56
                replace R64 := R64.trans (Ext0.any e62)
                replace B := B.ext0 e62
                clear e62
                refine m_y (v := .pointer (some ⟨b, 0, none⟩)) 0 rfl (by kernel_rfl) rfl rfl (fun w' e' => y_move rfl) ?_
                refine m_y (v := .pointer (some ⟨b, 0, none⟩)) 1 rfl (by kernel_rfl) rfl rfl (fun w' e' => y_nil rfl) ?_
                refine m_y (v := .pointer (some ⟨b, 0 + 2, none⟩)) 2 rfl (by kernel_rfl) rfl rfl (fun w' e' => y_fld (o := 0 + 0) T130.fld_30_2_2 rfl) ?_
                refine m_y (v := .slice afy nfy cfy) 3 rfl (by kernel_rfl) rfl rfl (fun w' e' => y_load T130.one_24 rfl (((B0_63.s 4 rfl).ext0 e').cell (j := 2) rfl)) ?_
                refine m_y (v := .int .i64 (atI wd hi px py)) 4 rfl (by kernel_rfl) rfl rfl (fun w' e' => y_move rfl) ?_
                refine m_y (v := .pointer (some ⟨b, 0, none⟩)) 5 rfl (by kernel_rfl) rfl rfl (fun w' e' => y_move rfl) ?_
                refine m_y (v := .pointer (some ⟨b, 0, none⟩)) 6 rfl (by kernel_rfl) rfl rfl (fun w' e' => y_nil rfl) ?_
                refine m_y (v := .pointer (some ⟨b, 0 + 2, none⟩)) 7 rfl (by kernel_rfl) rfl rfl (fun w' e' => y_fld (o := 0 + 0) T130.fld_30_2_2 rfl) ?_
                refine m_y (v := .slice afy nfy cfy) 8 rfl (by kernel_rfl) rfl rfl (fun w' e' => y_load T130.one_24 rfl (((B0_63.s 4 rfl).ext0 e').cell (j := 2) rfl)) ?_
                refine m_y (v := .int .i64 (atI wd hi px py)) 9 rfl (by kernel_rfl) rfl rfl (fun w' e' => y_move rfl) ?_
                refine m_y (v := .pointer (some (sat afy ((atI wd hi px py).toNat * 1)))) 10 rfl (by kernel_rfl) rfl rfl (fun w' e' => y_idx T130.sl_24_34_1 rfl rfl ((B.o 1 rfl).rd.addr (by omega)) (by omega) (by omega)) ?_
                obtain ⟨r66, hr67, hR65⟩ := Rd.atF (B0_63.o 1 rfl).rd (atI wd hi px py) (by omega) (by omega)
                refine m_y (v := .float .f32 r66) 11 rfl (by kernel_rfl) rfl rfl (fun w' e' => y_load T130.one_34 rfl ((hR65.ext0 e').cell (i := 0) rfl)) ?_
                refine m_y (v := .pointer (some ⟨b, 0, none⟩)) 12 rfl (by kernel_rfl) rfl rfl (fun w' e' => y_move rfl) ?_
                refine m_y (v := .pointer (some ⟨b, 0, none⟩)) 13 rfl (by kernel_rfl) rfl rfl (fun w' e' => y_nil rfl) ?_
                refine m_y (v := .pointer (some ⟨b, 0, none⟩)) 14 rfl (by kernel_rfl) rfl rfl (fun w' e' => y_fld (o := 0 + 0) T130.fld_30_0_0 rfl) ?_
                refine m_y (v := .slice afe nfe cfe) 15 rfl (by kernel_rfl) rfl rfl (fun w' e' => y_load T130.one_24 rfl (((B0_63.s 4 rfl).ext0 e').cell (j := 0) rfl)) ?_
                refine m_y (v := .agg #[.int .i64 wd, .int .i64 hi, .bool false, .slice asp nsp csp, .slice als nls cls]) 16 rfl (by kernel_rfl) rfl rfl (fun w' e' => y_loadn (b := b1) (o := 0) (vs := [.int .i64 wd, .int .i64 hi, .bool false, .slice asp nsp csp, .slice als nls cls]) T130.agg_26_5 rfl rfl (((B0_63.b 2 rfl).ext0 e').cells (o := 0) rfl)) ?_
                refine m_y (v := .int .i64 px) 17 rfl (by kernel_rfl) rfl rfl (fun w' e' => y_move rfl) ?_
                refine m_y (v := .int .i64 (px + 1)) 18 rfl (by kernel_rfl) rfl rfl (fun w' e' => y_add rfl rfl rfl (by omega)) ?_
                refine m_y (v := .int .i64 py) 19 rfl (by kernel_rfl) rfl rfl (fun w' e' => y_move rfl) ?_
                refine m_y (v := .pointer (some ⟨b, 0, none⟩)) 23 rfl (by kernel_rfl) rfl rfl (fun w' e' => y_move rfl) ?_
                refine m_y (v := .pointer (some ⟨b, 0, none⟩)) 24 rfl (by kernel_rfl) rfl rfl (fun w' e' => y_nil rfl) ?_
                refine m_y (v := .pointer (some ⟨b, 0, none⟩)) 25 rfl (by kernel_rfl) rfl rfl (fun w' e' => y_fld (o := 0 + 0) T130.fld_30_0_0 rfl) ?_
                refine m_y (v := .slice afe nfe cfe) 26 rfl (by kernel_rfl) rfl rfl (fun w' e' => y_load T130.one_24 rfl (((B0_63.s 4 rfl).ext0 e').cell (j := 0) rfl)) ?_
                refine m_y (v := .int .i64 (atI wd hi px py)) 27 rfl (by kernel_rfl) rfl rfl (fun w' e' => y_move rfl) ?_
                refine m_y (v := .pointer (some (sat afe ((atI wd hi px py).toNat * 1)))) 28 rfl (by kernel_rfl) rfl rfl (fun w' e' => y_idx T130.sl_24_34_1 rfl rfl ((B.r 3 rfl).addr (by omega)) (by omega) (by omega)) ?_
                obtain ⟨r69, hr70, hR68⟩ := Rd.atF (B0_63.r 3 rfl) (atI wd hi px py) (by omega) (by omega)
                refine m_y (v := .float .f32 r69) 29 rfl (by kernel_rfl) rfl rfl (fun w' e' => y_load T130.one_34 rfl ((hR68.ext0 e').cell (i := 0) rfl)) ?_
                refine m_k 20 [21, 22, 30, 31, 32, 33, 34] rfl (by kernel_rfl) rfl rfl (fun w71 e72 => ?_)
                replace R64 := R64.trans (Ext0.any e72)
                replace B := B.ext0 e72
                clear e72
                refine k_call T130.fn_69 (c_i_at (by omega) (by omega) (by omega) (by omega) (by omega) (by omega) (by omega) (by omega)) rfl ?_
                rintro _ w73 ⟨rfl, e74⟩
                replace R64 := R64.trans (Ext0.any e74)
                replace B := B.ext0 e74
                clear e74
                refine ⟨fun _ => R64, ?_⟩
                have hat75 := atI_b (wd := wd) (hi := hi) (x := px + 1) (y := py) (by omega) (by omega)
                refine m_y (v := .pointer (some (sat afe ((atI wd hi (px + 1) py).toNat * 1)))) 21 rfl (by kernel_rfl) rfl rfl (fun w' e' => y_idx T130.sl_24_34_1 rfl rfl ((B.r 3 rfl).addr (by omega)) (by omega) (by omega)) ?_
                obtain ⟨r77, hr78, hR76⟩ := Rd.atF (B0_63.r 3 rfl) (atI wd hi (px + 1) py) (by omega) (by omega)
                refine m_y (v := .float .f32 r77) 22 rfl (by kernel_rfl) rfl rfl (fun w' e' => y_load T130.one_34 rfl ((hR76.ext0 e').cell (i := 0) rfl)) ?_
                refine m_n 30 [31, 32, 33, 34] rfl (by kernel_rfl) rfl rfl (fun w' e' => n_arith (by decide) rfl rfl) ?_
                rintro _ ⟨r80, rfl, hr81⟩
                have hc84 := fopC hr81 hr78 hr70
                refine m_n 31 [32, 33, 34] rfl (by kernel_rfl) rfl rfl (fun w' e' => n_arith (by decide) rfl rfl) ?_
                rintro _ ⟨r86, rfl, hr87⟩
                have hc90 := fopC hr87 (cnLit (k := .f32) (t := 1056964608) (by kernel_rfl) (by kernel_rfl)) hc84
                refine m_n 32 [33, 34] rfl (by kernel_rfl) rfl rfl (fun w' e' => n_arith (by decide) rfl rfl) ?_
                rintro _ ⟨r92, rfl, hr93⟩
                have hc96 := fopC hr93 hr67 hc90
                refine m_y (v := .pointer (some (sat afy ((atI wd hi px py).toNat * 1)))) 33 rfl (by kernel_rfl) rfl rfl (fun w' e' => y_idx T130.sl_24_34_1 rfl rfl ((B.o 1 rfl).rd.addr (by omega)) (by omega) (by omega)) ?_
                refine m_kt 34 [] rfl (by kernel_rfl) rfl rfl (by kernel_rfl) (fun w99 e100 => ?_)
                replace R64 := R64.trans (Ext0.any e100)
                replace B := B.ext0 e100
                clear e100
                refine k_stO (k := kF) (i := atI wd hi px py) (j := 0) (x' := fop .add .f32 (el (mix (wd * hi) (wd * py + px) (fun i => hyF wd hi false Xfe Xfy (i % wd) (i / wd)) Xfy) (atI wd hi px py)) (fop .mul .f32 1056964608 (fop .sub .f32 (el Xfe (atI wd hi (px + 1) py)) (el Xfe (atI wd hi px py))))) (new := [.float .f32 r92]) T130.sz_34_1 rfl rfl rfl rfl rfl (by simp [Value.oneCell']) (by decide) (B.o 1 rfl) (by omega) (by omega) (by decide) (by rintro q ⟨_, rfl, _⟩; exact ⟨_, rfl, hc96⟩) (fun w97 hU98 => ?_)
                clear R64
                replace B : Bu w (hasW [.ow kF afx nfx cfx 34 Xfx, .ow kF afy nfy cfy 34 Xfy]) w97 [.ow kF afy nfy cfy 34 (put (mix (wd * hi) (wd * py + px) (fun i => hyF wd hi false Xfe Xfy (i % wd) (i / wd)) Xfy) (atI wd hi px py) (fop .add .f32 (el (mix (wd * hi) (wd * py + px) (fun i => hyF wd hi false Xfe Xfy (i % wd) (i / wd)) Xfy) (atI wd hi px py)) (fop .mul .f32 1056964608 (fop .sub .f32 (el Xfe (atI wd hi (px + 1) py)) (el Xfe (atI wd hi px py)))))), .ow kF afx nfx cfx 34 (put (mix (wd * hi) (wd * py + px) (fun i => hxF wd hi false Xfe Xfx (i % wd) (i / wd)) Xfx) (atI wd hi px py) (fop .sub .f32 (el (mix (wd * hi) (wd * py + px) (fun i => hxF wd hi false Xfe Xfx (i % wd) (i / wd)) Xfx) (atI wd hi px py)) (fop .mul .f32 1056964608 (fop .sub .f32 (el Xfe (atI wd hi px (py + 1))) (el Xfe (atI wd hi px py)))))), .blk b1 [.int .i64 wd, .int .i64 hi, .bool false, .slice asp nsp csp, .slice als nls cls] 26, .rd kF afe nfe Xfe, .sl (some ⟨b, 0, none⟩) [.slice afe nfe cfe, .slice afx nfx cfx, .slice afy nfy cfy]] := B.upd [1] rfl hU98
                clear hU98
                refine m_done (by kernel_rfl) (fun w101 e102 => ?_)
                replace B := B.ext0 e102
                clear e102
                clear B0_63
                refine W_region (by kernel_rfl) ?_
                refine s_y (v := .int .i64 (px + 1)) rfl (y_add rfl rfl rfl (by omega)) ?_
                refine s_y (v := .int .i64 (px + 1)) rfl (y_move rfl) ?_
                refine s_nil ?_
                have hcx : (false || decide (py < hi - 1)) = true := by simp only [(decide_eq_true c6), (decide_eq_true c9), (decide_eq_true c13), (decide_eq_true c58), Bool.and_true, Bool.true_and, Bool.and_false, Bool.false_and, Bool.not_true, Bool.not_false, Bool.or_true, Bool.true_or, Bool.or_false, Bool.false_or]
                replace B : Bu w (hasW [.ow kF afx nfx cfx 34 Xfx, .ow kF afy nfy cfy 34 Xfy]) w101 [.ow kF afy nfy cfy 34 (put (mix (wd * hi) (wd * py + px) (fun i => hyF wd hi false Xfe Xfy (i % wd) (i / wd)) Xfy) (atI wd hi px py) (fop .add .f32 (el (mix (wd * hi) (wd * py + px) (fun i => hyF wd hi false Xfe Xfy (i % wd) (i / wd)) Xfy) (atI wd hi px py)) (fop .mul .f32 1056964608 (fop .sub .f32 (el Xfe (atI wd hi (px + 1) py)) (el Xfe (atI wd hi px py)))))), .ow kF afx nfx cfx 34 (mix (wd * hi) (wd * py + (px + 1)) (fun i => hxF wd hi false Xfe Xfx (i % wd) (i / wd)) Xfx), .blk b1 [.int .i64 wd, .int .i64 hi, .bool false, .slice asp nsp csp, .slice als nls cls] 26, .rd kF afe nfe Xfe, .sl (some ⟨b, 0, none⟩) [.slice afe nfe cfe, .slice afx nfx cfx, .slice afy nfy cfy]] := B.castX 1 rfl rfl (mix_cell (G := hxF wd hi false Xfe Xfx) rfl (by omega) (by omega) (by omega) (by omega) rfl (hx_yes rfl (by omega) (by omega) (by omega) (by omega) hcx))
                have hcy : (false || decide (px < wd - 1)) = true := by simp only [(decide_eq_true c6), (decide_eq_true c9), (decide_eq_true c13), (decide_eq_true c58), Bool.and_true, Bool.true_and, Bool.and_false, Bool.false_and, Bool.not_true, Bool.not_false, Bool.or_true, Bool.true_or, Bool.or_false, Bool.false_or]
                replace B : Bu w (hasW [.ow kF afx nfx cfx 34 Xfx, .ow kF afy nfy cfy 34 Xfy]) w101 [.ow kF afy nfy cfy 34 (mix (wd * hi) (wd * py + (px + 1)) (fun i => hyF wd hi false Xfe Xfy (i % wd) (i / wd)) Xfy), .ow kF afx nfx cfx 34 (mix (wd * hi) (wd * py + (px + 1)) (fun i => hxF wd hi false Xfe Xfx (i % wd) (i / wd)) Xfx), .blk b1 [.int .i64 wd, .int .i64 hi, .bool false, .slice asp nsp csp, .slice als nls cls] 26, .rd kF afe nfe Xfe, .sl (some ⟨b, 0, none⟩) [.slice afe nfe cfe, .slice afx nfx cfx, .slice afy nfy cfy]] := B.castX 0 rfl rfl (mix_cell (G := hyF wd hi false Xfe Xfy) rfl (by omega) (by omega) (by omega) (by omega) rfl (hy_yes rfl (by omega) (by omega) (by omega) (by omega) hcy))
                refine ⟨⟨_, px + 1, Fits.eq ⟨rfl, rfl, rfl, rfl, rfl, rfl, rfl, rfl, rfl, rfl, trivial⟩, (B.pick [1, 0, 2, 3, 4] rfl rfl), (by omega), (by omega)⟩, ?_⟩
                show (wd - (px + 1)).toNat < (wd - px).toNat
                omega
              · refine s_y (v := .bool false) rfl (y_lss rfl rfl (decide_eq_false c58)) ?_
                refine s_y (v := .bool false) rfl (y_pick_f rfl rfl) ?_
                refine s_nil ?_
                refine W_if_f (by decide) rfl ?_
                refine W_skip ?_
                refine W_region (by kernel_rfl) ?_
                refine s_y (v := .int .i64 (px + 1)) rfl (y_add rfl rfl rfl (by omega)) ?_
                refine s_y (v := .int .i64 (px + 1)) rfl (y_move rfl) ?_
                refine s_nil ?_
                have hcx : (false || decide (py < hi - 1)) = true := by simp only [(decide_eq_true c6), (decide_eq_true c9), (decide_eq_true c13), (decide_eq_false c58), Bool.and_true, Bool.true_and, Bool.and_false, Bool.false_and, Bool.not_true, Bool.not_false, Bool.or_true, Bool.true_or, Bool.or_false, Bool.false_or]
                replace B : Bu w (hasW [.ow kF afx nfx cfx 34 Xfx, .ow kF afy nfy cfy 34 Xfy]) w56 [.ow kF afx nfx cfx 34 (mix (wd * hi) (wd * py + (px + 1)) (fun i => hxF wd hi false Xfe Xfx (i % wd) (i / wd)) Xfx), .ow kF afy nfy cfy 34 (mix (wd * hi) (wd * py + px) (fun i => hyF wd hi false Xfe Xfy (i % wd) (i / wd)) Xfy), .blk b1 [.int .i64 wd, .int .i64 hi, .bool false, .slice asp nsp csp, .slice als nls cls] 26, .rd kF afe nfe Xfe, .sl (some ⟨b, 0, none⟩) [.slice afe nfe cfe, .slice afx nfx cfx, .slice afy nfy cfy]] := B.castX 0 rfl rfl (mix_cell (G := hxF wd hi false Xfe Xfx) rfl (by omega) (by omega) (by omega) (by omega) rfl (hx_yes rfl (by omega) (by omega) (by omega) (by omega) hcx))
                have hcy : (false || decide (px < wd - 1)) = false := by simp only [(decide_eq_true c6), (decide_eq_true c9), (decide_eq_true c13), (decide_eq_false c58), Bool.and_true, Bool.true_and, Bool.and_false, Bool.false_and, Bool.not_true, Bool.not_false, Bool.or_true, Bool.true_or, Bool.or_false, Bool.false_or]
                replace B : Bu w (hasW [.ow kF afx nfx cfx 34 Xfx, .ow kF afy nfy cfy 34 Xfy]) w56 [.ow kF afx nfx cfx 34 (mix (wd * hi) (wd * py + (px + 1)) (fun i => hxF wd hi false Xfe Xfx (i % wd) (i / wd)) Xfx), .ow kF afy nfy cfy 34 (mix (wd * hi) (wd * py + (px + 1)) (fun i => hyF wd hi false Xfe Xfy (i % wd) (i / wd)) Xfy), .blk b1 [.int .i64 wd, .int .i64 hi, .bool false, .slice asp nsp csp, .slice als nls cls] 26, .rd kF afe nfe Xfe, .sl (some ⟨b, 0, none⟩) [.slice afe nfe cfe, .slice afx nfx cfx, .slice afy nfy cfy]] := B.castX 1 rfl rfl (mix_same (G := hyF wd hi false Xfe Xfy) (by omega) (by omega) (by omega) (by omega) (hy_no hcy))
                refine ⟨⟨_, px + 1, Fits.eq ⟨rfl, rfl, rfl, rfl, rfl, rfl, rfl, rfl, rfl, rfl, trivial⟩, B, (by omega), (by omega)⟩, ?_⟩
                show (wd - (px + 1)).toNat < (wd - px).toNat
                omega
            · refine s_y (v := .bool false) rfl (y_lss rfl rfl (decide_eq_false c13)) ?_
              refine s_y (v := .bool false) rfl (y_pick_f rfl rfl) ?_
              refine s_nil ?_
              refine W_if_f (by decide) rfl ?_
              refine W_skip ?_
              refine W_seq ?_
              refine W_region (by kernel_rfl) ?_
              refine s_y (v := .pointer (some ⟨b1, 2, none⟩)) rfl (y_fld (o := 0) T130.fld_26_2_2 rfl) ?_
              refine s_y (v := .bool false) rfl (y_load T130.one_4 rfl ((B.b 2 rfl).cell (j := 2) rfl)) ?_
              refine s_y (v := .bool false) rfl (y_move rfl) ?_
              refine s_y (v := .int .i64 px) rfl (y_move rfl) ?_
              refine s_y (v := .pointer (some ⟨b1, 0, none⟩)) rfl (y_fld (o := 0) T130.fld_26_0_0 rfl) ?_
              refine s_y (v := .int .i64 wd) rfl (y_load T130.one_2 rfl ((B.b 2 rfl).cell (j := 0) rfl)) ?_
              refine s_y (v := .int .i64 (wd - 1)) rfl (y_sub rfl rfl rfl (by omega)) ?_
              by_cases c103 : px < (wd - 1)
              · refine s_y (v := .bool true) rfl (y_lss rfl rfl (decide_eq_true c103)) ?_
                refine s_y (v := .bool true) rfl (y_pick_f rfl rfl) ?_
                refine s_nil ?_
                refine W_if_t (by decide) rfl ?_
                have B0_108 := B
                refine W_draw (no) T130.mx (by kernel_rfl) (fun w106 e107 => ?_)
                have R109 := Ext.refl (no) w10
                replace R109 := R109.trans (Ext0.any e107)
                replace B := B.ext0 e107
                clear e107
                refine m_y (v := .pointer (some ⟨b, 0, none⟩)) 0 rfl (by kernel_rfl) rfl rfl (fun w' e' => y_move rfl) ?_
                refine m_y (v := .pointer (some ⟨b, 0, none⟩)) 1 rfl (by kernel_rfl) rfl rfl (fun w' e' => y_nil rfl) ?_
                refine m_y (v := .pointer (some ⟨b, 0 + 2, none⟩)) 2 rfl (by kernel_rfl) rfl rfl (fun w' e' => y_fld (o := 0 + 0) T130.fld_30_2_2 rfl) ?_
                refine m_y (v := .slice afy nfy cfy) 3 rfl (by kernel_rfl) rfl rfl (fun w' e' => y_load T130.one_24 rfl (((B0_108.s 4 rfl).ext0 e').cell (j := 2) rfl)) ?_
                refine m_y (v := .int .i64 (atI wd hi px py)) 4 rfl (by kernel_rfl) rfl rfl (fun w' e' => y_move rfl) ?_
                refine m_y (v := .pointer (some ⟨b, 0, none⟩)) 5 rfl (by kernel_rfl) rfl rfl (fun w' e' => y_move rfl) ?_
                refine m_y (v := .pointer (some ⟨b, 0, none⟩)) 6 rfl (by kernel_rfl) rfl rfl (fun w' e' => y_nil rfl) ?_
                refine m_y (v := .pointer (some ⟨b, 0 + 2, none⟩)) 7 rfl (by kernel_rfl) rfl rfl (fun w' e' => y_fld (o := 0 + 0) T130.fld_30_2_2 rfl) ?_
                refine m_y (v := .slice afy nfy cfy) 8 rfl (by kernel_rfl) rfl rfl (fun w' e' => y_load T130.one_24 rfl (((B0_108.s 4 rfl).ext0 e').cell (j := 2) rfl)) ?_
                refine m_y (v := .int .i64 (atI wd hi px py)) 9 rfl (by kernel_rfl) rfl rfl (fun w' e' => y_move rfl) ?_
                refine m_y (v := .pointer (some (sat afy ((atI wd hi px py).toNat * 1)))) 10 rfl (by kernel_rfl) rfl rfl (fun w' e' => y_idx T130.sl_24_34_1 rfl rfl ((B.o 1 rfl).rd.addr (by omega)) (by omega) (by omega)) ?_
                obtain ⟨r111, hr112, hR110⟩ := Rd.atF (B0_108.o 1 rfl).rd (atI wd hi px py) (by omega) (by omega)
                refine m_y (v := .float .f32 r111) 11 rfl (by kernel_rfl) rfl rfl (fun w' e' => y_load T130.one_34 rfl ((hR110.ext0 e').cell (i := 0) rfl)) ?_
                refine m_y (v := .pointer (some ⟨b, 0, none⟩)) 12 rfl (by kernel_rfl) rfl rfl (fun w' e' => y_move rfl) ?_
                refine m_y (v := .pointer (some ⟨b, 0, none⟩)) 13 rfl (by kernel_rfl) rfl rfl (fun w' e' => y_nil rfl) ?_
                refine m_y (v := .pointer (some ⟨b, 0, none⟩)) 14 rfl (by kernel_rfl) rfl rfl (fun w' e' => y_fld (o := 0 + 0) T130.fld_30_0_0 rfl) ?_
                refine m_y (v := .slice afe nfe cfe) 15 rfl (by kernel_rfl) rfl rfl (fun w' e' => y_load T130.one_24 rfl (((B0_108.s 4 rfl).ext0 e').cell (j := 0) rfl)) ?_
                refine m_y (v := .agg #[.int .i64 wd, .int .i64 hi, .bool false, .slice asp nsp csp, .slice als nls cls]) 16 rfl (by kernel_rfl) rfl rfl (fun w' e' => y_loadn (b := b1) (o := 0) (vs := [.int .i64 wd, .int .i64 hi, .bool false, .slice asp nsp csp, .slice als nls cls]) T130.agg_26_5 rfl rfl (((B0_108.b 2 rfl).ext0 e').cells (o := 0) rfl)) ?_
                refine m_y (v := .int .i64 px) 17 rfl (by kernel_rfl) rfl rfl (fun w' e' => y_move rfl) ?_
                refine m_y (v := .int .i64 (px + 1)) 18 rfl (by kernel_rfl) rfl rfl (fun w' e' => y_add rfl rfl rfl (by omega)) ?_
                refine m_y (v := .int .i64 py) 19 rfl (by kernel_rfl) rfl rfl (fun w' e' => y_move rfl) ?_
                refine m_y (v := .pointer (some ⟨b, 0, none⟩)) 23 rfl (by kernel_rfl) rfl rfl (fun w' e' => y_move rfl) ?_
                refine m_y (v := .pointer (some ⟨b, 0, none⟩)) 24 rfl (by kernel_rfl) rfl rfl (fun w' e' => y_nil rfl) ?_
                refine m_y (v := .pointer (some ⟨b, 0, none⟩)) 25 rfl (by kernel_rfl) rfl rfl (fun w' e' => y_fld (o := 0 + 0) T130.fld_30_0_0 rfl) ?_
                refine m_y (v := .slice afe nfe cfe) 26 rfl (by kernel_rfl) rfl rfl (fun w' e' => y_load T130.one_24 rfl (((B0_108.s 4 rfl).ext0 e').cell (j := 0) rfl)) ?_
                refine m_y (v := .int .i64 (atI wd hi px py)) 27 rfl (by kernel_rfl) rfl rfl (fun w' e' => y_move rfl) ?_
                refine m_y (v := .pointer (some (sat afe ((atI wd hi px py).toNat * 1)))) 28 rfl (by kernel_rfl) rfl rfl (fun w' e' => y_idx T130.sl_24_34_1 rfl rfl ((B.r 3 rfl).addr (by omega)) (by omega) (by omega)) ?_
                obtain ⟨r114, hr115, hR113⟩ := Rd.atF (B0_108.r 3 rfl) (atI wd hi px py) (by omega) (by omega)
                refine m_y (v := .float .f32 r114) 29 rfl (by kernel_rfl) rfl rfl (fun w' e' => y_load T130.one_34 rfl ((hR113.ext0 e').cell (i := 0) rfl)) ?_
                refine m_k 20 [21, 22, 30, 31, 32, 33, 34] rfl (by kernel_rfl) rfl rfl (fun w116 e117 => ?_)
                replace R109 := R109.trans (Ext0.any e117)
                replace B := B.ext0 e117
                clear e117
                refine k_call T130.fn_69 (c_i_at (by omega) (by omega) (by omega) (by omega) (by omega) (by omega) (by omega) (by omega)) rfl ?_
                rintro _ w118 ⟨rfl, e119⟩
                replace R109 := R109.trans (Ext0.any e119)
                replace B := B.ext0 e119
                clear e119
                refine ⟨fun _ => R109, ?_⟩
                have hat120 := atI_b (wd := wd) (hi := hi) (x := px + 1) (y := py) (by omega) (by omega)
                refine m_y (v := .pointer (some (sat afe ((atI wd hi (px + 1) py).toNat * 1)))) 21 rfl (by kernel_rfl) rfl rfl (fun w' e' => y_idx T130.sl_24_34_1 rfl rfl ((B.r 3 rfl).addr (by omega)) (by omega) (by omega)) ?_
                obtain ⟨r122, hr123, hR121⟩ := Rd.atF (B0_108.r 3 rfl) (atI wd hi (px + 1) py) (by omega) (by omega)
                refine m_y (v := .float .f32 r122) 22 rfl (by kernel_rfl) rfl rfl (fun w' e' => y_load T130.one_34 rfl ((hR121.ext0 e').cell (i := 0) rfl)) ?_
                refine m_n 30 [31, 32, 33, 34] rfl (by kernel_rfl) rfl rfl (fun w' e' => n_arith (by decide) rfl rfl) ?_
                rintro _ ⟨r125, rfl, hr126⟩
                have hc129 := fopC hr126 hr123 hr115
                refine m_n 31 [32, 33, 34] rfl (by kernel_rfl) rfl rfl (fun w' e' => n_arith (by decide) rfl rfl) ?_
                rintro _ ⟨r131, rfl, hr132⟩
                have hc135 := fopC hr132 (cnLit (k := .f32) (t := 1056964608) (by kernel_rfl) (by kernel_rfl)) hc129
                refine m_n 32 [33, 34] rfl (by kernel_rfl) rfl rfl (fun w' e' => n_arith (by decide) rfl rfl) ?_
                rintro _ ⟨r137, rfl, hr138⟩
                have hc141 := fopC hr138 hr112 hc135
                refine m_y (v := .pointer (some (sat afy ((atI wd hi px py).toNat * 1)))) 33 rfl (by kernel_rfl) rfl rfl (fun w' e' => y_idx T130.sl_24_34_1 rfl rfl ((B.o 1 rfl).rd.addr (by omega)) (by omega) (by omega)) ?_
                refine m_kt 34 [] rfl (by kernel_rfl) rfl rfl (by kernel_rfl) (fun w144 e145 => ?_)
                replace R109 := R109.trans (Ext0.any e145)
                replace B := B.ext0 e145
                clear e145
                refine k_stO (k := kF) (i := atI wd hi px py) (j := 0) (x' := fop .add .f32 (el (mix (wd * hi) (wd * py + px) (fun i => hyF wd hi false Xfe Xfy (i % wd) (i / wd)) Xfy) (atI wd hi px py)) (fop .mul .f32 1056964608 (fop .sub .f32 (el Xfe (atI wd hi (px + 1) py)) (el Xfe (atI wd hi px py))))) (new := [.float .f32 r137]) T130.sz_34_1 rfl rfl rfl rfl rfl (by simp [Value.oneCell']) (by decide) (B.o 1 rfl) (by omega) (by omega) (by decide) (by rintro q ⟨_, rfl, _⟩; exact ⟨_, rfl, hc141⟩) (fun w142 hU143 => ?_)
                clear R109
                replace B : Bu w (hasW [.ow kF afx nfx cfx 34 Xfx, .ow kF afy nfy cfy 34 Xfy]) w142 [.ow kF afy nfy cfy 34 (put (mix (wd * hi) (wd * py + px) (fun i => hyF wd hi false Xfe Xfy (i % wd) (i / wd)) Xfy) (atI wd hi px py) (fop .add .f32 (el (mix (wd * hi) (wd * py + px) (fun i => hyF wd hi false Xfe Xfy (i % wd) (i / wd)) Xfy) (atI wd hi px py)) (fop .mul .f32 1056964608 (fop .sub .f32 (el Xfe (atI wd hi (px + 1) py)) (el Xfe (atI wd hi px py)))))), .ow kF afx nfx cfx 34 (mix (wd * hi) (wd * py + px) (fun i => hxF wd hi false Xfe Xfx (i % wd) (i / wd)) Xfx), .blk b1 [.int .i64 wd, .int .i64 hi, .bool false, .slice asp nsp csp, .slice als nls cls] 26, .rd kF afe nfe Xfe, .sl (some ⟨b, 0, none⟩) [.slice afe nfe cfe, .slice afx nfx cfx, .slice afy nfy cfy]] := B.upd [1] rfl hU143
                clear hU143
                refine m_done (by kernel_rfl) (fun w146 e147 => ?_)
                replace B := B.ext0 e147
                clear e147
                clear B0_108
                refine W_region (by kernel_rfl) ?_
                refine s_y (v := .int .i64 (px + 1)) rfl (y_add rfl rfl rfl (by omega)) ?_
                refine s_y (v := .int .i64 (px + 1)) rfl (y_move rfl) ?_
                refine s_nil ?_
                have hcx : (false || decide (py < hi - 1)) = false := by simp only [(decide_eq_true c6), (decide_eq_true c9), (decide_eq_false c13), (decide_eq_true c103), Bool.and_true, Bool.true_and, Bool.and_false, Bool.false_and, Bool.not_true, Bool.not_false, Bool.or_true, Bool.true_or, Bool.or_false, Bool.false_or]
                replace B : Bu w (hasW [.ow kF afx nfx cfx 34 Xfx, .ow kF afy nfy cfy 34 Xfy]) w146 [.ow kF afy nfy cfy 34 (put (mix (wd * hi) (wd * py + px) (fun i => hyF wd hi false Xfe Xfy (i % wd) (i / wd)) Xfy) (atI wd hi px py) (fop .add .f32 (el (mix (wd * hi) (wd * py + px) (fun i => hyF wd hi false Xfe Xfy (i % wd) (i / wd)) Xfy) (atI wd hi px py)) (fop .mul .f32 1056964608 (fop .sub .f32 (el Xfe (atI wd hi (px + 1) py)) (el Xfe (atI wd hi px py)))))), .ow kF afx nfx cfx 34 (mix (wd * hi) (wd * py + (px + 1)) (fun i => hxF wd hi false Xfe Xfx (i % wd) (i / wd)) Xfx), .blk b1 [.int .i64 wd, .int .i64 hi, .bool false, .slice asp nsp csp, .slice als nls cls] 26, .rd kF afe nfe Xfe, .sl (some ⟨b, 0, none⟩) [.slice afe nfe cfe, .slice afx nfx cfx, .slice afy nfy cfy]] := B.castX 1 rfl rfl (mix_same (G := hxF wd hi false Xfe Xfx) (by omega) (by omega) (by omega) (by omega) (hx_no hcx))
                have hcy : (false || decide (px < wd - 1)) = true := by simp only [(decide_eq_true c6), (decide_eq_true c9), (decide_eq_false c13), (decide_eq_true c103), Bool.and_true, Bool.true_and, Bool.and_false, Bool.false_and, Bool.not_true, Bool.not_false, Bool.or_true, Bool.true_or, Bool.or_false, Bool.false_or]
                replace B : Bu w (hasW [.ow kF afx nfx cfx 34 Xfx, .ow kF afy nfy cfy 34 Xfy]) w146 [.ow kF afy nfy cfy 34 (mix (wd * hi) (wd * py + (px + 1)) (fun i => hyF wd hi false Xfe Xfy (i % wd) (i / wd)) Xfy), .ow kF afx nfx cfx 34 (mix (wd * hi) (wd * py + (px + 1)) (fun i => hxF wd hi false Xfe Xfx (i % wd) (i / wd)) Xfx), .blk b1 [.int .i64 wd, .int .i64 hi, .bool false, .slice asp nsp csp, .slice als nls cls] 26, .rd kF afe nfe Xfe, .sl (some ⟨b, 0, none⟩) [.slice afe nfe cfe, .slice afx nfx cfx, .slice afy nfy cfy]] := B.castX 0 rfl rfl (mix_cell (G := hyF wd hi false Xfe Xfy) rfl (by omega) (by omega) (by omega) (by omega) rfl (hy_yes rfl (by omega) (by omega) (by omega) (by omega) hcy))
                refine ⟨⟨_, px + 1, Fits.eq ⟨rfl, rfl, rfl, rfl, rfl, rfl, rfl, rfl, rfl, rfl, trivial⟩, (B.pick [1, 0, 2, 3, 4] rfl rfl), (by omega), (by omega)⟩, ?_⟩
                show (wd - (px + 1)).toNat < (wd - px).toNat
                omega
              · refine s_y (v := .bool false) rfl (y_lss rfl rfl (decide_eq_false c103)) ?_
                refine s_y (v := .bool false) rfl (y_pick_f rfl rfl) ?_
                refine s_nil ?_
                refine W_if_f (by decide) rfl ?_
                refine W_skip ?_
                refine W_region (by kernel_rfl) ?_
                refine s_y (v := .int .i64 (px + 1)) rfl (y_add rfl rfl rfl (by omega)) ?_
                refine s_y (v := .int .i64 (px + 1)) rfl (y_move rfl) ?_
                refine s_nil ?_
                have hcx : (false || decide (py < hi - 1)) = false := by simp only [(decide_eq_true c6), (decide_eq_true c9), (decide_eq_false c13), (decide_eq_false c103), Bool.and_true, Bool.true_and, Bool.and_false, Bool.false_and, Bool.not_true, Bool.not_false, Bool.or_true, Bool.true_or, Bool.or_false, Bool.false_or]
                replace B : Bu w (hasW [.ow kF afx nfx cfx 34 Xfx, .ow kF afy nfy cfy 34 Xfy]) w10 [.ow kF afx nfx cfx 34 (mix (wd * hi) (wd * py + (px + 1)) (fun i => hxF wd hi false Xfe Xfx (i % wd) (i / wd)) Xfx), .ow kF afy nfy cfy 34 (mix (wd * hi) (wd * py + px) (fun i => hyF wd hi false Xfe Xfy (i % wd) (i / wd)) Xfy), .blk b1 [.int .i64 wd, .int .i64 hi, .bool false, .slice asp nsp csp, .slice als nls cls] 26, .rd kF afe nfe Xfe, .sl (some ⟨b, 0, none⟩) [.slice afe nfe cfe, .slice afx nfx cfx, .slice afy nfy cfy]] := B.castX 0 rfl rfl (mix_same (G := hxF wd hi false Xfe Xfx) (by omega) (by omega) (by omega) (by omega) (hx_no hcx))
                have hcy : (false || decide (px < wd - 1)) = false := by simp only [(decide_eq_true c6), (decide_eq_true c9), (decide_eq_false c13), (decide_eq_false c103), Bool.and_true, Bool.true_and, Bool.and_false, Bool.false_and, Bool.not_true, Bool.not_false, Bool.or_true, Bool.true_or, Bool.or_false, Bool.false_or]
                replace B : Bu w (hasW [.ow kF afx nfx cfx 34 Xfx, .ow kF afy nfy cfy 34 Xfy]) w10 [.ow kF afx nfx cfx 34 (mix (wd * hi) (wd * py + (px + 1)) (fun i => hxF wd hi false Xfe Xfx (i % wd) (i / wd)) Xfx), .ow kF afy nfy cfy 34 (mix (wd * hi) (wd * py + (px + 1)) (fun i => hyF wd hi false Xfe Xfy (i % wd) (i / wd)) Xfy), .blk b1 [.int .i64 wd, .int .i64 hi, .bool false, .slice asp nsp csp, .slice als nls cls] 26, .rd kF afe nfe Xfe, .sl (some ⟨b, 0, none⟩) [.slice afe nfe cfe, .slice afx nfx cfx, .slice afy nfy cfy]] := B.castX 1 rfl rfl (mix_same (G := hyF wd hi false Xfe Xfy) (by omega) (by omega) (by omega) (by omega) (hy_no hcy))
                refine ⟨⟨_, px + 1, Fits.eq ⟨rfl, rfl, rfl, rfl, rfl, rfl, rfl, rfl, rfl, rfl, trivial⟩, B, (by omega), (by omega)⟩, ?_⟩
                show (wd - (px + 1)).toNat < (wd - px).toNat
                omega
          · refine s_skip rfl ?_
            refine s_skip rfl ?_
            refine s_skip rfl ?_
            refine s_skip rfl ?_
            refine s_skip rfl ?_
            refine s_y (v := .bool true) rfl (y_pick_t rfl rfl) ?_
            refine s_nil ?_
            refine W_if_t (by decide) rfl ?_
            have B0_152 := B
            refine W_draw (no) T130.mx (by kernel_rfl) (fun w150 e151 => ?_)
            have R153 := Ext.refl (no) w10
            replace R153 := R153.trans (Ext0.any e151)
            replace B := B.ext0 e151
            clear e151
            refine m_y (v := .pointer (some ⟨b, 0, none⟩)) 0 rfl (by kernel_rfl) rfl rfl (fun w' e' => y_move rfl) ?_
            refine m_y (v := .pointer (some ⟨b, 0, none⟩)) 1 rfl (by kernel_rfl) rfl rfl (fun w' e' => y_nil rfl) ?_
            refine m_y (v := .pointer (some ⟨b, 0 + 1, none⟩)) 2 rfl (by kernel_rfl) rfl rfl (fun w' e' => y_fld (o := 0 + 0) T130.fld_30_1_1 rfl) ?_
            refine m_y (v := .slice afx nfx cfx) 3 rfl (by kernel_rfl) rfl rfl (fun w' e' => y_load T130.one_24 rfl (((B0_152.s 4 rfl).ext0 e').cell (j := 1) rfl)) ?_
            refine m_y (v := .int .i64 (atI wd hi px py)) 4 rfl (by kernel_rfl) rfl rfl (fun w' e' => y_move rfl) ?_
            refine m_y (v := .pointer (some ⟨b, 0, none⟩)) 5 rfl (by kernel_rfl) rfl rfl (fun w' e' => y_move rfl) ?_
            refine m_y (v := .pointer (some ⟨b, 0, none⟩)) 6 rfl (by kernel_rfl) rfl rfl (fun w' e' => y_nil rfl) ?_
            refine m_y (v := .pointer (some ⟨b, 0 + 1, none⟩)) 7 rfl (by kernel_rfl) rfl rfl (fun w' e' => y_fld (o := 0 + 0) T130.fld_30_1_1 rfl) ?_
            refine m_y (v := .slice afx nfx cfx) 8 rfl (by kernel_rfl) rfl rfl (fun w' e' => y_load T130.one_24 rfl (((B0_152.s 4 rfl).ext0 e').cell (j := 1) rfl)) ?_
            refine m_y (v := .int .i64 (atI wd hi px py)) 9 rfl (by kernel_rfl) rfl rfl (fun w' e' => y_move rfl) ?_
            refine m_y (v := .pointer (some (sat afx ((atI wd hi px py).toNat * 1)))) 10 rfl (by kernel_rfl) rfl rfl (fun w' e' => y_idx T130.sl_24_34_1 rfl rfl ((B.o 0 rfl).rd.addr (by omega)) (by omega) (by omega)) ?_
            obtain ⟨r155, hr156, hR154⟩ := Rd.atF (B0_152.o 0 rfl).rd (atI wd hi px py) (by omega) (by omega)
            refine m_y (v := .float .f32 r155) 11 rfl (by kernel_rfl) rfl rfl (fun w' e' => y_load T130.one_34 rfl ((hR154.ext0 e').cell (i := 0) rfl)) ?_
            refine m_y (v := .pointer (some ⟨b, 0, none⟩)) 12 rfl (by kernel_rfl) rfl rfl (fun w' e' => y_move rfl) ?_
            refine m_y (v := .pointer (some ⟨b, 0, none⟩)) 13 rfl (by kernel_rfl) rfl rfl (fun w' e' => y_nil rfl) ?_
            refine m_y (v := .pointer (some ⟨b, 0, none⟩)) 14 rfl (by kernel_rfl) rfl rfl (fun w' e' => y_fld (o := 0 + 0) T130.fld_30_0_0 rfl) ?_
            refine m_y (v := .slice afe nfe cfe) 15 rfl (by kernel_rfl) rfl rfl (fun w' e' => y_load T130.one_24 rfl (((B0_152.s 4 rfl).ext0 e').cell (j := 0) rfl)) ?_
            refine m_y (v := .agg #[.int .i64 wd, .int .i64 hi, .bool true, .slice asp nsp csp, .slice als nls cls]) 16 rfl (by kernel_rfl) rfl rfl (fun w' e' => y_loadn (b := b1) (o := 0) (vs := [.int .i64 wd, .int .i64 hi, .bool true, .slice asp nsp csp, .slice als nls cls]) T130.agg_26_5 rfl rfl (((B0_152.b 2 rfl).ext0 e').cells (o := 0) rfl)) ?_
            refine m_y (v := .int .i64 px) 17 rfl (by kernel_rfl) rfl rfl (fun w' e' => y_move rfl) ?_
            refine m_y (v := .int .i64 py) 18 rfl (by kernel_rfl) rfl rfl (fun w' e' => y_move rfl) ?_
            refine m_y (v := .int .i64 (py + 1)) 19 rfl (by kernel_rfl) rfl rfl (fun w' e' => y_add rfl rfl rfl (by omega)) ?_
            refine m_y (v := .pointer (some ⟨b, 0, none⟩)) 23 rfl (by kernel_rfl) rfl rfl (fun w' e' => y_move rfl) ?_
            refine m_y (v := .pointer (some ⟨b, 0, none⟩)) 24 rfl (by kernel_rfl) rfl rfl (fun w' e' => y_nil rfl) ?_
            refine m_y (v := .pointer (some ⟨b, 0, none⟩)) 25 rfl (by kernel_rfl) rfl rfl (fun w' e' => y_fld (o := 0 + 0) T130.fld_30_0_0 rfl) ?_
            refine m_y (v := .slice afe nfe cfe) 26 rfl (by kernel_rfl) rfl rfl (fun w' e' => y_load T130.one_24 rfl (((B0_152.s 4 rfl).ext0 e').cell (j := 0) rfl)) ?_
            refine m_y (v := .int .i64 (atI wd hi px py)) 27 rfl (by kernel_rfl) rfl rfl (fun w' e' => y_move rfl) ?_
            refine m_y (v := .pointer (some (sat afe ((atI wd hi px py).toNat * 1)))) 28 rfl (by kernel_rfl) rfl rfl (fun w' e' => y_idx T130.sl_24_34_1 rfl rfl ((B.r 3 rfl).addr (by omega)) (by omega) (by omega)) ?_
            obtain ⟨r158, hr159, hR157⟩ := Rd.atF (B0_152.r 3 rfl) (atI wd hi px py) (by omega) (by omega)
            refine m_y (v := .float .f32 r158) 29 rfl (by kernel_rfl) rfl rfl (fun w' e' => y_load T130.one_34 rfl ((hR157.ext0 e').cell (i := 0) rfl)) ?_
            refine m_k 20 [21, 22, 30, 31, 32, 33, 34] rfl (by kernel_rfl) rfl rfl (fun w160 e161 => ?_)
            replace R153 := R153.trans (Ext0.any e161)
            replace B := B.ext0 e161
            clear e161
            refine k_call T130.fn_69 (c_i_at (by omega) (by omega) (by omega) (by omega) (by omega) (by omega) (by omega) (by omega)) rfl ?_
            rintro _ w162 ⟨rfl, e163⟩
            replace R153 := R153.trans (Ext0.any e163)
            replace B := B.ext0 e163
            clear e163
            refine ⟨fun _ => R153, ?_⟩
            have hat164 := atI_b (wd := wd) (hi := hi) (x := px) (y := py + 1) (by omega) (by omega)
            refine m_y (v := .pointer (some (sat afe ((atI wd hi px (py + 1)).toNat * 1)))) 21 rfl (by kernel_rfl) rfl rfl (fun w' e' => y_idx T130.sl_24_34_1 rfl rfl ((B.r 3 rfl).addr (by omega)) (by omega) (by omega)) ?_
            obtain ⟨r166, hr167, hR165⟩ := Rd.atF (B0_152.r 3 rfl) (atI wd hi px (py + 1)) (by omega) (by omega)
            refine m_y (v := .float .f32 r166) 22 rfl (by kernel_rfl) rfl rfl (fun w' e' => y_load T130.one_34 rfl ((hR165.ext0 e').cell (i := 0) rfl)) ?_
            refine m_n 30 [31, 32, 33, 34] rfl (by kernel_rfl) rfl rfl (fun w' e' => n_arith (by decide) rfl rfl) ?_
            rintro _ ⟨r169, rfl, hr170⟩
            have hc173 := fopC hr170 hr167 hr159
            refine m_n 31 [32, 33, 34] rfl (by kernel_rfl) rfl rfl (fun w' e' => n_arith (by decide) rfl rfl) ?_
            rintro _ ⟨r175, rfl, hr176⟩
            have hc179 := fopC hr176 (cnLit (k := .f32) (t := 1056964608) (by kernel_rfl) (by kernel_rfl)) hc173
            refine m_n 32 [33, 34] rfl (by kernel_rfl) rfl rfl (fun w' e' => n_arith (by decide) rfl rfl) ?_
            rintro _ ⟨r181, rfl, hr182⟩
            have hc185 := fopC hr182 hr156 hc179
            refine m_y (v := .pointer (some (sat afx ((atI wd hi px py).toNat * 1)))) 33 rfl (by kernel_rfl) rfl rfl (fun w' e' => y_idx T130.sl_24_34_1 rfl rfl ((B.o 0 rfl).rd.addr (by omega)) (by omega) (by omega)) ?_
            refine m_kt 34 [] rfl (by kernel_rfl) rfl rfl (by kernel_rfl) (fun w188 e189 => ?_)
            replace R153 := R153.trans (Ext0.any e189)
            replace B := B.ext0 e189
            clear e189
            refine k_stO (k := kF) (i := atI wd hi px py) (j := 0) (x' := fop .sub .f32 (el (mix (wd * hi) (wd * py + px) (fun i => hxF wd hi true Xfe Xfx (i % wd) (i / wd)) Xfx) (atI wd hi px py)) (fop .mul .f32 1056964608 (fop .sub .f32 (el Xfe (atI wd hi px (py + 1))) (el Xfe (atI wd hi px py))))) (new := [.float .f32 r181]) T130.sz_34_1 rfl rfl rfl rfl rfl (by simp [Value.oneCell']) (by decide) (B.o 0 rfl) (by omega) (by omega) (by decide) (by rintro q ⟨_, rfl, _⟩; exact ⟨_, rfl, hc185⟩) (fun w186 hU187 => ?_)
            clear R153
            replace B : Bu w (hasW [.ow kF afx nfx cfx 34 Xfx, .ow kF afy nfy cfy 34 Xfy]) w186 [.ow kF afx nfx cfx 34 (put (mix (wd * hi) (wd * py + px) (fun i => hxF wd hi true Xfe Xfx (i % wd) (i / wd)) Xfx) (atI wd hi px py) (fop .sub .f32 (el (mix (wd * hi) (wd * py + px) (fun i => hxF wd hi true Xfe Xfx (i % wd) (i / wd)) Xfx) (atI wd hi px py)) (fop .mul .f32 1056964608 (fop .sub .f32 (el Xfe (atI wd hi px (py + 1))) (el Xfe (atI wd hi px py)))))), .ow kF afy nfy cfy 34 (mix (wd * hi) (wd * py + px) (fun i => hyF wd hi true Xfe Xfy (i % wd) (i / wd)) Xfy), .blk b1 [.int .i64 wd, .int .i64 hi, .bool true, .slice asp nsp csp, .slice als nls cls] 26, .rd kF afe nfe Xfe, .sl (some ⟨b, 0, none⟩) [.slice afe nfe cfe, .slice afx nfx cfx, .slice afy nfy cfy]] := B.upd [0] rfl hU187
            clear hU187
            refine m_done (by kernel_rfl) (fun w190 e191 => ?_)
            replace B := B.ext0 e191
            clear e191
            clear B0_152
            refine W_seq ?_
            refine W_region (by kernel_rfl) ?_
            refine s_y (v := .pointer (some ⟨b1, 2, none⟩)) rfl (y_fld (o := 0) T130.fld_26_2_2 rfl) ?_
            refine s_y (v := .bool true) rfl (y_load T130.one_4 rfl ((B.b 2 rfl).cell (j := 2) rfl)) ?_
            refine s_y (v := .bool true) rfl (y_move rfl) ?_
            refine s_skip rfl ?_
            refine s_skip rfl ?_
            refine s_skip rfl ?_
            refine s_skip rfl ?_
            refine s_skip rfl ?_
            refine s_y (v := .bool true) rfl (y_pick_t rfl rfl) ?_
            refine s_nil ?_
            refine W_if_t (by decide) rfl ?_
            have B0_196 := B
            refine W_draw (no) T130.mx (by kernel_rfl) (fun w194 e195 => ?_)
            have R197 := Ext.refl (no) w190
            replace R197 := R197.trans (Ext0.any e195)
            replace B := B.ext0 e195
            clear e195
            refine m_y (v := .pointer (some ⟨b, 0, none⟩)) 0 rfl (by kernel_rfl) rfl rfl (fun w' e' => y_move rfl) ?_
            refine m_y (v := .pointer (some ⟨b, 0, none⟩)) 1 rfl (by kernel_rfl) rfl rfl (fun w' e' => y_nil rfl) ?_
            refine m_y (v := .pointer (some ⟨b, 0 + 2, none⟩)) 2 rfl (by kernel_rfl) rfl rfl (fun w' e' => y_fld (o := 0 + 0) T130.fld_30_2_2 rfl) ?_
            refine m_y (v := .slice afy nfy cfy) 3 rfl (by kernel_rfl) rfl rfl (fun w' e' => y_load T130.one_24 rfl (((B0_196.s 4 rfl).ext0 e').cell (j := 2) rfl)) ?_
            refine m_y (v := .int .i64 (atI wd hi px py)) 4 rfl (by kernel_rfl) rfl rfl (fun w' e' => y_move rfl) ?_
            refine m_y (v := .pointer (some ⟨b, 0, none⟩)) 5 rfl (by kernel_rfl) rfl rfl (fun w' e' => y_move rfl) ?_
            refine m_y (v := .pointer (some ⟨b, 0, none⟩)) 6 rfl (by kernel_rfl) rfl rfl (fun w' e' => y_nil rfl) ?_
            refine m_y (v := .pointer (some ⟨b, 0 + 2, none⟩)) 7 rfl (by kernel_rfl) rfl rfl (fun w' e' => y_fld (o := 0 + 0) T130.fld_30_2_2 rfl) ?_
            refine m_y (v := .slice afy nfy cfy) 8 rfl (by kernel_rfl) rfl rfl (fun w' e' => y_load T130.one_24 rfl (((B0_196.s 4 rfl).ext0 e').cell (j := 2) rfl)) ?_
            refine m_y (v := .int .i64 (atI wd hi px py)) 9 rfl (by kernel_rfl) rfl rfl (fun w' e' => y_move rfl) ?_
            refine m_y (v := .pointer (some (sat afy ((atI wd hi px py).toNat * 1)))) 10 rfl (by kernel_rfl) rfl rfl (fun w' e' => y_idx T130.sl_24_34_1 rfl rfl ((B.o 1 rfl).rd.addr (by omega)) (by omega) (by omega)) ?_
            obtain ⟨r199, hr200, hR198⟩ := Rd.atF (B0_196.o 1 rfl).rd (atI wd hi px py) (by omega) (by omega)
            refine m_y (v := .float .f32 r199) 11 rfl (by kernel_rfl) rfl rfl (fun w' e' => y_load T130.one_34 rfl ((hR198.ext0 e').cell (i := 0) rfl)) ?_
            refine m_y (v := .pointer (some ⟨b, 0, none⟩)) 12 rfl (by kernel_rfl) rfl rfl (fun w' e' => y_move rfl) ?_
            refine m_y (v := .pointer (some ⟨b, 0, none⟩)) 13 rfl (by kernel_rfl) rfl rfl (fun w' e' => y_nil rfl) ?_
            refine m_y (v := .pointer (some ⟨b, 0, none⟩)) 14 rfl (by kernel_rfl) rfl rfl (fun w' e' => y_fld (o := 0 + 0) T130.fld_30_0_0 rfl) ?_
            refine m_y (v := .slice afe nfe cfe) 15 rfl (by kernel_rfl) rfl rfl (fun w' e' => y_load T130.one_24 rfl (((B0_196.s 4 rfl).ext0 e').cell (j := 0) rfl)) ?_
            refine m_y (v := .agg #[.int .i64 wd, .int .i64 hi, .bool true, .slice asp nsp csp, .slice als nls cls]) 16 rfl (by kernel_rfl) rfl rfl (fun w' e' => y_loadn (b := b1) (o := 0) (vs := [.int .i64 wd, .int .i64 hi, .bool true, .slice asp nsp csp, .slice als nls cls]) T130.agg_26_5 rfl rfl (((B0_196.b 2 rfl).ext0 e').cells (o := 0) rfl)) ?_
            refine m_y (v := .int .i64 px) 17 rfl (by kernel_rfl) rfl rfl (fun w' e' => y_move rfl) ?_
            refine m_y (v := .int .i64 (px + 1)) 18 rfl (by kernel_rfl) rfl rfl (fun w' e' => y_add rfl rfl rfl (by omega)) ?_
            refine m_y (v := .int .i64 py) 19 rfl (by kernel_rfl) rfl rfl (fun w' e' => y_move rfl) ?_
            refine m_y (v := .pointer (some ⟨b, 0, none⟩)) 23 rfl (by kernel_rfl) rfl rfl (fun w' e' => y_move rfl) ?_
            refine m_y (v := .pointer (some ⟨b, 0, none⟩)) 24 rfl (by kernel_rfl) rfl rfl (fun w' e' => y_nil rfl) ?_
            refine m_y (v := .pointer (some ⟨b, 0, none⟩)) 25 rfl (by kernel_rfl) rfl rfl (fun w' e' => y_fld (o := 0 + 0) T130.fld_30_0_0 rfl) ?_
            refine m_y (v := .slice afe nfe cfe) 26 rfl (by kernel_rfl) rfl rfl (fun w' e' => y_load T130.one_24 rfl (((B0_196.s 4 rfl).ext0 e').cell (j := 0) rfl)) ?_
            refine m_y (v := .int .i64 (atI wd hi px py)) 27 rfl (by kernel_rfl) rfl rfl (fun w' e' => y_move rfl) ?_
            refine m_y (v := .pointer (some (sat afe ((atI wd hi px py).toNat * 1)))) 28 rfl (by kernel_rfl) rfl rfl (fun w' e' => y_idx T130.sl_24_34_1 rfl rfl ((B.r 3 rfl).addr (by omega)) (by omega) (by omega)) ?_
            obtain ⟨r202, hr203, hR201⟩ := Rd.atF (B0_196.r 3 rfl) (atI wd hi px py) (by omega) (by omega)
            refine m_y (v := .float .f32 r202) 29 rfl (by kernel_rfl) rfl rfl (fun w' e' => y_load T130.one_34 rfl ((hR201.ext0 e').cell (i := 0) rfl)) ?_
            refine m_k 20 [21, 22, 30, 31, 32, 33, 34] rfl (by kernel_rfl) rfl rfl (fun w204 e205 => ?_)
            replace R197 := R197.trans (Ext0.any e205)
            replace B := B.ext0 e205
            clear e205
            refine k_call T130.fn_69 (c_i_at (by omega) (by omega) (by omega) (by omega) (by omega) (by omega) (by omega) (by omega)) rfl ?_
            rintro _ w206 ⟨rfl, e207⟩
            replace R197 := R197.trans (Ext0.any e207)
            replace B := B.ext0 e207
            clear e207
            refine ⟨fun _ => R197, ?_⟩
            have hat208 := atI_b (wd := wd) (hi := hi) (x := px + 1) (y := py) (by omega) (by omega)
            refine m_y (v := .pointer (some (sat afe ((atI wd hi (px + 1) py).toNat * 1)))) 21 rfl (by kernel_rfl) rfl rfl (fun w' e' => y_idx T130.sl_24_34_1 rfl rfl ((B.r 3 rfl).addr (by omega)) (by omega) (by omega)) ?_
            obtain ⟨r210, hr211, hR209⟩ := Rd.atF (B0_196.r 3 rfl) (atI wd hi (px + 1) py) (by omega) (by omega)
            refine m_y (v := .float .f32 r210) 22 rfl (by kernel_rfl) rfl rfl (fun w' e' => y_load T130.one_34 rfl ((hR209.ext0 e').cell (i := 0) rfl)) ?_
            refine m_n 30 [31, 32, 33, 34] rfl (by kernel_rfl) rfl rfl (fun w' e' => n_arith (by decide) rfl rfl) ?_
            rintro _ ⟨r213, rfl, hr214⟩
            have hc217 := fopC hr214 hr211 hr203
            refine m_n 31 [32, 33, 34] rfl (by kernel_rfl) rfl rfl (fun w' e' => n_arith (by decide) rfl rfl) ?_
            rintro _ ⟨r219, rfl, hr220⟩
            have hc223 := fopC hr220 (cnLit (k := .f32) (t := 1056964608) (by kernel_rfl) (by kernel_rfl)) hc217
            refine m_n 32 [33, 34] rfl (by kernel_rfl) rfl rfl (fun w' e' => n_arith (by decide) rfl rfl) ?_
            rintro _ ⟨r225, rfl, hr226⟩
            have hc229 := fopC hr226 hr200 hc223
            refine m_y (v := .pointer (some (sat afy ((atI wd hi px py).toNat * 1)))) 33 rfl (by kernel_rfl) rfl rfl (fun w' e' => y_idx T130.sl_24_34_1 rfl rfl ((B.o 1 rfl).rd.addr (by omega)) (by omega) (by omega)) ?_
            refine m_kt 34 [] rfl (by kernel_rfl) rfl rfl (by kernel_rfl) (fun w232 e233 => ?_)
            replace R197 := R197.trans (Ext0.any e233)
            replace B := B.ext0 e233
            clear e233
            refine k_stO (k := kF) (i := atI wd hi px py) (j := 0) (x' := fop .add .f32 (el (mix (wd * hi) (wd * py + px) (fun i => hyF wd hi true Xfe Xfy (i % wd) (i / wd)) Xfy) (atI wd hi px py)) (fop .mul .f32 1056964608 (fop .sub .f32 (el Xfe (atI wd hi (px + 1) py)) (el Xfe (atI wd hi px py))))) (new := [.float .f32 r225]) T130.sz_34_1 rfl rfl rfl rfl rfl (by simp [Value.oneCell']) (by decide) (B.o 1 rfl) (by omega) (by omega) (by decide) (by rintro q ⟨_, rfl, _⟩; exact ⟨_, rfl, hc229⟩) (fun w230 hU231 => ?_)
            clear R197
            replace B : Bu w (hasW [.ow kF afx nfx cfx 34 Xfx, .ow kF afy nfy cfy 34 Xfy]) w230 [.ow kF afy nfy cfy 34 (put (mix (wd * hi) (wd * py + px) (fun i => hyF wd hi true Xfe Xfy (i % wd) (i / wd)) Xfy) (atI wd hi px py) (fop .add .f32 (el (mix (wd * hi) (wd * py + px) (fun i => hyF wd hi true Xfe Xfy (i % wd) (i / wd)) Xfy) (atI wd hi px py)) (fop .mul .f32 1056964608 (fop .sub .f32 (el Xfe (atI wd hi (px + 1) py)) (el Xfe (atI wd hi px py)))))), .ow kF afx nfx cfx 34 (put (mix (wd * hi) (wd * py + px) (fun i => hxF wd hi true Xfe Xfx (i % wd) (i / wd)) Xfx) (atI wd hi px py) (fop .sub .f32 (el (mix (wd * hi) (wd * py + px) (fun i => hxF wd hi true Xfe Xfx (i % wd) (i / wd)) Xfx) (atI wd hi px py)) (fop .mul .f32 1056964608 (fop .sub .f32 (el Xfe (atI wd hi px (py + 1))) (el Xfe (atI wd hi px py)))))), .blk b1 [.int .i64 wd, .int .i64 hi, .bool true, .slice asp nsp csp, .slice als nls cls] 26, .rd kF afe nfe Xfe, .sl (some ⟨b, 0, none⟩) [.slice afe nfe cfe, .slice afx nfx cfx, .slice afy nfy cfy]] := B.upd [1] rfl hU231
            clear hU231
            refine m_done (by kernel_rfl) (fun w234 e235 => ?_)
            replace B := B.ext0 e235
            clear e235
            clear B0_196
            refine W_region (by kernel_rfl) ?_
            refine s_y (v := .int .i64 (px + 1)) rfl (y_add rfl rfl rfl (by omega)) ?_
            refine s_y (v := .int .i64 (px + 1)) rfl (y_move rfl) ?_
            refine s_nil ?_
            have hcx : (true || decide (py < hi - 1)) = true := by simp only [(decide_eq_true c6), (decide_eq_true c9), Bool.and_true, Bool.true_and, Bool.and_false, Bool.false_and, Bool.not_true, Bool.not_false, Bool.or_true, Bool.true_or, Bool.or_false, Bool.false_or]
            replace B : Bu w (hasW [.ow kF afx nfx cfx 34 Xfx, .ow kF afy nfy cfy 34 Xfy]) w234 [.ow kF afy nfy cfy 34 (put (mix (wd * hi) (wd * py + px) (fun i => hyF wd hi true Xfe Xfy (i % wd) (i / wd)) Xfy) (atI wd hi px py) (fop .add .f32 (el (mix (wd * hi) (wd * py + px) (fun i => hyF wd hi true Xfe Xfy (i % wd) (i / wd)) Xfy) (atI wd hi px py)) (fop .mul .f32 1056964608 (fop .sub .f32 (el Xfe (atI wd hi (px + 1) py)) (el Xfe (atI wd hi px py)))))), .ow kF afx nfx cfx 34 (mix (wd * hi) (wd * py + (px + 1)) (fun i => hxF wd hi true Xfe Xfx (i % wd) (i / wd)) Xfx), .blk b1 [.int .i64 wd, .int .i64 hi, .bool true, .slice asp nsp csp, .slice als nls cls] 26, .rd kF afe nfe Xfe, .sl (some ⟨b, 0, none⟩) [.slice afe nfe cfe, .slice afx nfx cfx, .slice afy nfy cfy]] := B.castX 1 rfl rfl (mix_cell (G := hxF wd hi true Xfe Xfx) rfl (by omega) (by omega) (by omega) (by omega) rfl (hx_yes rfl (by omega) (by omega) (by omega) (by omega) hcx))
            have hcy : (true || decide (px < wd - 1)) = true := by simp only [(decide_eq_true c6), (decide_eq_true c9), Bool.and_true, Bool.true_and, Bool.and_false, Bool.false_and, Bool.not_true, Bool.not_false, Bool.or_true, Bool.true_or, Bool.or_false, Bool.false_or]
            replace B : Bu w (hasW [.ow kF afx nfx cfx 34 Xfx, .ow kF afy nfy cfy 34 Xfy]) w234 [.ow kF afy nfy cfy 34 (mix (wd * hi) (wd * py + (px + 1)) (fun i => hyF wd hi true Xfe Xfy (i % wd) (i / wd)) Xfy), .ow kF afx nfx cfx 34 (mix (wd * hi) (wd * py + (px + 1)) (fun i => hxF wd hi true Xfe Xfx (i % wd) (i / wd)) Xfx), .blk b1 [.int .i64 wd, .int .i64 hi, .bool true, .slice asp nsp csp, .slice als nls cls] 26, .rd kF afe nfe Xfe, .sl (some ⟨b, 0, none⟩) [.slice afe nfe cfe, .slice afx nfx cfx, .slice afy nfy cfy]] := B.castX 0 rfl rfl (mix_cell (G := hyF wd hi true Xfe Xfy) rfl (by omega) (by omega) (by omega) (by omega) rfl (hy_yes rfl (by omega) (by omega) (by omega) (by omega) hcy))
            refine ⟨⟨_, px + 1, Fits.eq ⟨rfl, rfl, rfl, rfl, rfl, rfl, rfl, rfl, rfl, rfl, trivial⟩, (B.pick [1, 0, 2, 3, 4] rfl rfl), (by omega), (by omega)⟩, ?_⟩
            show (wd - (px + 1)).toNat < (wd - px).toNat
            omega
        · refine s_y (v := .bool false) rfl (y_lss rfl rfl (decide_eq_false c9)) ?_
          refine s_nil ?_
          refine W_seq ?_
          refine W_if_f (by decide) rfl ?_
          refine W_exit ?_
          refine W_region (by kernel_rfl) ?_
          refine s_y (v := .int .i64 (py + 1)) rfl (y_add rfl rfl rfl (by omega)) ?_
          refine s_y (v := .int .i64 (py + 1)) rfl (y_move rfl) ?_
          refine s_nil ?_
          replace B : Bu w (hasW [.ow kF afx nfx cfx 34 Xfx, .ow kF afy nfy cfy 34 Xfy]) w7 [.ow kF afx nfx cfx 34 (mix (wd * hi) (wd * (py + 1)) (fun i => hxF wd hi wr Xfe Xfx (i % wd) (i / wd)) Xfx), .ow kF afy nfy cfy 34 (mix (wd * hi) (wd * py + px) (fun i => hyF wd hi wr Xfe Xfy (i % wd) (i / wd)) Xfy), .blk b1 [.int .i64 wd, .int .i64 hi, .bool wr, .slice asp nsp csp, .slice als nls cls] 26, .rd kF afe nfe Xfe, .sl (some ⟨b, 0, none⟩) [.slice afe nfe cfe, .slice afx nfx cfx, .slice afy nfy cfy]] := B.castX 0 rfl rfl (congrArg (fun q => mix (wd * hi) q (fun i => hxF wd hi wr Xfe Xfx (i % wd) (i / wd)) _) (show wd * py + px = wd * (py + 1) by rw [Int.mul_add, Int.mul_one]; omega))
          replace B : Bu w (hasW [.ow kF afx nfx cfx 34 Xfx, .ow kF afy nfy cfy 34 Xfy]) w7 [.ow kF afx nfx cfx 34 (mix (wd * hi) (wd * (py + 1)) (fun i => hxF wd hi wr Xfe Xfx (i % wd) (i / wd)) Xfx), .ow kF afy nfy cfy 34 (mix (wd * hi) (wd * (py + 1)) (fun i => hyF wd hi wr Xfe Xfy (i % wd) (i / wd)) Xfy), .blk b1 [.int .i64 wd, .int .i64 hi, .bool wr, .slice asp nsp csp, .slice als nls cls] 26, .rd kF afe nfe Xfe, .sl (some ⟨b, 0, none⟩) [.slice afe nfe cfe, .slice afx nfx cfx, .slice afy nfy cfy]] := B.castX 1 rfl rfl (congrArg (fun q => mix (wd * hi) q (fun i => hyF wd hi wr Xfe Xfy (i % wd) (i / wd)) _) (show wd * py + px = wd * (py + 1) by rw [Int.mul_add, Int.mul_one]; omega))
          refine ⟨⟨_, py + 1, Fits.eq ⟨rfl, rfl, rfl, rfl, trivial⟩, B, (by omega), (by omega)⟩, ?_⟩
          show (hi - (py + 1)).toNat < (hi - py).toNat
          omega
    · refine s_y (v := .bool false) rfl (y_lss rfl rfl (decide_eq_false c6)) ?_
      refine s_nil ?_
      refine W_seq ?_
      refine W_if_f (by decide) rfl ?_
      refine W_exit ?_
      have hye : py = hi := by omega
      subst hye
      replace B : Bu w (hasW [.ow kF afx nfx cfx 34 Xfx, .ow kF afy nfy cfy 34 Xfy]) w4 [.ow kF afx nfx cfx 34 (tab (wd * py) (fun i => hxF wd py wr Xfe Xfx (i % wd) (i / wd))), .ow kF afy nfy cfy 34 (mix (wd * py) (wd * py) (fun i => hyF wd py wr Xfe Xfy (i % wd) (i / wd)) Xfy), .blk b1 [.int .i64 wd, .int .i64 py, .bool wr, .slice asp nsp csp, .slice als nls cls] 26, .rd kF afe nfe Xfe, .sl (some ⟨b, 0, none⟩) [.slice afe nfe cfe, .slice afx nfx cfx, .slice afy nfy cfy]] := B.castX 0 rfl rfl mix_all
      replace B : Bu w (hasW [.ow kF afx nfx cfx 34 Xfx, .ow kF afy nfy cfy 34 Xfy]) w4 [.ow kF afx nfx cfx 34 (tab (wd * py) (fun i => hxF wd py wr Xfe Xfx (i % wd) (i / wd))), .ow kF afy nfy cfy 34 (tab (wd * py) (fun i => hyF wd py wr Xfe Xfy (i % wd) (i / wd))), .blk b1 [.int .i64 wd, .int .i64 py, .bool wr, .slice asp nsp csp, .slice als nls cls] 26, .rd kF afe nfe Xfe, .sl (some ⟨b, 0, none⟩) [.slice afe nfe cfe, .slice afx nfx cfx, .slice afy nfy cfy]] := B.castX 1 rfl rfl mix_all
      refine ret0 rfl ⟨_, rfl, ?_⟩
      replace B : Bu w (hasW [.ow kF afx nfx cfx 34 Xfx, .ow kF afy nfy cfy 34 Xfy]) w4 [.ow kF afx nfx cfx 34 (hxL wd py wr Xfe Xfx), .ow kF afy nfy cfy 34 (tab (wd * py) (fun i => hyF wd py wr Xfe Xfy (i % wd) (i / wd))), .blk b1 [.int .i64 wd, .int .i64 py, .bool wr, .slice asp nsp csp, .slice als nls cls] 26, .rd kF afe nfe Xfe, .sl (some ⟨b, 0, none⟩) [.slice afe nfe cfe, .slice afx nfx cfx, .slice afy nfy cfy]] := B.castX 0 rfl rfl rfl
      replace B : Bu w (hasW [.ow kF afx nfx cfx 34 Xfx, .ow kF afy nfy cfy 34 Xfy]) w4 [.ow kF afx nfx cfx 34 (hxL wd py wr Xfe Xfx), .ow kF afy nfy cfy 34 (hyL wd py wr Xfe Xfy), .blk b1 [.int .i64 wd, .int .i64 py, .bool wr, .slice asp nsp csp, .slice als nls cls] 26, .rd kF afe nfe Xfe, .sl (some ⟨b, 0, none⟩) [.slice afe nfe cfe, .slice afx nfx cfx, .slice afy nfy cfy]] := B.castX 1 rfl rfl rfl
      exact ⟨rfl, B.wrote [0, 1] rfl rfl rfl⟩
namespace T131
theorem mx : Try.prog.follows .mixedOrders = true := by kernel_rfl
theorem agg_26_5 : aggB Try.prog 26 5 = true := by kernel_rfl
theorem fld_26_3_3 : fldB Try.prog 26 3 3 = true := by kernel_rfl
theorem fld_26_4_4 : fldB Try.prog 26 4 4 = true := by kernel_rfl
theorem fld_30_0_0 : fldB Try.prog 30 0 0 = true := by kernel_rfl
theorem fld_30_1_1 : fldB Try.prog 30 1 1 = true := by kernel_rfl
theorem fld_30_2_2 : fldB Try.prog 30 2 2 = true := by kernel_rfl
theorem fn_69 : fnB Try.prog 69 = true := by kernel_rfl
theorem one_24 : oneB Try.prog 24 = true := by kernel_rfl
theorem one_34 : oneB Try.prog 34 = true := by kernel_rfl
theorem sl_24_34_1 : slB Try.prog 24 34 1 = true := by kernel_rfl
end T131
set_option maxRecDepth 100000 in
set_option maxHeartbeats 4000000 in
theorem c_i_newValue {wd : Int} {hi : Int} {wr : Bool} {asp : Option Addr} {nsp : Nat} {csp : Nat} {Xsp : List Nat} {als : Option Addr} {nls : Nat} {cls : Nat} {Xls : List Nat} {afe : Option Addr} {nfe : Nat} {cfe : Nat} {Xfe : List Nat} {afx : Option Addr} {nfx : Nat} {cfx : Nat} {Xfx : List Nat} {afy : Option Addr} {nfy : Nat} {cfy : Nat} {Xfy : List Nat} {x : Int} {y : Int} {w : World} (qsp : Rd w kF asp nsp Xsp) (qls : Rd w kF als nls Xls) (qfe : Rd w kF afe nfe Xfe) (qfx : Rd w kF afx nfx Xfx) (qfy : Rd w kF afy nfy Xfy) (h1 : 3 ≤ wd) (h2 : wd ≤ 16) (h3 : 3 ≤ hi) (h4 : hi ≤ 16) (gfe : (nfe : Int) = wd * hi) (gfx : (nfx : Int) = wd * hi) (gfy : (nfy : Int) = wd * hi) (gsp : (nsp : Int) = wd * hi) (gls : (nls : Int) = wd * hi) (p1 : 0 ≤ x) (p2 : x < wd) (p3 : 0 ≤ y) (p4 : y < hi) :
    Calls Try.prog 131 #[.agg #[.int .i64 wd, .int .i64 hi, .bool wr, .slice asp nsp csp, .slice als nls cls], .agg #[.slice afe nfe cfe, .slice afx nfx cfx, .slice afy nfy cfy], .int .i64 x, .int .i64 y] w (Rt fun v w' => (∃ r, v = .float .f32 r ∧ Cn .f32 r (nvV wd hi Xsp Xls (el Xfe (atI wd hi x y)) Xfx Xfy x y)) ∧ Ext0 w w') := by
  have hlsp := qsp.len
  have hlls := qls.len
  have hlfe := qfe.len
  have hlfx := qfx.len
  have hlfy := qfy.len
  have B : Bu w no w [.rd kF asp nsp Xsp, .rd kF als nls Xls, .rd kF afe nfe Xfe, .rd kF afx nfx Xfx, .rd kF afy nfy Xfy] := Bu.ro (All.cons qsp (All.cons qls (All.cons qfe (All.cons qfx (All.cons qfy All.nil))))) rfl
  refine calls_W (n := 66) Try.func131 rfl rfl (Nat.le_of_ble_eq_true rfl) ?_
  refine W_seq ?_
  refine W_region (by kernel_rfl) ?_
  refine s_k rfl (k_boxN (v := .agg #[.int .i64 wd, .int .i64 hi, .bool wr, .slice asp nsp csp, .slice als nls cls]) (cs := [.int .i64 wd, .int .i64 hi, .bool wr, .slice asp nsp csp, .slice als nls cls]) rfl rfl (fun b1 w2 hN3 => ?_))
  replace B := B.new1 hN3
  clear hN3
  refine s_k rfl (k_boxN (v := .agg #[.slice afe nfe cfe, .slice afx nfx cfx, .slice afy nfy cfy]) (cs := [.slice afe nfe cfe, .slice afx nfx cfx, .slice afy nfy cfy]) rfl rfl (fun b4 w5 hN6 => ?_))
  replace B := B.new1 hN6
  clear hN6
  refine s_y (v := .float .f32 0) rfl (y_assign rfl) ?_
  refine s_nil ?_
  refine W_seq ?_
  refine W_region (by kernel_rfl) ?_
  refine s_y (v := .agg #[.int .i64 wd, .int .i64 hi, .bool wr, .slice asp nsp csp, .slice als nls cls]) rfl (y_loadn (b := b1) (o := 0) (vs := [.int .i64 wd, .int .i64 hi, .bool wr, .slice asp nsp csp, .slice als nls cls]) T131.agg_26_5 rfl rfl ((B.b 1 rfl).cells (o := 0) rfl)) ?_
  refine s_y (v := .int .i64 x) rfl (y_move rfl) ?_
  refine s_y (v := .int .i64 y) rfl (y_move rfl) ?_
  refine s_k rfl (k_call T131.fn_69 (c_i_at (by omega) (by omega) (by omega) (by omega) (by omega) (by omega) (by omega) (by omega)) rfl ?_)
  rintro _ w7 ⟨rfl, e8⟩
  replace B := B.ext0 e8
  clear e8
  have hat9 := atI_b (wd := wd) (hi := hi) (x := x) (y := y) (by omega) (by omega)
  refine s_y (v := .int .i64 (atI wd hi x y)) rfl (y_assign rfl) ?_
  refine s_nil ?_
  refine W_seq ?_
  have B0_12 := B
  refine W_drawI (no) (fun ρ' w' => (∃ (ρ1 : Env) (r51 : Nat), ρ' = updL ρ1 [(4, .pointer (some ⟨b1, 0, none⟩)), (5, .pointer (some ⟨b4, 0, none⟩)), (8, .float .f32 0), (9, .int .i64 (atI wd hi x y)), (10, .float .f32 r51)] ∧ Bu w no w' [.blk b4 [.slice afe nfe cfe, .slice afx nfx cfx, .slice afy nfy cfy] 30, .blk b1 [.int .i64 wd, .int .i64 hi, .bool wr, .slice asp nsp csp, .slice als nls cls] 26, .rd kF asp nsp Xsp, .rd kF als nls Xls, .rd kF afe nfe Xfe, .rd kF afx nfx Xfx, .rd kF afy nfy Xfy] ∧ Cn .f32 r51 (fop .sub .f32 (fop .sub .f32 (el Xfy (atI wd hi x y)) (el Xfy (atI wd hi (x - 1) y))) (fop .sub .f32 (el Xfx (atI wd hi x y)) (el Xfx (atI wd hi x (y - 1))))))) T131.mx (by kernel_rfl) (fun w10 e11 => ?_) ?_
  · have R13 := Ext.refl (no) w7
    replace R13 := R13.trans (Ext0.any e11)
    replace B := B.ext0 e11
    clear e11
    refine m_y (v := .pointer (some ⟨b4, 2, none⟩)) 0 rfl (by kernel_rfl) rfl rfl (fun w' e' => y_fld (o := 0) T131.fld_30_2_2 rfl) ?_
    refine m_y (v := .slice afy nfy cfy) 1 rfl (by kernel_rfl) rfl rfl (fun w' e' => y_load T131.one_24 rfl (((B0_12.b 0 rfl).ext0 e').cell (j := 2) rfl)) ?_
    refine m_y (v := .int .i64 (atI wd hi x y)) 2 rfl (by kernel_rfl) rfl rfl (fun w' e' => y_move rfl) ?_
    refine m_y (v := .pointer (some (sat afy ((atI wd hi x y).toNat * 1)))) 3 rfl (by kernel_rfl) rfl rfl (fun w' e' => y_idx T131.sl_24_34_1 rfl rfl ((B.r 6 rfl).addr (by omega)) (by omega) (by omega)) ?_
    obtain ⟨r15, hr16, hR14⟩ := Rd.atF (B0_12.r 6 rfl) (atI wd hi x y) (by omega) (by omega)
    refine m_y (v := .float .f32 r15) 4 rfl (by kernel_rfl) rfl rfl (fun w' e' => y_load T131.one_34 rfl ((hR14.ext0 e').cell (i := 0) rfl)) ?_
    refine m_y (v := .pointer (some ⟨b4, 2, none⟩)) 5 rfl (by kernel_rfl) rfl rfl (fun w' e' => y_fld (o := 0) T131.fld_30_2_2 rfl) ?_
    refine m_y (v := .slice afy nfy cfy) 6 rfl (by kernel_rfl) rfl rfl (fun w' e' => y_load T131.one_24 rfl (((B0_12.b 0 rfl).ext0 e').cell (j := 2) rfl)) ?_
    refine m_y (v := .agg #[.int .i64 wd, .int .i64 hi, .bool wr, .slice asp nsp csp, .slice als nls cls]) 7 rfl (by kernel_rfl) rfl rfl (fun w' e' => y_loadn (b := b1) (o := 0) (vs := [.int .i64 wd, .int .i64 hi, .bool wr, .slice asp nsp csp, .slice als nls cls]) T131.agg_26_5 rfl rfl (((B0_12.b 1 rfl).ext0 e').cells (o := 0) rfl)) ?_
    refine m_y (v := .int .i64 x) 8 rfl (by kernel_rfl) rfl rfl (fun w' e' => y_move rfl) ?_
    refine m_y (v := .int .i64 (x - 1)) 9 rfl (by kernel_rfl) rfl rfl (fun w' e' => y_sub rfl rfl rfl (by omega)) ?_
    refine m_y (v := .int .i64 y) 10 rfl (by kernel_rfl) rfl rfl (fun w' e' => y_move rfl) ?_
    refine m_y (v := .pointer (some ⟨b4, 1, none⟩)) 15 rfl (by kernel_rfl) rfl rfl (fun w' e' => y_fld (o := 0) T131.fld_30_1_1 rfl) ?_
    refine m_y (v := .slice afx nfx cfx) 16 rfl (by kernel_rfl) rfl rfl (fun w' e' => y_load T131.one_24 rfl (((B0_12.b 0 rfl).ext0 e').cell (j := 1) rfl)) ?_
    refine m_y (v := .int .i64 (atI wd hi x y)) 17 rfl (by kernel_rfl) rfl rfl (fun w' e' => y_move rfl) ?_
    refine m_y (v := .pointer (some (sat afx ((atI wd hi x y).toNat * 1)))) 18 rfl (by kernel_rfl) rfl rfl (fun w' e' => y_idx T131.sl_24_34_1 rfl rfl ((B.r 5 rfl).addr (by omega)) (by omega) (by omega)) ?_
    obtain ⟨r18, hr19, hR17⟩ := Rd.atF (B0_12.r 5 rfl) (atI wd hi x y) (by omega) (by omega)
    refine m_y (v := .float .f32 r18) 19 rfl (by kernel_rfl) rfl rfl (fun w' e' => y_load T131.one_34 rfl ((hR17.ext0 e').cell (i := 0) rfl)) ?_
    refine m_y (v := .pointer (some ⟨b4, 1, none⟩)) 20 rfl (by kernel_rfl) rfl rfl (fun w' e' => y_fld (o := 0) T131.fld_30_1_1 rfl) ?_
    refine m_y (v := .slice afx nfx cfx) 21 rfl (by kernel_rfl) rfl rfl (fun w' e' => y_load T131.one_24 rfl (((B0_12.b 0 rfl).ext0 e').cell (j := 1) rfl)) ?_
    refine m_y (v := .agg #[.int .i64 wd, .int .i64 hi, .bool wr, .slice asp nsp csp, .slice als nls cls]) 22 rfl (by kernel_rfl) rfl rfl (fun w' e' => y_loadn (b := b1) (o := 0) (vs := [.int .i64 wd, .int .i64 hi, .bool wr, .slice asp nsp csp, .slice als nls cls]) T131.agg_26_5 rfl rfl (((B0_12.b 1 rfl).ext0 e').cells (o := 0) rfl)) ?_
    refine m_y (v := .int .i64 x) 23 rfl (by kernel_rfl) rfl rfl (fun w' e' => y_move rfl) ?_
    refine m_y (v := .int .i64 y) 24 rfl (by kernel_rfl) rfl rfl (fun w' e' => y_move rfl) ?_
    refine m_y (v := .int .i64 (y - 1)) 25 rfl (by kernel_rfl) rfl rfl (fun w' e' => y_sub rfl rfl rfl (by omega)) ?_
    refine m_k 11 [12, 13, 14, 26, 27, 28, 29, 30, 31] rfl (by kernel_rfl) rfl rfl (fun w20 e21 => ?_)
    replace R13 := R13.trans (Ext0.any e21)
    replace B := B.ext0 e21
    clear e21
    refine k_call T131.fn_69 (c_i_at (by omega) (by omega) (by omega) (by omega) (by omega) (by omega) (by omega) (by omega)) rfl ?_
    rintro _ w22 ⟨rfl, e23⟩
    replace R13 := R13.trans (Ext0.any e23)
    replace B := B.ext0 e23
    clear e23
    refine ⟨fun _ => R13, ?_⟩
    have hat24 := atI_b (wd := wd) (hi := hi) (x := x - 1) (y := y) (by omega) (by omega)
    refine m_y (v := .pointer (some (sat afy ((atI wd hi (x - 1) y).toNat * 1)))) 12 rfl (by kernel_rfl) rfl rfl (fun w' e' => y_idx T131.sl_24_34_1 rfl rfl ((B.r 6 rfl).addr (by omega)) (by omega) (by omega)) ?_
    obtain ⟨r26, hr27, hR25⟩ := Rd.atF (B0_12.r 6 rfl) (atI wd hi (x - 1) y) (by omega) (by omega)
    refine m_y (v := .float .f32 r26) 13 rfl (by kernel_rfl) rfl rfl (fun w' e' => y_load T131.one_34 rfl ((hR25.ext0 e').cell (i := 0) rfl)) ?_
    refine m_ntwo 14 26 (by kernel_rfl) rfl rfl rfl rfl rfl rfl ?_ (fun w28 e29 => ?_)
    · refine ⟨_, fun w' e' => n_arith (by decide) rfl rfl, ?_⟩
      rintro _ ⟨r31, rfl, hr32⟩
      have hc35 := fopC hr32 hr16 hr27
      refine m_k 26 [27, 28, 29, 30, 31] rfl (by kernel_rfl) rfl rfl (fun w36 e37 => ?_)
      replace R13 := R13.trans (Ext0.any e37)
      replace B := B.ext0 e37
      clear e37
      refine k_call T131.fn_69 (c_i_at (by omega) (by omega) (by omega) (by omega) (by omega) (by omega) (by omega) (by omega)) rfl ?_
      rintro _ w38 ⟨rfl, e39⟩
      replace R13 := R13.trans (Ext0.any e39)
      replace B := B.ext0 e39
      clear e39
      refine ⟨fun _ => R13, ?_⟩
      have hat40 := atI_b (wd := wd) (hi := hi) (x := x) (y := y - 1) (by omega) (by omega)
      refine m_y (v := .pointer (some (sat afx ((atI wd hi x (y - 1)).toNat * 1)))) 27 rfl (by kernel_rfl) rfl rfl (fun w' e' => y_idx T131.sl_24_34_1 rfl rfl ((B.r 5 rfl).addr (by omega)) (by omega) (by omega)) ?_
      obtain ⟨r42, hr43, hR41⟩ := Rd.atF (B0_12.r 5 rfl) (atI wd hi x (y - 1)) (by omega) (by omega)
      refine m_y (v := .float .f32 r42) 28 rfl (by kernel_rfl) rfl rfl (fun w' e' => y_load T131.one_34 rfl ((hR41.ext0 e').cell (i := 0) rfl)) ?_
      refine m_n 29 [30, 31] rfl (by kernel_rfl) rfl rfl (fun w' e' => n_arith (by decide) rfl rfl) ?_
      rintro _ ⟨r45, rfl, hr46⟩
      have hc49 := fopC hr46 hr19 hr43
      refine m_n 30 [31] rfl (by kernel_rfl) rfl rfl (fun w' e' => n_arith (by decide) rfl rfl) ?_
      rintro _ ⟨r51, rfl, hr52⟩
      have hc55 := fopC hr52 hc35 hc49
      refine m_y (v := .float .f32 r51) 31 rfl (by kernel_rfl) rfl rfl (fun w' e' => y_assign rfl) ?_
      refine m_done (by kernel_rfl) (fun w56 e57 => ?_)
      replace B := B.ext0 e57
      clear e57
      clear B0_12 R13
      exact ⟨_, r51, Fits.eq ⟨rfl, rfl, rfl, rfl, rfl, trivial⟩, B, hc55⟩
    · replace R13 := R13.trans (Ext0.any e29)
      replace B := B.ext0 e29
      clear e29
      refine k_call T131.fn_69 (c_i_at (by omega) (by omega) (by omega) (by omega) (by omega) (by omega) (by omega) (by omega)) rfl ?_
      rintro _ w58 ⟨rfl, e59⟩
      replace R13 := R13.trans (Ext0.any e59)
      replace B := B.ext0 e59
      clear e59
      refine ⟨fun _ => R13, ?_⟩
      have hat60 := atI_b (wd := wd) (hi := hi) (x := x) (y := y - 1) (by omega) (by omega)
      refine m_y (v := .pointer (some (sat afx ((atI wd hi x (y - 1)).toNat * 1)))) 27 rfl (by kernel_rfl) rfl rfl (fun w' e' => y_idx T131.sl_24_34_1 rfl rfl ((B.r 5 rfl).addr (by omega)) (by omega) (by omega)) ?_
      obtain ⟨r62, hr63, hR61⟩ := Rd.atF (B0_12.r 5 rfl) (atI wd hi x (y - 1)) (by omega) (by omega)
      refine m_y (v := .float .f32 r62) 28 rfl (by kernel_rfl) rfl rfl (fun w' e' => y_load T131.one_34 rfl ((hR61.ext0 e').cell (i := 0) rfl)) ?_
      refine m_n 14 [30, 31] rfl (by kernel_rfl) rfl rfl (fun w' e' => n_arith (by decide) rfl rfl) ?_
      rintro _ ⟨r65, rfl, hr66⟩
      have hc69 := fopC hr66 hr16 hr27
      refine m_n 29 [30, 31] rfl (by kernel_rfl) rfl rfl (fun w' e' => n_arith (by decide) rfl rfl) ?_
      rintro _ ⟨r71, rfl, hr72⟩
      have hc75 := fopC hr72 hr19 hr63
      refine m_n 30 [31] rfl (by kernel_rfl) rfl rfl (fun w' e' => n_arith (by decide) rfl rfl) ?_
      rintro _ ⟨r77, rfl, hr78⟩
      have hc81 := fopC hr78 hc69 hc75
      refine m_y (v := .float .f32 r77) 31 rfl (by kernel_rfl) rfl rfl (fun w' e' => y_assign rfl) ?_
      refine m_done (by kernel_rfl) (fun w82 e83 => ?_)
      replace B := B.ext0 e83
      clear e83
      clear B0_12 R13
      exact ⟨_, r77, Fits.eq ⟨rfl, rfl, rfl, rfl, rfl, trivial⟩, B, hc81⟩
  · clear B; rintro _ w84 (⟨ρ86, r51, rfl, B, hr85⟩)
    have hat87 := atI_b (wd := wd) (hi := hi) (x := x - 1) (y := y) (by omega) (by omega)
    have hat88 := atI_b (wd := wd) (hi := hi) (x := x) (y := y - 1) (by omega) (by omega)
    refine W_seq ?_
    have B0_93 := B
    refine W_draw (no) T131.mx (by kernel_rfl) (fun w91 e92 => ?_)
    have R94 := Ext.refl (no) w84
    replace R94 := R94.trans (Ext0.any e92)
    replace B := B.ext0 e92
    clear e92
    refine m_y (v := .pointer (some ⟨b4, 0, none⟩)) 0 rfl (by kernel_rfl) rfl rfl (fun w' e' => y_fld (o := 0) T131.fld_30_0_0 rfl) ?_
    refine m_y (v := .slice afe nfe cfe) 1 rfl (by kernel_rfl) rfl rfl (fun w' e' => y_load T131.one_24 rfl (((B0_93.b 0 rfl).ext0 e').cell (j := 0) rfl)) ?_
    refine m_y (v := .int .i64 (atI wd hi x y)) 2 rfl (by kernel_rfl) rfl rfl (fun w' e' => y_move rfl) ?_
    refine m_y (v := .pointer (some (sat afe ((atI wd hi x y).toNat * 1)))) 3 rfl (by kernel_rfl) rfl rfl (fun w' e' => y_idx T131.sl_24_34_1 rfl rfl ((B.r 4 rfl).addr (by omega)) (by omega) (by omega)) ?_
    obtain ⟨r96, hr97, hR95⟩ := Rd.atF (B0_93.r 4 rfl) (atI wd hi x y) (by omega) (by omega)
    refine m_y (v := .float .f32 r96) 4 rfl (by kernel_rfl) rfl rfl (fun w' e' => y_load T131.one_34 rfl ((hR95.ext0 e').cell (i := 0) rfl)) ?_
    refine m_y (v := .pointer (some ⟨b1, 4, none⟩)) 5 rfl (by kernel_rfl) rfl rfl (fun w' e' => y_fld (o := 0) T131.fld_26_4_4 rfl) ?_
    refine m_y (v := .slice als nls cls) 6 rfl (by kernel_rfl) rfl rfl (fun w' e' => y_load T131.one_24 rfl (((B0_93.b 1 rfl).ext0 e').cell (j := 4) rfl)) ?_
    refine m_y (v := .int .i64 (atI wd hi x y)) 7 rfl (by kernel_rfl) rfl rfl (fun w' e' => y_move rfl) ?_
    refine m_y (v := .pointer (some (sat als ((atI wd hi x y).toNat * 1)))) 8 rfl (by kernel_rfl) rfl rfl (fun w' e' => y_idx T131.sl_24_34_1 rfl rfl ((B.r 3 rfl).addr (by omega)) (by omega) (by omega)) ?_
    obtain ⟨r99, hr100, hR98⟩ := Rd.atF (B0_93.r 3 rfl) (atI wd hi x y) (by omega) (by omega)
    refine m_y (v := .float .f32 r99) 9 rfl (by kernel_rfl) rfl rfl (fun w' e' => y_load T131.one_34 rfl ((hR98.ext0 e').cell (i := 0) rfl)) ?_
    refine m_y (v := .pointer (some ⟨b1, 3, none⟩)) 12 rfl (by kernel_rfl) rfl rfl (fun w' e' => y_fld (o := 0) T131.fld_26_3_3 rfl) ?_
    refine m_y (v := .slice asp nsp csp) 13 rfl (by kernel_rfl) rfl rfl (fun w' e' => y_load T131.one_24 rfl (((B0_93.b 1 rfl).ext0 e').cell (j := 3) rfl)) ?_
    refine m_y (v := .int .i64 (atI wd hi x y)) 14 rfl (by kernel_rfl) rfl rfl (fun w' e' => y_move rfl) ?_
    refine m_y (v := .pointer (some (sat asp ((atI wd hi x y).toNat * 1)))) 15 rfl (by kernel_rfl) rfl rfl (fun w' e' => y_idx T131.sl_24_34_1 rfl rfl ((B.r 2 rfl).addr (by omega)) (by omega) (by omega)) ?_
    obtain ⟨r102, hr103, hR101⟩ := Rd.atF (B0_93.r 2 rfl) (atI wd hi x y) (by omega) (by omega)
    refine m_y (v := .float .f32 r102) 16 rfl (by kernel_rfl) rfl rfl (fun w' e' => y_load T131.one_34 rfl ((hR101.ext0 e').cell (i := 0) rfl)) ?_
    refine m_y (v := .float .f32 r51) 17 rfl (by kernel_rfl) rfl rfl (fun w' e' => y_move rfl) ?_
    refine m_n 10 [11, 19, 20] rfl (by kernel_rfl) rfl rfl (fun w' e' => n_arith (by decide) rfl rfl) ?_
    rintro _ ⟨r105, rfl, hr106⟩
    have hc109 := fopC hr106 (cnLit (k := .f32) (t := 1065353216) (by kernel_rfl) (by kernel_rfl)) hr100
    refine m_n 11 [19, 20] rfl (by kernel_rfl) rfl rfl (fun w' e' => n_arith (by decide) rfl rfl) ?_
    rintro _ ⟨r111, rfl, hr112⟩
    have hc115 := fopC hr112 hr97 hc109
    refine m_n 18 [19, 20] rfl (by kernel_rfl) rfl rfl (fun w' e' => n_arith (by decide) rfl rfl) ?_
    rintro _ ⟨r117, rfl, hr118⟩
    have hc121 := fopC hr118 hr103 hr85
    refine m_n 19 [20] rfl (by kernel_rfl) rfl rfl (fun w' e' => n_arith (by decide) rfl rfl) ?_
    rintro _ ⟨r123, rfl, hr124⟩
    have hc127 := fopC hr124 hc115 hc121
    refine m_y (v := .float .f32 r123) 20 rfl (by kernel_rfl) rfl rfl (fun w' e' => y_assign rfl) ?_
    refine m_done (by kernel_rfl) (fun w128 e129 => ?_)
    replace B := B.ext0 e129
    clear e129
    clear B0_93 R94
    refine W_ret ?_
    refine ret1 (v := .float .f32 r123) rfl rfl rfl ⟨_, rfl, ?_⟩
    exact ⟨⟨_, rfl, hc127⟩, B.ext⟩
namespace T89
theorem mx : Try.prog.follows .mixedOrders = true := by kernel_rfl
theorem agg_26_5 : aggB Try.prog 26 5 = true := by kernel_rfl
theorem agg_30_3 : aggB Try.prog 30 3 = true := by kernel_rfl
theorem fld_26_0_0 : fldB Try.prog 26 0 0 = true := by kernel_rfl
theorem fld_26_1_1 : fldB Try.prog 26 1 1 = true := by kernel_rfl
theorem fld_30_0_0 : fldB Try.prog 30 0 0 = true := by kernel_rfl
theorem fn_130 : fnB Try.prog 130 = true := by kernel_rfl
theorem fn_131 : fnB Try.prog 131 = true := by kernel_rfl
theorem fn_68 : fnB Try.prog 68 = true := by kernel_rfl
theorem fn_69 : fnB Try.prog 69 = true := by kernel_rfl
theorem fn_98 : fnB Try.prog 98 = true := by kernel_rfl
theorem one_2 : oneB Try.prog 2 = true := by kernel_rfl
theorem one_24 : oneB Try.prog 24 = true := by kernel_rfl
theorem sl_24_34_1 : slB Try.prog 24 34 1 = true := by kernel_rfl
theorem sz_30_3 : szB Try.prog 30 3 = true := by kernel_rfl
theorem sz_34_1 : szB Try.prog 34 1 = true := by kernel_rfl
theorem zero_30 : zeroB Try.prog 30 (.agg #[.slice none 0 0, .slice none 0 0, .slice none 0 0]) := by unfold zeroB; kernel_rfl
end T89
set_option maxRecDepth 100000 in
set_option maxHeartbeats 4000000 in
theorem c_i_stepped {wd : Int} {hi : Int} {wr : Bool} {asp : Option Addr} {nsp : Nat} {csp : Nat} {Xsp : List Nat} {als : Option Addr} {nls : Nat} {cls : Nat} {Xls : List Nat} {afe : Option Addr} {nfe : Nat} {cfe : Nat} {Xfe : List Nat} {afx : Option Addr} {nfx : Nat} {cfx : Nat} {Xfx : List Nat} {afy : Option Addr} {nfy : Nat} {cfy : Nat} {Xfy : List Nat} {w : World} (qsp : Rd w kF asp nsp Xsp) (qls : Rd w kF als nls Xls) (qfe : Rd w kF afe nfe Xfe) (qfx : Rd w kF afx nfx Xfx) (qfy : Rd w kF afy nfy Xfy) (h1 : 3 ≤ wd) (h2 : wd ≤ 16) (h3 : 3 ≤ hi) (h4 : hi ≤ 16) (gfe : (nfe : Int) = wd * hi) (gfx : (nfx : Int) = wd * hi) (gfy : (nfy : Int) = wd * hi) (gsp : (nsp : Int) = wd * hi) (gls : (nls : Int) = wd * hi) :
    Calls Try.prog 89 #[.agg #[.int .i64 wd, .int .i64 hi, .bool wr, .slice asp nsp csp, .slice als nls cls], .agg #[.slice afe nfe cfe, .slice afx nfx cfx, .slice afy nfy cfy]] w (Rt fun v w' => ∃ (a1 : Option Addr) (c1 : Nat) (a2 : Option Addr) (c2 : Nat) (a3 : Option Addr) (c3 : Nat), v = .agg #[.slice a1 nfe c1, .slice a2 nfx c2, .slice a3 nfy c3] ∧ New w w' [.ow kF a1 nfe c1 34 (nwL wd hi wr Xsp Xls Xfe (hxL wd hi wr Xfe Xfx) (hyL wd hi wr Xfe Xfy)), .ow kF a2 nfx c2 34 (hxL wd hi wr Xfe Xfx), .ow kF a3 nfy c3 34 (hyL wd hi wr Xfe Xfy)]) := by
  have hlsp := qsp.len
  have hlls := qls.len
  have hlfe := qfe.len
  have hlfx := qfx.len
  have hlfy := qfy.len
  have B : Bu w no w [.rd kF asp nsp Xsp, .rd kF als nls Xls, .rd kF afe nfe Xfe, .rd kF afx nfx Xfx, .rd kF afy nfy Xfy] := Bu.ro (All.cons qsp (All.cons qls (All.cons qfe (All.cons qfx (All.cons qfy All.nil))))) rfl
  have hwh := mul16 (And.intro (And.intro h1 h2) (And.intro h3 h4))
  refine calls_W (n := 42) Try.func89 rfl rfl (Nat.le_of_ble_eq_true rfl) ?_
  refine W_seq ?_
  refine W_region (by kernel_rfl) ?_
  refine s_k rfl (k_boxN (v := .agg #[.int .i64 wd, .int .i64 hi, .bool wr, .slice asp nsp csp, .slice als nls cls]) (cs := [.int .i64 wd, .int .i64 hi, .bool wr, .slice asp nsp csp, .slice als nls cls]) rfl rfl (fun b1 w2 hN3 => ?_))
  replace B := B.new1 hN3
  clear hN3
  refine s_k rfl (k_boxN (v := .agg #[.slice afe nfe cfe, .slice afx nfx cfx, .slice afy nfy cfy]) (cs := [.slice afe nfe cfe, .slice afx nfx cfx, .slice afy nfy cfy]) rfl rfl (fun b4 w5 hN6 => ?_))
  replace B := B.new1 hN6
  clear hN6
  refine s_k rfl (k_allocN (z := (.agg #[.slice none 0 0, .slice none 0 0, .slice none 0 0])) (cs := [.slice none 0 0, .slice none 0 0, .slice none 0 0]) T89.zero_30 rfl (fun b7 w8 hN9 => ?_))
  replace B := B.new1 hN9
  clear hN9
  refine s_nil ?_
  refine W_seq ?_
  refine W_region (by kernel_rfl) ?_
  refine s_y (v := .agg #[.slice afe nfe cfe, .slice afx nfx cfx, .slice afy nfy cfy]) rfl (y_loadn (b := b4) (o := 0) (vs := [.slice afe nfe cfe, .slice afx nfx cfx, .slice afy nfy cfy]) T89.agg_30_3 rfl rfl ((B.b 1 rfl).cells (o := 0) rfl)) ?_
  refine s_k rfl (k_call T89.fn_68 (c_i_copyField (B.r 5 rfl) (B.r 6 rfl) (B.r 7 rfl) (by omega) (by omega) (by omega)) rfl ?_)
  rintro _ w10 ⟨a11, c12, a13, c14, a15, c16, rfl, hN17⟩
  replace B := B.new3 hN17
  clear hN17
  refine s_k rfl (k_allocN (z := (.agg #[.slice none 0 0, .slice none 0 0, .slice none 0 0])) (cs := [.slice none 0 0, .slice none 0 0, .slice none 0 0]) T89.zero_30 rfl (fun b18 w19 hN20 => ?_))
  replace B := B.new1 hN20
  clear hN20
  refine s_k0 rfl (k_stB (v := .agg #[.slice a11 nfe c12, .slice a13 nfx c14, .slice a15 nfy c16]) (n := 3) (cs' := [.slice a11 nfe c12, .slice a13 nfx c14, .slice a15 nfy c16]) T89.sz_30_3 rfl rfl rfl (B.b 0 rfl) (by simp [Value.cells, Value.oneCell']) (Nat.le_of_ble_eq_true rfl) rfl (fun w21 hU22 => ?_))
  replace B : Bu w no w21 [.blk b18 [.slice a11 nfe c12, .slice a13 nfx c14, .slice a15 nfy c16] 30, .ow kF a11 nfe c12 34 Xfe, .ow kF a13 nfx c14 34 Xfx, .ow kF a15 nfy c16 34 Xfy, .blk b7 [.slice none 0 0, .slice none 0 0, .slice none 0 0] 30, .blk b4 [.slice afe nfe cfe, .slice afx nfx cfx, .slice afy nfy cfy] 30, .blk b1 [.int .i64 wd, .int .i64 hi, .bool wr, .slice asp nsp csp, .slice als nls cls] 26, .rd kF asp nsp Xsp, .rd kF als nls Xls, .rd kF afe nfe Xfe, .rd kF afx nfx Xfx, .rd kF afy nfy Xfy] := B.upd [0] rfl hU22
  clear hU22
  refine s_nil ?_
  refine W_seq ?_
  refine W_region (by kernel_rfl) ?_
  refine s_y (v := .agg #[.int .i64 wd, .int .i64 hi, .bool wr, .slice asp nsp csp, .slice als nls cls]) rfl (y_loadn (b := b1) (o := 0) (vs := [.int .i64 wd, .int .i64 hi, .bool wr, .slice asp nsp csp, .slice als nls cls]) T89.agg_26_5 rfl rfl ((B.b 6 rfl).cells (o := 0) rfl)) ?_
  have Bt := B.weakO 1 rfl
  have Bt := Bt.weakB 0 rfl
  refine s_k rfl (k_call T89.fn_130 (c_i_halfStep (by omega) (by omega) (by omega) (by omega) (by omega) (by omega) (by omega) (Bt.all.pick [2, 3, 1, 0] rfl) (Bt.pw.pick [2, 3, 1, 0] rfl rfl)) rfl ?_)
  rintro _ w23 ⟨rfl, hU24⟩
  replace B : Bu w no w23 [.ow kF a13 nfx c14 34 (hxL wd hi wr Xfe Xfx), .ow kF a15 nfy c16 34 (hyL wd hi wr Xfe Xfy), .blk b18 [.slice a11 nfe c12, .slice a13 nfx c14, .slice a15 nfy c16] 30, .ow kF a11 nfe c12 34 Xfe, .blk b7 [.slice none 0 0, .slice none 0 0, .slice none 0 0] 30, .blk b4 [.slice afe nfe cfe, .slice afx nfx cfx, .slice afy nfy cfy] 30, .blk b1 [.int .i64 wd, .int .i64 hi, .bool wr, .slice asp nsp csp, .slice als nls cls] 26, .rd kF asp nsp Xsp, .rd kF als nls Xls, .rd kF afe nfe Xfe, .rd kF afx nfx Xfx, .rd kF afy nfy Xfy] := B.upd [2, 3] rfl hU24
  clear hU24
  refine s_nil ?_
  refine W_seq ?_
  refine W_seq ?_
  refine W_region (by kernel_rfl) ?_
  refine s_y (v := .pointer (some ⟨b1, 1, none⟩)) rfl (y_fld (o := 0) T89.fld_26_1_1 rfl) ?_
  refine s_y (v := .int .i64 hi) rfl (y_load T89.one_2 rfl ((B.b 6 rfl).cell (j := 1) rfl)) ?_
  refine s_y (v := .int .i64 0) rfl (y_move rfl) ?_
  refine s_nil ?_
  refine W_block ?_
  refine W_loop (fun ρ' w' => ∃ (ρ1 : Env) (py : Int), ρ' = updL ρ1 [(2, .pointer (some ⟨b1, 0, none⟩)), (4, .pointer (some ⟨b7, 0, none⟩)), (5, .pointer (some ⟨b18, 0, none⟩)), (13, .int .i64 hi), (14, .int .i64 py)] ∧ Bu w no w' [.ow kF a11 nfe c12 34 (mix (wd * hi) (wd * py) (fun i => nwF wd hi wr Xsp Xls Xfe (hxL wd hi wr Xfe Xfx) (hyL wd hi wr Xfe Xfy) (i % wd) (i / wd)) Xfe), .ow kF a13 nfx c14 34 (hxL wd hi wr Xfe Xfx), .ow kF a15 nfy c16 34 (hyL wd hi wr Xfe Xfy), .blk b18 [.slice a11 nfe c12, .slice a13 nfx c14, .slice a15 nfy c16] 30, .blk b7 [.slice none 0 0, .slice none 0 0, .slice none 0 0] 30, .blk b4 [.slice afe nfe cfe, .slice afx nfx cfx, .slice afy nfy cfy] 30, .blk b1 [.int .i64 wd, .int .i64 hi, .bool wr, .slice asp nsp csp, .slice als nls cls] 26, .rd kF asp nsp Xsp, .rd kF als nls Xls, .rd kF afe nfe Xfe, .rd kF afx nfx Xfx, .rd kF afy nfy Xfy] ∧ (0 ≤ py) ∧ (py ≤ hi)) (fun ρ' _ => (hi - iv (ρ' 14)).toNat) ?_ ?_
  · replace B : Bu w no w23 [.ow kF a13 nfx c14 34 (hxL wd hi wr Xfe Xfx), .ow kF a15 nfy c16 34 (hyL wd hi wr Xfe Xfy), .blk b18 [.slice a11 nfe c12, .slice a13 nfx c14, .slice a15 nfy c16] 30, .ow kF a11 nfe c12 34 (mix (wd * hi) (wd * 0) (fun i => nwF wd hi wr Xsp Xls Xfe (hxL wd hi wr Xfe Xfx) (hyL wd hi wr Xfe Xfy) (i % wd) (i / wd)) Xfe), .blk b7 [.slice none 0 0, .slice none 0 0, .slice none 0 0] 30, .blk b4 [.slice afe nfe cfe, .slice afx nfx cfx, .slice afy nfy cfy] 30, .blk b1 [.int .i64 wd, .int .i64 hi, .bool wr, .slice asp nsp csp, .slice als nls cls] 26, .rd kF asp nsp Xsp, .rd kF als nls Xls, .rd kF afe nfe Xfe, .rd kF afx nfx Xfx, .rd kF afy nfy Xfy] := B.castX 3 rfl rfl ((mix_zero (by omega)).trans (congrArg (fun q => mix (wd * hi) q (fun i => nwF wd hi wr Xsp Xls Xfe (hxL wd hi wr Xfe Xfx) (hyL wd hi wr Xfe Xfy) (i % wd) (i / wd)) _) (Int.mul_zero wd).symm))
    exact ⟨_, 0, Fits.eq ⟨rfl, rfl, rfl, rfl, rfl, trivial⟩, (B.pick [3, 0, 1, 2, 4, 5, 6, 7, 8, 9, 10, 11] rfl rfl), (Int.le_refl _), (by omega)⟩
  · clear B; rintro _ w25 ⟨ρ26, py, rfl, B, h0py, h1py⟩
    refine W_seq ?_
    refine W_region (by kernel_rfl) ?_
    by_cases c27 : py < hi
    · refine s_y (v := .bool true) rfl (y_lss rfl rfl (decide_eq_true c27)) ?_
      refine s_nil ?_
      refine W_seq ?_
      refine W_if_t (by decide) rfl ?_
      refine W_skip ?_
      refine W_seq ?_
      refine W_block ?_
      refine W_seq ?_
      refine W_region (by kernel_rfl) ?_
      refine s_y (v := .int .i64 py) rfl (y_move rfl) ?_
      refine s_y (v := .int .i64 py) rfl (y_assign rfl) ?_
      refine s_nil ?_
      refine W_seq ?_
      refine W_region (by kernel_rfl) ?_
      refine s_y (v := .pointer (some ⟨b1, 0, none⟩)) rfl (y_fld (o := 0) T89.fld_26_0_0 rfl) ?_
      refine s_y (v := .int .i64 wd) rfl (y_load T89.one_2 rfl ((B.b 6 rfl).cell (j := 0) rfl)) ?_
      refine s_y (v := .int .i64 0) rfl (y_move rfl) ?_
      refine s_nil ?_
      refine W_block ?_
      refine W_loop (fun ρ' w' => ∃ (ρ1 : Env) (px : Int), ρ' = updL ρ1 [(2, .pointer (some ⟨b1, 0, none⟩)), (4, .pointer (some ⟨b7, 0, none⟩)), (5, .pointer (some ⟨b18, 0, none⟩)), (6, .int .i64 py), (13, .int .i64 hi), (14, .int .i64 py), (15, .bool true), (16, .int .i64 py), (17, .pointer (some ⟨b1, 0, none⟩)), (18, .int .i64 wd), (19, .int .i64 px)] ∧ Bu w no w' [.ow kF a11 nfe c12 34 (mix (wd * hi) (wd * py + px) (fun i => nwF wd hi wr Xsp Xls Xfe (hxL wd hi wr Xfe Xfx) (hyL wd hi wr Xfe Xfy) (i % wd) (i / wd)) Xfe), .ow kF a13 nfx c14 34 (hxL wd hi wr Xfe Xfx), .ow kF a15 nfy c16 34 (hyL wd hi wr Xfe Xfy), .blk b18 [.slice a11 nfe c12, .slice a13 nfx c14, .slice a15 nfy c16] 30, .blk b7 [.slice none 0 0, .slice none 0 0, .slice none 0 0] 30, .blk b4 [.slice afe nfe cfe, .slice afx nfx cfx, .slice afy nfy cfy] 30, .blk b1 [.int .i64 wd, .int .i64 hi, .bool wr, .slice asp nsp csp, .slice als nls cls] 26, .rd kF asp nsp Xsp, .rd kF als nls Xls, .rd kF afe nfe Xfe, .rd kF afx nfx Xfx, .rd kF afy nfy Xfy] ∧ (0 ≤ px) ∧ (px ≤ wd)) (fun ρ' _ => (wd - iv (ρ' 19)).toNat) ?_ ?_
      · replace B : Bu w no w25 [.ow kF a11 nfe c12 34 (mix (wd * hi) (wd * py + 0) (fun i => nwF wd hi wr Xsp Xls Xfe (hxL wd hi wr Xfe Xfx) (hyL wd hi wr Xfe Xfy) (i % wd) (i / wd)) Xfe), .ow kF a13 nfx c14 34 (hxL wd hi wr Xfe Xfx), .ow kF a15 nfy c16 34 (hyL wd hi wr Xfe Xfy), .blk b18 [.slice a11 nfe c12, .slice a13 nfx c14, .slice a15 nfy c16] 30, .blk b7 [.slice none 0 0, .slice none 0 0, .slice none 0 0] 30, .blk b4 [.slice afe nfe cfe, .slice afx nfx cfx, .slice afy nfy cfy] 30, .blk b1 [.int .i64 wd, .int .i64 hi, .bool wr, .slice asp nsp csp, .slice als nls cls] 26, .rd kF asp nsp Xsp, .rd kF als nls Xls, .rd kF afe nfe Xfe, .rd kF afx nfx Xfx, .rd kF afy nfy Xfy] := B.castX 0 rfl rfl (congrArg (fun q => mix (wd * hi) q (fun i => nwF wd hi wr Xsp Xls Xfe (hxL wd hi wr Xfe Xfx) (hyL wd hi wr Xfe Xfy) (i % wd) (i / wd)) _) (Int.add_zero _).symm)
        exact ⟨_, 0, Fits.eq ⟨rfl, rfl, rfl, rfl, rfl, rfl, rfl, rfl, rfl, rfl, rfl, trivial⟩, B, (Int.le_refl _), (by omega)⟩
      · clear B; rintro _ w28 ⟨ρ29, px, rfl, B, h0px, h1px⟩
        refine W_seq ?_
        refine W_region (by kernel_rfl) ?_
        by_cases c30 : px < wd
        · refine s_y (v := .bool true) rfl (y_lss rfl rfl (decide_eq_true c30)) ?_
          refine s_nil ?_
          refine W_seq ?_
          refine W_if_t (by decide) rfl ?_
          refine W_skip ?_
          refine W_seq ?_
          refine W_block ?_
          refine W_seq ?_
          refine W_region (by kernel_rfl) ?_
          refine s_y (v := .int .i64 px) rfl (y_move rfl) ?_
          refine s_y (v := .int .i64 px) rfl (y_assign rfl) ?_
          refine s_nil ?_
          refine W_seq ?_
          refine W_region (by kernel_rfl) ?_
          refine s_y (v := .agg #[.int .i64 wd, .int .i64 hi, .bool wr, .slice asp nsp csp, .slice als nls cls]) rfl (y_loadn (b := b1) (o := 0) (vs := [.int .i64 wd, .int .i64 hi, .bool wr, .slice asp nsp csp, .slice als nls cls]) T89.agg_26_5 rfl rfl ((B.b 6 rfl).cells (o := 0) rfl)) ?_
          refine s_y (v := .int .i64 px) rfl (y_move rfl) ?_
          refine s_y (v := .int .i64 py) rfl (y_move rfl) ?_
          refine s_k rfl (k_call T89.fn_98 (c_i_isBorder (by omega) (by omega) (by omega) (by omega)) rfl ?_)
          rintro v33 w31 ⟨hv34, e32⟩
          replace B := B.ext0 e32
          clear e32
          by_cases c35 : bordB wd hi wr px py = true
          · obtain rfl : v33 = .bool true := hv34.trans (congrArg Value.bool c35)
            refine s_y (v := .bool false) rfl (y_not rfl rfl) ?_
            refine s_nil ?_
            refine W_if_f (by decide) rfl ?_
            refine W_skip ?_
            refine W_region (by kernel_rfl) ?_
            refine s_y (v := .int .i64 (px + 1)) rfl (y_add rfl rfl rfl (by omega)) ?_
            refine s_y (v := .int .i64 (px + 1)) rfl (y_move rfl) ?_
            refine s_nil ?_
            replace B : Bu w no w31 [.ow kF a11 nfe c12 34 (mix (wd * hi) (wd * py + (px + 1)) (fun i => nwF wd hi wr Xsp Xls Xfe (hxL wd hi wr Xfe Xfx) (hyL wd hi wr Xfe Xfy) (i % wd) (i / wd)) Xfe), .ow kF a13 nfx c14 34 (hxL wd hi wr Xfe Xfx), .ow kF a15 nfy c16 34 (hyL wd hi wr Xfe Xfy), .blk b18 [.slice a11 nfe c12, .slice a13 nfx c14, .slice a15 nfy c16] 30, .blk b7 [.slice none 0 0, .slice none 0 0, .slice none 0 0] 30, .blk b4 [.slice afe nfe cfe, .slice afx nfx cfx, .slice afy nfy cfy] 30, .blk b1 [.int .i64 wd, .int .i64 hi, .bool wr, .slice asp nsp csp, .slice als nls cls] 26, .rd kF asp nsp Xsp, .rd kF als nls Xls, .rd kF afe nfe Xfe, .rd kF afx nfx Xfx, .rd kF afy nfy Xfy] := B.castX 0 rfl rfl (mix_same (G := nwF wd hi wr Xsp Xls Xfe (hxL wd hi wr Xfe Xfx) (hyL wd hi wr Xfe Xfy)) (by omega) (by omega) (by omega) (by omega) (nw_yes c35))
            refine ⟨⟨_, px + 1, Fits.eq ⟨rfl, rfl, rfl, rfl, rfl, rfl, rfl, rfl, rfl, rfl, rfl, trivial⟩, B, (by omega), (by omega)⟩, ?_⟩
            show (wd - (px + 1)).toNat < (wd - px).toNat
            omega
          · obtain rfl : v33 = .bool false := hv34.trans (congrArg Value.bool (Bool.eq_false_iff.2 c35))
            refine s_y (v := .bool true) rfl (y_not rfl rfl) ?_
            refine s_nil ?_
            refine W_if_t (by decide) rfl ?_
            have B0_40 := B
            refine W_draw (no) T89.mx (by kernel_rfl) (fun w38 e39 => ?_)
            have R41 := Ext.refl (no) w31
            replace R41 := R41.trans (Ext0.any e39)
            replace B := B.ext0 e39
            clear e39
            refine m_y (v := .pointer (some ⟨b18, 0, none⟩)) 0 rfl (by kernel_rfl) rfl rfl (fun w' e' => y_fld (o := 0) T89.fld_30_0_0 rfl) ?_
            refine m_y (v := .slice a11 nfe c12) 1 rfl (by kernel_rfl) rfl rfl (fun w' e' => y_load T89.one_24 rfl (((B0_40.b 3 rfl).ext0 e').cell (j := 0) rfl)) ?_
            refine m_y (v := .agg #[.int .i64 wd, .int .i64 hi, .bool wr, .slice asp nsp csp, .slice als nls cls]) 2 rfl (by kernel_rfl) rfl rfl (fun w' e' => y_loadn (b := b1) (o := 0) (vs := [.int .i64 wd, .int .i64 hi, .bool wr, .slice asp nsp csp, .slice als nls cls]) T89.agg_26_5 rfl rfl (((B0_40.b 6 rfl).ext0 e').cells (o := 0) rfl)) ?_
            refine m_y (v := .int .i64 px) 3 rfl (by kernel_rfl) rfl rfl (fun w' e' => y_move rfl) ?_
            refine m_y (v := .int .i64 py) 4 rfl (by kernel_rfl) rfl rfl (fun w' e' => y_move rfl) ?_
            refine m_y (v := .agg #[.int .i64 wd, .int .i64 hi, .bool wr, .slice asp nsp csp, .slice als nls cls]) 6 rfl (by kernel_rfl) rfl rfl (fun w' e' => y_loadn (b := b1) (o := 0) (vs := [.int .i64 wd, .int .i64 hi, .bool wr, .slice asp nsp csp, .slice als nls cls]) T89.agg_26_5 rfl rfl (((B0_40.b 6 rfl).ext0 e').cells (o := 0) rfl)) ?_
            refine m_y (v := .agg #[.slice a11 nfe c12, .slice a13 nfx c14, .slice a15 nfy c16]) 7 rfl (by kernel_rfl) rfl rfl (fun w' e' => y_loadn (b := b18) (o := 0) (vs := [.slice a11 nfe c12, .slice a13 nfx c14, .slice a15 nfy c16]) T89.agg_30_3 rfl rfl (((B0_40.b 3 rfl).ext0 e').cells (o := 0) rfl)) ?_
            refine m_y (v := .int .i64 px) 8 rfl (by kernel_rfl) rfl rfl (fun w' e' => y_move rfl) ?_
            refine m_y (v := .int .i64 py) 9 rfl (by kernel_rfl) rfl rfl (fun w' e' => y_move rfl) ?_
            refine m_k 5 [10, 11, 12] rfl (by kernel_rfl) rfl rfl (fun w42 e43 => ?_)
            replace R41 := R41.trans (Ext0.any e43)
            replace B := B.ext0 e43
            clear e43
            refine k_call T89.fn_69 (c_i_at (by omega) (by omega) (by omega) (by omega) (by omega) (by omega) (by omega) (by omega)) rfl ?_
            rintro _ w44 ⟨rfl, e45⟩
            replace R41 := R41.trans (Ext0.any e45)
            replace B := B.ext0 e45
            clear e45
            refine ⟨fun _ => R41, ?_⟩
            have hat46 := atI_b (wd := wd) (hi := hi) (x := px) (y := py) (by omega) (by omega)
            refine m_k 10 [11, 12] rfl (by kernel_rfl) rfl rfl (fun w47 e48 => ?_)
            replace R41 := R41.trans (Ext0.any e48)
            replace B := B.ext0 e48
            clear e48
            refine k_call T89.fn_131 (c_i_newValue (B.r 7 rfl) (B.r 8 rfl) ((B.o 0 rfl).rd) ((B.o 1 rfl).rd) ((B.o 2 rfl).rd) (by omega) (by omega) (by omega) (by omega) (by omega) (by omega) (by omega) (by omega) (by omega) (by omega) (by omega) (by omega) (by omega)) rfl ?_
            rintro _ w49 ⟨⟨r51, rfl, hr52⟩, e50⟩
            replace R41 := R41.trans (Ext0.any e50)
            replace B := B.ext0 e50
            clear e50
            refine ⟨fun _ => R41, ?_⟩
            refine m_y (v := .pointer (some (sat a11 ((atI wd hi px py).toNat * 1)))) 11 rfl (by kernel_rfl) rfl rfl (fun w' e' => y_idx T89.sl_24_34_1 rfl rfl ((B.o 0 rfl).rd.addr (by omega)) (by omega) (by omega)) ?_
            refine m_kt 12 [] rfl (by kernel_rfl) rfl rfl (by kernel_rfl) (fun w55 e56 => ?_)
            replace R41 := R41.trans (Ext0.any e56)
            replace B := B.ext0 e56
            clear e56
            refine k_stO (k := kF) (i := atI wd hi px py) (j := 0) (x' := nvV wd hi Xsp Xls (el (mix (wd * hi) (wd * py + px) (fun i => nwF wd hi wr Xsp Xls Xfe (hxL wd hi wr Xfe Xfx) (hyL wd hi wr Xfe Xfy) (i % wd) (i / wd)) Xfe) (atI wd hi px py)) (hxL wd hi wr Xfe Xfx) (hyL wd hi wr Xfe Xfy) px py) (new := [.float .f32 r51]) T89.sz_34_1 rfl rfl rfl rfl rfl (by simp [Value.oneCell']) (by decide) (B.o 0 rfl) (by omega) (by omega) (by decide) (by rintro q ⟨_, rfl, _⟩; exact ⟨_, rfl, hr52⟩) (fun w53 hU54 => ?_)
            clear R41
            replace B : Bu w no w53 [.ow kF a11 nfe c12 34 (put (mix (wd * hi) (wd * py + px) (fun i => nwF wd hi wr Xsp Xls Xfe (hxL wd hi wr Xfe Xfx) (hyL wd hi wr Xfe Xfy) (i % wd) (i / wd)) Xfe) (atI wd hi px py) (nvV wd hi Xsp Xls (el (mix (wd * hi) (wd * py + px) (fun i => nwF wd hi wr Xsp Xls Xfe (hxL wd hi wr Xfe Xfx) (hyL wd hi wr Xfe Xfy) (i % wd) (i / wd)) Xfe) (atI wd hi px py)) (hxL wd hi wr Xfe Xfx) (hyL wd hi wr Xfe Xfy) px py)), .ow kF a13 nfx c14 34 (hxL wd hi wr Xfe Xfx), .ow kF a15 nfy c16 34 (hyL wd hi wr Xfe Xfy), .blk b18 [.slice a11 nfe c12, .slice a13 nfx c14, .slice a15 nfy c16] 30, .blk b7 [.slice none 0 0, .slice none 0 0, .slice none 0 0] 30, .blk b4 [.slice afe nfe cfe, .slice afx nfx cfx, .slice afy nfy cfy] 30, .blk b1 [.int .i64 wd, .int .i64 hi, .bool wr, .slice asp nsp csp, .slice als nls cls] 26, .rd kF asp nsp Xsp, .rd kF als nls Xls, .rd kF afe nfe Xfe, .rd kF afx nfx Xfx, .rd kF afy nfy Xfy] := B.upd [0] rfl hU54
            clear hU54
            refine m_done (by kernel_rfl) (fun w57 e58 => ?_)
            replace B := B.ext0 e58
            clear e58
            clear B0_40
            refine W_region (by kernel_rfl) ?_
            refine s_y (v := .int .i64 (px + 1)) rfl (y_add rfl rfl rfl (by omega)) ?_
            refine s_y (v := .int .i64 (px + 1)) rfl (y_move rfl) ?_
            refine s_nil ?_
            replace B : Bu w no w57 [.ow kF a11 nfe c12 34 (mix (wd * hi) (wd * py + (px + 1)) (fun i => nwF wd hi wr Xsp Xls Xfe (hxL wd hi wr Xfe Xfx) (hyL wd hi wr Xfe Xfy) (i % wd) (i / wd)) Xfe), .ow kF a13 nfx c14 34 (hxL wd hi wr Xfe Xfx), .ow kF a15 nfy c16 34 (hyL wd hi wr Xfe Xfy), .blk b18 [.slice a11 nfe c12, .slice a13 nfx c14, .slice a15 nfy c16] 30, .blk b7 [.slice none 0 0, .slice none 0 0, .slice none 0 0] 30, .blk b4 [.slice afe nfe cfe, .slice afx nfx cfx, .slice afy nfy cfy] 30, .blk b1 [.int .i64 wd, .int .i64 hi, .bool wr, .slice asp nsp csp, .slice als nls cls] 26, .rd kF asp nsp Xsp, .rd kF als nls Xls, .rd kF afe nfe Xfe, .rd kF afx nfx Xfx, .rd kF afy nfy Xfy] := B.castX 0 rfl rfl (mix_cell (G := nwF wd hi wr Xsp Xls Xfe (hxL wd hi wr Xfe Xfx) (hyL wd hi wr Xfe Xfy)) rfl (by omega) (by omega) (by omega) (by omega) rfl (nw_no rfl (by omega) (by omega) (by omega) (by omega) (Bool.eq_false_iff.2 c35)))
            refine ⟨⟨_, px + 1, Fits.eq ⟨rfl, rfl, rfl, rfl, rfl, rfl, rfl, rfl, rfl, rfl, rfl, trivial⟩, B, (by omega), (by omega)⟩, ?_⟩
            show (wd - (px + 1)).toNat < (wd - px).toNat
            omega
        · refine s_y (v := .bool false) rfl (y_lss rfl rfl (decide_eq_false c30)) ?_
          refine s_nil ?_
          refine W_seq ?_
          refine W_if_f (by decide) rfl ?_
          refine W_exit ?_
          refine W_region (by kernel_rfl) ?_
          refine s_y (v := .int .i64 (py + 1)) rfl (y_add rfl rfl rfl (by omega)) ?_
          refine s_y (v := .int .i64 (py + 1)) rfl (y_move rfl) ?_
          refine s_nil ?_
          replace B : Bu w no w28 [.ow kF a11 nfe c12 34 (mix (wd * hi) (wd * (py + 1)) (fun i => nwF wd hi wr Xsp Xls Xfe (hxL wd hi wr Xfe Xfx) (hyL wd hi wr Xfe Xfy) (i % wd) (i / wd)) Xfe), .ow kF a13 nfx c14 34 (hxL wd hi wr Xfe Xfx), .ow kF a15 nfy c16 34 (hyL wd hi wr Xfe Xfy), .blk b18 [.slice a11 nfe c12, .slice a13 nfx c14, .slice a15 nfy c16] 30, .blk b7 [.slice none 0 0, .slice none 0 0, .slice none 0 0] 30, .blk b4 [.slice afe nfe cfe, .slice afx nfx cfx, .slice afy nfy cfy] 30, .blk b1 [.int .i64 wd, .int .i64 hi, .bool wr, .slice asp nsp csp, .slice als nls cls] 26, .rd kF asp nsp Xsp, .rd kF als nls Xls, .rd kF afe nfe Xfe, .rd kF afx nfx Xfx, .rd kF afy nfy Xfy] := B.castX 0 rfl rfl (congrArg (fun q => mix (wd * hi) q (fun i => nwF wd hi wr Xsp Xls Xfe (hxL wd hi wr Xfe Xfx) (hyL wd hi wr Xfe Xfy) (i % wd) (i / wd)) _) (show wd * py + px = wd * (py + 1) by rw [Int.mul_add, Int.mul_one]; omega))
          refine ⟨⟨_, py + 1, Fits.eq ⟨rfl, rfl, rfl, rfl, rfl, trivial⟩, B, (by omega), (by omega)⟩, ?_⟩
          show (hi - (py + 1)).toNat < (hi - py).toNat
          omega
    · refine s_y (v := .bool false) rfl (y_lss rfl rfl (decide_eq_false c27)) ?_
      refine s_nil ?_
      refine W_seq ?_
      refine W_if_f (by decide) rfl ?_
      refine W_exit ?_
      have hye : py = hi := by omega
      subst hye
      replace B : Bu w no w25 [.ow kF a11 nfe c12 34 (tab (wd * py) (fun i => nwF wd py wr Xsp Xls Xfe (hxL wd py wr Xfe Xfx) (hyL wd py wr Xfe Xfy) (i % wd) (i / wd))), .ow kF a13 nfx c14 34 (hxL wd py wr Xfe Xfx), .ow kF a15 nfy c16 34 (hyL wd py wr Xfe Xfy), .blk b18 [.slice a11 nfe c12, .slice a13 nfx c14, .slice a15 nfy c16] 30, .blk b7 [.slice none 0 0, .slice none 0 0, .slice none 0 0] 30, .blk b4 [.slice afe nfe cfe, .slice afx nfx cfx, .slice afy nfy cfy] 30, .blk b1 [.int .i64 wd, .int .i64 py, .bool wr, .slice asp nsp csp, .slice als nls cls] 26, .rd kF asp nsp Xsp, .rd kF als nls Xls, .rd kF afe nfe Xfe, .rd kF afx nfx Xfx, .rd kF afy nfy Xfy] := B.castX 0 rfl rfl mix_all
      refine W_seq ?_
      refine W_region (by kernel_rfl) ?_
      refine s_y (v := .agg #[.slice a11 nfe c12, .slice a13 nfx c14, .slice a15 nfy c16]) rfl (y_loadn (b := b18) (o := 0) (vs := [.slice a11 nfe c12, .slice a13 nfx c14, .slice a15 nfy c16]) T89.agg_30_3 rfl rfl ((B.b 3 rfl).cells (o := 0) rfl)) ?_
      refine s_k0 rfl (k_stB (v := .agg #[.slice a11 nfe c12, .slice a13 nfx c14, .slice a15 nfy c16]) (n := 3) (cs' := [.slice a11 nfe c12, .slice a13 nfx c14, .slice a15 nfy c16]) T89.sz_30_3 rfl rfl rfl (B.b 4 rfl) (by simp [Value.cells, Value.oneCell']) (Nat.le_of_ble_eq_true rfl) rfl (fun w59 hU60 => ?_))
      replace B : Bu w no w59 [.blk b7 [.slice a11 nfe c12, .slice a13 nfx c14, .slice a15 nfy c16] 30, .ow kF a11 nfe c12 34 (tab (wd * py) (fun i => nwF wd py wr Xsp Xls Xfe (hxL wd py wr Xfe Xfx) (hyL wd py wr Xfe Xfy) (i % wd) (i / wd))), .ow kF a13 nfx c14 34 (hxL wd py wr Xfe Xfx), .ow kF a15 nfy c16 34 (hyL wd py wr Xfe Xfy), .blk b18 [.slice a11 nfe c12, .slice a13 nfx c14, .slice a15 nfy c16] 30, .blk b4 [.slice afe nfe cfe, .slice afx nfx cfx, .slice afy nfy cfy] 30, .blk b1 [.int .i64 wd, .int .i64 py, .bool wr, .slice asp nsp csp, .slice als nls cls] 26, .rd kF asp nsp Xsp, .rd kF als nls Xls, .rd kF afe nfe Xfe, .rd kF afx nfx Xfx, .rd kF afy nfy Xfy] := B.upd [4] rfl hU60
      clear hU60
      refine s_nil ?_
      refine W_ret ?_
      refine ret1 (v := .agg #[.slice a11 nfe c12, .slice a13 nfx c14, .slice a15 nfy c16]) rfl rfl ⟨_, [.slice a11 nfe c12, .slice a13 nfx c14, .slice a15 nfy c16], _, rfl, (B.b 0 rfl), T89.agg_30_3, rfl⟩ ⟨_, rfl, ?_⟩
      replace B : Bu w no w59 [.blk b7 [.slice a11 nfe c12, .slice a13 nfx c14, .slice a15 nfy c16] 30, .ow kF a11 nfe c12 34 (nwL wd py wr Xsp Xls Xfe (hxL wd py wr Xfe Xfx) (hyL wd py wr Xfe Xfy)), .ow kF a13 nfx c14 34 (hxL wd py wr Xfe Xfx), .ow kF a15 nfy c16 34 (hyL wd py wr Xfe Xfy), .blk b18 [.slice a11 nfe c12, .slice a13 nfx c14, .slice a15 nfy c16] 30, .blk b4 [.slice afe nfe cfe, .slice afx nfx cfx, .slice afy nfy cfy] 30, .blk b1 [.int .i64 wd, .int .i64 py, .bool wr, .slice asp nsp csp, .slice als nls cls] 26, .rd kF asp nsp Xsp, .rd kF als nls Xls, .rd kF afe nfe Xfe, .rd kF afx nfx Xfx, .rd kF afy nfy Xfy] := B.castX 1 rfl rfl rfl
      exact ⟨_, _, _, _, _, _, rfl, B.give [1, 2, 3] rfl rfl rfl⟩
namespace T146
theorem mx : Try.prog.follows .mixedOrders = true := by kernel_rfl
theorem d64b_152 : from64B Try.prog 152 := ⟨_, Try.func152, by kernel_rfl, by kernel_rfl, by kernel_rfl, by kernel_rfl⟩
end T146
set_option maxRecDepth 100000 in
set_option maxHeartbeats 4000000 in
theorem c_m_NaN  {w : World} :
    Calls Try.prog 146 #[] w (Rt fun v w' => (∃ r, v = .float .f64 r ∧ Cn .f64 r (can .f64 (Int.toNat 9221120237041090561))) ∧ Ext0 w w') := by
  have B : Bu w no w [] := Bu.ro All.nil rfl
  refine calls_W (n := 2) Try.func146 rfl rfl (Nat.le_of_ble_eq_true rfl) ?_
  refine W_seq ?_
  refine W_region (by kernel_rfl) ?_
  refine s_y (v := .float .f64 0) rfl (y_assign rfl) ?_
  refine s_nil ?_
  refine W_seq ?_
  refine W_region (by kernel_rfl) ?_
  refine s_k rfl (k_from64 T146.d64b_152 rfl ?_)
  refine s_y (v := .float .f64 (Int.toNat 9221120237041090561)) rfl (y_assign rfl) ?_
  refine s_nil ?_
  refine W_ret ?_
  refine ret1 (v := .float .f64 (Int.toNat 9221120237041090561)) rfl rfl rfl ⟨_, rfl, ?_⟩
  exact ⟨⟨_, rfl, (cnR (show Int.toNat 9221120237041090561 < wid .f64 by first | exact u64_wid _ | decide))⟩, B.ext⟩
namespace T147
theorem mx : Try.prog.follows .mixedOrders = true := by kernel_rfl
theorem d64b_152 : from64B Try.prog 152 := ⟨_, Try.func152, by kernel_rfl, by kernel_rfl, by kernel_rfl, by kernel_rfl⟩
theorem f64b_129 : f64bitsB Try.prog 129 := ⟨_, Try.func129, by kernel_rfl, by kernel_rfl, by kernel_rfl, by kernel_rfl⟩
end T147
set_option maxRecDepth 100000 in
set_option maxHeartbeats 4000000 in
theorem c_m_Abs {x : Nat} {X : Nat} {w : World} (hx : Cn .f64 x X) (hn : nanb .f64 X = false) :
    Calls Try.prog 147 #[.float .f64 x] w (Rt fun v w' => (∃ r, v = .float .f64 r ∧ Cn .f64 r (can .f64 (absT X))) ∧ Ext0 w w') := by
  have B : Bu w no w [] := Bu.ro All.nil rfl
  refine calls_W (n := 7) Try.func147 rfl rfl (Nat.le_of_ble_eq_true rfl) ?_
  refine W_seq ?_
  refine W_region (by kernel_rfl) ?_
  refine s_y (v := .float .f64 0) rfl (y_assign rfl) ?_
  refine s_nil ?_
  refine W_seq ?_
  refine W_region (by kernel_rfl) ?_
  refine s_y (v := .float .f64 x) rfl (y_move rfl) ?_
  refine s_k rfl (k_f64bits T147.f64b_129 rfl ?_)
  refine s_y (v := .int .u64 (IntKind.u64.wrap ((BitVec.ofInt IntKind.u64.bits ((x : Nat) : Int) &&& ~~~ BitVec.ofInt IntKind.u64.bits 9223372036854775808).toNat : Int))) rfl (y_andn rfl rfl) ?_
  refine s_k rfl (k_from64 T147.d64b_152 rfl ?_)
  refine s_y (v := .float .f64 (Int.toNat (IntKind.u64.wrap ((BitVec.ofInt IntKind.u64.bits ((x : Nat) : Int) &&& ~~~ BitVec.ofInt IntKind.u64.bits 9223372036854775808).toNat : Int)))) rfl (y_assign rfl) ?_
  refine s_nil ?_
  refine W_ret ?_
  refine ret1 (v := .float .f64 (Int.toNat (IntKind.u64.wrap ((BitVec.ofInt IntKind.u64.bits ((x : Nat) : Int) &&& ~~~ BitVec.ofInt IntKind.u64.bits 9223372036854775808).toNat : Int)))) rfl rfl rfl ⟨_, rfl, ?_⟩
  exact ⟨⟨_, rfl, cnT (cnR (show Int.toNat (IntKind.u64.wrap ((BitVec.ofInt IntKind.u64.bits ((x : Nat) : Int) &&& ~~~ BitVec.ofInt IntKind.u64.bits 9223372036854775808).toNat : Int)) < wid .f64 by first | exact u64_wid _ | decide)) (by rw [can_eq hx hn]; rfl)⟩, B.ext⟩
namespace T153
theorem mx : Try.prog.follows .mixedOrders = true := by kernel_rfl
theorem flt_53_f64 : Try.prog.underlying 53 = some (.float .f64) := by kernel_rfl
theorem int_2_i64 : Try.prog.underlying 2 = some (.int .i64) := by kernel_rfl
theorem und_2 : (Try.prog.underlying 2).isSome = true := by kernel_rfl
theorem und_53 : (Try.prog.underlying 53).isSome = true := by kernel_rfl
end T153
set_option maxRecDepth 100000 in
set_option maxHeartbeats 4000000 in
theorem c_i_fraction {x : Nat} {X : Nat} {w : World} (hx : Cn .f64 x X) (hok : okI X = true) :
    Calls Try.prog 153 #[.float .f64 x] w (Rt fun v w' => (∃ r, v = .float .f64 r ∧ Cn .f64 r (frT X)) ∧ Ext0 w w') := by
  have B : Bu w no w [] := Bu.ro All.nil rfl
  refine calls_W (n := 14) Try.func153 rfl rfl (Nat.le_of_ble_eq_true rfl) ?_
  refine W_seq ?_
  refine W_region (by kernel_rfl) ?_
  refine s_y (v := .float .f64 0) rfl (y_assign rfl) ?_
  refine s_nil ?_
  refine W_seq ?_
  refine W_region (by kernel_rfl) ?_
  refine s_y (v := .float .f64 x) rfl (y_move rfl) ?_
  refine s_y (v := .float .f64 x) rfl (y_move rfl) ?_
  refine s_y (v := .int .i64 (itv X)) rfl (y_fi T153.und_53 T153.int_2_i64 rfl hx hok) ?_
  refine s_y (v := .float .f64 (FloatKind.nearest .f64 (itv X))) rfl (y_if T153.und_2 T153.flt_53_f64 rfl) ?_
  refine s_n rfl (n_arith (by decide) rfl rfl) ?_
  rintro _ w4 e5 ⟨r2, rfl, hr3⟩
  replace B := B.ext0 e5
  clear e5
  have hc6 := fopC hr3 hx (cn_nearest .f64 (itv X))
  refine s_y (v := .float .f64 r2) rfl (y_assign rfl) ?_
  refine s_nil ?_
  refine W_seq ?_
  refine W_seq ?_
  refine W_region (by kernel_rfl) ?_
  refine s_y (v := .float .f64 r2) rfl (y_move rfl) ?_
  by_cases c7 : flt .f64 (fop .sub .f64 X (FloatKind.nearest .f64 (itv X))) 0 = true
  · refine s_y (v := .bool true) rfl (y_flss rfl rfl (fltC hc6 (cnLit (k := .f64) (t := 0) (by kernel_rfl) (by kernel_rfl)) c7)) ?_
    refine s_nil ?_
    refine W_if_t (by decide) rfl ?_
    refine W_region (by kernel_rfl) ?_
    refine s_y (v := .float .f64 r2) rfl (y_move rfl) ?_
    refine s_n rfl (n_arith (by decide) rfl rfl) ?_
    rintro _ w11 e12 ⟨r9, rfl, hr10⟩
    replace B := B.ext0 e12
    clear e12
    have hc13 := fopC hr10 hc6 (cnLit (k := .f64) (t := 4607182418800017408) (by kernel_rfl) (by kernel_rfl))
    refine s_y (v := .float .f64 r9) rfl (y_assign rfl) ?_
    refine s_nil ?_
    refine W_seq ?_
    refine W_region (by kernel_rfl) ?_
    refine s_y (v := .float .f64 r9) rfl (y_move rfl) ?_
    refine s_y (v := .float .f64 r9) rfl (y_assign rfl) ?_
    refine s_nil ?_
    refine W_ret ?_
    refine ret1 (v := .float .f64 r9) rfl rfl rfl ⟨_, rfl, ?_⟩
    exact ⟨⟨_, rfl, cnT hc13 (frT_1 c7)⟩, B.ext⟩
  · refine s_y (v := .bool false) rfl (y_flss rfl rfl (fltC hc6 (cnLit (k := .f64) (t := 0) (by kernel_rfl) (by kernel_rfl)) (Bool.eq_false_iff.2 c7))) ?_
    refine s_nil ?_
    refine W_if_f (by decide) rfl ?_
    refine W_skip ?_
    refine W_seq ?_
    refine W_region (by kernel_rfl) ?_
    refine s_y (v := .float .f64 r2) rfl (y_move rfl) ?_
    refine s_y (v := .float .f64 r2) rfl (y_assign rfl) ?_
    refine s_nil ?_
    refine W_ret ?_
    refine ret1 (v := .float .f64 r2) rfl rfl rfl ⟨_, rfl, ?_⟩
    exact ⟨⟨_, rfl, cnT hc6 (frT_2 c7)⟩, B.ext⟩
end Go.Proofs.Ytgohmocjjmkepaa
