/- Walks: what the functions under FnWaves do (part 2). Printed by a program of this claim's author. -/
import Derived.Test.YtgohmocjjmkepaaWavesW0
set_option linter.unusedSimpArgs false
set_option linter.unusedVariables false
open Go.Wv
namespace Go.Proofs.Ytgohmocjjmkepaa
open Go.Proofs
namespace T25
theorem mx : Try.prog.follows .mixedOrders = true := by kernel_rfl
theorem agg_44_6 : aggB Try.prog 44 6 = true := by kernel_rfl
theorem fn_27 : fnB Try.prog 27 = true := by kernel_rfl
theorem fn_82 : fnB Try.prog 82 = true := by kernel_rfl
theorem fn_83 : fnB Try.prog 83 = true := by kernel_rfl
theorem slt_24 : SlT Try.prog 24 34 1 4 (.float .f32 0) := ⟨by kernel_rfl, by kernel_rfl, rfl, by decide⟩
end T25
set_option maxRecDepth 100000 in
set_option maxHeartbeats 4000000 in
theorem c_i_WaveList {kd : Int} {tt : Int} {ln : Int} {tn : Nat} {TN : Nat} {sz : Nat} {SZ : Nat} {sd : Int} {fr : Int} {ct : Int} {w : World} (htn : Cn .f32 tn TN) (hsz : Cn .f32 sz SZ) (hfr : fr ≤ 9000000000000000000) (hok : ∀ kq, 0 ≤ kq → kq < ct → wavOK kd tt ln TN (fr + kq)) :
    Calls Try.prog 25 #[.agg #[.int .i64 kd, .int .i64 tt, .int .i64 ln, .float .f32 tn, .float .f32 sz, .int .i64 sd], .int .i64 fr, .int .i64 ct] w (Rt fun v w' => ((validW kd tt ln TN sd && ticksB fr ct) = true ∧ ∃ (a1 : Option Addr) (c1 : Nat), v = .tuple #[.slice a1 (Int.toNat ct) c1, .bool true] ∧ New w w' [.ow kF a1 (Int.toNat ct) c1 34 (tab ct (fun kq => wavT kd tt ln TN SZ sd (fr + kq)))]) ∨ ((validW kd tt ln TN sd && ticksB fr ct) = false ∧ v = .tuple #[.slice none 0 0, .bool false] ∧ Ext0 w w')) := by
  have B : Bu w no w [] := Bu.ro All.nil rfl
  refine calls_W (n := 34) Try.func25 rfl rfl (Nat.le_of_ble_eq_true rfl) ?_
  refine W_seq ?_
  refine W_region (by kernel_rfl) ?_
  refine s_k rfl (k_boxN (v := .agg #[.int .i64 kd, .int .i64 tt, .int .i64 ln, .float .f32 tn, .float .f32 sz, .int .i64 sd]) (cs := [.int .i64 kd, .int .i64 tt, .int .i64 ln, .float .f32 tn, .float .f32 sz, .int .i64 sd]) rfl rfl (fun b1 w2 hN3 => ?_))
  replace B := B.new1 hN3
  clear hN3
  refine s_y (v := .slice none 0 0) rfl (y_assign rfl) ?_
  refine s_y (v := .bool false) rfl (y_assign rfl) ?_
  refine s_nil ?_
  refine W_seq ?_
  refine W_seq ?_
  refine W_region (by kernel_rfl) ?_
  refine s_y (v := .agg #[.int .i64 kd, .int .i64 tt, .int .i64 ln, .float .f32 tn, .float .f32 sz, .int .i64 sd]) rfl (y_loadn (b := b1) (o := 0) (vs := [.int .i64 kd, .int .i64 tt, .int .i64 ln, .float .f32 tn, .float .f32 sz, .int .i64 sd]) T25.agg_44_6 rfl rfl ((B.b 0 rfl).cells (o := 0) rfl)) ?_
  refine s_k rfl (k_call T25.fn_27 (c_i_ValidWave htn hsz) rfl ?_)
  rintro v6 w4 ⟨hv7, e5⟩
  replace B := B.ext0 e5
  clear e5
  by_cases c8 : validW kd tt ln TN sd = true
  · have hb9 := validW_b c8
    obtain rfl : v6 = .bool true := hv7.trans (congrArg Value.bool c8)
    refine s_y (v := .bool false) rfl (y_not rfl rfl) ?_
    refine s_y (v := .bool false) rfl (y_move rfl) ?_
    refine s_y (v := .int .i64 fr) rfl (y_move rfl) ?_
    refine s_y (v := .int .i64 ct) rfl (y_move rfl) ?_
    refine s_k rfl (k_call T25.fn_82 (c_i_areTicks (by omega)) rfl ?_)
    rintro v12 w10 ⟨hv13, e11⟩
    replace B := B.ext0 e11
    clear e11
    by_cases c14 : ticksB fr ct = true
    · have hb15 := ticksB_b c14
      obtain rfl : v12 = .bool true := hv13.trans (congrArg Value.bool c14)
      refine s_y (v := .bool false) rfl (y_not rfl rfl) ?_
      refine s_y (v := .bool false) rfl (y_pick_f rfl rfl) ?_
      refine s_nil ?_
      refine W_if_f (by decide) rfl ?_
      refine W_skip ?_
      refine W_seq ?_
      refine W_region (by kernel_rfl) ?_
      refine s_k rfl (k_bsliceO (k := kF) (n := 0) (cells := #[]) (X := []) T25.slt_24 (by decide) (by first | rfl | kernel_rfl) (rfl : Reps kF [] []) rfl (fun b16 w17 hN18 => ?_))
      replace B := B.new1 hN18
      clear hN18
      refine s_y (v := .slice (some ⟨b16, 0, none⟩) 0 0) rfl (y_assign rfl) ?_
      refine s_nil ?_
      refine W_seq ?_
      refine W_seq ?_
      refine W_region (by kernel_rfl) ?_
      refine s_y (v := .int .i64 ct) rfl (y_move rfl) ?_
      refine s_y (v := .int .i64 0) rfl (y_move rfl) ?_
      refine s_nil ?_
      refine W_block ?_
      refine W_loop (fun ρ' w' => ∃ (ρ1 : Env) (k : Int) (a0 : Option Addr) (cc0 : Nat) (nn0 : Nat), ρ' = updL ρ1 [(1, .int .i64 fr), (3, .pointer (some ⟨b1, 0, none⟩)), (6, .slice none 0 0), (7, .bool false), (8, .slice a0 nn0 cc0), (20, .int .i64 ct), (21, .int .i64 k)] ∧ Bu w no w' [.ow kF a0 nn0 cc0 34 (tab k (fun kq => wavT kd tt ln TN SZ sd (fr + kq))), .blk b1 [.int .i64 kd, .int .i64 tt, .int .i64 ln, .float .f32 tn, .float .f32 sz, .int .i64 sd] 44] ∧ (0 ≤ k) ∧ (k ≤ ct)) (fun ρ' _ => (ct - iv (ρ' 21)).toNat) ?_ ?_
      · replace B : Bu w no w17 [.ow kF (some ⟨b16, 0, none⟩) 0 0 34 (tab 0 (fun kq => wavT kd tt ln TN SZ sd (fr + kq))), .blk b1 [.int .i64 kd, .int .i64 tt, .int .i64 ln, .float .f32 tn, .float .f32 sz, .int .i64 sd] 44] := B.castX 0 rfl rfl rfl
        exact ⟨_, 0, (some ⟨b16, 0, none⟩), 0, 0, Fits.eq ⟨rfl, rfl, rfl, rfl, rfl, rfl, rfl, trivial⟩, B, (Int.le_refl _), (by omega)⟩
      · clear B; rintro _ w19 ⟨ρ20, k, a0, cc0, nn0, rfl, B, h0k, h1k⟩
        have hnn0 := (B.o 0 rfl).len
        rw [tab_length] at hnn0
        refine W_seq ?_
        refine W_region (by kernel_rfl) ?_
        by_cases c21 : k < ct
        · refine s_y (v := .bool true) rfl (y_lss rfl rfl (decide_eq_true c21)) ?_
          refine s_nil ?_
          refine W_seq ?_
          refine W_if_t (by decide) rfl ?_
          refine W_skip ?_
          refine W_seq ?_
          refine W_block ?_
          refine W_seq ?_
          refine W_region (by kernel_rfl) ?_
          refine s_y (v := .int .i64 k) rfl (y_move rfl) ?_
          refine s_y (v := .int .i64 k) rfl (y_assign rfl) ?_
          refine s_nil ?_
          refine W_region (by kernel_rfl) ?_
          refine s_y (v := .slice a0 nn0 cc0) rfl (y_move rfl) ?_
          refine s_y (v := .agg #[.int .i64 kd, .int .i64 tt, .int .i64 ln, .float .f32 tn, .float .f32 sz, .int .i64 sd]) rfl (y_loadn (b := b1) (o := 0) (vs := [.int .i64 kd, .int .i64 tt, .int .i64 ln, .float .f32 tn, .float .f32 sz, .int .i64 sd]) T25.agg_44_6 rfl rfl ((B.b 1 rfl).cells (o := 0) rfl)) ?_
          refine s_y (v := .int .i64 fr) rfl (y_move rfl) ?_
          refine s_y (v := .int .i64 k) rfl (y_move rfl) ?_
          refine s_y (v := .int .i64 (fr + k)) rfl (y_add rfl rfl rfl (by omega)) ?_
          refine s_k rfl (k_call T25.fn_83 (c_i_waveAt htn hsz (by omega) (by omega) (by omega) (by omega) (by omega) (by omega) (by omega) (by omega) (by omega) (by omega) (hok k (by omega) (by omega))) rfl ?_)
          rintro _ w22 ⟨⟨r24, rfl, hr25⟩, e23⟩
          replace B := B.ext0 e23
          clear e23
          refine s_k rfl (k_bsliceO (k := kF) (n := 1) (cells := #[.float .f32 r24]) (X := [wavT kd tt ln TN SZ sd (fr + k)]) T25.slt_24 (by decide) (by first | rfl | kernel_rfl) (reps_cons (c := [.float .f32 r24]) ⟨_, rfl, hr25⟩ (rfl : Reps kF [] [])) rfl (fun b26 w27 hN28 => ?_))
          replace B := B.new1 hN28
          clear hN28
          refine s_k rfl (k_appO (k := kF) T25.slt_24 rfl rfl rfl (B.o 1 rfl) (B.o 0 rfl).rd (by omega) (by unfold maxLen; omega) (fun a29 c30 w31 hU32 => ?_))
          replace B : Bu w no w31 [.ow kF a29 (nn0 + 1) c30 34 ((tab k (fun kq => wavT kd tt ln TN SZ sd (fr + kq))) ++ ([wavT kd tt ln TN SZ sd (fr + k)])), .ow kF (some ⟨b26, 0, none⟩) 1 1 34 ([wavT kd tt ln TN SZ sd (fr + k)]), .blk b1 [.int .i64 kd, .int .i64 tt, .int .i64 ln, .float .f32 tn, .float .f32 sz, .int .i64 sd] 44] := B.upd [1] rfl hU32
          clear hU32
          refine s_y (v := .slice a29 (nn0 + 1) c30) rfl (y_assign rfl) ?_
          refine s_nil ?_
          refine W_region (by kernel_rfl) ?_
          refine s_y (v := .int .i64 (k + 1)) rfl (y_add rfl rfl rfl (by omega)) ?_
          refine s_y (v := .int .i64 (k + 1)) rfl (y_move rfl) ?_
          refine s_nil ?_
          replace B : Bu w no w31 [.ow kF a29 (nn0 + 1) c30 34 (tab (k + 1) (fun kq => wavT kd tt ln TN SZ sd (fr + kq))), .ow kF (some ⟨b26, 0, none⟩) 1 1 34 ([wavT kd tt ln TN SZ sd (fr + k)]), .blk b1 [.int .i64 kd, .int .i64 tt, .int .i64 ln, .float .f32 tn, .float .f32 sz, .int .i64 sd] 44] := B.castX 0 rfl rfl (tab_snoc (g := fun kq => wavT kd tt ln TN SZ sd (fr + kq)) (by omega) rfl)
          refine ⟨⟨_, k + 1, a29, c30, nn0 + 1, Fits.eq ⟨rfl, rfl, rfl, rfl, rfl, rfl, rfl, trivial⟩, (B.pick [0, 2] rfl rfl), (by omega), (by omega)⟩, ?_⟩
          show (ct - (k + 1)).toNat < (ct - k).toNat
          omega
        · refine s_y (v := .bool false) rfl (y_lss rfl rfl (decide_eq_false c21)) ?_
          refine s_nil ?_
          refine W_seq ?_
          refine W_if_f (by decide) rfl ?_
          refine W_exit ?_
          refine W_seq ?_
          refine W_region (by kernel_rfl) ?_
          refine s_y (v := .slice a0 nn0 cc0) rfl (y_move rfl) ?_
          refine s_y (v := .slice a0 nn0 cc0) rfl (y_assign rfl) ?_
          refine s_y (v := .bool true) rfl (y_assign rfl) ?_
          refine s_nil ?_
          refine W_ret ?_
          refine ret2 (v1 := .slice a0 nn0 cc0) (v2 := .bool true) rfl rfl rfl rfl rfl ⟨_, rfl, ?_⟩
          have hcond : (validW kd tt ln TN sd && ticksB fr ct) = true := by simp only [c8, c14, (decide_eq_false c21), Bool.and_true, Bool.true_and, Bool.and_false, Bool.false_and, Bool.not_true, Bool.not_false, Bool.or_true, Bool.true_or, Bool.or_false, Bool.false_or]
          obtain rfl : ct = k := by omega
          replace B : Bu w no w19 [.ow kF a0 (Int.toNat ct) cc0 34 (tab ct (fun kq => wavT kd tt ln TN SZ sd (fr + kq))), .blk b1 [.int .i64 kd, .int .i64 tt, .int .i64 ln, .float .f32 tn, .float .f32 sz, .int .i64 sd] 44] := B.castX 0 rfl (by omega) rfl
          exact .inl ⟨hcond, ⟨_, _, (by rw [(show nn0 = Int.toNat ct from (by omega))]), B.give [0] rfl rfl rfl⟩⟩
    · obtain rfl : v12 = .bool false := hv13.trans (congrArg Value.bool (Bool.eq_false_iff.2 c14))
      refine s_y (v := .bool true) rfl (y_not rfl rfl) ?_
      refine s_y (v := .bool true) rfl (y_pick_f rfl rfl) ?_
      refine s_nil ?_
      refine W_if_t (by decide) rfl ?_
      refine W_seq ?_
      refine W_region (by kernel_rfl) ?_
      refine s_y (v := .slice none 0 0) rfl (y_assign rfl) ?_
      refine s_y (v := .bool false) rfl (y_assign rfl) ?_
      refine s_nil ?_
      refine W_ret ?_
      refine ret2 (v1 := .slice none 0 0) (v2 := .bool false) rfl rfl rfl rfl rfl ⟨_, rfl, ?_⟩
      exact .inr ⟨by simp only [c8, (Bool.eq_false_iff.2 c14), Bool.and_true, Bool.true_and, Bool.and_false, Bool.false_and, Bool.not_true, Bool.not_false, Bool.or_true, Bool.true_or, Bool.or_false, Bool.false_or], rfl, B.ext⟩
  · obtain rfl : v6 = .bool false := hv7.trans (congrArg Value.bool (Bool.eq_false_iff.2 c8))
    refine s_y (v := .bool true) rfl (y_not rfl rfl) ?_
    refine s_y (v := .bool true) rfl (y_move rfl) ?_
    refine s_skip rfl ?_
    refine s_skip rfl ?_
    refine s_skip rfl ?_
    refine s_skip rfl ?_
    refine s_y (v := .bool true) rfl (y_pick_t rfl rfl) ?_
    refine s_nil ?_
    refine W_if_t (by decide) rfl ?_
    refine W_seq ?_
    refine W_region (by kernel_rfl) ?_
    refine s_y (v := .slice none 0 0) rfl (y_assign rfl) ?_
    refine s_y (v := .bool false) rfl (y_assign rfl) ?_
    refine s_nil ?_
    refine W_ret ?_
    refine ret2 (v1 := .slice none 0 0) (v2 := .bool false) rfl rfl rfl rfl rfl ⟨_, rfl, ?_⟩
    exact .inr ⟨by simp only [(Bool.eq_false_iff.2 c8), Bool.and_true, Bool.true_and, Bool.and_false, Bool.false_and, Bool.not_true, Bool.not_false, Bool.or_true, Bool.true_or, Bool.or_false, Bool.false_or], rfl, B.ext⟩
namespace T26
theorem mx : Try.prog.follows .mixedOrders = true := by kernel_rfl
theorem agg_44_6 : aggB Try.prog 44 6 = true := by kernel_rfl
theorem fld_44_1_1 : fldB Try.prog 44 1 1 = true := by kernel_rfl
theorem fn_27 : fnB Try.prog 27 = true := by kernel_rfl
theorem fn_74 : fnB Try.prog 74 = true := by kernel_rfl
theorem one_2 : oneB Try.prog 2 = true := by kernel_rfl
theorem sz_2_1 : szB Try.prog 2 1 = true := by kernel_rfl
theorem sz_44_6 : szB Try.prog 44 6 = true := by kernel_rfl
theorem zero_44 : zeroB Try.prog 44 (.agg #[.int .i64 0, .int .i64 0, .int .i64 0, .float .f32 0, .float .f32 0, .int .i64 0]) := by unfold zeroB; kernel_rfl
end T26
set_option maxRecDepth 100000 in
set_option maxHeartbeats 4000000 in
theorem c_i_LaterWave {kd : Int} {tt : Int} {ln : Int} {tn : Nat} {TN : Nat} {sz : Nat} {SZ : Nat} {sd : Int} {y : Int} {w : World} (htn : Cn .f32 tn TN) (hsz : Cn .f32 sz SZ) :
    Calls Try.prog 26 #[.agg #[.int .i64 kd, .int .i64 tt, .int .i64 ln, .float .f32 tn, .float .f32 sz, .int .i64 sd], .int .i64 y] w (Rt fun v w' => (laterB kd tt ln TN sd y = true ∧ v = .tuple #[.agg #[.int .i64 kd, .int .i64 (tt + y), .int .i64 ln, .float .f32 tn, .float .f32 sz, .int .i64 sd], .bool true] ∧ Ext0 w w') ∨ (laterB kd tt ln TN sd y = false ∧ v = .tuple #[.agg #[.int .i64 0, .int .i64 0, .int .i64 0, .float .f32 0, .float .f32 0, .int .i64 0], .bool false] ∧ Ext0 w w')) := by
  have B : Bu w no w [] := Bu.ro All.nil rfl
  refine calls_W (n := 25) Try.func26 rfl rfl (Nat.le_of_ble_eq_true rfl) ?_
  refine W_seq ?_
  refine W_region (by kernel_rfl) ?_
  refine s_k rfl (k_boxN (v := .agg #[.int .i64 kd, .int .i64 tt, .int .i64 ln, .float .f32 tn, .float .f32 sz, .int .i64 sd]) (cs := [.int .i64 kd, .int .i64 tt, .int .i64 ln, .float .f32 tn, .float .f32 sz, .int .i64 sd]) rfl rfl (fun b1 w2 hN3 => ?_))
  replace B := B.new1 hN3
  clear hN3
  refine s_k rfl (k_allocN (z := (.agg #[.int .i64 0, .int .i64 0, .int .i64 0, .float .f32 0, .float .f32 0, .int .i64 0])) (cs := [.int .i64 0, .int .i64 0, .int .i64 0, .float .f32 0, .float .f32 0, .int .i64 0]) T26.zero_44 rfl (fun b4 w5 hN6 => ?_))
  replace B := B.new1 hN6
  clear hN6
  refine s_y (v := .bool false) rfl (y_assign rfl) ?_
  refine s_nil ?_
  refine W_seq ?_
  refine W_seq ?_
  refine W_region (by kernel_rfl) ?_
  refine s_y (v := .agg #[.int .i64 kd, .int .i64 tt, .int .i64 ln, .float .f32 tn, .float .f32 sz, .int .i64 sd]) rfl (y_loadn (b := b1) (o := 0) (vs := [.int .i64 kd, .int .i64 tt, .int .i64 ln, .float .f32 tn, .float .f32 sz, .int .i64 sd]) T26.agg_44_6 rfl rfl ((B.b 1 rfl).cells (o := 0) rfl)) ?_
  refine s_k rfl (k_call T26.fn_27 (c_i_ValidWave htn hsz) rfl ?_)
  rintro v9 w7 ⟨hv10, e8⟩
  replace B := B.ext0 e8
  clear e8
  by_cases c11 : validW kd tt ln TN sd = true
  · have hb12 := validW_b c11
    obtain rfl : v9 = .bool true := hv10.trans (congrArg Value.bool c11)
    refine s_y (v := .bool false) rfl (y_not rfl rfl) ?_
    refine s_y (v := .bool false) rfl (y_move rfl) ?_
    refine s_y (v := .int .i64 y) rfl (y_move rfl) ?_
    refine s_k rfl (k_call T26.fn_74 (c_i_within) rfl ?_)
    rintro v15 w13 ⟨hv16, e14⟩
    replace B := B.ext0 e14
    clear e14
    by_cases c17 : within y (-1000000) 1000000 = true
    · have hb18 := within_b c17
      obtain rfl : v15 = .bool true := hv16.trans (congrArg Value.bool c17)
      refine s_y (v := .bool false) rfl (y_not rfl rfl) ?_
      refine s_y (v := .bool false) rfl (y_pick_f rfl rfl) ?_
      refine s_nil ?_
      refine W_if_f (by decide) rfl ?_
      refine W_skip ?_
      refine W_seq ?_
      refine W_region (by kernel_rfl) ?_
      refine s_y (v := .pointer (some ⟨b1, 1, none⟩)) rfl (y_fld (o := 0) T26.fld_44_1_1 rfl) ?_
      refine s_y (v := .int .i64 tt) rfl (y_load T26.one_2 rfl ((B.b 1 rfl).cell (j := 1) rfl)) ?_
      refine s_y (v := .int .i64 y) rfl (y_move rfl) ?_
      refine s_y (v := .int .i64 (tt + y)) rfl (y_add rfl rfl rfl (by omega)) ?_
      refine s_y (v := .pointer (some ⟨b1, 1, none⟩)) rfl (y_fld (o := 0) T26.fld_44_1_1 rfl) ?_
      refine s_k0 rfl (k_stB (v := .int .i64 (tt + y)) (n := 1) (cs' := [.int .i64 kd, .int .i64 (tt + y), .int .i64 ln, .float .f32 tn, .float .f32 sz, .int .i64 sd]) T26.sz_2_1 rfl rfl rfl (B.b 1 rfl) (by simp [Value.cells, Value.oneCell']) (Nat.le_of_ble_eq_true rfl) rfl (fun w19 hU20 => ?_))
      replace B : Bu w no w19 [.blk b1 [.int .i64 kd, .int .i64 (tt + y), .int .i64 ln, .float .f32 tn, .float .f32 sz, .int .i64 sd] 44, .blk b4 [.int .i64 0, .int .i64 0, .int .i64 0, .float .f32 0, .float .f32 0, .int .i64 0] 44] := B.upd [1] rfl hU20
      clear hU20
      refine s_nil ?_
      refine W_seq ?_
      refine W_seq ?_
      refine W_region (by kernel_rfl) ?_
      refine s_y (v := .agg #[.int .i64 kd, .int .i64 (tt + y), .int .i64 ln, .float .f32 tn, .float .f32 sz, .int .i64 sd]) rfl (y_loadn (b := b1) (o := 0) (vs := [.int .i64 kd, .int .i64 (tt + y), .int .i64 ln, .float .f32 tn, .float .f32 sz, .int .i64 sd]) T26.agg_44_6 rfl rfl ((B.b 0 rfl).cells (o := 0) rfl)) ?_
      refine s_k rfl (k_call T26.fn_27 (c_i_ValidWave htn hsz) rfl ?_)
      rintro v23 w21 ⟨hv24, e22⟩
      replace B := B.ext0 e22
      clear e22
      by_cases c25 : validW kd (tt + y) ln TN sd = true
      · have hb26 := validW_b c25
        obtain rfl : v23 = .bool true := hv24.trans (congrArg Value.bool c25)
        refine s_y (v := .bool false) rfl (y_not rfl rfl) ?_
        refine s_nil ?_
        refine W_if_f (by decide) rfl ?_
        refine W_skip ?_
        refine W_seq ?_
        refine W_region (by kernel_rfl) ?_
        refine s_y (v := .agg #[.int .i64 kd, .int .i64 (tt + y), .int .i64 ln, .float .f32 tn, .float .f32 sz, .int .i64 sd]) rfl (y_loadn (b := b1) (o := 0) (vs := [.int .i64 kd, .int .i64 (tt + y), .int .i64 ln, .float .f32 tn, .float .f32 sz, .int .i64 sd]) T26.agg_44_6 rfl rfl ((B.b 0 rfl).cells (o := 0) rfl)) ?_
        refine s_k0 rfl (k_stB (v := .agg #[.int .i64 kd, .int .i64 (tt + y), .int .i64 ln, .float .f32 tn, .float .f32 sz, .int .i64 sd]) (n := 6) (cs' := [.int .i64 kd, .int .i64 (tt + y), .int .i64 ln, .float .f32 tn, .float .f32 sz, .int .i64 sd]) T26.sz_44_6 rfl rfl rfl (B.b 1 rfl) (by simp [Value.cells, Value.oneCell']) (Nat.le_of_ble_eq_true rfl) rfl (fun w27 hU28 => ?_))
        replace B : Bu w no w27 [.blk b4 [.int .i64 kd, .int .i64 (tt + y), .int .i64 ln, .float .f32 tn, .float .f32 sz, .int .i64 sd] 44, .blk b1 [.int .i64 kd, .int .i64 (tt + y), .int .i64 ln, .float .f32 tn, .float .f32 sz, .int .i64 sd] 44] := B.upd [1] rfl hU28
        clear hU28
        refine s_y (v := .bool true) rfl (y_assign rfl) ?_
        refine s_nil ?_
        refine W_ret ?_
        refine ret2 (v1 := .agg #[.int .i64 kd, .int .i64 (tt + y), .int .i64 ln, .float .f32 tn, .float .f32 sz, .int .i64 sd]) (v2 := .bool true) rfl rfl rfl ⟨_, [.int .i64 kd, .int .i64 (tt + y), .int .i64 ln, .float .f32 tn, .float .f32 sz, .int .i64 sd], _, rfl, (B.b 0 rfl), T26.agg_44_6, rfl⟩ rfl ⟨_, rfl, ?_⟩
        have hcond : laterB kd tt ln TN sd y = true := by simp only [laterB, c11, c17, Bool.true_and]; rw [← later_valid c11]; exact c25
        exact .inl ⟨hcond, ⟨rfl, B.ext⟩⟩
      · obtain rfl : v23 = .bool false := hv24.trans (congrArg Value.bool (Bool.eq_false_iff.2 c25))
        refine s_y (v := .bool true) rfl (y_not rfl rfl) ?_
        refine s_nil ?_
        refine W_if_t (by decide) rfl ?_
        refine W_seq ?_
        refine W_region (by kernel_rfl) ?_
        refine s_y (v := .agg #[.int .i64 0, .int .i64 0, .int .i64 0, .float .f32 0, .float .f32 0, .int .i64 0]) rfl (y_build (cells := #[.int .i64 0, .int .i64 0, .int .i64 0, .float .f32 0, .float .f32 0, .int .i64 0]) (by kernel_rfl)) ?_
        refine s_k0 rfl (k_stB (v := .agg #[.int .i64 0, .int .i64 0, .int .i64 0, .float .f32 0, .float .f32 0, .int .i64 0]) (n := 6) (cs' := [.int .i64 0, .int .i64 0, .int .i64 0, .float .f32 0, .float .f32 0, .int .i64 0]) T26.sz_44_6 rfl rfl rfl (B.b 1 rfl) (by simp [Value.cells, Value.oneCell']) (Nat.le_of_ble_eq_true rfl) rfl (fun w29 hU30 => ?_))
        replace B : Bu w no w29 [.blk b4 [.int .i64 0, .int .i64 0, .int .i64 0, .float .f32 0, .float .f32 0, .int .i64 0] 44, .blk b1 [.int .i64 kd, .int .i64 (tt + y), .int .i64 ln, .float .f32 tn, .float .f32 sz, .int .i64 sd] 44] := B.upd [1] rfl hU30
        clear hU30
        refine s_y (v := .bool false) rfl (y_assign rfl) ?_
        refine s_nil ?_
        refine W_ret ?_
        refine ret2 (v1 := .agg #[.int .i64 0, .int .i64 0, .int .i64 0, .float .f32 0, .float .f32 0, .int .i64 0]) (v2 := .bool false) rfl rfl rfl ⟨_, [.int .i64 0, .int .i64 0, .int .i64 0, .float .f32 0, .float .f32 0, .int .i64 0], _, rfl, (B.b 0 rfl), T26.agg_44_6, rfl⟩ rfl ⟨_, rfl, ?_⟩
        exact .inr ⟨by simp only [laterB, c11, c17, Bool.true_and]; rw [← later_valid c11]; exact (Bool.eq_false_iff.2 c25), rfl, B.ext⟩
    · obtain rfl : v15 = .bool false := hv16.trans (congrArg Value.bool (Bool.eq_false_iff.2 c17))
      refine s_y (v := .bool true) rfl (y_not rfl rfl) ?_
      refine s_y (v := .bool true) rfl (y_pick_f rfl rfl) ?_
      refine s_nil ?_
      refine W_if_t (by decide) rfl ?_
      refine W_seq ?_
      refine W_region (by kernel_rfl) ?_
      refine s_y (v := .agg #[.int .i64 0, .int .i64 0, .int .i64 0, .float .f32 0, .float .f32 0, .int .i64 0]) rfl (y_build (cells := #[.int .i64 0, .int .i64 0, .int .i64 0, .float .f32 0, .float .f32 0, .int .i64 0]) (by kernel_rfl)) ?_
      refine s_k0 rfl (k_stB (v := .agg #[.int .i64 0, .int .i64 0, .int .i64 0, .float .f32 0, .float .f32 0, .int .i64 0]) (n := 6) (cs' := [.int .i64 0, .int .i64 0, .int .i64 0, .float .f32 0, .float .f32 0, .int .i64 0]) T26.sz_44_6 rfl rfl rfl (B.b 0 rfl) (by simp [Value.cells, Value.oneCell']) (Nat.le_of_ble_eq_true rfl) rfl (fun w31 hU32 => ?_))
      replace B : Bu w no w31 [.blk b4 [.int .i64 0, .int .i64 0, .int .i64 0, .float .f32 0, .float .f32 0, .int .i64 0] 44, .blk b1 [.int .i64 kd, .int .i64 tt, .int .i64 ln, .float .f32 tn, .float .f32 sz, .int .i64 sd] 44] := B.upd [0] rfl hU32
      clear hU32
      refine s_y (v := .bool false) rfl (y_assign rfl) ?_
      refine s_nil ?_
      refine W_ret ?_
      refine ret2 (v1 := .agg #[.int .i64 0, .int .i64 0, .int .i64 0, .float .f32 0, .float .f32 0, .int .i64 0]) (v2 := .bool false) rfl rfl rfl ⟨_, [.int .i64 0, .int .i64 0, .int .i64 0, .float .f32 0, .float .f32 0, .int .i64 0], _, rfl, (B.b 0 rfl), T26.agg_44_6, rfl⟩ rfl ⟨_, rfl, ?_⟩
      exact .inr ⟨by simp only [laterB, c11, (Bool.eq_false_iff.2 c17), Bool.and_true, Bool.true_and, Bool.and_false, Bool.false_and, Bool.not_true, Bool.not_false, Bool.or_true, Bool.true_or, Bool.or_false, Bool.false_or], rfl, B.ext⟩
  · obtain rfl : v9 = .bool false := hv10.trans (congrArg Value.bool (Bool.eq_false_iff.2 c11))
    refine s_y (v := .bool true) rfl (y_not rfl rfl) ?_
    refine s_y (v := .bool true) rfl (y_move rfl) ?_
    refine s_skip rfl ?_
    refine s_skip rfl ?_
    refine s_skip rfl ?_
    refine s_y (v := .bool true) rfl (y_pick_t rfl rfl) ?_
    refine s_nil ?_
    refine W_if_t (by decide) rfl ?_
    refine W_seq ?_
    refine W_region (by kernel_rfl) ?_
    refine s_y (v := .agg #[.int .i64 0, .int .i64 0, .int .i64 0, .float .f32 0, .float .f32 0, .int .i64 0]) rfl (y_build (cells := #[.int .i64 0, .int .i64 0, .int .i64 0, .float .f32 0, .float .f32 0, .int .i64 0]) (by kernel_rfl)) ?_
    refine s_k0 rfl (k_stB (v := .agg #[.int .i64 0, .int .i64 0, .int .i64 0, .float .f32 0, .float .f32 0, .int .i64 0]) (n := 6) (cs' := [.int .i64 0, .int .i64 0, .int .i64 0, .float .f32 0, .float .f32 0, .int .i64 0]) T26.sz_44_6 rfl rfl rfl (B.b 0 rfl) (by simp [Value.cells, Value.oneCell']) (Nat.le_of_ble_eq_true rfl) rfl (fun w33 hU34 => ?_))
    replace B : Bu w no w33 [.blk b4 [.int .i64 0, .int .i64 0, .int .i64 0, .float .f32 0, .float .f32 0, .int .i64 0] 44, .blk b1 [.int .i64 kd, .int .i64 tt, .int .i64 ln, .float .f32 tn, .float .f32 sz, .int .i64 sd] 44] := B.upd [0] rfl hU34
    clear hU34
    refine s_y (v := .bool false) rfl (y_assign rfl) ?_
    refine s_nil ?_
    refine W_ret ?_
    refine ret2 (v1 := .agg #[.int .i64 0, .int .i64 0, .int .i64 0, .float .f32 0, .float .f32 0, .int .i64 0]) (v2 := .bool false) rfl rfl rfl ⟨_, [.int .i64 0, .int .i64 0, .int .i64 0, .float .f32 0, .float .f32 0, .int .i64 0], _, rfl, (B.b 0 rfl), T26.agg_44_6, rfl⟩ rfl ⟨_, rfl, ?_⟩
    exact .inr ⟨by simp only [laterB, (Bool.eq_false_iff.2 c11), Bool.and_true, Bool.true_and, Bool.and_false, Bool.false_and, Bool.not_true, Bool.not_false, Bool.or_true, Bool.true_or, Bool.or_false, Bool.false_or], rfl, B.ext⟩
namespace T28
theorem mx : Try.prog.follows .mixedOrders = true := by kernel_rfl
theorem agg_44_6 : aggB Try.prog 44 6 = true := by kernel_rfl
theorem fn_27 : fnB Try.prog 27 = true := by kernel_rfl
theorem fn_83 : fnB Try.prog 83 = true := by kernel_rfl
theorem fn_84 : fnB Try.prog 84 = true := by kernel_rfl
end T28
set_option maxRecDepth 100000 in
set_option maxHeartbeats 4000000 in
theorem c_i_WaveAt {kd : Int} {tt : Int} {ln : Int} {tn : Nat} {TN : Nat} {sz : Nat} {SZ : Nat} {sd : Int} {st : Int} {w : World} (htn : Cn .f32 tn TN) (hsz : Cn .f32 sz SZ) (hok : wavOK kd tt ln TN st) :
    Calls Try.prog 28 #[.agg #[.int .i64 kd, .int .i64 tt, .int .i64 ln, .float .f32 tn, .float .f32 sz, .int .i64 sd], .int .i64 st] w (Rt fun v w' => ((validW kd tt ln TN sd && isTick st) = true ∧ ∃ (r1 : Nat), v = .tuple #[.float .f32 r1, .bool true] ∧ Cn .f32 r1 (wavT kd tt ln TN SZ sd st) ∧ Ext0 w w') ∨ ((validW kd tt ln TN sd && isTick st) = false ∧ v = .tuple #[.float .f32 0, .bool false] ∧ Ext0 w w')) := by
  have B : Bu w no w [] := Bu.ro All.nil rfl
  refine calls_W (n := 17) Try.func28 rfl rfl (Nat.le_of_ble_eq_true rfl) ?_
  refine W_seq ?_
  refine W_region (by kernel_rfl) ?_
  refine s_k rfl (k_boxN (v := .agg #[.int .i64 kd, .int .i64 tt, .int .i64 ln, .float .f32 tn, .float .f32 sz, .int .i64 sd]) (cs := [.int .i64 kd, .int .i64 tt, .int .i64 ln, .float .f32 tn, .float .f32 sz, .int .i64 sd]) rfl rfl (fun b1 w2 hN3 => ?_))
  replace B := B.new1 hN3
  clear hN3
  refine s_y (v := .float .f32 0) rfl (y_assign rfl) ?_
  refine s_y (v := .bool false) rfl (y_assign rfl) ?_
  refine s_nil ?_
  refine W_seq ?_
  refine W_seq ?_
  refine W_region (by kernel_rfl) ?_
  refine s_y (v := .agg #[.int .i64 kd, .int .i64 tt, .int .i64 ln, .float .f32 tn, .float .f32 sz, .int .i64 sd]) rfl (y_loadn (b := b1) (o := 0) (vs := [.int .i64 kd, .int .i64 tt, .int .i64 ln, .float .f32 tn, .float .f32 sz, .int .i64 sd]) T28.agg_44_6 rfl rfl ((B.b 0 rfl).cells (o := 0) rfl)) ?_
  refine s_k rfl (k_call T28.fn_27 (c_i_ValidWave htn hsz) rfl ?_)
  rintro v6 w4 ⟨hv7, e5⟩
  replace B := B.ext0 e5
  clear e5
  by_cases c8 : validW kd tt ln TN sd = true
  · have hb9 := validW_b c8
    obtain rfl : v6 = .bool true := hv7.trans (congrArg Value.bool c8)
    refine s_y (v := .bool false) rfl (y_not rfl rfl) ?_
    refine s_y (v := .bool false) rfl (y_move rfl) ?_
    refine s_y (v := .int .i64 st) rfl (y_move rfl) ?_
    refine s_k rfl (k_call T28.fn_84 (c_i_isTick) rfl ?_)
    rintro v12 w10 ⟨hv13, e11⟩
    replace B := B.ext0 e11
    clear e11
    by_cases c14 : isTick st = true
    · have hb15 := isTick_b c14
      obtain rfl : v12 = .bool true := hv13.trans (congrArg Value.bool c14)
      refine s_y (v := .bool false) rfl (y_not rfl rfl) ?_
      refine s_y (v := .bool false) rfl (y_pick_f rfl rfl) ?_
      refine s_nil ?_
      refine W_if_f (by decide) rfl ?_
      refine W_skip ?_
      refine W_seq ?_
      refine W_region (by kernel_rfl) ?_
      refine s_y (v := .agg #[.int .i64 kd, .int .i64 tt, .int .i64 ln, .float .f32 tn, .float .f32 sz, .int .i64 sd]) rfl (y_loadn (b := b1) (o := 0) (vs := [.int .i64 kd, .int .i64 tt, .int .i64 ln, .float .f32 tn, .float .f32 sz, .int .i64 sd]) T28.agg_44_6 rfl rfl ((B.b 0 rfl).cells (o := 0) rfl)) ?_
      refine s_y (v := .int .i64 st) rfl (y_move rfl) ?_
      refine s_k rfl (k_call T28.fn_83 (c_i_waveAt htn hsz (by omega) (by omega) (by omega) (by omega) (by omega) (by omega) (by omega) (by omega) (by omega) (by omega) hok) rfl ?_)
      rintro _ w16 ⟨⟨r18, rfl, hr19⟩, e17⟩
      replace B := B.ext0 e17
      clear e17
      refine s_y (v := .float .f32 r18) rfl (y_assign rfl) ?_
      refine s_y (v := .bool true) rfl (y_assign rfl) ?_
      refine s_nil ?_
      refine W_ret ?_
      refine ret2 (v1 := .float .f32 r18) (v2 := .bool true) rfl rfl rfl rfl rfl ⟨_, rfl, ?_⟩
      have hcond : (validW kd tt ln TN sd && isTick st) = true := by simp only [c8, c14, Bool.and_true, Bool.true_and, Bool.and_false, Bool.false_and, Bool.not_true, Bool.not_false, Bool.or_true, Bool.true_or, Bool.or_false, Bool.false_or]
      exact .inl ⟨hcond, ⟨_, rfl, hr19, B.ext⟩⟩
    · obtain rfl : v12 = .bool false := hv13.trans (congrArg Value.bool (Bool.eq_false_iff.2 c14))
      refine s_y (v := .bool true) rfl (y_not rfl rfl) ?_
      refine s_y (v := .bool true) rfl (y_pick_f rfl rfl) ?_
      refine s_nil ?_
      refine W_if_t (by decide) rfl ?_
      refine W_seq ?_
      refine W_region (by kernel_rfl) ?_
      refine s_y (v := .float .f32 0) rfl (y_assign rfl) ?_
      refine s_y (v := .bool false) rfl (y_assign rfl) ?_
      refine s_nil ?_
      refine W_ret ?_
      refine ret2 (v1 := .float .f32 0) (v2 := .bool false) rfl rfl rfl rfl rfl ⟨_, rfl, ?_⟩
      exact .inr ⟨by simp only [c8, (Bool.eq_false_iff.2 c14), Bool.and_true, Bool.true_and, Bool.and_false, Bool.false_and, Bool.not_true, Bool.not_false, Bool.or_true, Bool.true_or, Bool.or_false, Bool.false_or], rfl, B.ext⟩
  · obtain rfl : v6 = .bool false := hv7.trans (congrArg Value.bool (Bool.eq_false_iff.2 c8))
    refine s_y (v := .bool true) rfl (y_not rfl rfl) ?_
    refine s_y (v := .bool true) rfl (y_move rfl) ?_
    refine s_skip rfl ?_
    refine s_skip rfl ?_
    refine s_skip rfl ?_
    refine s_y (v := .bool true) rfl (y_pick_t rfl rfl) ?_
    refine s_nil ?_
    refine W_if_t (by decide) rfl ?_
    refine W_seq ?_
    refine W_region (by kernel_rfl) ?_
    refine s_y (v := .float .f32 0) rfl (y_assign rfl) ?_
    refine s_y (v := .bool false) rfl (y_assign rfl) ?_
    refine s_nil ?_
    refine W_ret ?_
    refine ret2 (v1 := .float .f32 0) (v2 := .bool false) rfl rfl rfl rfl rfl ⟨_, rfl, ?_⟩
    exact .inr ⟨by simp only [(Bool.eq_false_iff.2 c8), Bool.and_true, Bool.true_and, Bool.and_false, Bool.false_and, Bool.not_true, Bool.not_false, Bool.or_true, Bool.true_or, Bool.or_false, Bool.false_or], rfl, B.ext⟩
namespace T87
theorem mx : Try.prog.follows .mixedOrders = true := by kernel_rfl
theorem f64b_129 : f64bitsB Try.prog 129 := ⟨_, Try.func129, by kernel_rfl, by kernel_rfl, by kernel_rfl, by kernel_rfl⟩
theorem int_2_i64 : Try.prog.underlying 2 = some (.int .i64) := by kernel_rfl
theorem und_129 : (Try.prog.underlying 129).isSome = true := by kernel_rfl
end T87
set_option maxRecDepth 100000 in
set_option maxHeartbeats 4000000 in
theorem c_m_Signbit {x : Nat} {X : Nat} {w : World} (hx : Cn .f64 x X) (hn : nanb .f64 X = false) :
    Calls Try.prog 87 #[.float .f64 x] w (Rt fun v w' => v = .bool (sgnB X) ∧ Ext0 w w') := by
  have B : Bu w no w [] := Bu.ro All.nil rfl
  refine calls_W (n := 7) Try.func87 rfl rfl (Nat.le_of_ble_eq_true rfl) ?_
  refine W_seq ?_
  refine W_region (by kernel_rfl) ?_
  refine s_y (v := .bool false) rfl (y_assign rfl) ?_
  refine s_nil ?_
  refine W_seq ?_
  refine W_region (by kernel_rfl) ?_
  refine s_y (v := .float .f64 x) rfl (y_move rfl) ?_
  refine s_k rfl (k_f64bits T87.f64b_129 rfl ?_)
  refine s_y (v := .int .i64 (IntKind.i64.wrap ((x : Nat) : Int))) rfl (y_ii T87.und_129 T87.int_2_i64 rfl rfl) ?_
  by_cases c1 : (IntKind.i64.wrap ((x : Nat) : Int)) < 0
  · refine s_y (v := .bool true) rfl (y_lss rfl rfl (decide_eq_true c1)) ?_
    refine s_y (v := .bool true) rfl (y_assign rfl) ?_
    refine s_nil ?_
    refine W_ret ?_
    refine ret1 (v := .bool true) rfl rfl rfl ⟨_, rfl, ?_⟩
    exact ⟨congrArg Value.bool ((by unfold sgnB; rw [← sgn_can hx hn]; exact (decide_eq_true c1).symm)), B.ext⟩
  · refine s_y (v := .bool false) rfl (y_lss rfl rfl (decide_eq_false c1)) ?_
    refine s_y (v := .bool false) rfl (y_assign rfl) ?_
    refine s_nil ?_
    refine W_ret ?_
    refine ret1 (v := .bool false) rfl rfl rfl ⟨_, rfl, ?_⟩
    exact ⟨congrArg Value.bool ((by unfold sgnB; rw [← sgn_can hx hn]; exact (decide_eq_false c1).symm)), B.ext⟩
namespace T29
theorem mx : Try.prog.follows .mixedOrders = true := by kernel_rfl
theorem bool_4 : Try.prog.underlying 4 = some .bool := by kernel_rfl
theorem flt_53_f64 : Try.prog.underlying 53 = some (.float .f64) := by kernel_rfl
theorem fn_87 : fnB Try.prog 87 = true := by kernel_rfl
theorem und_34 : (Try.prog.underlying 34).isSome = true := by kernel_rfl
end T29
set_option maxRecDepth 100000 in
set_option maxHeartbeats 4000000 in
theorem c_i_SameNumber {x : Nat} {X : Nat} {y : Nat} {Y : Nat} {w : World} (hx : Cn .f32 x X) (hy : Cn .f32 y Y) :
    Calls Try.prog 29 #[.float .f32 x, .float .f32 y] w (Rt fun v w' => v = .bool (sameN X Y) ∧ Ext0 w w') := by
  have B : Bu w no w [] := Bu.ro All.nil rfl
  refine calls_W (n := 33) Try.func29 rfl rfl (Nat.le_of_ble_eq_true rfl) ?_
  refine W_seq ?_
  refine W_region (by kernel_rfl) ?_
  refine s_y (v := .bool false) rfl (y_assign rfl) ?_
  refine s_nil ?_
  refine W_seq ?_
  refine W_seq ?_
  refine W_region (by kernel_rfl) ?_
  refine s_y (v := .float .f32 x) rfl (y_move rfl) ?_
  refine s_y (v := .float .f32 x) rfl (y_move rfl) ?_
  by_cases c1 : fne .f32 X X = true
  · refine s_y (v := .bool true) rfl (y_fneq rfl rfl (fneC hx hx c1)) ?_
    refine s_y (v := .bool true) rfl (y_move rfl) ?_
    refine s_skip rfl ?_
    refine s_skip rfl ?_
    refine s_skip rfl ?_
    refine s_y (v := .bool true) rfl (y_pick_t rfl rfl) ?_
    refine s_nil ?_
    refine W_if_t (by decide) rfl ?_
    refine W_seq ?_
    refine W_region (by kernel_rfl) ?_
    refine s_y (v := .float .f32 x) rfl (y_move rfl) ?_
    refine s_y (v := .float .f32 x) rfl (y_move rfl) ?_
    refine s_y (v := .bool true) rfl (y_fneq rfl rfl (fneC hx hx c1)) ?_
    refine s_y (v := .bool true) rfl (y_move rfl) ?_
    refine s_y (v := .float .f32 y) rfl (y_move rfl) ?_
    refine s_y (v := .float .f32 y) rfl (y_move rfl) ?_
    by_cases c2 : fne .f32 Y Y = true
    · refine s_y (v := .bool true) rfl (y_fneq rfl rfl (fneC hy hy c2)) ?_
      refine s_y (v := .bool true) rfl (y_pick_t rfl rfl) ?_
      refine s_y (v := .bool true) rfl (y_assign rfl) ?_
      refine s_nil ?_
      refine W_ret ?_
      refine ret1 (v := .bool true) rfl rfl rfl ⟨_, rfl, ?_⟩
      exact ⟨congrArg Value.bool (by simp [sameN, *]), B.ext⟩
    · refine s_y (v := .bool false) rfl (y_fneq rfl rfl (fneC hy hy (Bool.eq_false_iff.2 c2))) ?_
      refine s_y (v := .bool false) rfl (y_pick_t rfl rfl) ?_
      refine s_y (v := .bool false) rfl (y_assign rfl) ?_
      refine s_nil ?_
      refine W_ret ?_
      refine ret1 (v := .bool false) rfl rfl rfl ⟨_, rfl, ?_⟩
      exact ⟨congrArg Value.bool (by simp [sameN, *]), B.ext⟩
  · refine s_y (v := .bool false) rfl (y_fneq rfl rfl (fneC hx hx (Bool.eq_false_iff.2 c1))) ?_
    refine s_y (v := .bool false) rfl (y_move rfl) ?_
    refine s_y (v := .float .f32 y) rfl (y_move rfl) ?_
    refine s_y (v := .float .f32 y) rfl (y_move rfl) ?_
    by_cases c3 : fne .f32 Y Y = true
    · refine s_y (v := .bool true) rfl (y_fneq rfl rfl (fneC hy hy c3)) ?_
      refine s_y (v := .bool true) rfl (y_pick_f rfl rfl) ?_
      refine s_nil ?_
      refine W_if_t (by decide) rfl ?_
      refine W_seq ?_
      refine W_region (by kernel_rfl) ?_
      refine s_y (v := .float .f32 x) rfl (y_move rfl) ?_
      refine s_y (v := .float .f32 x) rfl (y_move rfl) ?_
      refine s_y (v := .bool false) rfl (y_fneq rfl rfl (fneC hx hx (Bool.eq_false_iff.2 c1))) ?_
      refine s_y (v := .bool false) rfl (y_move rfl) ?_
      refine s_skip rfl ?_
      refine s_skip rfl ?_
      refine s_skip rfl ?_
      refine s_y (v := .bool false) rfl (y_pick_f rfl rfl) ?_
      refine s_y (v := .bool false) rfl (y_assign rfl) ?_
      refine s_nil ?_
      refine W_ret ?_
      refine ret1 (v := .bool false) rfl rfl rfl ⟨_, rfl, ?_⟩
      exact ⟨congrArg Value.bool (by simp [sameN, *]), B.ext⟩
    · refine s_y (v := .bool false) rfl (y_fneq rfl rfl (fneC hy hy (Bool.eq_false_iff.2 c3))) ?_
      refine s_y (v := .bool false) rfl (y_pick_f rfl rfl) ?_
      refine s_nil ?_
      refine W_if_f (by decide) rfl ?_
      refine W_skip ?_
      refine W_seq ?_
      refine W_region (by kernel_rfl) ?_
      refine s_y (v := .float .f32 x) rfl (y_move rfl) ?_
      refine s_y (v := .float .f32 y) rfl (y_move rfl) ?_
      by_cases c4 : feq .f32 X Y = true
      · refine s_y (v := .bool true) rfl (y_feql rfl rfl (feqC hx hy c4)) ?_
        refine s_y (v := .bool true) rfl (y_move rfl) ?_
        refine s_y (v := .float .f32 x) rfl (y_move rfl) ?_
        refine s_n rfl (n_wide T29.und_34 T29.flt_53_f64 rfl) ?_
        rintro _ w7 e8 ⟨r5, rfl, hr6⟩
        replace B := B.ext0 e8
        clear e8
        have hc9 := wideC hr6 hx
        refine s_k rfl (k_call T29.fn_87 (c_m_Signbit hc9 (widen_ok c1)) rfl ?_)
        rintro v12 w10 ⟨hv13, e11⟩
        replace B := B.ext0 e11
        clear e11
        by_cases c14 : sgnB (widen X) = true
        · obtain rfl : v12 = .bool true := hv13.trans (congrArg Value.bool c14)
          refine s_y (v := .float .f32 y) rfl (y_move rfl) ?_
          refine s_n rfl (n_wide T29.und_34 T29.flt_53_f64 rfl) ?_
          rintro _ w17 e18 ⟨r15, rfl, hr16⟩
          replace B := B.ext0 e18
          clear e18
          have hc19 := wideC hr16 hy
          refine s_k rfl (k_call T29.fn_87 (c_m_Signbit hc19 (widen_ok c3)) rfl ?_)
          rintro v22 w20 ⟨hv23, e21⟩
          replace B := B.ext0 e21
          clear e21
          by_cases c24 : sgnB (widen Y) = true
          · obtain rfl : v22 = .bool true := hv23.trans (congrArg Value.bool c24)
            refine s_y (v := .bool true) rfl (y_beql T29.bool_4 rfl rfl rfl) ?_
            refine s_y (v := .bool true) rfl (y_pick_t rfl rfl) ?_
            refine s_y (v := .bool true) rfl (y_assign rfl) ?_
            refine s_nil ?_
            refine W_ret ?_
            refine ret1 (v := .bool true) rfl rfl rfl ⟨_, rfl, ?_⟩
            exact ⟨congrArg Value.bool (by simp [sameN, *]), B.ext⟩
          · obtain rfl : v22 = .bool false := hv23.trans (congrArg Value.bool (Bool.eq_false_iff.2 c24))
            refine s_y (v := .bool false) rfl (y_beql T29.bool_4 rfl rfl rfl) ?_
            refine s_y (v := .bool false) rfl (y_pick_t rfl rfl) ?_
            refine s_y (v := .bool false) rfl (y_assign rfl) ?_
            refine s_nil ?_
            refine W_ret ?_
            refine ret1 (v := .bool false) rfl rfl rfl ⟨_, rfl, ?_⟩
            exact ⟨congrArg Value.bool (by simp [sameN, *]), B.ext⟩
        · obtain rfl : v12 = .bool false := hv13.trans (congrArg Value.bool (Bool.eq_false_iff.2 c14))
          refine s_y (v := .float .f32 y) rfl (y_move rfl) ?_
          refine s_n rfl (n_wide T29.und_34 T29.flt_53_f64 rfl) ?_
          rintro _ w27 e28 ⟨r25, rfl, hr26⟩
          replace B := B.ext0 e28
          clear e28
          have hc29 := wideC hr26 hy
          refine s_k rfl (k_call T29.fn_87 (c_m_Signbit hc29 (widen_ok c3)) rfl ?_)
          rintro v32 w30 ⟨hv33, e31⟩
          replace B := B.ext0 e31
          clear e31
          by_cases c34 : sgnB (widen Y) = true
          · obtain rfl : v32 = .bool true := hv33.trans (congrArg Value.bool c34)
            refine s_y (v := .bool false) rfl (y_beql T29.bool_4 rfl rfl rfl) ?_
            refine s_y (v := .bool false) rfl (y_pick_t rfl rfl) ?_
            refine s_y (v := .bool false) rfl (y_assign rfl) ?_
            refine s_nil ?_
            refine W_ret ?_
            refine ret1 (v := .bool false) rfl rfl rfl ⟨_, rfl, ?_⟩
            exact ⟨congrArg Value.bool (by simp [sameN, *]), B.ext⟩
          · obtain rfl : v32 = .bool false := hv33.trans (congrArg Value.bool (Bool.eq_false_iff.2 c34))
            refine s_y (v := .bool true) rfl (y_beql T29.bool_4 rfl rfl rfl) ?_
            refine s_y (v := .bool true) rfl (y_pick_t rfl rfl) ?_
            refine s_y (v := .bool true) rfl (y_assign rfl) ?_
            refine s_nil ?_
            refine W_ret ?_
            refine ret1 (v := .bool true) rfl rfl rfl ⟨_, rfl, ?_⟩
            exact ⟨congrArg Value.bool (by simp [sameN, *]), B.ext⟩
      · refine s_y (v := .bool false) rfl (y_feql rfl rfl (feqC hx hy (Bool.eq_false_iff.2 c4))) ?_
        refine s_y (v := .bool false) rfl (y_move rfl) ?_
        refine s_skip rfl ?_
        refine s_skip rfl ?_
        refine s_skip rfl ?_
        refine s_skip rfl ?_
        refine s_skip rfl ?_
        refine s_skip rfl ?_
        refine s_skip rfl ?_
        refine s_y (v := .bool false) rfl (y_pick_f rfl rfl) ?_
        refine s_y (v := .bool false) rfl (y_assign rfl) ?_
        refine s_nil ?_
        refine W_ret ?_
        refine ret1 (v := .bool false) rfl rfl rfl ⟨_, rfl, ?_⟩
        exact ⟨congrArg Value.bool (by simp [sameN, *]), B.ext⟩
namespace T30
theorem mx : Try.prog.follows .mixedOrders = true := by kernel_rfl
theorem fn_86 : fnB Try.prog 86 = true := by kernel_rfl
theorem fn_88 : fnB Try.prog 88 = true := by kernel_rfl
end T30
set_option maxRecDepth 100000 in
set_option maxHeartbeats 4000000 in
theorem c_i_NextSeed {x : Int} {w : World} :
    Calls Try.prog 30 #[.int .i64 x] w (Rt fun v w' => (isSeed x = true ∧ v = .tuple #[.int .i64 (nextS x), .bool true] ∧ Ext0 w w') ∨ (isSeed x = false ∧ v = .tuple #[.int .i64 0, .bool false] ∧ Ext0 w w')) := by
  have B : Bu w no w [] := Bu.ro All.nil rfl
  refine calls_W (n := 9) Try.func30 rfl rfl (Nat.le_of_ble_eq_true rfl) ?_
  refine W_seq ?_
  refine W_region (by kernel_rfl) ?_
  refine s_y (v := .int .i64 0) rfl (y_assign rfl) ?_
  refine s_y (v := .bool false) rfl (y_assign rfl) ?_
  refine s_nil ?_
  refine W_seq ?_
  refine W_seq ?_
  refine W_region (by kernel_rfl) ?_
  refine s_y (v := .int .i64 x) rfl (y_move rfl) ?_
  refine s_k rfl (k_call T30.fn_86 (c_i_isSeed) rfl ?_)
  rintro v3 w1 ⟨hv4, e2⟩
  replace B := B.ext0 e2
  clear e2
  by_cases c5 : isSeed x = true
  · have hb6 := isSeed_b c5
    obtain rfl : v3 = .bool true := hv4.trans (congrArg Value.bool c5)
    refine s_y (v := .bool false) rfl (y_not rfl rfl) ?_
    refine s_nil ?_
    refine W_if_f (by decide) rfl ?_
    refine W_skip ?_
    refine W_seq ?_
    refine W_region (by kernel_rfl) ?_
    refine s_y (v := .int .i64 x) rfl (y_move rfl) ?_
    refine s_k rfl (k_call T30.fn_88 (c_i_nextSeed (by omega) (by omega)) rfl ?_)
    rintro _ w7 ⟨rfl, e8⟩
    replace B := B.ext0 e8
    clear e8
    have hns9 := nextS_b x
    refine s_y (v := .int .i64 (nextS x)) rfl (y_assign rfl) ?_
    refine s_y (v := .bool true) rfl (y_assign rfl) ?_
    refine s_nil ?_
    refine W_ret ?_
    refine ret2 (v1 := .int .i64 (nextS x)) (v2 := .bool true) rfl rfl rfl rfl rfl ⟨_, rfl, ?_⟩
    have hcond : isSeed x = true := by simp only [c5, Bool.and_true, Bool.true_and, Bool.and_false, Bool.false_and, Bool.not_true, Bool.not_false, Bool.or_true, Bool.true_or, Bool.or_false, Bool.false_or]
    exact .inl ⟨hcond, ⟨rfl, B.ext⟩⟩
  · obtain rfl : v3 = .bool false := hv4.trans (congrArg Value.bool (Bool.eq_false_iff.2 c5))
    refine s_y (v := .bool true) rfl (y_not rfl rfl) ?_
    refine s_nil ?_
    refine W_if_t (by decide) rfl ?_
    refine W_seq ?_
    refine W_region (by kernel_rfl) ?_
    refine s_y (v := .int .i64 0) rfl (y_assign rfl) ?_
    refine s_y (v := .bool false) rfl (y_assign rfl) ?_
    refine s_nil ?_
    refine W_ret ?_
    refine ret2 (v1 := .int .i64 0) (v2 := .bool false) rfl rfl rfl rfl rfl ⟨_, rfl, ?_⟩
    exact .inr ⟨by simp only [(Bool.eq_false_iff.2 c5), Bool.and_true, Bool.true_and, Bool.and_false, Bool.false_and, Bool.not_true, Bool.not_false, Bool.or_true, Bool.true_or, Bool.or_false, Bool.false_or], rfl, B.ext⟩
end Go.Proofs.Ytgohmocjjmkepaa
