/- Walks: what the functions under FnExactSumOfSteps do (part 1). Printed by a program of this claim's author. -/
import Derived.Test.YtmcldploldaceaaBw1
set_option linter.unusedSimpArgs false
set_option linter.unusedVariables false
open Go.Wv
namespace Go.Proofs.Ytmcldploldaceaa
open Go.Proofs
namespace T94
theorem mx : Try.prog.follows .mixedOrders = true := by kernel_rfl
theorem fn_104 : fnB Try.prog 104 = true := by kernel_rfl
theorem fn_105 : fnB Try.prog 105 = true := by kernel_rfl
end T94
set_option maxRecDepth 100000 in
set_option maxHeartbeats 4000000 in
theorem c_s_l03Both {b : Nat} {o : Nat} {wd : Int} {hi : Int} {wr : Bool} {asp : Option Addr} {nsp : Nat} {csp : Nat} {Xsp : List Nat} {als : Option Addr} {nls : Nat} {cls : Nat} {Xls : List Nat} {b2 : Nat} {o2 : Nat} {afe : Option Addr} {nfe : Nat} {cfe : Nat} {Xfe : List Nat} {afx : Option Addr} {nfx : Nat} {cfx : Nat} {Xfx : List Nat} {afy : Option Addr} {nfy : Nat} {cfy : Nat} {Xfy : List Nat} {w : World} (qsp : Rd w kF asp nsp Xsp) (qls : Rd w kF als nls Xls) (Pb : Sl w (some ⟨b, o, none⟩) [.int .i64 wd, .int .i64 hi, .bool wr, .slice asp nsp csp, .slice als nls cls]) (qfe : Rd w kF afe nfe Xfe) (qfx : Rd w kF afx nfx Xfx) (qfy : Rd w kF afy nfy Xfy) (Pb2 : Sl w (some ⟨b2, o2, none⟩) [.slice afe nfe cfe, .slice afx nfx cfx, .slice afy nfy cfy]) (hbsp : nsp ≤ 9223372036854775806) (hbls : nls ≤ 9223372036854775806) (hbfe : nfe ≤ 9223372036854775806) (hbfx : nfx ≤ 9223372036854775806) (hbfy : nfy ≤ 9223372036854775806) :
    Calls Try.prog 94 #[.pointer (some ⟨b, o, none⟩), .pointer (some ⟨b2, o2, none⟩)] w (Rt fun v w' => v = .bool (fieldB wd hi wr Xsp Xls Xfe Xfx Xfy) ∧ Ext0 w w') := by
  have hlsp := qsp.len
  have hlls := qls.len
  have hlfe := qfe.len
  have hlfx := qfx.len
  have hlfy := qfy.len
  have B : Bu w no w [.rd kF asp nsp Xsp, .rd kF als nls Xls, .sl (some ⟨b, o, none⟩) [.int .i64 wd, .int .i64 hi, .bool wr, .slice asp nsp csp, .slice als nls cls], .rd kF afe nfe Xfe, .rd kF afx nfx Xfx, .rd kF afy nfy Xfy, .sl (some ⟨b2, o2, none⟩) [.slice afe nfe cfe, .slice afx nfx cfx, .slice afy nfy cfy]] := Bu.ro (All.cons qsp (All.cons qls (All.cons Pb (All.cons qfe (All.cons qfx (All.cons qfy (All.cons Pb2 All.nil))))))) rfl
  refine calls_W (n := 12) Try.func94 rfl rfl (Nat.le_of_ble_eq_true rfl) ?_
  refine W_seq ?_
  refine W_region (by kernel_rfl) ?_
  refine s_y (v := .bool false) rfl (y_assign rfl) ?_
  refine s_nil ?_
  refine W_seq ?_
  refine W_region (by kernel_rfl) ?_
  refine s_y (v := .pointer (some ⟨b, o, none⟩)) rfl (y_move rfl) ?_
  refine s_k rfl (k_call T94.fn_104 (c_s_l02Is (B.r 0 rfl) (B.r 1 rfl) (B.s 2 rfl) (by omega) (by omega)) rfl ?_)
  rintro v3 w1 ⟨hv4, e2⟩
  replace B := B.ext0 e2
  clear e2
  by_cases c5 : validS wd hi Xsp Xls = true
  · have hb6 := validS_b c5
    obtain rfl : v3 = .bool true := hv4.trans (congrArg Value.bool c5)
    refine s_y (v := .bool true) rfl (y_move rfl) ?_
    refine s_y (v := .pointer (some ⟨b, o, none⟩)) rfl (y_move rfl) ?_
    refine s_y (v := .pointer (some ⟨b2, o2, none⟩)) rfl (y_move rfl) ?_
    refine s_k rfl (k_call T94.fn_105 (c_s_l02Fits (B.s 2 rfl) (B.r 3 rfl) (B.r 4 rfl) (B.r 5 rfl) (B.s 6 rfl) (by omega) (by omega) (by omega) (by omega) (by omega) (by omega) (by omega)) rfl ?_)
    rintro v9 w7 ⟨hv10, e8⟩
    replace B := B.ext0 e8
    clear e8
    by_cases c11 : fitsB wd hi wr Xfe Xfx Xfy = true
    · have hb12 := fitsB_b c11
      obtain rfl : v9 = .bool true := hv10.trans (congrArg Value.bool c11)
      refine s_y (v := .bool true) rfl (y_pick_t rfl rfl) ?_
      refine s_y (v := .bool true) rfl (y_assign rfl) ?_
      refine s_nil ?_
      refine W_ret ?_
      refine ret1 (v := .bool true) rfl rfl rfl ⟨_, rfl, ?_⟩
      exact ⟨congrArg Value.bool (by simp only [fieldB, c5, c11, Bool.and_true, Bool.true_and, Bool.and_false, Bool.false_and, Bool.not_true, Bool.not_false, Bool.or_true, Bool.true_or, Bool.or_false, Bool.false_or]), B.ext⟩
    · obtain rfl : v9 = .bool false := hv10.trans (congrArg Value.bool (Bool.eq_false_iff.2 c11))
      refine s_y (v := .bool false) rfl (y_pick_t rfl rfl) ?_
      refine s_y (v := .bool false) rfl (y_assign rfl) ?_
      refine s_nil ?_
      refine W_ret ?_
      refine ret1 (v := .bool false) rfl rfl rfl ⟨_, rfl, ?_⟩
      exact ⟨congrArg Value.bool (by simp only [fieldB, c5, (Bool.eq_false_iff.2 c11), Bool.and_true, Bool.true_and, Bool.and_false, Bool.false_and, Bool.not_true, Bool.not_false, Bool.or_true, Bool.true_or, Bool.or_false, Bool.false_or]), B.ext⟩
  · obtain rfl : v3 = .bool false := hv4.trans (congrArg Value.bool (Bool.eq_false_iff.2 c5))
    refine s_y (v := .bool false) rfl (y_move rfl) ?_
    refine s_skip rfl ?_
    refine s_skip rfl ?_
    refine s_skip rfl ?_
    refine s_y (v := .bool false) rfl (y_pick_f rfl rfl) ?_
    refine s_y (v := .bool false) rfl (y_assign rfl) ?_
    refine s_nil ?_
    refine W_ret ?_
    refine ret1 (v := .bool false) rfl rfl rfl ⟨_, rfl, ?_⟩
    exact ⟨congrArg Value.bool (by simp only [fieldB, (Bool.eq_false_iff.2 c5), Bool.and_true, Bool.true_and, Bool.and_false, Bool.false_and, Bool.not_true, Bool.not_false, Bool.or_true, Bool.true_or, Bool.or_false, Bool.false_or]), B.ext⟩
namespace T114
theorem mx : Try.prog.follows .mixedOrders = true := by kernel_rfl
theorem agg_29_3 : aggB Try.prog 29 3 = true := by kernel_rfl
theorem fld_29_0_0 : fldB Try.prog 29 0 0 = true := by kernel_rfl
theorem fld_29_1_1 : fldB Try.prog 29 1 1 = true := by kernel_rfl
theorem fld_29_2_2 : fldB Try.prog 29 2 2 = true := by kernel_rfl
theorem one_24 : oneB Try.prog 24 = true := by kernel_rfl
theorem slt_24 : SlT Try.prog 24 35 1 4 (.float .f32 0) := ⟨by kernel_rfl, by kernel_rfl, rfl, by decide⟩
theorem sz_24_1 : szB Try.prog 24 1 = true := by kernel_rfl
theorem sz_29_3 : szB Try.prog 29 3 = true := by kernel_rfl
theorem zero_29 : zeroB Try.prog 29 (.agg #[.slice none 0 0, .slice none 0 0, .slice none 0 0]) := by unfold zeroB; kernel_rfl
end T114
set_option maxRecDepth 100000 in
set_option maxHeartbeats 4000000 in
theorem c_s_l02Own {b : Nat} {o : Nat} {afe : Option Addr} {nfe : Nat} {cfe : Nat} {Xfe : List Nat} {afx : Option Addr} {nfx : Nat} {cfx : Nat} {Xfx : List Nat} {afy : Option Addr} {nfy : Nat} {cfy : Nat} {Xfy : List Nat} {w : World} (qfe : Rd w kF afe nfe Xfe) (qfx : Rd w kF afx nfx Xfx) (qfy : Rd w kF afy nfy Xfy) (Pb : Sl w (some ⟨b, o, none⟩) [.slice afe nfe cfe, .slice afx nfx cfx, .slice afy nfy cfy]) (b1 : nfe ≤ 1048576) (b2 : nfx ≤ 1048576) (b3 : nfy ≤ 1048576) :
    Calls Try.prog 114 #[.pointer (some ⟨b, o, none⟩)] w (Rt fun v w' => ∃ (a1 : Option Addr) (c1 : Nat) (a2 : Option Addr) (c2 : Nat) (a3 : Option Addr) (c3 : Nat), v = .agg #[.slice a1 nfe c1, .slice a2 nfx c2, .slice a3 nfy c3] ∧ New w w' [.ow kF a1 nfe c1 35 Xfe, .ow kF a2 nfx c2 35 Xfx, .ow kF a3 nfy c3 35 Xfy]) := by
  have hlfe := qfe.len
  have hlfx := qfx.len
  have hlfy := qfy.len
  have B : Bu w no w [.rd kF afe nfe Xfe, .rd kF afx nfx Xfx, .rd kF afy nfy Xfy, .sl (some ⟨b, o, none⟩) [.slice afe nfe cfe, .slice afx nfx cfx, .slice afy nfy cfy]] := Bu.ro (All.cons qfe (All.cons qfx (All.cons qfy (All.cons Pb All.nil)))) rfl
  refine calls_W (n := 26) Try.func114 rfl rfl (Nat.le_of_ble_eq_true rfl) ?_
  refine W_seq ?_
  refine W_region (by kernel_rfl) ?_
  refine s_k rfl (k_allocN (z := (.agg #[.slice none 0 0, .slice none 0 0, .slice none 0 0])) (cs := [.slice none 0 0, .slice none 0 0, .slice none 0 0]) T114.zero_29 rfl (fun b1 w2 hN3 => ?_))
  replace B := B.new1 hN3
  clear hN3
  refine s_nil ?_
  refine W_seq ?_
  refine W_region (by kernel_rfl) ?_
  refine s_k rfl (k_bsliceO (k := kF) (n := 0) (cells := #[]) (X := []) T114.slt_24 (by decide) (by first | rfl | kernel_rfl) (rfl : Reps kF [] []) rfl (fun b4 w5 hN6 => ?_))
  replace B := B.new1 hN6
  clear hN6
  refine s_y (v := .pointer (some ⟨b, o, none⟩)) rfl (y_move rfl) ?_
  refine s_y (v := .pointer (some ⟨b, o, none⟩)) rfl (y_nil rfl) ?_
  refine s_y (v := .pointer (some ⟨b, o, none⟩)) rfl (y_fld (o := o + 0) T114.fld_29_0_0 rfl) ?_
  refine s_y (v := .slice afe nfe cfe) rfl (y_load T114.one_24 rfl ((B.s 5 rfl).cell (j := 0) rfl)) ?_
  refine s_k rfl (k_appO (k := kF) T114.slt_24 rfl rfl rfl (B.o 0 rfl) (B.r 2 rfl) (by omega) (by unfold maxLen; omega) (fun a7 c8 w9 hU10 => ?_))
  replace B : Bu w no w9 [.ow kF a7 (0 + nfe) c8 35 (([] : List Nat) ++ Xfe), .blk b1 [.slice none 0 0, .slice none 0 0, .slice none 0 0] 29, .rd kF afe nfe Xfe, .rd kF afx nfx Xfx, .rd kF afy nfy Xfy, .sl (some ⟨b, o, none⟩) [.slice afe nfe cfe, .slice afx nfx cfx, .slice afy nfy cfy]] := B.upd [0] rfl hU10
  clear hU10
  refine s_y (v := .agg #[.slice a7 (0 + nfe) c8, .slice none 0 0, .slice none 0 0]) rfl (y_build (cells := #[.slice a7 (0 + nfe) c8, .slice none 0 0, .slice none 0 0]) (by kernel_rfl)) ?_
  refine s_k rfl (k_allocN (z := (.agg #[.slice none 0 0, .slice none 0 0, .slice none 0 0])) (cs := [.slice none 0 0, .slice none 0 0, .slice none 0 0]) T114.zero_29 rfl (fun b11 w12 hN13 => ?_))
  replace B := B.new1 hN13
  clear hN13
  refine s_k0 rfl (k_stB (v := .agg #[.slice a7 (0 + nfe) c8, .slice none 0 0, .slice none 0 0]) (n := 3) (cs' := [.slice a7 (0 + nfe) c8, .slice none 0 0, .slice none 0 0]) T114.sz_29_3 rfl rfl rfl (B.b 0 rfl) (by simp [Value.cells, Value.oneCell']) (Nat.le_of_ble_eq_true rfl) rfl (fun w14 hU15 => ?_))
  replace B : Bu w no w14 [.blk b11 [.slice a7 (0 + nfe) c8, .slice none 0 0, .slice none 0 0] 29, .ow kF a7 (0 + nfe) c8 35 (([] : List Nat) ++ Xfe), .blk b1 [.slice none 0 0, .slice none 0 0, .slice none 0 0] 29, .rd kF afe nfe Xfe, .rd kF afx nfx Xfx, .rd kF afy nfy Xfy, .sl (some ⟨b, o, none⟩) [.slice afe nfe cfe, .slice afx nfx cfx, .slice afy nfy cfy]] := B.upd [0] rfl hU15
  clear hU15
  refine s_nil ?_
  refine W_seq ?_
  refine W_region (by kernel_rfl) ?_
  refine s_k rfl (k_bsliceO (k := kF) (n := 0) (cells := #[]) (X := []) T114.slt_24 (by decide) (by first | rfl | kernel_rfl) (rfl : Reps kF [] []) rfl (fun b16 w17 hN18 => ?_))
  replace B := B.new1 hN18
  clear hN18
  refine s_y (v := .pointer (some ⟨b, o, none⟩)) rfl (y_move rfl) ?_
  refine s_y (v := .pointer (some ⟨b, o, none⟩)) rfl (y_nil rfl) ?_
  refine s_y (v := .pointer (some ⟨b, o + 1, none⟩)) rfl (y_fld (o := o + 0) T114.fld_29_1_1 rfl) ?_
  refine s_y (v := .slice afx nfx cfx) rfl (y_load T114.one_24 rfl ((B.s 7 rfl).cell (j := 1) rfl)) ?_
  refine s_k rfl (k_appO (k := kF) T114.slt_24 rfl rfl rfl (B.o 0 rfl) (B.r 5 rfl) (by omega) (by unfold maxLen; omega) (fun a19 c20 w21 hU22 => ?_))
  replace B : Bu w no w21 [.ow kF a19 (0 + nfx) c20 35 (([] : List Nat) ++ Xfx), .blk b11 [.slice a7 (0 + nfe) c8, .slice none 0 0, .slice none 0 0] 29, .ow kF a7 (0 + nfe) c8 35 (([] : List Nat) ++ Xfe), .blk b1 [.slice none 0 0, .slice none 0 0, .slice none 0 0] 29, .rd kF afe nfe Xfe, .rd kF afx nfx Xfx, .rd kF afy nfy Xfy, .sl (some ⟨b, o, none⟩) [.slice afe nfe cfe, .slice afx nfx cfx, .slice afy nfy cfy]] := B.upd [0] rfl hU22
  clear hU22
  refine s_y (v := .pointer (some ⟨b11, 1, none⟩)) rfl (y_fld (o := 0) T114.fld_29_1_1 rfl) ?_
  refine s_k0 rfl (k_stB (v := .slice a19 (0 + nfx) c20) (n := 1) (cs' := [.slice a7 (0 + nfe) c8, .slice a19 (0 + nfx) c20, .slice none 0 0]) T114.sz_24_1 rfl rfl rfl (B.b 1 rfl) (by simp [Value.cells, Value.oneCell']) (Nat.le_of_ble_eq_true rfl) rfl (fun w23 hU24 => ?_))
  replace B : Bu w no w23 [.blk b11 [.slice a7 (0 + nfe) c8, .slice a19 (0 + nfx) c20, .slice none 0 0] 29, .ow kF a19 (0 + nfx) c20 35 (([] : List Nat) ++ Xfx), .ow kF a7 (0 + nfe) c8 35 (([] : List Nat) ++ Xfe), .blk b1 [.slice none 0 0, .slice none 0 0, .slice none 0 0] 29, .rd kF afe nfe Xfe, .rd kF afx nfx Xfx, .rd kF afy nfy Xfy, .sl (some ⟨b, o, none⟩) [.slice afe nfe cfe, .slice afx nfx cfx, .slice afy nfy cfy]] := B.upd [1] rfl hU24
  clear hU24
  refine s_nil ?_
  refine W_seq ?_
  refine W_region (by kernel_rfl) ?_
  refine s_k rfl (k_bsliceO (k := kF) (n := 0) (cells := #[]) (X := []) T114.slt_24 (by decide) (by first | rfl | kernel_rfl) (rfl : Reps kF [] []) rfl (fun b25 w26 hN27 => ?_))
  replace B := B.new1 hN27
  clear hN27
  refine s_y (v := .pointer (some ⟨b, o, none⟩)) rfl (y_move rfl) ?_
  refine s_y (v := .pointer (some ⟨b, o, none⟩)) rfl (y_nil rfl) ?_
  refine s_y (v := .pointer (some ⟨b, o + 2, none⟩)) rfl (y_fld (o := o + 0) T114.fld_29_2_2 rfl) ?_
  refine s_y (v := .slice afy nfy cfy) rfl (y_load T114.one_24 rfl ((B.s 8 rfl).cell (j := 2) rfl)) ?_
  refine s_k rfl (k_appO (k := kF) T114.slt_24 rfl rfl rfl (B.o 0 rfl) (B.r 7 rfl) (by omega) (by unfold maxLen; omega) (fun a28 c29 w30 hU31 => ?_))
  replace B : Bu w no w30 [.ow kF a28 (0 + nfy) c29 35 (([] : List Nat) ++ Xfy), .blk b11 [.slice a7 (0 + nfe) c8, .slice a19 (0 + nfx) c20, .slice none 0 0] 29, .ow kF a19 (0 + nfx) c20 35 (([] : List Nat) ++ Xfx), .ow kF a7 (0 + nfe) c8 35 (([] : List Nat) ++ Xfe), .blk b1 [.slice none 0 0, .slice none 0 0, .slice none 0 0] 29, .rd kF afe nfe Xfe, .rd kF afx nfx Xfx, .rd kF afy nfy Xfy, .sl (some ⟨b, o, none⟩) [.slice afe nfe cfe, .slice afx nfx cfx, .slice afy nfy cfy]] := B.upd [0] rfl hU31
  clear hU31
  refine s_y (v := .pointer (some ⟨b11, 2, none⟩)) rfl (y_fld (o := 0) T114.fld_29_2_2 rfl) ?_
  refine s_k0 rfl (k_stB (v := .slice a28 (0 + nfy) c29) (n := 1) (cs' := [.slice a7 (0 + nfe) c8, .slice a19 (0 + nfx) c20, .slice a28 (0 + nfy) c29]) T114.sz_24_1 rfl rfl rfl (B.b 1 rfl) (by simp [Value.cells, Value.oneCell']) (Nat.le_of_ble_eq_true rfl) rfl (fun w32 hU33 => ?_))
  replace B : Bu w no w32 [.blk b11 [.slice a7 (0 + nfe) c8, .slice a19 (0 + nfx) c20, .slice a28 (0 + nfy) c29] 29, .ow kF a28 (0 + nfy) c29 35 (([] : List Nat) ++ Xfy), .ow kF a19 (0 + nfx) c20 35 (([] : List Nat) ++ Xfx), .ow kF a7 (0 + nfe) c8 35 (([] : List Nat) ++ Xfe), .blk b1 [.slice none 0 0, .slice none 0 0, .slice none 0 0] 29, .rd kF afe nfe Xfe, .rd kF afx nfx Xfx, .rd kF afy nfy Xfy, .sl (some ⟨b, o, none⟩) [.slice afe nfe cfe, .slice afx nfx cfx, .slice afy nfy cfy]] := B.upd [1] rfl hU33
  clear hU33
  refine s_nil ?_
  refine W_seq ?_
  refine W_region (by kernel_rfl) ?_
  refine s_y (v := .agg #[.slice a7 (0 + nfe) c8, .slice a19 (0 + nfx) c20, .slice a28 (0 + nfy) c29]) rfl (y_loadn (b := b11) (o := 0) (vs := [.slice a7 (0 + nfe) c8, .slice a19 (0 + nfx) c20, .slice a28 (0 + nfy) c29]) T114.agg_29_3 rfl rfl ((B.b 0 rfl).cells (o := 0) rfl)) ?_
  refine s_k0 rfl (k_stB (v := .agg #[.slice a7 (0 + nfe) c8, .slice a19 (0 + nfx) c20, .slice a28 (0 + nfy) c29]) (n := 3) (cs' := [.slice a7 (0 + nfe) c8, .slice a19 (0 + nfx) c20, .slice a28 (0 + nfy) c29]) T114.sz_29_3 rfl rfl rfl (B.b 4 rfl) (by simp [Value.cells, Value.oneCell']) (Nat.le_of_ble_eq_true rfl) rfl (fun w34 hU35 => ?_))
  replace B : Bu w no w34 [.blk b1 [.slice a7 (0 + nfe) c8, .slice a19 (0 + nfx) c20, .slice a28 (0 + nfy) c29] 29, .blk b11 [.slice a7 (0 + nfe) c8, .slice a19 (0 + nfx) c20, .slice a28 (0 + nfy) c29] 29, .ow kF a28 (0 + nfy) c29 35 (([] : List Nat) ++ Xfy), .ow kF a19 (0 + nfx) c20 35 (([] : List Nat) ++ Xfx), .ow kF a7 (0 + nfe) c8 35 (([] : List Nat) ++ Xfe), .rd kF afe nfe Xfe, .rd kF afx nfx Xfx, .rd kF afy nfy Xfy, .sl (some ⟨b, o, none⟩) [.slice afe nfe cfe, .slice afx nfx cfx, .slice afy nfy cfy]] := B.upd [4] rfl hU35
  clear hU35
  refine s_nil ?_
  refine W_ret ?_
  refine ret1 (v := .agg #[.slice a7 (0 + nfe) c8, .slice a19 (0 + nfx) c20, .slice a28 (0 + nfy) c29]) rfl rfl ⟨_, [.slice a7 (0 + nfe) c8, .slice a19 (0 + nfx) c20, .slice a28 (0 + nfy) c29], _, rfl, (B.b 0 rfl), T114.agg_29_3, rfl⟩ ⟨_, rfl, ?_⟩
  replace B : Bu w no w34 [.blk b1 [.slice a7 (0 + nfe) c8, .slice a19 (0 + nfx) c20, .slice a28 (0 + nfy) c29] 29, .blk b11 [.slice a7 (0 + nfe) c8, .slice a19 (0 + nfx) c20, .slice a28 (0 + nfy) c29] 29, .ow kF a28 (0 + nfy) c29 35 (([] : List Nat) ++ Xfy), .ow kF a19 (0 + nfx) c20 35 (([] : List Nat) ++ Xfx), .ow kF a7 nfe c8 35 Xfe, .rd kF afe nfe Xfe, .rd kF afx nfx Xfx, .rd kF afy nfy Xfy, .sl (some ⟨b, o, none⟩) [.slice afe nfe cfe, .slice afx nfx cfx, .slice afy nfy cfy]] := B.castX 4 rfl (by omega) rfl
  replace B : Bu w no w34 [.blk b1 [.slice a7 (0 + nfe) c8, .slice a19 (0 + nfx) c20, .slice a28 (0 + nfy) c29] 29, .blk b11 [.slice a7 (0 + nfe) c8, .slice a19 (0 + nfx) c20, .slice a28 (0 + nfy) c29] 29, .ow kF a28 (0 + nfy) c29 35 (([] : List Nat) ++ Xfy), .ow kF a19 nfx c20 35 Xfx, .ow kF a7 nfe c8 35 Xfe, .rd kF afe nfe Xfe, .rd kF afx nfx Xfx, .rd kF afy nfy Xfy, .sl (some ⟨b, o, none⟩) [.slice afe nfe cfe, .slice afx nfx cfx, .slice afy nfy cfy]] := B.castX 3 rfl (by omega) rfl
  replace B : Bu w no w34 [.blk b1 [.slice a7 (0 + nfe) c8, .slice a19 (0 + nfx) c20, .slice a28 (0 + nfy) c29] 29, .blk b11 [.slice a7 (0 + nfe) c8, .slice a19 (0 + nfx) c20, .slice a28 (0 + nfy) c29] 29, .ow kF a28 nfy c29 35 Xfy, .ow kF a19 nfx c20 35 Xfx, .ow kF a7 nfe c8 35 Xfe, .rd kF afe nfe Xfe, .rd kF afx nfx Xfx, .rd kF afy nfy Xfy, .sl (some ⟨b, o, none⟩) [.slice afe nfe cfe, .slice afx nfx cfx, .slice afy nfy cfy]] := B.castX 2 rfl (by omega) rfl
  exact ⟨_, _, _, _, _, _, (by rw [(show 0 + nfe = nfe from (by omega)), (show 0 + nfx = nfx from (by omega)), (show 0 + nfy = nfy from (by omega))]), B.give [4, 3, 2] rfl rfl rfl⟩
namespace T117
theorem mx : Try.prog.follows .mixedOrders = true := by kernel_rfl
theorem fld_26_0_0 : fldB Try.prog 26 0 0 = true := by kernel_rfl
theorem fld_26_1_1 : fldB Try.prog 26 1 1 = true := by kernel_rfl
theorem one_2 : oneB Try.prog 2 = true := by kernel_rfl
end T117
set_option maxRecDepth 100000 in
set_option maxHeartbeats 4000000 in
theorem c_s_l03At {b : Nat} {o : Nat} {wd : Int} {hi : Int} {wr : Bool} {asp : Option Addr} {nsp : Nat} {csp : Nat} {als : Option Addr} {nls : Nat} {cls : Nat} {x : Int} {y : Int} {w : World} (Pb : Sl w (some ⟨b, o, none⟩) [.int .i64 wd, .int .i64 hi, .bool wr, .slice asp nsp csp, .slice als nls cls]) (h1 : 3 ≤ wd) (h2 : wd ≤ 16) (h3 : 3 ≤ hi) (h4 : hi ≤ 16) (h5 : -wd ≤ x) (h6 : x ≤ 1000000) (h7 : -hi ≤ y) (h8 : y ≤ 1000000) :
    Calls Try.prog 117 #[.pointer (some ⟨b, o, none⟩), .int .i64 x, .int .i64 y] w (Rt fun v w' => v = .int .i64 (atI wd hi x y) ∧ Ext0 w w') := by
  have B : Bu w no w [.sl (some ⟨b, o, none⟩) [.int .i64 wd, .int .i64 hi, .bool wr, .slice asp nsp csp, .slice als nls cls]] := Bu.ro (All.cons Pb All.nil) rfl
  refine calls_W (n := 35) Try.func117 rfl rfl (Nat.le_of_ble_eq_true rfl) ?_
  refine W_seq ?_
  refine W_region (by kernel_rfl) ?_
  refine s_y (v := .int .i64 0) rfl (y_assign rfl) ?_
  refine s_nil ?_
  refine W_seq ?_
  have B0_5 := B
  refine W_draw (no) T117.mx (by kernel_rfl) (fun w3 e4 => ?_)
  have R6 := Ext.refl (no) w
  replace R6 := R6.trans (Ext0.any e4)
  replace B := B.ext0 e4
  clear e4
  refine m_y (v := .int .i64 x) 0 rfl (by kernel_rfl) rfl rfl (fun w' e' => y_move rfl) ?_
  refine m_y (v := .pointer (some ⟨b, o, none⟩)) 1 rfl (by kernel_rfl) rfl rfl (fun w' e' => y_move rfl) ?_
  refine m_y (v := .pointer (some ⟨b, o, none⟩)) 2 rfl (by kernel_rfl) rfl rfl (fun w' e' => y_nil rfl) ?_
  refine m_y (v := .pointer (some ⟨b, o, none⟩)) 3 rfl (by kernel_rfl) rfl rfl (fun w' e' => y_fld (o := o + 0) T117.fld_26_0_0 rfl) ?_
  refine m_y (v := .int .i64 wd) 4 rfl (by kernel_rfl) rfl rfl (fun w' e' => y_load T117.one_2 rfl (((B0_5.s 0 rfl).ext0 e').cell (j := 0) rfl)) ?_
  refine m_y (v := .int .i64 (x + wd)) 5 rfl (by kernel_rfl) rfl rfl (fun w' e' => y_add rfl rfl rfl (by omega)) ?_
  refine m_y (v := .pointer (some ⟨b, o, none⟩)) 6 rfl (by kernel_rfl) rfl rfl (fun w' e' => y_move rfl) ?_
  refine m_y (v := .pointer (some ⟨b, o, none⟩)) 7 rfl (by kernel_rfl) rfl rfl (fun w' e' => y_nil rfl) ?_
  refine m_y (v := .pointer (some ⟨b, o, none⟩)) 8 rfl (by kernel_rfl) rfl rfl (fun w' e' => y_fld (o := o + 0) T117.fld_26_0_0 rfl) ?_
  refine m_y (v := .int .i64 wd) 9 rfl (by kernel_rfl) rfl rfl (fun w' e' => y_load T117.one_2 rfl (((B0_5.s 0 rfl).ext0 e').cell (j := 0) rfl)) ?_
  have hm7 := rem_b (x := x + wd) (m := wd) (by omega) (by omega)
  refine m_y (v := .int .i64 ((x + wd) % wd)) 10 rfl (by kernel_rfl) rfl rfl (fun w' e' => y_rem rfl rfl (by omega) (by omega) rfl) ?_
  refine m_y (v := .pointer (some ⟨b, o, none⟩)) 11 rfl (by kernel_rfl) rfl rfl (fun w' e' => y_move rfl) ?_
  refine m_y (v := .pointer (some ⟨b, o, none⟩)) 12 rfl (by kernel_rfl) rfl rfl (fun w' e' => y_nil rfl) ?_
  refine m_y (v := .pointer (some ⟨b, o, none⟩)) 13 rfl (by kernel_rfl) rfl rfl (fun w' e' => y_fld (o := o + 0) T117.fld_26_0_0 rfl) ?_
  refine m_y (v := .int .i64 wd) 14 rfl (by kernel_rfl) rfl rfl (fun w' e' => y_load T117.one_2 rfl (((B0_5.s 0 rfl).ext0 e').cell (j := 0) rfl)) ?_
  refine m_y (v := .int .i64 y) 15 rfl (by kernel_rfl) rfl rfl (fun w' e' => y_move rfl) ?_
  refine m_y (v := .pointer (some ⟨b, o, none⟩)) 16 rfl (by kernel_rfl) rfl rfl (fun w' e' => y_move rfl) ?_
  refine m_y (v := .pointer (some ⟨b, o, none⟩)) 17 rfl (by kernel_rfl) rfl rfl (fun w' e' => y_nil rfl) ?_
  refine m_y (v := .pointer (some ⟨b, o + 1, none⟩)) 18 rfl (by kernel_rfl) rfl rfl (fun w' e' => y_fld (o := o + 0) T117.fld_26_1_1 rfl) ?_
  refine m_y (v := .int .i64 hi) 19 rfl (by kernel_rfl) rfl rfl (fun w' e' => y_load T117.one_2 rfl (((B0_5.s 0 rfl).ext0 e').cell (j := 1) rfl)) ?_
  refine m_y (v := .int .i64 (y + hi)) 20 rfl (by kernel_rfl) rfl rfl (fun w' e' => y_add rfl rfl rfl (by omega)) ?_
  refine m_y (v := .pointer (some ⟨b, o, none⟩)) 21 rfl (by kernel_rfl) rfl rfl (fun w' e' => y_move rfl) ?_
  refine m_y (v := .pointer (some ⟨b, o, none⟩)) 22 rfl (by kernel_rfl) rfl rfl (fun w' e' => y_nil rfl) ?_
  refine m_y (v := .pointer (some ⟨b, o + 1, none⟩)) 23 rfl (by kernel_rfl) rfl rfl (fun w' e' => y_fld (o := o + 0) T117.fld_26_1_1 rfl) ?_
  refine m_y (v := .int .i64 hi) 24 rfl (by kernel_rfl) rfl rfl (fun w' e' => y_load T117.one_2 rfl (((B0_5.s 0 rfl).ext0 e').cell (j := 1) rfl)) ?_
  have hm8 := rem_b (x := y + hi) (m := hi) (by omega) (by omega)
  refine m_y (v := .int .i64 ((y + hi) % hi)) 25 rfl (by kernel_rfl) rfl rfl (fun w' e' => y_rem rfl rfl (by omega) (by omega) rfl) ?_
  have hm9 := mul_rem (a := wd) (x := y + hi) (m := hi) (by omega) (by omega) (by omega) (by omega)
  refine m_y (v := .int .i64 (wd * ((y + hi) % hi))) 26 rfl (by kernel_rfl) rfl rfl (fun w' e' => y_mul rfl rfl rfl (by omega)) ?_
  refine m_y (v := .int .i64 (((x + wd) % wd) + (wd * ((y + hi) % hi)))) 27 rfl (by kernel_rfl) rfl rfl (fun w' e' => y_add rfl rfl rfl (by omega)) ?_
  refine m_y (v := .int .i64 (((x + wd) % wd) + (wd * ((y + hi) % hi)))) 28 rfl (by kernel_rfl) rfl rfl (fun w' e' => y_assign rfl) ?_
  refine m_done (by kernel_rfl) (fun w10 e11 => ?_)
  replace B := B.ext0 e11
  clear e11
  clear B0_5 R6
  refine W_ret ?_
  refine ret1 (v := .int .i64 (((x + wd) % wd) + (wd * ((y + hi) % hi)))) rfl rfl rfl ⟨_, rfl, ?_⟩
  exact ⟨rfl, B.ext⟩
namespace T131
theorem mx : Try.prog.follows .mixedOrders = true := by kernel_rfl
theorem fld_26_1_1 : fldB Try.prog 26 1 1 = true := by kernel_rfl
theorem fld_26_2_2 : fldB Try.prog 26 2 2 = true := by kernel_rfl
theorem fld_29_0_0 : fldB Try.prog 29 0 0 = true := by kernel_rfl
theorem fld_29_1_1 : fldB Try.prog 29 1 1 = true := by kernel_rfl
theorem fn_117 : fnB Try.prog 117 = true := by kernel_rfl
theorem one_2 : oneB Try.prog 2 = true := by kernel_rfl
theorem one_24 : oneB Try.prog 24 = true := by kernel_rfl
theorem one_35 : oneB Try.prog 35 = true := by kernel_rfl
theorem one_4 : oneB Try.prog 4 = true := by kernel_rfl
theorem sl_24_35_1 : slB Try.prog 24 35 1 = true := by kernel_rfl
end T131
set_option maxRecDepth 100000 in
set_option maxHeartbeats 4000000 in
theorem c_s_l03HalfX {b : Nat} {o : Nat} {wd : Int} {hi : Int} {wr : Bool} {asp : Option Addr} {nsp : Nat} {csp : Nat} {als : Option Addr} {nls : Nat} {cls : Nat} {b2 : Nat} {o2 : Nat} {afe : Option Addr} {nfe : Nat} {cfe : Nat} {Xfe : List Nat} {afx : Option Addr} {nfx : Nat} {cfx : Nat} {Xfx : List Nat} {afy : Option Addr} {nfy : Nat} {cfy : Nat} {Xfy : List Nat} {x : Int} {y : Int} {w : World} (Pb : Sl w (some ⟨b, o, none⟩) [.int .i64 wd, .int .i64 hi, .bool wr, .slice asp nsp csp, .slice als nls cls]) (qfe : Rd w kF afe nfe Xfe) (qfx : Rd w kF afx nfx Xfx) (qfy : Rd w kF afy nfy Xfy) (Pb2 : Sl w (some ⟨b2, o2, none⟩) [.slice afe nfe cfe, .slice afx nfx cfx, .slice afy nfy cfy]) (h1 : 3 ≤ wd) (h2 : wd ≤ 16) (h3 : 3 ≤ hi) (h4 : hi ≤ 16) (gfe : (nfe : Int) = wd * hi) (gfx : (nfx : Int) = wd * hi) (gfy : (nfy : Int) = wd * hi) (p1 : 0 ≤ x) (p2 : x < wd) (p3 : 0 ≤ y) (p4 : y < hi) :
    Calls Try.prog 131 #[.pointer (some ⟨b, o, none⟩), .pointer (some ⟨b2, o2, none⟩), .int .i64 x, .int .i64 y] w (Rt fun v w' => (∃ r, v = .float .f32 r ∧ can .f32 r = hxF wd hi wr Xfe Xfx x y) ∧ Ext0 w w') := by
  have hlfe := qfe.len
  have hlfx := qfx.len
  have hlfy := qfy.len
  have B : Bu w no w [.sl (some ⟨b, o, none⟩) [.int .i64 wd, .int .i64 hi, .bool wr, .slice asp nsp csp, .slice als nls cls], .rd kF afe nfe Xfe, .rd kF afx nfx Xfx, .rd kF afy nfy Xfy, .sl (some ⟨b2, o2, none⟩) [.slice afe nfe cfe, .slice afx nfx cfx, .slice afy nfy cfy]] := Bu.ro (All.cons Pb (All.cons qfe (All.cons qfx (All.cons qfy (All.cons Pb2 All.nil))))) rfl
  refine calls_W (n := 63) Try.func131 rfl rfl (Nat.le_of_ble_eq_true rfl) ?_
  refine W_seq ?_
  refine W_region (by kernel_rfl) ?_
  refine s_y (v := .float .f32 0) rfl (y_assign rfl) ?_
  refine s_nil ?_
  refine W_seq ?_
  refine W_region (by kernel_rfl) ?_
  refine s_y (v := .pointer (some ⟨b, o, none⟩)) rfl (y_move rfl) ?_
  refine s_y (v := .int .i64 x) rfl (y_move rfl) ?_
  refine s_y (v := .int .i64 y) rfl (y_move rfl) ?_
  refine s_k rfl (k_call T131.fn_117 (c_s_l03At (B.s 0 rfl) (by omega) (by omega) (by omega) (by omega) (by omega) (by omega) (by omega) (by omega)) rfl ?_)
  rintro _ w1 ⟨rfl, e2⟩
  replace B := B.ext0 e2
  clear e2
  have hat3 := atI_b (wd := wd) (hi := hi) (x := x) (y := y) (by omega) (by omega)
  refine s_y (v := .int .i64 (atI wd hi x y)) rfl (y_assign rfl) ?_
  refine s_nil ?_
  refine W_seq ?_
  refine W_seq ?_
  refine W_region (by kernel_rfl) ?_
  refine s_y (v := .pointer (some ⟨b, o, none⟩)) rfl (y_move rfl) ?_
  refine s_y (v := .pointer (some ⟨b, o, none⟩)) rfl (y_nil rfl) ?_
  refine s_y (v := .pointer (some ⟨b, o + 2, none⟩)) rfl (y_fld (o := o + 0) T131.fld_26_2_2 rfl) ?_
  refine s_y (v := .bool wr) rfl (y_load T131.one_4 rfl ((B.s 0 rfl).cell (j := 2) rfl)) ?_
  refine s_y (v := .bool (!wr)) rfl (y_not rfl rfl) ?_
  refine s_y (v := .bool (!wr)) rfl (y_move rfl) ?_
  cases wr
  · refine s_y (v := .int .i64 y) rfl (y_move rfl) ?_
    refine s_y (v := .pointer (some ⟨b, o, none⟩)) rfl (y_move rfl) ?_
    refine s_y (v := .pointer (some ⟨b, o, none⟩)) rfl (y_nil rfl) ?_
    refine s_y (v := .pointer (some ⟨b, o + 1, none⟩)) rfl (y_fld (o := o + 0) T131.fld_26_1_1 rfl) ?_
    refine s_y (v := .int .i64 hi) rfl (y_load T131.one_2 rfl ((B.s 0 rfl).cell (j := 1) rfl)) ?_
    refine s_y (v := .int .i64 (hi - 1)) rfl (y_sub rfl rfl rfl (by omega)) ?_
    by_cases c4 : y = (hi - 1)
    · refine s_y (v := .bool true) rfl (y_eql rfl rfl (decide_eq_true c4)) ?_
      refine s_y (v := .bool true) rfl (y_pick_t rfl rfl) ?_
      refine s_nil ?_
      refine W_if_t (by decide) rfl ?_
      refine W_seq ?_
      refine W_region (by kernel_rfl) ?_
      refine s_y (v := .pointer (some ⟨b2, o2, none⟩)) rfl (y_move rfl) ?_
      refine s_y (v := .pointer (some ⟨b2, o2, none⟩)) rfl (y_nil rfl) ?_
      refine s_y (v := .pointer (some ⟨b2, o2 + 1, none⟩)) rfl (y_fld (o := o2 + 0) T131.fld_29_1_1 rfl) ?_
      refine s_y (v := .slice afx nfx cfx) rfl (y_load T131.one_24 rfl ((B.s 4 rfl).cell (j := 1) rfl)) ?_
      refine s_y (v := .int .i64 (atI wd hi x y)) rfl (y_move rfl) ?_
      refine s_y (v := .pointer (some (sat afx ((atI wd hi x y).toNat * 1)))) rfl (y_idx T131.sl_24_35_1 rfl rfl ((B.r 2 rfl).addr (by omega)) (by omega) (by omega)) ?_
      obtain ⟨r6, hr7, hR5⟩ := Rd.atF (B.r 2 rfl) (atI wd hi x y) (by omega) (by omega)
      refine s_y (v := .float .f32 r6) rfl (y_load T131.one_35 rfl (hR5.cell (i := 0) rfl)) ?_
      refine s_y (v := .float .f32 r6) rfl (y_assign rfl) ?_
      refine s_nil ?_
      refine W_ret ?_
      refine ret1 (v := .float .f32 r6) rfl rfl rfl ⟨_, rfl, ?_⟩
      have hcc : (false || decide (y < hi - 1)) = false := by first | rfl | (rw [Bool.false_or]; exact decide_eq_false (by omega))
      exact ⟨⟨_, rfl, hr7.trans (hx_no hcc)⟩, B.ext⟩
    · refine s_y (v := .bool false) rfl (y_eql rfl rfl (decide_eq_false c4)) ?_
      refine s_y (v := .bool false) rfl (y_pick_t rfl rfl) ?_
      refine s_nil ?_
      refine W_if_f (by decide) rfl ?_
      refine W_skip ?_
      refine W_seq ?_
      have B0_12 := B
      refine W_draw (no) T131.mx (by kernel_rfl) (fun w10 e11 => ?_)
      have R13 := Ext.refl (no) w1
      replace R13 := R13.trans (Ext0.any e11)
      replace B := B.ext0 e11
      clear e11
      refine m_y (v := .pointer (some ⟨b2, o2, none⟩)) 0 rfl (by kernel_rfl) rfl rfl (fun w' e' => y_move rfl) ?_
      refine m_y (v := .pointer (some ⟨b2, o2, none⟩)) 1 rfl (by kernel_rfl) rfl rfl (fun w' e' => y_nil rfl) ?_
      refine m_y (v := .pointer (some ⟨b2, o2 + 1, none⟩)) 2 rfl (by kernel_rfl) rfl rfl (fun w' e' => y_fld (o := o2 + 0) T131.fld_29_1_1 rfl) ?_
      refine m_y (v := .slice afx nfx cfx) 3 rfl (by kernel_rfl) rfl rfl (fun w' e' => y_load T131.one_24 rfl (((B0_12.s 4 rfl).ext0 e').cell (j := 1) rfl)) ?_
      refine m_y (v := .int .i64 (atI wd hi x y)) 4 rfl (by kernel_rfl) rfl rfl (fun w' e' => y_move rfl) ?_
      refine m_y (v := .pointer (some (sat afx ((atI wd hi x y).toNat * 1)))) 5 rfl (by kernel_rfl) rfl rfl (fun w' e' => y_idx T131.sl_24_35_1 rfl rfl ((B.r 2 rfl).addr (by omega)) (by omega) (by omega)) ?_
      obtain ⟨r15, hr16, hR14⟩ := Rd.atF (B0_12.r 2 rfl) (atI wd hi x y) (by omega) (by omega)
      refine m_y (v := .float .f32 r15) 6 rfl (by kernel_rfl) rfl rfl (fun w' e' => y_load T131.one_35 rfl ((hR14.ext0 e').cell (i := 0) rfl)) ?_
      refine m_y (v := .pointer (some ⟨b2, o2, none⟩)) 7 rfl (by kernel_rfl) rfl rfl (fun w' e' => y_move rfl) ?_
      refine m_y (v := .pointer (some ⟨b2, o2, none⟩)) 8 rfl (by kernel_rfl) rfl rfl (fun w' e' => y_nil rfl) ?_
      refine m_y (v := .pointer (some ⟨b2, o2, none⟩)) 9 rfl (by kernel_rfl) rfl rfl (fun w' e' => y_fld (o := o2 + 0) T131.fld_29_0_0 rfl) ?_
      refine m_y (v := .slice afe nfe cfe) 10 rfl (by kernel_rfl) rfl rfl (fun w' e' => y_load T131.one_24 rfl (((B0_12.s 4 rfl).ext0 e').cell (j := 0) rfl)) ?_
      refine m_y (v := .pointer (some ⟨b, o, none⟩)) 11 rfl (by kernel_rfl) rfl rfl (fun w' e' => y_move rfl) ?_
      refine m_y (v := .int .i64 x) 12 rfl (by kernel_rfl) rfl rfl (fun w' e' => y_move rfl) ?_
      refine m_y (v := .int .i64 y) 13 rfl (by kernel_rfl) rfl rfl (fun w' e' => y_move rfl) ?_
      refine m_y (v := .int .i64 (y + 1)) 14 rfl (by kernel_rfl) rfl rfl (fun w' e' => y_add rfl rfl rfl (by omega)) ?_
      refine m_y (v := .pointer (some ⟨b2, o2, none⟩)) 18 rfl (by kernel_rfl) rfl rfl (fun w' e' => y_move rfl) ?_
      refine m_y (v := .pointer (some ⟨b2, o2, none⟩)) 19 rfl (by kernel_rfl) rfl rfl (fun w' e' => y_nil rfl) ?_
      refine m_y (v := .pointer (some ⟨b2, o2, none⟩)) 20 rfl (by kernel_rfl) rfl rfl (fun w' e' => y_fld (o := o2 + 0) T131.fld_29_0_0 rfl) ?_
      refine m_y (v := .slice afe nfe cfe) 21 rfl (by kernel_rfl) rfl rfl (fun w' e' => y_load T131.one_24 rfl (((B0_12.s 4 rfl).ext0 e').cell (j := 0) rfl)) ?_
      refine m_y (v := .int .i64 (atI wd hi x y)) 22 rfl (by kernel_rfl) rfl rfl (fun w' e' => y_move rfl) ?_
      refine m_y (v := .pointer (some (sat afe ((atI wd hi x y).toNat * 1)))) 23 rfl (by kernel_rfl) rfl rfl (fun w' e' => y_idx T131.sl_24_35_1 rfl rfl ((B.r 1 rfl).addr (by omega)) (by omega) (by omega)) ?_
      obtain ⟨r18, hr19, hR17⟩ := Rd.atF (B0_12.r 1 rfl) (atI wd hi x y) (by omega) (by omega)
      refine m_y (v := .float .f32 r18) 24 rfl (by kernel_rfl) rfl rfl (fun w' e' => y_load T131.one_35 rfl ((hR17.ext0 e').cell (i := 0) rfl)) ?_
      refine m_k 15 [16, 17, 25, 26, 27, 28] rfl (by kernel_rfl) rfl rfl (fun w20 e21 => ?_)
      replace R13 := R13.trans (Ext0.any e21)
      replace B := B.ext0 e21
      clear e21
      refine k_call T131.fn_117 (c_s_l03At (B.s 0 rfl) (by omega) (by omega) (by omega) (by omega) (by omega) (by omega) (by omega) (by omega)) rfl ?_
      rintro _ w22 ⟨rfl, e23⟩
      replace R13 := R13.trans (Ext0.any e23)
      replace B := B.ext0 e23
      clear e23
      refine ⟨fun _ => R13, ?_⟩
      have hat24 := atI_b (wd := wd) (hi := hi) (x := x) (y := y + 1) (by omega) (by omega)
      refine m_y (v := .pointer (some (sat afe ((atI wd hi x (y + 1)).toNat * 1)))) 16 rfl (by kernel_rfl) rfl rfl (fun w' e' => y_idx T131.sl_24_35_1 rfl rfl ((B.r 1 rfl).addr (by omega)) (by omega) (by omega)) ?_
      obtain ⟨r26, hr27, hR25⟩ := Rd.atF (B0_12.r 1 rfl) (atI wd hi x (y + 1)) (by omega) (by omega)
      refine m_y (v := .float .f32 r26) 17 rfl (by kernel_rfl) rfl rfl (fun w' e' => y_load T131.one_35 rfl ((hR25.ext0 e').cell (i := 0) rfl)) ?_
      refine m_n 25 [26, 27, 28] rfl (by kernel_rfl) rfl rfl (fun w' e' => n_arith (by decide) rfl rfl) ?_
      rintro _ ⟨r29, rfl, hr30⟩
      have hc33 := fopC hr30 hr27 hr19
      refine m_n 26 [27, 28] rfl (by kernel_rfl) rfl rfl (fun w' e' => n_arith (by decide) rfl rfl) ?_
      rintro _ ⟨r35, rfl, hr36⟩
      have hc39 := fopC hr36 (show can .f32 1056964608 = 1056964608 by kernel_rfl) hc33
      refine m_n 27 [28] rfl (by kernel_rfl) rfl rfl (fun w' e' => n_arith (by decide) rfl rfl) ?_
      rintro _ ⟨r41, rfl, hr42⟩
      have hc45 := fopC hr42 hr16 hc39
      refine m_y (v := .float .f32 r41) 28 rfl (by kernel_rfl) rfl rfl (fun w' e' => y_assign rfl) ?_
      refine m_done (by kernel_rfl) (fun w46 e47 => ?_)
      replace B := B.ext0 e47
      clear e47
      clear B0_12 R13
      refine W_ret ?_
      refine ret1 (v := .float .f32 r41) rfl rfl rfl ⟨_, rfl, ?_⟩
      have hcc : (false || decide (y < hi - 1)) = true := by first | rfl | (rw [Bool.false_or]; exact decide_eq_true (by omega))
      exact ⟨⟨_, rfl, hc45.trans (by unfold hxF; rw [if_pos hcc])⟩, B.ext⟩
  · refine s_skip rfl ?_
    refine s_skip rfl ?_
    refine s_skip rfl ?_
    refine s_skip rfl ?_
    refine s_skip rfl ?_
    refine s_skip rfl ?_
    refine s_skip rfl ?_
    refine s_y (v := .bool false) rfl (y_pick_f rfl rfl) ?_
    refine s_nil ?_
    refine W_if_f (by decide) rfl ?_
    refine W_skip ?_
    refine W_seq ?_
    have B0_52 := B
    refine W_draw (no) T131.mx (by kernel_rfl) (fun w50 e51 => ?_)
    have R53 := Ext.refl (no) w1
    replace R53 := R53.trans (Ext0.any e51)
    replace B := B.ext0 e51
    clear e51
    refine m_y (v := .pointer (some ⟨b2, o2, none⟩)) 0 rfl (by kernel_rfl) rfl rfl (fun w' e' => y_move rfl) ?_
    refine m_y (v := .pointer (some ⟨b2, o2, none⟩)) 1 rfl (by kernel_rfl) rfl rfl (fun w' e' => y_nil rfl) ?_
    refine m_y (v := .pointer (some ⟨b2, o2 + 1, none⟩)) 2 rfl (by kernel_rfl) rfl rfl (fun w' e' => y_fld (o := o2 + 0) T131.fld_29_1_1 rfl) ?_
    refine m_y (v := .slice afx nfx cfx) 3 rfl (by kernel_rfl) rfl rfl (fun w' e' => y_load T131.one_24 rfl (((B0_52.s 4 rfl).ext0 e').cell (j := 1) rfl)) ?_
    refine m_y (v := .int .i64 (atI wd hi x y)) 4 rfl (by kernel_rfl) rfl rfl (fun w' e' => y_move rfl) ?_
    refine m_y (v := .pointer (some (sat afx ((atI wd hi x y).toNat * 1)))) 5 rfl (by kernel_rfl) rfl rfl (fun w' e' => y_idx T131.sl_24_35_1 rfl rfl ((B.r 2 rfl).addr (by omega)) (by omega) (by omega)) ?_
    obtain ⟨r55, hr56, hR54⟩ := Rd.atF (B0_52.r 2 rfl) (atI wd hi x y) (by omega) (by omega)
    refine m_y (v := .float .f32 r55) 6 rfl (by kernel_rfl) rfl rfl (fun w' e' => y_load T131.one_35 rfl ((hR54.ext0 e').cell (i := 0) rfl)) ?_
    refine m_y (v := .pointer (some ⟨b2, o2, none⟩)) 7 rfl (by kernel_rfl) rfl rfl (fun w' e' => y_move rfl) ?_
    refine m_y (v := .pointer (some ⟨b2, o2, none⟩)) 8 rfl (by kernel_rfl) rfl rfl (fun w' e' => y_nil rfl) ?_
    refine m_y (v := .pointer (some ⟨b2, o2, none⟩)) 9 rfl (by kernel_rfl) rfl rfl (fun w' e' => y_fld (o := o2 + 0) T131.fld_29_0_0 rfl) ?_
    refine m_y (v := .slice afe nfe cfe) 10 rfl (by kernel_rfl) rfl rfl (fun w' e' => y_load T131.one_24 rfl (((B0_52.s 4 rfl).ext0 e').cell (j := 0) rfl)) ?_
    refine m_y (v := .pointer (some ⟨b, o, none⟩)) 11 rfl (by kernel_rfl) rfl rfl (fun w' e' => y_move rfl) ?_
    refine m_y (v := .int .i64 x) 12 rfl (by kernel_rfl) rfl rfl (fun w' e' => y_move rfl) ?_
    refine m_y (v := .int .i64 y) 13 rfl (by kernel_rfl) rfl rfl (fun w' e' => y_move rfl) ?_
    refine m_y (v := .int .i64 (y + 1)) 14 rfl (by kernel_rfl) rfl rfl (fun w' e' => y_add rfl rfl rfl (by omega)) ?_
    refine m_y (v := .pointer (some ⟨b2, o2, none⟩)) 18 rfl (by kernel_rfl) rfl rfl (fun w' e' => y_move rfl) ?_
    refine m_y (v := .pointer (some ⟨b2, o2, none⟩)) 19 rfl (by kernel_rfl) rfl rfl (fun w' e' => y_nil rfl) ?_
    refine m_y (v := .pointer (some ⟨b2, o2, none⟩)) 20 rfl (by kernel_rfl) rfl rfl (fun w' e' => y_fld (o := o2 + 0) T131.fld_29_0_0 rfl) ?_
    refine m_y (v := .slice afe nfe cfe) 21 rfl (by kernel_rfl) rfl rfl (fun w' e' => y_load T131.one_24 rfl (((B0_52.s 4 rfl).ext0 e').cell (j := 0) rfl)) ?_
    refine m_y (v := .int .i64 (atI wd hi x y)) 22 rfl (by kernel_rfl) rfl rfl (fun w' e' => y_move rfl) ?_
    refine m_y (v := .pointer (some (sat afe ((atI wd hi x y).toNat * 1)))) 23 rfl (by kernel_rfl) rfl rfl (fun w' e' => y_idx T131.sl_24_35_1 rfl rfl ((B.r 1 rfl).addr (by omega)) (by omega) (by omega)) ?_
    obtain ⟨r58, hr59, hR57⟩ := Rd.atF (B0_52.r 1 rfl) (atI wd hi x y) (by omega) (by omega)
    refine m_y (v := .float .f32 r58) 24 rfl (by kernel_rfl) rfl rfl (fun w' e' => y_load T131.one_35 rfl ((hR57.ext0 e').cell (i := 0) rfl)) ?_
    refine m_k 15 [16, 17, 25, 26, 27, 28] rfl (by kernel_rfl) rfl rfl (fun w60 e61 => ?_)
    replace R53 := R53.trans (Ext0.any e61)
    replace B := B.ext0 e61
    clear e61
    refine k_call T131.fn_117 (c_s_l03At (B.s 0 rfl) (by omega) (by omega) (by omega) (by omega) (by omega) (by omega) (by omega) (by omega)) rfl ?_
    rintro _ w62 ⟨rfl, e63⟩
    replace R53 := R53.trans (Ext0.any e63)
    replace B := B.ext0 e63
    clear e63
    refine ⟨fun _ => R53, ?_⟩
    have hat64 := atI_b (wd := wd) (hi := hi) (x := x) (y := y + 1) (by omega) (by omega)
    refine m_y (v := .pointer (some (sat afe ((atI wd hi x (y + 1)).toNat * 1)))) 16 rfl (by kernel_rfl) rfl rfl (fun w' e' => y_idx T131.sl_24_35_1 rfl rfl ((B.r 1 rfl).addr (by omega)) (by omega) (by omega)) ?_
    obtain ⟨r66, hr67, hR65⟩ := Rd.atF (B0_52.r 1 rfl) (atI wd hi x (y + 1)) (by omega) (by omega)
    refine m_y (v := .float .f32 r66) 17 rfl (by kernel_rfl) rfl rfl (fun w' e' => y_load T131.one_35 rfl ((hR65.ext0 e').cell (i := 0) rfl)) ?_
    refine m_n 25 [26, 27, 28] rfl (by kernel_rfl) rfl rfl (fun w' e' => n_arith (by decide) rfl rfl) ?_
    rintro _ ⟨r69, rfl, hr70⟩
    have hc73 := fopC hr70 hr67 hr59
    refine m_n 26 [27, 28] rfl (by kernel_rfl) rfl rfl (fun w' e' => n_arith (by decide) rfl rfl) ?_
    rintro _ ⟨r75, rfl, hr76⟩
    have hc79 := fopC hr76 (show can .f32 1056964608 = 1056964608 by kernel_rfl) hc73
    refine m_n 27 [28] rfl (by kernel_rfl) rfl rfl (fun w' e' => n_arith (by decide) rfl rfl) ?_
    rintro _ ⟨r81, rfl, hr82⟩
    have hc85 := fopC hr82 hr56 hc79
    refine m_y (v := .float .f32 r81) 28 rfl (by kernel_rfl) rfl rfl (fun w' e' => y_assign rfl) ?_
    refine m_done (by kernel_rfl) (fun w86 e87 => ?_)
    replace B := B.ext0 e87
    clear e87
    clear B0_52 R53
    refine W_ret ?_
    refine ret1 (v := .float .f32 r81) rfl rfl rfl ⟨_, rfl, ?_⟩
    have hcc : (true || decide (y < hi - 1)) = true := by first | rfl | (rw [Bool.false_or]; exact decide_eq_true (by omega))
    exact ⟨⟨_, rfl, hc85.trans (by unfold hxF; rw [if_pos hcc])⟩, B.ext⟩
namespace T132
theorem mx : Try.prog.follows .mixedOrders = true := by kernel_rfl
theorem fld_26_0_0 : fldB Try.prog 26 0 0 = true := by kernel_rfl
theorem fld_26_2_2 : fldB Try.prog 26 2 2 = true := by kernel_rfl
theorem fld_29_0_0 : fldB Try.prog 29 0 0 = true := by kernel_rfl
theorem fld_29_2_2 : fldB Try.prog 29 2 2 = true := by kernel_rfl
theorem fn_117 : fnB Try.prog 117 = true := by kernel_rfl
theorem one_2 : oneB Try.prog 2 = true := by kernel_rfl
theorem one_24 : oneB Try.prog 24 = true := by kernel_rfl
theorem one_35 : oneB Try.prog 35 = true := by kernel_rfl
theorem one_4 : oneB Try.prog 4 = true := by kernel_rfl
theorem sl_24_35_1 : slB Try.prog 24 35 1 = true := by kernel_rfl
end T132
set_option maxRecDepth 100000 in
set_option maxHeartbeats 4000000 in
theorem c_s_l03HalfY {b : Nat} {o : Nat} {wd : Int} {hi : Int} {wr : Bool} {asp : Option Addr} {nsp : Nat} {csp : Nat} {als : Option Addr} {nls : Nat} {cls : Nat} {b2 : Nat} {o2 : Nat} {afe : Option Addr} {nfe : Nat} {cfe : Nat} {Xfe : List Nat} {afx : Option Addr} {nfx : Nat} {cfx : Nat} {Xfx : List Nat} {afy : Option Addr} {nfy : Nat} {cfy : Nat} {Xfy : List Nat} {x : Int} {y : Int} {w : World} (Pb : Sl w (some ⟨b, o, none⟩) [.int .i64 wd, .int .i64 hi, .bool wr, .slice asp nsp csp, .slice als nls cls]) (qfe : Rd w kF afe nfe Xfe) (qfx : Rd w kF afx nfx Xfx) (qfy : Rd w kF afy nfy Xfy) (Pb2 : Sl w (some ⟨b2, o2, none⟩) [.slice afe nfe cfe, .slice afx nfx cfx, .slice afy nfy cfy]) (h1 : 3 ≤ wd) (h2 : wd ≤ 16) (h3 : 3 ≤ hi) (h4 : hi ≤ 16) (gfe : (nfe : Int) = wd * hi) (gfx : (nfx : Int) = wd * hi) (gfy : (nfy : Int) = wd * hi) (p1 : 0 ≤ x) (p2 : x < wd) (p3 : 0 ≤ y) (p4 : y < hi) :
    Calls Try.prog 132 #[.pointer (some ⟨b, o, none⟩), .pointer (some ⟨b2, o2, none⟩), .int .i64 x, .int .i64 y] w (Rt fun v w' => (∃ r, v = .float .f32 r ∧ can .f32 r = hyF wd hi wr Xfe Xfy x y) ∧ Ext0 w w') := by
  have hlfe := qfe.len
  have hlfx := qfx.len
  have hlfy := qfy.len
  have B : Bu w no w [.sl (some ⟨b, o, none⟩) [.int .i64 wd, .int .i64 hi, .bool wr, .slice asp nsp csp, .slice als nls cls], .rd kF afe nfe Xfe, .rd kF afx nfx Xfx, .rd kF afy nfy Xfy, .sl (some ⟨b2, o2, none⟩) [.slice afe nfe cfe, .slice afx nfx cfx, .slice afy nfy cfy]] := Bu.ro (All.cons Pb (All.cons qfe (All.cons qfx (All.cons qfy (All.cons Pb2 All.nil))))) rfl
  refine calls_W (n := 63) Try.func132 rfl rfl (Nat.le_of_ble_eq_true rfl) ?_
  refine W_seq ?_
  refine W_region (by kernel_rfl) ?_
  refine s_y (v := .float .f32 0) rfl (y_assign rfl) ?_
  refine s_nil ?_
  refine W_seq ?_
  refine W_region (by kernel_rfl) ?_
  refine s_y (v := .pointer (some ⟨b, o, none⟩)) rfl (y_move rfl) ?_
  refine s_y (v := .int .i64 x) rfl (y_move rfl) ?_
  refine s_y (v := .int .i64 y) rfl (y_move rfl) ?_
  refine s_k rfl (k_call T132.fn_117 (c_s_l03At (B.s 0 rfl) (by omega) (by omega) (by omega) (by omega) (by omega) (by omega) (by omega) (by omega)) rfl ?_)
  rintro _ w1 ⟨rfl, e2⟩
  replace B := B.ext0 e2
  clear e2
  have hat3 := atI_b (wd := wd) (hi := hi) (x := x) (y := y) (by omega) (by omega)
  refine s_y (v := .int .i64 (atI wd hi x y)) rfl (y_assign rfl) ?_
  refine s_nil ?_
  refine W_seq ?_
  refine W_seq ?_
  refine W_region (by kernel_rfl) ?_
  refine s_y (v := .pointer (some ⟨b, o, none⟩)) rfl (y_move rfl) ?_
  refine s_y (v := .pointer (some ⟨b, o, none⟩)) rfl (y_nil rfl) ?_
  refine s_y (v := .pointer (some ⟨b, o + 2, none⟩)) rfl (y_fld (o := o + 0) T132.fld_26_2_2 rfl) ?_
  refine s_y (v := .bool wr) rfl (y_load T132.one_4 rfl ((B.s 0 rfl).cell (j := 2) rfl)) ?_
  refine s_y (v := .bool (!wr)) rfl (y_not rfl rfl) ?_
  refine s_y (v := .bool (!wr)) rfl (y_move rfl) ?_
  cases wr
  · refine s_y (v := .int .i64 x) rfl (y_move rfl) ?_
    refine s_y (v := .pointer (some ⟨b, o, none⟩)) rfl (y_move rfl) ?_
    refine s_y (v := .pointer (some ⟨b, o, none⟩)) rfl (y_nil rfl) ?_
    refine s_y (v := .pointer (some ⟨b, o, none⟩)) rfl (y_fld (o := o + 0) T132.fld_26_0_0 rfl) ?_
    refine s_y (v := .int .i64 wd) rfl (y_load T132.one_2 rfl ((B.s 0 rfl).cell (j := 0) rfl)) ?_
    refine s_y (v := .int .i64 (wd - 1)) rfl (y_sub rfl rfl rfl (by omega)) ?_
    by_cases c4 : x = (wd - 1)
    · refine s_y (v := .bool true) rfl (y_eql rfl rfl (decide_eq_true c4)) ?_
      refine s_y (v := .bool true) rfl (y_pick_t rfl rfl) ?_
      refine s_nil ?_
      refine W_if_t (by decide) rfl ?_
      refine W_seq ?_
      refine W_region (by kernel_rfl) ?_
      refine s_y (v := .pointer (some ⟨b2, o2, none⟩)) rfl (y_move rfl) ?_
      refine s_y (v := .pointer (some ⟨b2, o2, none⟩)) rfl (y_nil rfl) ?_
      refine s_y (v := .pointer (some ⟨b2, o2 + 2, none⟩)) rfl (y_fld (o := o2 + 0) T132.fld_29_2_2 rfl) ?_
      refine s_y (v := .slice afy nfy cfy) rfl (y_load T132.one_24 rfl ((B.s 4 rfl).cell (j := 2) rfl)) ?_
      refine s_y (v := .int .i64 (atI wd hi x y)) rfl (y_move rfl) ?_
      refine s_y (v := .pointer (some (sat afy ((atI wd hi x y).toNat * 1)))) rfl (y_idx T132.sl_24_35_1 rfl rfl ((B.r 3 rfl).addr (by omega)) (by omega) (by omega)) ?_
      obtain ⟨r6, hr7, hR5⟩ := Rd.atF (B.r 3 rfl) (atI wd hi x y) (by omega) (by omega)
      refine s_y (v := .float .f32 r6) rfl (y_load T132.one_35 rfl (hR5.cell (i := 0) rfl)) ?_
      refine s_y (v := .float .f32 r6) rfl (y_assign rfl) ?_
      refine s_nil ?_
      refine W_ret ?_
      refine ret1 (v := .float .f32 r6) rfl rfl rfl ⟨_, rfl, ?_⟩
      have hcc : (false || decide (x < wd - 1)) = false := by first | rfl | (rw [Bool.false_or]; exact decide_eq_false (by omega))
      exact ⟨⟨_, rfl, hr7.trans (hy_no hcc)⟩, B.ext⟩
    · refine s_y (v := .bool false) rfl (y_eql rfl rfl (decide_eq_false c4)) ?_
      refine s_y (v := .bool false) rfl (y_pick_t rfl rfl) ?_
      refine s_nil ?_
      refine W_if_f (by decide) rfl ?_
      refine W_skip ?_
      refine W_seq ?_
      have B0_12 := B
      refine W_draw (no) T132.mx (by kernel_rfl) (fun w10 e11 => ?_)
      have R13 := Ext.refl (no) w1
      replace R13 := R13.trans (Ext0.any e11)
      replace B := B.ext0 e11
      clear e11
      refine m_y (v := .pointer (some ⟨b2, o2, none⟩)) 0 rfl (by kernel_rfl) rfl rfl (fun w' e' => y_move rfl) ?_
      refine m_y (v := .pointer (some ⟨b2, o2, none⟩)) 1 rfl (by kernel_rfl) rfl rfl (fun w' e' => y_nil rfl) ?_
      refine m_y (v := .pointer (some ⟨b2, o2 + 2, none⟩)) 2 rfl (by kernel_rfl) rfl rfl (fun w' e' => y_fld (o := o2 + 0) T132.fld_29_2_2 rfl) ?_
      refine m_y (v := .slice afy nfy cfy) 3 rfl (by kernel_rfl) rfl rfl (fun w' e' => y_load T132.one_24 rfl (((B0_12.s 4 rfl).ext0 e').cell (j := 2) rfl)) ?_
      refine m_y (v := .int .i64 (atI wd hi x y)) 4 rfl (by kernel_rfl) rfl rfl (fun w' e' => y_move rfl) ?_
      refine m_y (v := .pointer (some (sat afy ((atI wd hi x y).toNat * 1)))) 5 rfl (by kernel_rfl) rfl rfl (fun w' e' => y_idx T132.sl_24_35_1 rfl rfl ((B.r 3 rfl).addr (by omega)) (by omega) (by omega)) ?_
      obtain ⟨r15, hr16, hR14⟩ := Rd.atF (B0_12.r 3 rfl) (atI wd hi x y) (by omega) (by omega)
      refine m_y (v := .float .f32 r15) 6 rfl (by kernel_rfl) rfl rfl (fun w' e' => y_load T132.one_35 rfl ((hR14.ext0 e').cell (i := 0) rfl)) ?_
      refine m_y (v := .pointer (some ⟨b2, o2, none⟩)) 7 rfl (by kernel_rfl) rfl rfl (fun w' e' => y_move rfl) ?_
      refine m_y (v := .pointer (some ⟨b2, o2, none⟩)) 8 rfl (by kernel_rfl) rfl rfl (fun w' e' => y_nil rfl) ?_
      refine m_y (v := .pointer (some ⟨b2, o2, none⟩)) 9 rfl (by kernel_rfl) rfl rfl (fun w' e' => y_fld (o := o2 + 0) T132.fld_29_0_0 rfl) ?_
      refine m_y (v := .slice afe nfe cfe) 10 rfl (by kernel_rfl) rfl rfl (fun w' e' => y_load T132.one_24 rfl (((B0_12.s 4 rfl).ext0 e').cell (j := 0) rfl)) ?_
      refine m_y (v := .pointer (some ⟨b, o, none⟩)) 11 rfl (by kernel_rfl) rfl rfl (fun w' e' => y_move rfl) ?_
      refine m_y (v := .int .i64 x) 12 rfl (by kernel_rfl) rfl rfl (fun w' e' => y_move rfl) ?_
      refine m_y (v := .int .i64 (x + 1)) 13 rfl (by kernel_rfl) rfl rfl (fun w' e' => y_add rfl rfl rfl (by omega)) ?_
      refine m_y (v := .int .i64 y) 14 rfl (by kernel_rfl) rfl rfl (fun w' e' => y_move rfl) ?_
      refine m_y (v := .pointer (some ⟨b2, o2, none⟩)) 18 rfl (by kernel_rfl) rfl rfl (fun w' e' => y_move rfl) ?_
      refine m_y (v := .pointer (some ⟨b2, o2, none⟩)) 19 rfl (by kernel_rfl) rfl rfl (fun w' e' => y_nil rfl) ?_
      refine m_y (v := .pointer (some ⟨b2, o2, none⟩)) 20 rfl (by kernel_rfl) rfl rfl (fun w' e' => y_fld (o := o2 + 0) T132.fld_29_0_0 rfl) ?_
      refine m_y (v := .slice afe nfe cfe) 21 rfl (by kernel_rfl) rfl rfl (fun w' e' => y_load T132.one_24 rfl (((B0_12.s 4 rfl).ext0 e').cell (j := 0) rfl)) ?_
      refine m_y (v := .int .i64 (atI wd hi x y)) 22 rfl (by kernel_rfl) rfl rfl (fun w' e' => y_move rfl) ?_
      refine m_y (v := .pointer (some (sat afe ((atI wd hi x y).toNat * 1)))) 23 rfl (by kernel_rfl) rfl rfl (fun w' e' => y_idx T132.sl_24_35_1 rfl rfl ((B.r 1 rfl).addr (by omega)) (by omega) (by omega)) ?_
      obtain ⟨r18, hr19, hR17⟩ := Rd.atF (B0_12.r 1 rfl) (atI wd hi x y) (by omega) (by omega)
      refine m_y (v := .float .f32 r18) 24 rfl (by kernel_rfl) rfl rfl (fun w' e' => y_load T132.one_35 rfl ((hR17.ext0 e').cell (i := 0) rfl)) ?_
      refine m_k 15 [16, 17, 25, 26, 27, 28] rfl (by kernel_rfl) rfl rfl (fun w20 e21 => ?_)
      replace R13 := R13.trans (Ext0.any e21)
      replace B := B.ext0 e21
      clear e21
      refine k_call T132.fn_117 (c_s_l03At (B.s 0 rfl) (by omega) (by omega) (by omega) (by omega) (by omega) (by omega) (by omega) (by omega)) rfl ?_
      rintro _ w22 ⟨rfl, e23⟩
      replace R13 := R13.trans (Ext0.any e23)
      replace B := B.ext0 e23
      clear e23
      refine ⟨fun _ => R13, ?_⟩
      have hat24 := atI_b (wd := wd) (hi := hi) (x := x + 1) (y := y) (by omega) (by omega)
      refine m_y (v := .pointer (some (sat afe ((atI wd hi (x + 1) y).toNat * 1)))) 16 rfl (by kernel_rfl) rfl rfl (fun w' e' => y_idx T132.sl_24_35_1 rfl rfl ((B.r 1 rfl).addr (by omega)) (by omega) (by omega)) ?_
      obtain ⟨r26, hr27, hR25⟩ := Rd.atF (B0_12.r 1 rfl) (atI wd hi (x + 1) y) (by omega) (by omega)
      refine m_y (v := .float .f32 r26) 17 rfl (by kernel_rfl) rfl rfl (fun w' e' => y_load T132.one_35 rfl ((hR25.ext0 e').cell (i := 0) rfl)) ?_
      refine m_n 25 [26, 27, 28] rfl (by kernel_rfl) rfl rfl (fun w' e' => n_arith (by decide) rfl rfl) ?_
      rintro _ ⟨r29, rfl, hr30⟩
      have hc33 := fopC hr30 hr27 hr19
      refine m_n 26 [27, 28] rfl (by kernel_rfl) rfl rfl (fun w' e' => n_arith (by decide) rfl rfl) ?_
      rintro _ ⟨r35, rfl, hr36⟩
      have hc39 := fopC hr36 (show can .f32 1056964608 = 1056964608 by kernel_rfl) hc33
      refine m_n 27 [28] rfl (by kernel_rfl) rfl rfl (fun w' e' => n_arith (by decide) rfl rfl) ?_
      rintro _ ⟨r41, rfl, hr42⟩
      have hc45 := fopC hr42 hr16 hc39
      refine m_y (v := .float .f32 r41) 28 rfl (by kernel_rfl) rfl rfl (fun w' e' => y_assign rfl) ?_
      refine m_done (by kernel_rfl) (fun w46 e47 => ?_)
      replace B := B.ext0 e47
      clear e47
      clear B0_12 R13
      refine W_ret ?_
      refine ret1 (v := .float .f32 r41) rfl rfl rfl ⟨_, rfl, ?_⟩
      have hcc : (false || decide (x < wd - 1)) = true := by first | rfl | (rw [Bool.false_or]; exact decide_eq_true (by omega))
      exact ⟨⟨_, rfl, hc45.trans (by unfold hyF; rw [if_pos hcc])⟩, B.ext⟩
  · refine s_skip rfl ?_
    refine s_skip rfl ?_
    refine s_skip rfl ?_
    refine s_skip rfl ?_
    refine s_skip rfl ?_
    refine s_skip rfl ?_
    refine s_skip rfl ?_
    refine s_y (v := .bool false) rfl (y_pick_f rfl rfl) ?_
    refine s_nil ?_
    refine W_if_f (by decide) rfl ?_
    refine W_skip ?_
    refine W_seq ?_
    have B0_52 := B
    refine W_draw (no) T132.mx (by kernel_rfl) (fun w50 e51 => ?_)
    have R53 := Ext.refl (no) w1
    replace R53 := R53.trans (Ext0.any e51)
    replace B := B.ext0 e51
    clear e51
    refine m_y (v := .pointer (some ⟨b2, o2, none⟩)) 0 rfl (by kernel_rfl) rfl rfl (fun w' e' => y_move rfl) ?_
    refine m_y (v := .pointer (some ⟨b2, o2, none⟩)) 1 rfl (by kernel_rfl) rfl rfl (fun w' e' => y_nil rfl) ?_
    refine m_y (v := .pointer (some ⟨b2, o2 + 2, none⟩)) 2 rfl (by kernel_rfl) rfl rfl (fun w' e' => y_fld (o := o2 + 0) T132.fld_29_2_2 rfl) ?_
    refine m_y (v := .slice afy nfy cfy) 3 rfl (by kernel_rfl) rfl rfl (fun w' e' => y_load T132.one_24 rfl (((B0_52.s 4 rfl).ext0 e').cell (j := 2) rfl)) ?_
    refine m_y (v := .int .i64 (atI wd hi x y)) 4 rfl (by kernel_rfl) rfl rfl (fun w' e' => y_move rfl) ?_
    refine m_y (v := .pointer (some (sat afy ((atI wd hi x y).toNat * 1)))) 5 rfl (by kernel_rfl) rfl rfl (fun w' e' => y_idx T132.sl_24_35_1 rfl rfl ((B.r 3 rfl).addr (by omega)) (by omega) (by omega)) ?_
    obtain ⟨r55, hr56, hR54⟩ := Rd.atF (B0_52.r 3 rfl) (atI wd hi x y) (by omega) (by omega)
    refine m_y (v := .float .f32 r55) 6 rfl (by kernel_rfl) rfl rfl (fun w' e' => y_load T132.one_35 rfl ((hR54.ext0 e').cell (i := 0) rfl)) ?_
    refine m_y (v := .pointer (some ⟨b2, o2, none⟩)) 7 rfl (by kernel_rfl) rfl rfl (fun w' e' => y_move rfl) ?_
    refine m_y (v := .pointer (some ⟨b2, o2, none⟩)) 8 rfl (by kernel_rfl) rfl rfl (fun w' e' => y_nil rfl) ?_
    refine m_y (v := .pointer (some ⟨b2, o2, none⟩)) 9 rfl (by kernel_rfl) rfl rfl (fun w' e' => y_fld (o := o2 + 0) T132.fld_29_0_0 rfl) ?_
    refine m_y (v := .slice afe nfe cfe) 10 rfl (by kernel_rfl) rfl rfl (fun w' e' => y_load T132.one_24 rfl (((B0_52.s 4 rfl).ext0 e').cell (j := 0) rfl)) ?_
    refine m_y (v := .pointer (some ⟨b, o, none⟩)) 11 rfl (by kernel_rfl) rfl rfl (fun w' e' => y_move rfl) ?_
    refine m_y (v := .int .i64 x) 12 rfl (by kernel_rfl) rfl rfl (fun w' e' => y_move rfl) ?_
    refine m_y (v := .int .i64 (x + 1)) 13 rfl (by kernel_rfl) rfl rfl (fun w' e' => y_add rfl rfl rfl (by omega)) ?_
    refine m_y (v := .int .i64 y) 14 rfl (by kernel_rfl) rfl rfl (fun w' e' => y_move rfl) ?_
    refine m_y (v := .pointer (some ⟨b2, o2, none⟩)) 18 rfl (by kernel_rfl) rfl rfl (fun w' e' => y_move rfl) ?_
    refine m_y (v := .pointer (some ⟨b2, o2, none⟩)) 19 rfl (by kernel_rfl) rfl rfl (fun w' e' => y_nil rfl) ?_
    refine m_y (v := .pointer (some ⟨b2, o2, none⟩)) 20 rfl (by kernel_rfl) rfl rfl (fun w' e' => y_fld (o := o2 + 0) T132.fld_29_0_0 rfl) ?_
    refine m_y (v := .slice afe nfe cfe) 21 rfl (by kernel_rfl) rfl rfl (fun w' e' => y_load T132.one_24 rfl (((B0_52.s 4 rfl).ext0 e').cell (j := 0) rfl)) ?_
    refine m_y (v := .int .i64 (atI wd hi x y)) 22 rfl (by kernel_rfl) rfl rfl (fun w' e' => y_move rfl) ?_
    refine m_y (v := .pointer (some (sat afe ((atI wd hi x y).toNat * 1)))) 23 rfl (by kernel_rfl) rfl rfl (fun w' e' => y_idx T132.sl_24_35_1 rfl rfl ((B.r 1 rfl).addr (by omega)) (by omega) (by omega)) ?_
    obtain ⟨r58, hr59, hR57⟩ := Rd.atF (B0_52.r 1 rfl) (atI wd hi x y) (by omega) (by omega)
    refine m_y (v := .float .f32 r58) 24 rfl (by kernel_rfl) rfl rfl (fun w' e' => y_load T132.one_35 rfl ((hR57.ext0 e').cell (i := 0) rfl)) ?_
    refine m_k 15 [16, 17, 25, 26, 27, 28] rfl (by kernel_rfl) rfl rfl (fun w60 e61 => ?_)
    replace R53 := R53.trans (Ext0.any e61)
    replace B := B.ext0 e61
    clear e61
    refine k_call T132.fn_117 (c_s_l03At (B.s 0 rfl) (by omega) (by omega) (by omega) (by omega) (by omega) (by omega) (by omega) (by omega)) rfl ?_
    rintro _ w62 ⟨rfl, e63⟩
    replace R53 := R53.trans (Ext0.any e63)
    replace B := B.ext0 e63
    clear e63
    refine ⟨fun _ => R53, ?_⟩
    have hat64 := atI_b (wd := wd) (hi := hi) (x := x + 1) (y := y) (by omega) (by omega)
    refine m_y (v := .pointer (some (sat afe ((atI wd hi (x + 1) y).toNat * 1)))) 16 rfl (by kernel_rfl) rfl rfl (fun w' e' => y_idx T132.sl_24_35_1 rfl rfl ((B.r 1 rfl).addr (by omega)) (by omega) (by omega)) ?_
    obtain ⟨r66, hr67, hR65⟩ := Rd.atF (B0_52.r 1 rfl) (atI wd hi (x + 1) y) (by omega) (by omega)
    refine m_y (v := .float .f32 r66) 17 rfl (by kernel_rfl) rfl rfl (fun w' e' => y_load T132.one_35 rfl ((hR65.ext0 e').cell (i := 0) rfl)) ?_
    refine m_n 25 [26, 27, 28] rfl (by kernel_rfl) rfl rfl (fun w' e' => n_arith (by decide) rfl rfl) ?_
    rintro _ ⟨r69, rfl, hr70⟩
    have hc73 := fopC hr70 hr67 hr59
    refine m_n 26 [27, 28] rfl (by kernel_rfl) rfl rfl (fun w' e' => n_arith (by decide) rfl rfl) ?_
    rintro _ ⟨r75, rfl, hr76⟩
    have hc79 := fopC hr76 (show can .f32 1056964608 = 1056964608 by kernel_rfl) hc73
    refine m_n 27 [28] rfl (by kernel_rfl) rfl rfl (fun w' e' => n_arith (by decide) rfl rfl) ?_
    rintro _ ⟨r81, rfl, hr82⟩
    have hc85 := fopC hr82 hr56 hc79
    refine m_y (v := .float .f32 r81) 28 rfl (by kernel_rfl) rfl rfl (fun w' e' => y_assign rfl) ?_
    refine m_done (by kernel_rfl) (fun w86 e87 => ?_)
    replace B := B.ext0 e87
    clear e87
    clear B0_52 R53
    refine W_ret ?_
    refine ret1 (v := .float .f32 r81) rfl rfl rfl ⟨_, rfl, ?_⟩
    have hcc : (true || decide (x < wd - 1)) = true := by first | rfl | (rw [Bool.false_or]; exact decide_eq_true (by omega))
    exact ⟨⟨_, rfl, hc85.trans (by unfold hyF; rw [if_pos hcc])⟩, B.ext⟩
namespace T99
theorem mx : Try.prog.follows .mixedOrders = true := by kernel_rfl
theorem agg_29_3 : aggB Try.prog 29 3 = true := by kernel_rfl
theorem fld_26_0_0 : fldB Try.prog 26 0 0 = true := by kernel_rfl
theorem fld_26_1_1 : fldB Try.prog 26 1 1 = true := by kernel_rfl
theorem fld_29_1_1 : fldB Try.prog 29 1 1 = true := by kernel_rfl
theorem fld_29_2_2 : fldB Try.prog 29 2 2 = true := by kernel_rfl
theorem fn_114 : fnB Try.prog 114 = true := by kernel_rfl
theorem fn_117 : fnB Try.prog 117 = true := by kernel_rfl
theorem fn_131 : fnB Try.prog 131 = true := by kernel_rfl
theorem fn_132 : fnB Try.prog 132 = true := by kernel_rfl
theorem one_2 : oneB Try.prog 2 = true := by kernel_rfl
theorem one_24 : oneB Try.prog 24 = true := by kernel_rfl
theorem sl_24_35_1 : slB Try.prog 24 35 1 = true := by kernel_rfl
theorem sz_29_3 : szB Try.prog 29 3 = true := by kernel_rfl
theorem sz_35_1 : szB Try.prog 35 1 = true := by kernel_rfl
theorem zero_29 : zeroB Try.prog 29 (.agg #[.slice none 0 0, .slice none 0 0, .slice none 0 0]) := by unfold zeroB; kernel_rfl
end T99
set_option maxRecDepth 100000 in
set_option maxHeartbeats 4000000 in
theorem c_s_l03Half {b : Nat} {o : Nat} {wd : Int} {hi : Int} {wr : Bool} {asp : Option Addr} {nsp : Nat} {csp : Nat} {als : Option Addr} {nls : Nat} {cls : Nat} {b2 : Nat} {o2 : Nat} {afe : Option Addr} {nfe : Nat} {cfe : Nat} {Xfe : List Nat} {afx : Option Addr} {nfx : Nat} {cfx : Nat} {Xfx : List Nat} {afy : Option Addr} {nfy : Nat} {cfy : Nat} {Xfy : List Nat} {w : World} (Pb : Sl w (some ⟨b, o, none⟩) [.int .i64 wd, .int .i64 hi, .bool wr, .slice asp nsp csp, .slice als nls cls]) (qfe : Rd w kF afe nfe Xfe) (qfx : Rd w kF afx nfx Xfx) (qfy : Rd w kF afy nfy Xfy) (Pb2 : Sl w (some ⟨b2, o2, none⟩) [.slice afe nfe cfe, .slice afx nfx cfx, .slice afy nfy cfy]) (h1 : 3 ≤ wd) (h2 : wd ≤ 16) (h3 : 3 ≤ hi) (h4 : hi ≤ 16) (gfe : (nfe : Int) = wd * hi) (gfx : (nfx : Int) = wd * hi) (gfy : (nfy : Int) = wd * hi) :
    Calls Try.prog 99 #[.pointer (some ⟨b, o, none⟩), .pointer (some ⟨b2, o2, none⟩)] w (Rt fun v w' => ∃ (a1 : Option Addr) (c1 : Nat) (a2 : Option Addr) (c2 : Nat) (a3 : Option Addr) (c3 : Nat), v = .agg #[.slice a1 nfe c1, .slice a2 nfx c2, .slice a3 nfy c3] ∧ New w w' [.ow kF a1 nfe c1 35 Xfe, .ow kF a2 nfx c2 35 (hxL wd hi wr Xfe Xfx), .ow kF a3 nfy c3 35 (hyL wd hi wr Xfe Xfy)]) := by
  have hlfe := qfe.len
  have hlfx := qfx.len
  have hlfy := qfy.len
  have B : Bu w no w [.sl (some ⟨b, o, none⟩) [.int .i64 wd, .int .i64 hi, .bool wr, .slice asp nsp csp, .slice als nls cls], .rd kF afe nfe Xfe, .rd kF afx nfx Xfx, .rd kF afy nfy Xfy, .sl (some ⟨b2, o2, none⟩) [.slice afe nfe cfe, .slice afx nfx cfx, .slice afy nfy cfy]] := Bu.ro (All.cons Pb (All.cons qfe (All.cons qfx (All.cons qfy (All.cons Pb2 All.nil))))) rfl
  have hwh := mul16 (And.intro (And.intro h1 h2) (And.intro h3 h4))
  refine calls_W (n := 50) Try.func99 rfl rfl (Nat.le_of_ble_eq_true rfl) ?_
  refine W_seq ?_
  refine W_region (by kernel_rfl) ?_
  refine s_k rfl (k_allocN (z := (.agg #[.slice none 0 0, .slice none 0 0, .slice none 0 0])) (cs := [.slice none 0 0, .slice none 0 0, .slice none 0 0]) T99.zero_29 rfl (fun b1 w2 hN3 => ?_))
  replace B := B.new1 hN3
  clear hN3
  refine s_nil ?_
  refine W_seq ?_
  refine W_region (by kernel_rfl) ?_
  refine s_y (v := .pointer (some ⟨b2, o2, none⟩)) rfl (y_move rfl) ?_
  refine s_k rfl (k_call T99.fn_114 (c_s_l02Own (B.r 2 rfl) (B.r 3 rfl) (B.r 4 rfl) (B.s 5 rfl) (by omega) (by omega) (by omega)) rfl ?_)
  rintro _ w4 ⟨a5, c6, a7, c8, a9, c10, rfl, hN11⟩
  replace B := B.new3 hN11
  clear hN11
  refine s_k rfl (k_allocN (z := (.agg #[.slice none 0 0, .slice none 0 0, .slice none 0 0])) (cs := [.slice none 0 0, .slice none 0 0, .slice none 0 0]) T99.zero_29 rfl (fun b12 w13 hN14 => ?_))
  replace B := B.new1 hN14
  clear hN14
  refine s_k0 rfl (k_stB (v := .agg #[.slice a5 nfe c6, .slice a7 nfx c8, .slice a9 nfy c10]) (n := 3) (cs' := [.slice a5 nfe c6, .slice a7 nfx c8, .slice a9 nfy c10]) T99.sz_29_3 rfl rfl rfl (B.b 0 rfl) (by simp [Value.cells, Value.oneCell']) (Nat.le_of_ble_eq_true rfl) rfl (fun w15 hU16 => ?_))
  replace B : Bu w no w15 [.blk b12 [.slice a5 nfe c6, .slice a7 nfx c8, .slice a9 nfy c10] 29, .ow kF a5 nfe c6 35 Xfe, .ow kF a7 nfx c8 35 Xfx, .ow kF a9 nfy c10 35 Xfy, .blk b1 [.slice none 0 0, .slice none 0 0, .slice none 0 0] 29, .sl (some ⟨b, o, none⟩) [.int .i64 wd, .int .i64 hi, .bool wr, .slice asp nsp csp, .slice als nls cls], .rd kF afe nfe Xfe, .rd kF afx nfx Xfx, .rd kF afy nfy Xfy, .sl (some ⟨b2, o2, none⟩) [.slice afe nfe cfe, .slice afx nfx cfx, .slice afy nfy cfy]] := B.upd [0] rfl hU16
  clear hU16
  refine s_nil ?_
  refine W_seq ?_
  refine W_seq ?_
  refine W_region (by kernel_rfl) ?_
  refine s_y (v := .int .i64 0) rfl (y_assign rfl) ?_
  refine s_nil ?_
  refine W_block ?_
  refine W_loop (fun ρ' w' => ∃ (ρ1 : Env) (py : Int), ρ' = updL ρ1 [(0, .pointer (some ⟨b, o, none⟩)), (1, .pointer (some ⟨b2, o2, none⟩)), (4, .pointer (some ⟨b1, 0, none⟩)), (5, .pointer (some ⟨b12, 0, none⟩)), (6, .int .i64 py)] ∧ Bu w no w' [.ow kF a7 nfx c8 35 (mix (wd * hi) (wd * py) (fun i => hxF wd hi wr Xfe Xfx (i % wd) (i / wd)) Xfx), .ow kF a9 nfy c10 35 (mix (wd * hi) (wd * py) (fun i => hyF wd hi wr Xfe Xfy (i % wd) (i / wd)) Xfy), .blk b12 [.slice a5 nfe c6, .slice a7 nfx c8, .slice a9 nfy c10] 29, .ow kF a5 nfe c6 35 Xfe, .blk b1 [.slice none 0 0, .slice none 0 0, .slice none 0 0] 29, .sl (some ⟨b, o, none⟩) [.int .i64 wd, .int .i64 hi, .bool wr, .slice asp nsp csp, .slice als nls cls], .rd kF afe nfe Xfe, .rd kF afx nfx Xfx, .rd kF afy nfy Xfy, .sl (some ⟨b2, o2, none⟩) [.slice afe nfe cfe, .slice afx nfx cfx, .slice afy nfy cfy]] ∧ (0 ≤ py) ∧ (py ≤ hi)) (fun ρ' _ => (hi - iv (ρ' 6)).toNat) ?_ ?_
  · replace B : Bu w no w15 [.blk b12 [.slice a5 nfe c6, .slice a7 nfx c8, .slice a9 nfy c10] 29, .ow kF a5 nfe c6 35 Xfe, .ow kF a7 nfx c8 35 (mix (wd * hi) (wd * 0) (fun i => hxF wd hi wr Xfe Xfx (i % wd) (i / wd)) Xfx), .ow kF a9 nfy c10 35 Xfy, .blk b1 [.slice none 0 0, .slice none 0 0, .slice none 0 0] 29, .sl (some ⟨b, o, none⟩) [.int .i64 wd, .int .i64 hi, .bool wr, .slice asp nsp csp, .slice als nls cls], .rd kF afe nfe Xfe, .rd kF afx nfx Xfx, .rd kF afy nfy Xfy, .sl (some ⟨b2, o2, none⟩) [.slice afe nfe cfe, .slice afx nfx cfx, .slice afy nfy cfy]] := B.castX 2 rfl rfl ((mix_zero (by omega)).trans (congrArg (fun q => mix (wd * hi) q (fun i => hxF wd hi wr Xfe Xfx (i % wd) (i / wd)) _) (Int.mul_zero wd).symm))
    replace B : Bu w no w15 [.blk b12 [.slice a5 nfe c6, .slice a7 nfx c8, .slice a9 nfy c10] 29, .ow kF a5 nfe c6 35 Xfe, .ow kF a7 nfx c8 35 (mix (wd * hi) (wd * 0) (fun i => hxF wd hi wr Xfe Xfx (i % wd) (i / wd)) Xfx), .ow kF a9 nfy c10 35 (mix (wd * hi) (wd * 0) (fun i => hyF wd hi wr Xfe Xfy (i % wd) (i / wd)) Xfy), .blk b1 [.slice none 0 0, .slice none 0 0, .slice none 0 0] 29, .sl (some ⟨b, o, none⟩) [.int .i64 wd, .int .i64 hi, .bool wr, .slice asp nsp csp, .slice als nls cls], .rd kF afe nfe Xfe, .rd kF afx nfx Xfx, .rd kF afy nfy Xfy, .sl (some ⟨b2, o2, none⟩) [.slice afe nfe cfe, .slice afx nfx cfx, .slice afy nfy cfy]] := B.castX 3 rfl rfl ((mix_zero (by omega)).trans (congrArg (fun q => mix (wd * hi) q (fun i => hyF wd hi wr Xfe Xfy (i % wd) (i / wd)) _) (Int.mul_zero wd).symm))
    exact ⟨_, 0, Fits.eq ⟨rfl, rfl, rfl, rfl, rfl, trivial⟩, (B.pick [2, 3, 0, 1, 4, 5, 6, 7, 8, 9] rfl rfl), (Int.le_refl _), (by omega)⟩
  · clear B; rintro _ w17 ⟨ρ18, py, rfl, B, h0py, h1py⟩
    refine W_seq ?_
    refine W_seq ?_
    refine W_region (by kernel_rfl) ?_
    refine s_y (v := .int .i64 py) rfl (y_move rfl) ?_
    refine s_y (v := .pointer (some ⟨b, o, none⟩)) rfl (y_move rfl) ?_
    refine s_y (v := .pointer (some ⟨b, o, none⟩)) rfl (y_nil rfl) ?_
    refine s_y (v := .pointer (some ⟨b, o + 1, none⟩)) rfl (y_fld (o := o + 0) T99.fld_26_1_1 rfl) ?_
    refine s_y (v := .int .i64 hi) rfl (y_load T99.one_2 rfl ((B.s 5 rfl).cell (j := 1) rfl)) ?_
    by_cases c19 : py < hi
    · refine s_y (v := .bool true) rfl (y_lss rfl rfl (decide_eq_true c19)) ?_
      refine s_nil ?_
      refine W_if_t (by decide) rfl ?_
      refine W_skip ?_
      refine W_seq ?_
      refine W_block ?_
      refine W_seq ?_
      refine W_region (by kernel_rfl) ?_
      refine s_y (v := .int .i64 0) rfl (y_assign rfl) ?_
      refine s_nil ?_
      refine W_block ?_
      refine W_loop (fun ρ' w' => ∃ (ρ1 : Env) (px : Int), ρ' = updL ρ1 [(0, .pointer (some ⟨b, o, none⟩)), (1, .pointer (some ⟨b2, o2, none⟩)), (4, .pointer (some ⟨b1, 0, none⟩)), (5, .pointer (some ⟨b12, 0, none⟩)), (6, .int .i64 py), (7, .int .i64 px), (11, .int .i64 py), (12, .pointer (some ⟨b, o, none⟩)), (13, .pointer (some ⟨b, o, none⟩)), (14, .pointer (some ⟨b, o + 1, none⟩)), (15, .int .i64 hi), (16, .bool true)] ∧ Bu w no w' [.ow kF a7 nfx c8 35 (mix (wd * hi) (wd * py + px) (fun i => hxF wd hi wr Xfe Xfx (i % wd) (i / wd)) Xfx), .ow kF a9 nfy c10 35 (mix (wd * hi) (wd * py + px) (fun i => hyF wd hi wr Xfe Xfy (i % wd) (i / wd)) Xfy), .blk b12 [.slice a5 nfe c6, .slice a7 nfx c8, .slice a9 nfy c10] 29, .ow kF a5 nfe c6 35 Xfe, .blk b1 [.slice none 0 0, .slice none 0 0, .slice none 0 0] 29, .sl (some ⟨b, o, none⟩) [.int .i64 wd, .int .i64 hi, .bool wr, .slice asp nsp csp, .slice als nls cls], .rd kF afe nfe Xfe, .rd kF afx nfx Xfx, .rd kF afy nfy Xfy, .sl (some ⟨b2, o2, none⟩) [.slice afe nfe cfe, .slice afx nfx cfx, .slice afy nfy cfy]] ∧ (0 ≤ px) ∧ (px ≤ wd)) (fun ρ' _ => (wd - iv (ρ' 7)).toNat) ?_ ?_
      · replace B : Bu w no w17 [.ow kF a7 nfx c8 35 (mix (wd * hi) (wd * py + 0) (fun i => hxF wd hi wr Xfe Xfx (i % wd) (i / wd)) Xfx), .ow kF a9 nfy c10 35 (mix (wd * hi) (wd * py) (fun i => hyF wd hi wr Xfe Xfy (i % wd) (i / wd)) Xfy), .blk b12 [.slice a5 nfe c6, .slice a7 nfx c8, .slice a9 nfy c10] 29, .ow kF a5 nfe c6 35 Xfe, .blk b1 [.slice none 0 0, .slice none 0 0, .slice none 0 0] 29, .sl (some ⟨b, o, none⟩) [.int .i64 wd, .int .i64 hi, .bool wr, .slice asp nsp csp, .slice als nls cls], .rd kF afe nfe Xfe, .rd kF afx nfx Xfx, .rd kF afy nfy Xfy, .sl (some ⟨b2, o2, none⟩) [.slice afe nfe cfe, .slice afx nfx cfx, .slice afy nfy cfy]] := B.castX 0 rfl rfl (congrArg (fun q => mix (wd * hi) q (fun i => hxF wd hi wr Xfe Xfx (i % wd) (i / wd)) _) (Int.add_zero _).symm)
        replace B : Bu w no w17 [.ow kF a7 nfx c8 35 (mix (wd * hi) (wd * py + 0) (fun i => hxF wd hi wr Xfe Xfx (i % wd) (i / wd)) Xfx), .ow kF a9 nfy c10 35 (mix (wd * hi) (wd * py + 0) (fun i => hyF wd hi wr Xfe Xfy (i % wd) (i / wd)) Xfy), .blk b12 [.slice a5 nfe c6, .slice a7 nfx c8, .slice a9 nfy c10] 29, .ow kF a5 nfe c6 35 Xfe, .blk b1 [.slice none 0 0, .slice none 0 0, .slice none 0 0] 29, .sl (some ⟨b, o, none⟩) [.int .i64 wd, .int .i64 hi, .bool wr, .slice asp nsp csp, .slice als nls cls], .rd kF afe nfe Xfe, .rd kF afx nfx Xfx, .rd kF afy nfy Xfy, .sl (some ⟨b2, o2, none⟩) [.slice afe nfe cfe, .slice afx nfx cfx, .slice afy nfy cfy]] := B.castX 1 rfl rfl (congrArg (fun q => mix (wd * hi) q (fun i => hyF wd hi wr Xfe Xfy (i % wd) (i / wd)) _) (Int.add_zero _).symm)
        exact ⟨_, 0, Fits.eq ⟨rfl, rfl, rfl, rfl, rfl, rfl, rfl, rfl, rfl, rfl, rfl, rfl, trivial⟩, B, (Int.le_refl _), (by omega)⟩
      · clear B; rintro _ w20 ⟨ρ21, px, rfl, B, h0px, h1px⟩
        refine W_seq ?_
        refine W_seq ?_
        refine W_region (by kernel_rfl) ?_
        refine s_y (v := .int .i64 px) rfl (y_move rfl) ?_
        refine s_y (v := .pointer (some ⟨b, o, none⟩)) rfl (y_move rfl) ?_
        refine s_y (v := .pointer (some ⟨b, o, none⟩)) rfl (y_nil rfl) ?_
        refine s_y (v := .pointer (some ⟨b, o, none⟩)) rfl (y_fld (o := o + 0) T99.fld_26_0_0 rfl) ?_
        refine s_y (v := .int .i64 wd) rfl (y_load T99.one_2 rfl ((B.s 5 rfl).cell (j := 0) rfl)) ?_
        by_cases c22 : px < wd
        · refine s_y (v := .bool true) rfl (y_lss rfl rfl (decide_eq_true c22)) ?_
          refine s_nil ?_
          refine W_if_t (by decide) rfl ?_
          refine W_skip ?_
          refine W_seq ?_
          refine W_block ?_
          refine W_seq ?_
          refine W_region (by kernel_rfl) ?_
          refine s_y (v := .pointer (some ⟨b, o, none⟩)) rfl (y_move rfl) ?_
          refine s_y (v := .int .i64 px) rfl (y_move rfl) ?_
          refine s_y (v := .int .i64 py) rfl (y_move rfl) ?_
          refine s_k rfl (k_call T99.fn_117 (c_s_l03At (B.s 5 rfl) (by omega) (by omega) (by omega) (by omega) (by omega) (by omega) (by omega) (by omega)) rfl ?_)
          rintro _ w23 ⟨rfl, e24⟩
          replace B := B.ext0 e24
          clear e24
          have hat25 := atI_b (wd := wd) (hi := hi) (x := px) (y := py) (by omega) (by omega)
          refine s_y (v := .int .i64 (atI wd hi px py)) rfl (y_assign rfl) ?_
          refine s_nil ?_
          refine W_seq ?_
          have B0_30 := B
          refine W_draw (no) T99.mx (by kernel_rfl) (fun w28 e29 => ?_)
          have R31 := Ext.refl (no) w23
          replace R31 := R31.trans (Ext0.any e29)
          replace B := B.ext0 e29
          clear e29
          refine m_y (v := .pointer (some ⟨b12, 1, none⟩)) 0 rfl (by kernel_rfl) rfl rfl (fun w' e' => y_fld (o := 0) T99.fld_29_1_1 rfl) ?_
          refine m_y (v := .slice a7 nfx c8) 1 rfl (by kernel_rfl) rfl rfl (fun w' e' => y_load T99.one_24 rfl (((B0_30.b 2 rfl).ext0 e').cell (j := 1) rfl)) ?_
          refine m_y (v := .int .i64 (atI wd hi px py)) 2 rfl (by kernel_rfl) rfl rfl (fun w' e' => y_move rfl) ?_
          refine m_y (v := .pointer (some ⟨b, o, none⟩)) 3 rfl (by kernel_rfl) rfl rfl (fun w' e' => y_move rfl) ?_
          refine m_y (v := .pointer (some ⟨b2, o2, none⟩)) 4 rfl (by kernel_rfl) rfl rfl (fun w' e' => y_move rfl) ?_
          refine m_y (v := .int .i64 px) 5 rfl (by kernel_rfl) rfl rfl (fun w' e' => y_move rfl) ?_
          refine m_y (v := .int .i64 py) 6 rfl (by kernel_rfl) rfl rfl (fun w' e' => y_move rfl) ?_
          refine m_k 7 [8, 9] rfl (by kernel_rfl) rfl rfl (fun w32 e33 => ?_)
          replace R31 := R31.trans (Ext0.any e33)
          replace B := B.ext0 e33
          clear e33
          refine k_call T99.fn_131 (c_s_l03HalfX (B.s 5 rfl) (B.r 6 rfl) (B.r 7 rfl) (B.r 8 rfl) (B.s 9 rfl) (by omega) (by omega) (by omega) (by omega) (by omega) (by omega) (by omega) (by omega) (by omega) (by omega) (by omega)) rfl ?_
          rintro _ w34 ⟨⟨r36, rfl, hr37⟩, e35⟩
          replace R31 := R31.trans (Ext0.any e35)
          replace B := B.ext0 e35
          clear e35
          refine ⟨fun _ => R31, ?_⟩
          refine m_y (v := .pointer (some (sat a7 ((atI wd hi px py).toNat * 1)))) 8 rfl (by kernel_rfl) rfl rfl (fun w' e' => y_idx T99.sl_24_35_1 rfl rfl ((B.o 0 rfl).rd.addr (by omega)) (by omega) (by omega)) ?_
          refine m_kt 9 [] rfl (by kernel_rfl) rfl rfl (by kernel_rfl) (fun w40 e41 => ?_)
          replace R31 := R31.trans (Ext0.any e41)
          replace B := B.ext0 e41
          clear e41
          refine k_stO (k := kF) (i := atI wd hi px py) (j := 0) (x' := hxF wd hi wr Xfe Xfx px py) (new := [.float .f32 r36]) T99.sz_35_1 rfl rfl rfl rfl rfl (by simp [Value.oneCell']) (by decide) (B.o 0 rfl) (by omega) (by omega) (by decide) (by rintro q ⟨_, rfl, _⟩; exact ⟨_, rfl, hr37⟩) (fun w38 hU39 => ?_)
          clear R31
          replace B : Bu w no w38 [.ow kF a7 nfx c8 35 (put (mix (wd * hi) (wd * py + px) (fun i => hxF wd hi wr Xfe Xfx (i % wd) (i / wd)) Xfx) (atI wd hi px py) (hxF wd hi wr Xfe Xfx px py)), .ow kF a9 nfy c10 35 (mix (wd * hi) (wd * py + px) (fun i => hyF wd hi wr Xfe Xfy (i % wd) (i / wd)) Xfy), .blk b12 [.slice a5 nfe c6, .slice a7 nfx c8, .slice a9 nfy c10] 29, .ow kF a5 nfe c6 35 Xfe, .blk b1 [.slice none 0 0, .slice none 0 0, .slice none 0 0] 29, .sl (some ⟨b, o, none⟩) [.int .i64 wd, .int .i64 hi, .bool wr, .slice asp nsp csp, .slice als nls cls], .rd kF afe nfe Xfe, .rd kF afx nfx Xfx, .rd kF afy nfy Xfy, .sl (some ⟨b2, o2, none⟩) [.slice afe nfe cfe, .slice afx nfx cfx, .slice afy nfy cfy]] := B.upd [0] rfl hU39
          clear hU39
          refine m_done (by kernel_rfl) (fun w42 e43 => ?_)
          replace B := B.ext0 e43
          clear e43
          clear B0_30
          have B0_48 := B
          refine W_draw (no) T99.mx (by kernel_rfl) (fun w46 e47 => ?_)
          have R49 := Ext.refl (no) w42
          replace R49 := R49.trans (Ext0.any e47)
          replace B := B.ext0 e47
          clear e47
          refine m_y (v := .pointer (some ⟨b12, 2, none⟩)) 0 rfl (by kernel_rfl) rfl rfl (fun w' e' => y_fld (o := 0) T99.fld_29_2_2 rfl) ?_
          refine m_y (v := .slice a9 nfy c10) 1 rfl (by kernel_rfl) rfl rfl (fun w' e' => y_load T99.one_24 rfl (((B0_48.b 2 rfl).ext0 e').cell (j := 2) rfl)) ?_
          refine m_y (v := .int .i64 (atI wd hi px py)) 2 rfl (by kernel_rfl) rfl rfl (fun w' e' => y_move rfl) ?_
          refine m_y (v := .pointer (some ⟨b, o, none⟩)) 3 rfl (by kernel_rfl) rfl rfl (fun w' e' => y_move rfl) ?_
          refine m_y (v := .pointer (some ⟨b2, o2, none⟩)) 4 rfl (by kernel_rfl) rfl rfl (fun w' e' => y_move rfl) ?_
          refine m_y (v := .int .i64 px) 5 rfl (by kernel_rfl) rfl rfl (fun w' e' => y_move rfl) ?_
          refine m_y (v := .int .i64 py) 6 rfl (by kernel_rfl) rfl rfl (fun w' e' => y_move rfl) ?_
          refine m_k 7 [8, 9] rfl (by kernel_rfl) rfl rfl (fun w50 e51 => ?_)
          replace R49 := R49.trans (Ext0.any e51)
          replace B := B.ext0 e51
          clear e51
          refine k_call T99.fn_132 (c_s_l03HalfY (B.s 5 rfl) (B.r 6 rfl) (B.r 7 rfl) (B.r 8 rfl) (B.s 9 rfl) (by omega) (by omega) (by omega) (by omega) (by omega) (by omega) (by omega) (by omega) (by omega) (by omega) (by omega)) rfl ?_
          rintro _ w52 ⟨⟨r54, rfl, hr55⟩, e53⟩
          replace R49 := R49.trans (Ext0.any e53)
          replace B := B.ext0 e53
          clear e53
          refine ⟨fun _ => R49, ?_⟩
          refine m_y (v := .pointer (some (sat a9 ((atI wd hi px py).toNat * 1)))) 8 rfl (by kernel_rfl) rfl rfl (fun w' e' => y_idx T99.sl_24_35_1 rfl rfl ((B.o 1 rfl).rd.addr (by omega)) (by omega) (by omega)) ?_
          refine m_kt 9 [] rfl (by kernel_rfl) rfl rfl (by kernel_rfl) (fun w58 e59 => ?_)
          replace R49 := R49.trans (Ext0.any e59)
          replace B := B.ext0 e59
          clear e59
          refine k_stO (k := kF) (i := atI wd hi px py) (j := 0) (x' := hyF wd hi wr Xfe Xfy px py) (new := [.float .f32 r54]) T99.sz_35_1 rfl rfl rfl rfl rfl (by simp [Value.oneCell']) (by decide) (B.o 1 rfl) (by omega) (by omega) (by decide) (by rintro q ⟨_, rfl, _⟩; exact ⟨_, rfl, hr55⟩) (fun w56 hU57 => ?_)
          clear R49
          replace B : Bu w no w56 [.ow kF a9 nfy c10 35 (put (mix (wd * hi) (wd * py + px) (fun i => hyF wd hi wr Xfe Xfy (i % wd) (i / wd)) Xfy) (atI wd hi px py) (hyF wd hi wr Xfe Xfy px py)), .ow kF a7 nfx c8 35 (put (mix (wd * hi) (wd * py + px) (fun i => hxF wd hi wr Xfe Xfx (i % wd) (i / wd)) Xfx) (atI wd hi px py) (hxF wd hi wr Xfe Xfx px py)), .blk b12 [.slice a5 nfe c6, .slice a7 nfx c8, .slice a9 nfy c10] 29, .ow kF a5 nfe c6 35 Xfe, .blk b1 [.slice none 0 0, .slice none 0 0, .slice none 0 0] 29, .sl (some ⟨b, o, none⟩) [.int .i64 wd, .int .i64 hi, .bool wr, .slice asp nsp csp, .slice als nls cls], .rd kF afe nfe Xfe, .rd kF afx nfx Xfx, .rd kF afy nfy Xfy, .sl (some ⟨b2, o2, none⟩) [.slice afe nfe cfe, .slice afx nfx cfx, .slice afy nfy cfy]] := B.upd [1] rfl hU57
          clear hU57
          refine m_done (by kernel_rfl) (fun w60 e61 => ?_)
          replace B := B.ext0 e61
          clear e61
          clear B0_48
          refine W_region (by kernel_rfl) ?_
          refine s_y (v := .int .i64 px) rfl (y_move rfl) ?_
          refine s_y (v := .int .i64 (px + 1)) rfl (y_add rfl rfl rfl (by omega)) ?_
          refine s_y (v := .int .i64 (px + 1)) rfl (y_assign rfl) ?_
          refine s_nil ?_
          replace B : Bu w no w60 [.ow kF a9 nfy c10 35 (put (mix (wd * hi) (wd * py + px) (fun i => hyF wd hi wr Xfe Xfy (i % wd) (i / wd)) Xfy) (atI wd hi px py) (hyF wd hi wr Xfe Xfy px py)), .ow kF a7 nfx c8 35 (mix (wd * hi) (wd * py + (px + 1)) (fun i => hxF wd hi wr Xfe Xfx (i % wd) (i / wd)) Xfx), .blk b12 [.slice a5 nfe c6, .slice a7 nfx c8, .slice a9 nfy c10] 29, .ow kF a5 nfe c6 35 Xfe, .blk b1 [.slice none 0 0, .slice none 0 0, .slice none 0 0] 29, .sl (some ⟨b, o, none⟩) [.int .i64 wd, .int .i64 hi, .bool wr, .slice asp nsp csp, .slice als nls cls], .rd kF afe nfe Xfe, .rd kF afx nfx Xfx, .rd kF afy nfy Xfy, .sl (some ⟨b2, o2, none⟩) [.slice afe nfe cfe, .slice afx nfx cfx, .slice afy nfy cfy]] := B.castX 1 rfl rfl (mix_cell (G := hxF wd hi wr Xfe Xfx) rfl (by omega) (by omega) (by omega) (by omega) rfl rfl)
          replace B : Bu w no w60 [.ow kF a9 nfy c10 35 (mix (wd * hi) (wd * py + (px + 1)) (fun i => hyF wd hi wr Xfe Xfy (i % wd) (i / wd)) Xfy), .ow kF a7 nfx c8 35 (mix (wd * hi) (wd * py + (px + 1)) (fun i => hxF wd hi wr Xfe Xfx (i % wd) (i / wd)) Xfx), .blk b12 [.slice a5 nfe c6, .slice a7 nfx c8, .slice a9 nfy c10] 29, .ow kF a5 nfe c6 35 Xfe, .blk b1 [.slice none 0 0, .slice none 0 0, .slice none 0 0] 29, .sl (some ⟨b, o, none⟩) [.int .i64 wd, .int .i64 hi, .bool wr, .slice asp nsp csp, .slice als nls cls], .rd kF afe nfe Xfe, .rd kF afx nfx Xfx, .rd kF afy nfy Xfy, .sl (some ⟨b2, o2, none⟩) [.slice afe nfe cfe, .slice afx nfx cfx, .slice afy nfy cfy]] := B.castX 0 rfl rfl (mix_cell (G := hyF wd hi wr Xfe Xfy) rfl (by omega) (by omega) (by omega) (by omega) rfl rfl)
          refine ⟨⟨_, px + 1, Fits.eq ⟨rfl, rfl, rfl, rfl, rfl, rfl, rfl, rfl, rfl, rfl, rfl, rfl, trivial⟩, (B.pick [1, 0, 2, 3, 4, 5, 6, 7, 8, 9] rfl rfl), (by omega), (by omega)⟩, ?_⟩
          show (wd - (px + 1)).toNat < (wd - px).toNat
          omega
        · refine s_y (v := .bool false) rfl (y_lss rfl rfl (decide_eq_false c22)) ?_
          refine s_nil ?_
          refine W_if_f (by decide) rfl ?_
          refine W_exit ?_
          refine W_region (by kernel_rfl) ?_
          refine s_y (v := .int .i64 py) rfl (y_move rfl) ?_
          refine s_y (v := .int .i64 (py + 1)) rfl (y_add rfl rfl rfl (by omega)) ?_
          refine s_y (v := .int .i64 (py + 1)) rfl (y_assign rfl) ?_
          refine s_nil ?_
          replace B : Bu w no w20 [.ow kF a7 nfx c8 35 (mix (wd * hi) (wd * (py + 1)) (fun i => hxF wd hi wr Xfe Xfx (i % wd) (i / wd)) Xfx), .ow kF a9 nfy c10 35 (mix (wd * hi) (wd * py + px) (fun i => hyF wd hi wr Xfe Xfy (i % wd) (i / wd)) Xfy), .blk b12 [.slice a5 nfe c6, .slice a7 nfx c8, .slice a9 nfy c10] 29, .ow kF a5 nfe c6 35 Xfe, .blk b1 [.slice none 0 0, .slice none 0 0, .slice none 0 0] 29, .sl (some ⟨b, o, none⟩) [.int .i64 wd, .int .i64 hi, .bool wr, .slice asp nsp csp, .slice als nls cls], .rd kF afe nfe Xfe, .rd kF afx nfx Xfx, .rd kF afy nfy Xfy, .sl (some ⟨b2, o2, none⟩) [.slice afe nfe cfe, .slice afx nfx cfx, .slice afy nfy cfy]] := B.castX 0 rfl rfl (congrArg (fun q => mix (wd * hi) q (fun i => hxF wd hi wr Xfe Xfx (i % wd) (i / wd)) _) (show wd * py + px = wd * (py + 1) by rw [Int.mul_add, Int.mul_one]; omega))
          replace B : Bu w no w20 [.ow kF a7 nfx c8 35 (mix (wd * hi) (wd * (py + 1)) (fun i => hxF wd hi wr Xfe Xfx (i % wd) (i / wd)) Xfx), .ow kF a9 nfy c10 35 (mix (wd * hi) (wd * (py + 1)) (fun i => hyF wd hi wr Xfe Xfy (i % wd) (i / wd)) Xfy), .blk b12 [.slice a5 nfe c6, .slice a7 nfx c8, .slice a9 nfy c10] 29, .ow kF a5 nfe c6 35 Xfe, .blk b1 [.slice none 0 0, .slice none 0 0, .slice none 0 0] 29, .sl (some ⟨b, o, none⟩) [.int .i64 wd, .int .i64 hi, .bool wr, .slice asp nsp csp, .slice als nls cls], .rd kF afe nfe Xfe, .rd kF afx nfx Xfx, .rd kF afy nfy Xfy, .sl (some ⟨b2, o2, none⟩) [.slice afe nfe cfe, .slice afx nfx cfx, .slice afy nfy cfy]] := B.castX 1 rfl rfl (congrArg (fun q => mix (wd * hi) q (fun i => hyF wd hi wr Xfe Xfy (i % wd) (i / wd)) _) (show wd * py + px = wd * (py + 1) by rw [Int.mul_add, Int.mul_one]; omega))
          refine ⟨⟨_, py + 1, Fits.eq ⟨rfl, rfl, rfl, rfl, rfl, trivial⟩, B, (by omega), (by omega)⟩, ?_⟩
          show (hi - (py + 1)).toNat < (hi - py).toNat
          omega
    · refine s_y (v := .bool false) rfl (y_lss rfl rfl (decide_eq_false c19)) ?_
      refine s_nil ?_
      refine W_if_f (by decide) rfl ?_
      refine W_exit ?_
      have hye : py = hi := by omega
      subst hye
      replace B : Bu w no w17 [.ow kF a7 nfx c8 35 (tab (wd * py) (fun i => hxF wd py wr Xfe Xfx (i % wd) (i / wd))), .ow kF a9 nfy c10 35 (mix (wd * py) (wd * py) (fun i => hyF wd py wr Xfe Xfy (i % wd) (i / wd)) Xfy), .blk b12 [.slice a5 nfe c6, .slice a7 nfx c8, .slice a9 nfy c10] 29, .ow kF a5 nfe c6 35 Xfe, .blk b1 [.slice none 0 0, .slice none 0 0, .slice none 0 0] 29, .sl (some ⟨b, o, none⟩) [.int .i64 wd, .int .i64 py, .bool wr, .slice asp nsp csp, .slice als nls cls], .rd kF afe nfe Xfe, .rd kF afx nfx Xfx, .rd kF afy nfy Xfy, .sl (some ⟨b2, o2, none⟩) [.slice afe nfe cfe, .slice afx nfx cfx, .slice afy nfy cfy]] := B.castX 0 rfl rfl mix_all
      replace B : Bu w no w17 [.ow kF a7 nfx c8 35 (tab (wd * py) (fun i => hxF wd py wr Xfe Xfx (i % wd) (i / wd))), .ow kF a9 nfy c10 35 (tab (wd * py) (fun i => hyF wd py wr Xfe Xfy (i % wd) (i / wd))), .blk b12 [.slice a5 nfe c6, .slice a7 nfx c8, .slice a9 nfy c10] 29, .ow kF a5 nfe c6 35 Xfe, .blk b1 [.slice none 0 0, .slice none 0 0, .slice none 0 0] 29, .sl (some ⟨b, o, none⟩) [.int .i64 wd, .int .i64 py, .bool wr, .slice asp nsp csp, .slice als nls cls], .rd kF afe nfe Xfe, .rd kF afx nfx Xfx, .rd kF afy nfy Xfy, .sl (some ⟨b2, o2, none⟩) [.slice afe nfe cfe, .slice afx nfx cfx, .slice afy nfy cfy]] := B.castX 1 rfl rfl mix_all
      refine W_seq ?_
      refine W_region (by kernel_rfl) ?_
      refine s_y (v := .agg #[.slice a5 nfe c6, .slice a7 nfx c8, .slice a9 nfy c10]) rfl (y_loadn (b := b12) (o := 0) (vs := [.slice a5 nfe c6, .slice a7 nfx c8, .slice a9 nfy c10]) T99.agg_29_3 rfl rfl ((B.b 2 rfl).cells (o := 0) rfl)) ?_
      refine s_k0 rfl (k_stB (v := .agg #[.slice a5 nfe c6, .slice a7 nfx c8, .slice a9 nfy c10]) (n := 3) (cs' := [.slice a5 nfe c6, .slice a7 nfx c8, .slice a9 nfy c10]) T99.sz_29_3 rfl rfl rfl (B.b 4 rfl) (by simp [Value.cells, Value.oneCell']) (Nat.le_of_ble_eq_true rfl) rfl (fun w62 hU63 => ?_))
      replace B : Bu w no w62 [.blk b1 [.slice a5 nfe c6, .slice a7 nfx c8, .slice a9 nfy c10] 29, .ow kF a7 nfx c8 35 (tab (wd * py) (fun i => hxF wd py wr Xfe Xfx (i % wd) (i / wd))), .ow kF a9 nfy c10 35 (tab (wd * py) (fun i => hyF wd py wr Xfe Xfy (i % wd) (i / wd))), .blk b12 [.slice a5 nfe c6, .slice a7 nfx c8, .slice a9 nfy c10] 29, .ow kF a5 nfe c6 35 Xfe, .sl (some ⟨b, o, none⟩) [.int .i64 wd, .int .i64 py, .bool wr, .slice asp nsp csp, .slice als nls cls], .rd kF afe nfe Xfe, .rd kF afx nfx Xfx, .rd kF afy nfy Xfy, .sl (some ⟨b2, o2, none⟩) [.slice afe nfe cfe, .slice afx nfx cfx, .slice afy nfy cfy]] := B.upd [4] rfl hU63
      clear hU63
      refine s_nil ?_
      refine W_ret ?_
      refine ret1 (v := .agg #[.slice a5 nfe c6, .slice a7 nfx c8, .slice a9 nfy c10]) rfl rfl ⟨_, [.slice a5 nfe c6, .slice a7 nfx c8, .slice a9 nfy c10], _, rfl, (B.b 0 rfl), T99.agg_29_3, rfl⟩ ⟨_, rfl, ?_⟩
      replace B : Bu w no w62 [.blk b1 [.slice a5 nfe c6, .slice a7 nfx c8, .slice a9 nfy c10] 29, .ow kF a7 nfx c8 35 (hxL wd py wr Xfe Xfx), .ow kF a9 nfy c10 35 (tab (wd * py) (fun i => hyF wd py wr Xfe Xfy (i % wd) (i / wd))), .blk b12 [.slice a5 nfe c6, .slice a7 nfx c8, .slice a9 nfy c10] 29, .ow kF a5 nfe c6 35 Xfe, .sl (some ⟨b, o, none⟩) [.int .i64 wd, .int .i64 py, .bool wr, .slice asp nsp csp, .slice als nls cls], .rd kF afe nfe Xfe, .rd kF afx nfx Xfx, .rd kF afy nfy Xfy, .sl (some ⟨b2, o2, none⟩) [.slice afe nfe cfe, .slice afx nfx cfx, .slice afy nfy cfy]] := B.castX 1 rfl rfl rfl
      replace B : Bu w no w62 [.blk b1 [.slice a5 nfe c6, .slice a7 nfx c8, .slice a9 nfy c10] 29, .ow kF a7 nfx c8 35 (hxL wd py wr Xfe Xfx), .ow kF a9 nfy c10 35 (hyL wd py wr Xfe Xfy), .blk b12 [.slice a5 nfe c6, .slice a7 nfx c8, .slice a9 nfy c10] 29, .ow kF a5 nfe c6 35 Xfe, .sl (some ⟨b, o, none⟩) [.int .i64 wd, .int .i64 py, .bool wr, .slice asp nsp csp, .slice als nls cls], .rd kF afe nfe Xfe, .rd kF afx nfx Xfx, .rd kF afy nfy Xfy, .sl (some ⟨b2, o2, none⟩) [.slice afe nfe cfe, .slice afx nfx cfx, .slice afy nfy cfy]] := B.castX 2 rfl rfl rfl
      exact ⟨_, _, _, _, _, _, rfl, B.give [4, 1, 2] rfl rfl rfl⟩
namespace T141
theorem mx : Try.prog.follows .mixedOrders = true := by kernel_rfl
theorem fld_26_2_2 : fldB Try.prog 26 2 2 = true := by kernel_rfl
theorem fld_26_3_3 : fldB Try.prog 26 3 3 = true := by kernel_rfl
theorem fld_26_4_4 : fldB Try.prog 26 4 4 = true := by kernel_rfl
theorem fld_29_0_0 : fldB Try.prog 29 0 0 = true := by kernel_rfl
theorem fld_29_1_1 : fldB Try.prog 29 1 1 = true := by kernel_rfl
theorem fld_29_2_2 : fldB Try.prog 29 2 2 = true := by kernel_rfl
theorem fn_117 : fnB Try.prog 117 = true := by kernel_rfl
theorem fn_73 : fnB Try.prog 73 = true := by kernel_rfl
theorem one_24 : oneB Try.prog 24 = true := by kernel_rfl
theorem one_35 : oneB Try.prog 35 = true := by kernel_rfl
theorem one_4 : oneB Try.prog 4 = true := by kernel_rfl
theorem sl_24_35_1 : slB Try.prog 24 35 1 = true := by kernel_rfl
end T141
set_option maxRecDepth 100000 in
set_option maxHeartbeats 4000000 in
theorem c_s_l03Rest {b : Nat} {o : Nat} {wd : Int} {hi : Int} {wr : Bool} {asp : Option Addr} {nsp : Nat} {csp : Nat} {Xsp : List Nat} {als : Option Addr} {nls : Nat} {cls : Nat} {Xls : List Nat} {b2 : Nat} {o2 : Nat} {afe : Option Addr} {nfe : Nat} {cfe : Nat} {Xfe : List Nat} {afx : Option Addr} {nfx : Nat} {cfx : Nat} {Xfx : List Nat} {afy : Option Addr} {nfy : Nat} {cfy : Nat} {Xfy : List Nat} {x : Int} {y : Int} {w : World} (qsp : Rd w kF asp nsp Xsp) (qls : Rd w kF als nls Xls) (Pb : Sl w (some ⟨b, o, none⟩) [.int .i64 wd, .int .i64 hi, .bool wr, .slice asp nsp csp, .slice als nls cls]) (qfe : Rd w kF afe nfe Xfe) (qfx : Rd w kF afx nfx Xfx) (qfy : Rd w kF afy nfy Xfy) (Pb2 : Sl w (some ⟨b2, o2, none⟩) [.slice afe nfe cfe, .slice afx nfx cfx, .slice afy nfy cfy]) (h1 : 3 ≤ wd) (h2 : wd ≤ 16) (h3 : 3 ≤ hi) (h4 : hi ≤ 16) (gfe : (nfe : Int) = wd * hi) (gfx : (nfx : Int) = wd * hi) (gfy : (nfy : Int) = wd * hi) (gsp : (nsp : Int) = wd * hi) (gls : (nls : Int) = wd * hi) (p1 : 0 ≤ x) (p2 : x < wd) (p3 : 0 ≤ y) (p4 : y < hi) :
    Calls Try.prog 141 #[.pointer (some ⟨b, o, none⟩), .pointer (some ⟨b2, o2, none⟩), .int .i64 x, .int .i64 y] w (Rt fun v w' => (∃ r, v = .float .f32 r ∧ can .f32 r = nwF wd hi wr Xsp Xls Xfe Xfx Xfy x y) ∧ Ext0 w w') := by
  have hlsp := qsp.len
  have hlls := qls.len
  have hlfe := qfe.len
  have hlfx := qfx.len
  have hlfy := qfy.len
  have B : Bu w no w [.rd kF asp nsp Xsp, .rd kF als nls Xls, .sl (some ⟨b, o, none⟩) [.int .i64 wd, .int .i64 hi, .bool wr, .slice asp nsp csp, .slice als nls cls], .rd kF afe nfe Xfe, .rd kF afx nfx Xfx, .rd kF afy nfy Xfy, .sl (some ⟨b2, o2, none⟩) [.slice afe nfe cfe, .slice afx nfx cfx, .slice afy nfy cfy]] := Bu.ro (All.cons qsp (All.cons qls (All.cons Pb (All.cons qfe (All.cons qfx (All.cons qfy (All.cons Pb2 All.nil))))))) rfl
  refine calls_W (n := 102) Try.func141 rfl rfl (Nat.le_of_ble_eq_true rfl) ?_
  refine W_seq ?_
  refine W_region (by kernel_rfl) ?_
  refine s_y (v := .float .f32 0) rfl (y_assign rfl) ?_
  refine s_nil ?_
  refine W_seq ?_
  refine W_region (by kernel_rfl) ?_
  refine s_y (v := .pointer (some ⟨b, o, none⟩)) rfl (y_move rfl) ?_
  refine s_y (v := .int .i64 x) rfl (y_move rfl) ?_
  refine s_y (v := .int .i64 y) rfl (y_move rfl) ?_
  refine s_k rfl (k_call T141.fn_117 (c_s_l03At (B.s 2 rfl) (by omega) (by omega) (by omega) (by omega) (by omega) (by omega) (by omega) (by omega)) rfl ?_)
  rintro _ w1 ⟨rfl, e2⟩
  replace B := B.ext0 e2
  clear e2
  have hat3 := atI_b (wd := wd) (hi := hi) (x := x) (y := y) (by omega) (by omega)
  refine s_y (v := .int .i64 (atI wd hi x y)) rfl (y_assign rfl) ?_
  refine s_nil ?_
  refine W_seq ?_
  refine W_seq ?_
  refine W_region (by kernel_rfl) ?_
  refine s_y (v := .pointer (some ⟨b, o, none⟩)) rfl (y_move rfl) ?_
  refine s_y (v := .pointer (some ⟨b, o, none⟩)) rfl (y_nil rfl) ?_
  refine s_y (v := .pointer (some ⟨b, o + 2, none⟩)) rfl (y_fld (o := o + 0) T141.fld_26_2_2 rfl) ?_
  refine s_y (v := .bool wr) rfl (y_load T141.one_4 rfl ((B.s 2 rfl).cell (j := 2) rfl)) ?_
  refine s_y (v := .bool (!wr)) rfl (y_not rfl rfl) ?_
  refine s_y (v := .bool (!wr)) rfl (y_move rfl) ?_
  cases wr
  · refine s_y (v := .pointer (some ⟨b, o, none⟩)) rfl (y_move rfl) ?_
    refine s_y (v := .int .i64 x) rfl (y_move rfl) ?_
    refine s_y (v := .int .i64 y) rfl (y_move rfl) ?_
    refine s_k rfl (k_call T141.fn_73 (c_s_l02Border (B.s 2 rfl) (by omega) (by omega) (by omega) (by omega)) rfl ?_)
    rintro v6 w4 ⟨hv7, e5⟩
    replace B := B.ext0 e5
    clear e5
    by_cases c8 : bordB wd hi false x y = true
    · obtain rfl : v6 = .bool true := hv7.trans (congrArg Value.bool c8)
      refine s_y (v := .bool true) rfl (y_pick_t rfl rfl) ?_
      refine s_nil ?_
      refine W_if_t (by decide) rfl ?_
      refine W_seq ?_
      refine W_region (by kernel_rfl) ?_
      refine s_y (v := .pointer (some ⟨b2, o2, none⟩)) rfl (y_move rfl) ?_
      refine s_y (v := .pointer (some ⟨b2, o2, none⟩)) rfl (y_nil rfl) ?_
      refine s_y (v := .pointer (some ⟨b2, o2, none⟩)) rfl (y_fld (o := o2 + 0) T141.fld_29_0_0 rfl) ?_
      refine s_y (v := .slice afe nfe cfe) rfl (y_load T141.one_24 rfl ((B.s 6 rfl).cell (j := 0) rfl)) ?_
      refine s_y (v := .int .i64 (atI wd hi x y)) rfl (y_move rfl) ?_
      refine s_y (v := .pointer (some (sat afe ((atI wd hi x y).toNat * 1)))) rfl (y_idx T141.sl_24_35_1 rfl rfl ((B.r 3 rfl).addr (by omega)) (by omega) (by omega)) ?_
      obtain ⟨r10, hr11, hR9⟩ := Rd.atF (B.r 3 rfl) (atI wd hi x y) (by omega) (by omega)
      refine s_y (v := .float .f32 r10) rfl (y_load T141.one_35 rfl (hR9.cell (i := 0) rfl)) ?_
      refine s_y (v := .float .f32 r10) rfl (y_assign rfl) ?_
      refine s_nil ?_
      refine W_ret ?_
      refine ret1 (v := .float .f32 r10) rfl rfl rfl ⟨_, rfl, ?_⟩
      have hcc : bordB wd hi false x y = true := by simp only [c8, Bool.and_true, Bool.true_and, Bool.and_false, Bool.false_and, Bool.not_true, Bool.not_false, Bool.or_true, Bool.true_or, Bool.or_false, Bool.false_or]
      exact ⟨⟨_, rfl, hr11.trans (nw_yes hcc)⟩, B.ext⟩
    · obtain rfl : v6 = .bool false := hv7.trans (congrArg Value.bool (Bool.eq_false_iff.2 c8))
      refine s_y (v := .bool false) rfl (y_pick_t rfl rfl) ?_
      refine s_nil ?_
      refine W_if_f (by decide) rfl ?_
      refine W_skip ?_
      refine W_seq ?_
      have B0_16 := B
      refine W_draw (no) T141.mx (by kernel_rfl) (fun w14 e15 => ?_)
      have R17 := Ext.refl (no) w4
      replace R17 := R17.trans (Ext0.any e15)
      replace B := B.ext0 e15
      clear e15
      refine m_y (v := .pointer (some ⟨b2, o2, none⟩)) 0 rfl (by kernel_rfl) rfl rfl (fun w' e' => y_move rfl) ?_
      refine m_y (v := .pointer (some ⟨b2, o2, none⟩)) 1 rfl (by kernel_rfl) rfl rfl (fun w' e' => y_nil rfl) ?_
      refine m_y (v := .pointer (some ⟨b2, o2 + 2, none⟩)) 2 rfl (by kernel_rfl) rfl rfl (fun w' e' => y_fld (o := o2 + 0) T141.fld_29_2_2 rfl) ?_
      refine m_y (v := .slice afy nfy cfy) 3 rfl (by kernel_rfl) rfl rfl (fun w' e' => y_load T141.one_24 rfl (((B0_16.s 6 rfl).ext0 e').cell (j := 2) rfl)) ?_
      refine m_y (v := .int .i64 (atI wd hi x y)) 4 rfl (by kernel_rfl) rfl rfl (fun w' e' => y_move rfl) ?_
      refine m_y (v := .pointer (some (sat afy ((atI wd hi x y).toNat * 1)))) 5 rfl (by kernel_rfl) rfl rfl (fun w' e' => y_idx T141.sl_24_35_1 rfl rfl ((B.r 5 rfl).addr (by omega)) (by omega) (by omega)) ?_
      obtain ⟨r19, hr20, hR18⟩ := Rd.atF (B0_16.r 5 rfl) (atI wd hi x y) (by omega) (by omega)
      refine m_y (v := .float .f32 r19) 6 rfl (by kernel_rfl) rfl rfl (fun w' e' => y_load T141.one_35 rfl ((hR18.ext0 e').cell (i := 0) rfl)) ?_
      refine m_y (v := .pointer (some ⟨b2, o2, none⟩)) 7 rfl (by kernel_rfl) rfl rfl (fun w' e' => y_move rfl) ?_
      refine m_y (v := .pointer (some ⟨b2, o2, none⟩)) 8 rfl (by kernel_rfl) rfl rfl (fun w' e' => y_nil rfl) ?_
      refine m_y (v := .pointer (some ⟨b2, o2 + 2, none⟩)) 9 rfl (by kernel_rfl) rfl rfl (fun w' e' => y_fld (o := o2 + 0) T141.fld_29_2_2 rfl) ?_
      refine m_y (v := .slice afy nfy cfy) 10 rfl (by kernel_rfl) rfl rfl (fun w' e' => y_load T141.one_24 rfl (((B0_16.s 6 rfl).ext0 e').cell (j := 2) rfl)) ?_
      refine m_y (v := .pointer (some ⟨b, o, none⟩)) 11 rfl (by kernel_rfl) rfl rfl (fun w' e' => y_move rfl) ?_
      refine m_y (v := .int .i64 x) 12 rfl (by kernel_rfl) rfl rfl (fun w' e' => y_move rfl) ?_
      refine m_y (v := .int .i64 (x - 1)) 13 rfl (by kernel_rfl) rfl rfl (fun w' e' => y_sub rfl rfl rfl (by omega)) ?_
      refine m_y (v := .int .i64 y) 14 rfl (by kernel_rfl) rfl rfl (fun w' e' => y_move rfl) ?_
      refine m_k 15 [16, 17, 18, 19] rfl (by kernel_rfl) rfl rfl (fun w21 e22 => ?_)
      replace R17 := R17.trans (Ext0.any e22)
      replace B := B.ext0 e22
      clear e22
      refine k_call T141.fn_117 (c_s_l03At (B.s 2 rfl) (by omega) (by omega) (by omega) (by omega) (by omega) (by omega) (by omega) (by omega)) rfl ?_
      rintro _ w23 ⟨rfl, e24⟩
      replace R17 := R17.trans (Ext0.any e24)
      replace B := B.ext0 e24
      clear e24
      refine ⟨fun _ => R17, ?_⟩
      have hat25 := atI_b (wd := wd) (hi := hi) (x := x - 1) (y := y) (by omega) (by omega)
      refine m_y (v := .pointer (some (sat afy ((atI wd hi (x - 1) y).toNat * 1)))) 16 rfl (by kernel_rfl) rfl rfl (fun w' e' => y_idx T141.sl_24_35_1 rfl rfl ((B.r 5 rfl).addr (by omega)) (by omega) (by omega)) ?_
      obtain ⟨r27, hr28, hR26⟩ := Rd.atF (B0_16.r 5 rfl) (atI wd hi (x - 1) y) (by omega) (by omega)
      refine m_y (v := .float .f32 r27) 17 rfl (by kernel_rfl) rfl rfl (fun w' e' => y_load T141.one_35 rfl ((hR26.ext0 e').cell (i := 0) rfl)) ?_
      refine m_n 18 [19] rfl (by kernel_rfl) rfl rfl (fun w' e' => n_arith (by decide) rfl rfl) ?_
      rintro _ ⟨r30, rfl, hr31⟩
      have hc34 := fopC hr31 hr20 hr28
      refine m_y (v := .float .f32 r30) 19 rfl (by kernel_rfl) rfl rfl (fun w' e' => y_assign rfl) ?_
      refine m_done (by kernel_rfl) (fun w35 e36 => ?_)
      replace B := B.ext0 e36
      clear e36
      clear B0_16 R17
      refine W_seq ?_
      have B0_41 := B
      refine W_draw (no) T141.mx (by kernel_rfl) (fun w39 e40 => ?_)
      have R42 := Ext.refl (no) w35
      replace R42 := R42.trans (Ext0.any e40)
      replace B := B.ext0 e40
      clear e40
      refine m_y (v := .pointer (some ⟨b2, o2, none⟩)) 0 rfl (by kernel_rfl) rfl rfl (fun w' e' => y_move rfl) ?_
      refine m_y (v := .pointer (some ⟨b2, o2, none⟩)) 1 rfl (by kernel_rfl) rfl rfl (fun w' e' => y_nil rfl) ?_
      refine m_y (v := .pointer (some ⟨b2, o2 + 1, none⟩)) 2 rfl (by kernel_rfl) rfl rfl (fun w' e' => y_fld (o := o2 + 0) T141.fld_29_1_1 rfl) ?_
      refine m_y (v := .slice afx nfx cfx) 3 rfl (by kernel_rfl) rfl rfl (fun w' e' => y_load T141.one_24 rfl (((B0_41.s 6 rfl).ext0 e').cell (j := 1) rfl)) ?_
      refine m_y (v := .int .i64 (atI wd hi x y)) 4 rfl (by kernel_rfl) rfl rfl (fun w' e' => y_move rfl) ?_
      refine m_y (v := .pointer (some (sat afx ((atI wd hi x y).toNat * 1)))) 5 rfl (by kernel_rfl) rfl rfl (fun w' e' => y_idx T141.sl_24_35_1 rfl rfl ((B.r 4 rfl).addr (by omega)) (by omega) (by omega)) ?_
      obtain ⟨r44, hr45, hR43⟩ := Rd.atF (B0_41.r 4 rfl) (atI wd hi x y) (by omega) (by omega)
      refine m_y (v := .float .f32 r44) 6 rfl (by kernel_rfl) rfl rfl (fun w' e' => y_load T141.one_35 rfl ((hR43.ext0 e').cell (i := 0) rfl)) ?_
      refine m_y (v := .pointer (some ⟨b2, o2, none⟩)) 7 rfl (by kernel_rfl) rfl rfl (fun w' e' => y_move rfl) ?_
      refine m_y (v := .pointer (some ⟨b2, o2, none⟩)) 8 rfl (by kernel_rfl) rfl rfl (fun w' e' => y_nil rfl) ?_
      refine m_y (v := .pointer (some ⟨b2, o2 + 1, none⟩)) 9 rfl (by kernel_rfl) rfl rfl (fun w' e' => y_fld (o := o2 + 0) T141.fld_29_1_1 rfl) ?_
      refine m_y (v := .slice afx nfx cfx) 10 rfl (by kernel_rfl) rfl rfl (fun w' e' => y_load T141.one_24 rfl (((B0_41.s 6 rfl).ext0 e').cell (j := 1) rfl)) ?_
      refine m_y (v := .pointer (some ⟨b, o, none⟩)) 11 rfl (by kernel_rfl) rfl rfl (fun w' e' => y_move rfl) ?_
      refine m_y (v := .int .i64 x) 12 rfl (by kernel_rfl) rfl rfl (fun w' e' => y_move rfl) ?_
      refine m_y (v := .int .i64 y) 13 rfl (by kernel_rfl) rfl rfl (fun w' e' => y_move rfl) ?_
      refine m_y (v := .int .i64 (y - 1)) 14 rfl (by kernel_rfl) rfl rfl (fun w' e' => y_sub rfl rfl rfl (by omega)) ?_
      refine m_k 15 [16, 17, 18, 19] rfl (by kernel_rfl) rfl rfl (fun w46 e47 => ?_)
      replace R42 := R42.trans (Ext0.any e47)
      replace B := B.ext0 e47
      clear e47
      refine k_call T141.fn_117 (c_s_l03At (B.s 2 rfl) (by omega) (by omega) (by omega) (by omega) (by omega) (by omega) (by omega) (by omega)) rfl ?_
      rintro _ w48 ⟨rfl, e49⟩
      replace R42 := R42.trans (Ext0.any e49)
      replace B := B.ext0 e49
      clear e49
      refine ⟨fun _ => R42, ?_⟩
      have hat50 := atI_b (wd := wd) (hi := hi) (x := x) (y := y - 1) (by omega) (by omega)
      refine m_y (v := .pointer (some (sat afx ((atI wd hi x (y - 1)).toNat * 1)))) 16 rfl (by kernel_rfl) rfl rfl (fun w' e' => y_idx T141.sl_24_35_1 rfl rfl ((B.r 4 rfl).addr (by omega)) (by omega) (by omega)) ?_
      obtain ⟨r52, hr53, hR51⟩ := Rd.atF (B0_41.r 4 rfl) (atI wd hi x (y - 1)) (by omega) (by omega)
      refine m_y (v := .float .f32 r52) 17 rfl (by kernel_rfl) rfl rfl (fun w' e' => y_load T141.one_35 rfl ((hR51.ext0 e').cell (i := 0) rfl)) ?_
      refine m_n 18 [19] rfl (by kernel_rfl) rfl rfl (fun w' e' => n_arith (by decide) rfl rfl) ?_
      rintro _ ⟨r55, rfl, hr56⟩
      have hc59 := fopC hr56 hr45 hr53
      refine m_y (v := .float .f32 r55) 19 rfl (by kernel_rfl) rfl rfl (fun w' e' => y_assign rfl) ?_
      refine m_done (by kernel_rfl) (fun w60 e61 => ?_)
      replace B := B.ext0 e61
      clear e61
      clear B0_41 R42
      refine W_seq ?_
      have B0_66 := B
      refine W_draw (no) T141.mx (by kernel_rfl) (fun w64 e65 => ?_)
      have R67 := Ext.refl (no) w60
      replace R67 := R67.trans (Ext0.any e65)
      replace B := B.ext0 e65
      clear e65
      refine m_y (v := .pointer (some ⟨b2, o2, none⟩)) 0 rfl (by kernel_rfl) rfl rfl (fun w' e' => y_move rfl) ?_
      refine m_y (v := .pointer (some ⟨b2, o2, none⟩)) 1 rfl (by kernel_rfl) rfl rfl (fun w' e' => y_nil rfl) ?_
      refine m_y (v := .pointer (some ⟨b2, o2, none⟩)) 2 rfl (by kernel_rfl) rfl rfl (fun w' e' => y_fld (o := o2 + 0) T141.fld_29_0_0 rfl) ?_
      refine m_y (v := .slice afe nfe cfe) 3 rfl (by kernel_rfl) rfl rfl (fun w' e' => y_load T141.one_24 rfl (((B0_66.s 6 rfl).ext0 e').cell (j := 0) rfl)) ?_
      refine m_y (v := .int .i64 (atI wd hi x y)) 4 rfl (by kernel_rfl) rfl rfl (fun w' e' => y_move rfl) ?_
      refine m_y (v := .pointer (some (sat afe ((atI wd hi x y).toNat * 1)))) 5 rfl (by kernel_rfl) rfl rfl (fun w' e' => y_idx T141.sl_24_35_1 rfl rfl ((B.r 3 rfl).addr (by omega)) (by omega) (by omega)) ?_
      obtain ⟨r69, hr70, hR68⟩ := Rd.atF (B0_66.r 3 rfl) (atI wd hi x y) (by omega) (by omega)
      refine m_y (v := .float .f32 r69) 6 rfl (by kernel_rfl) rfl rfl (fun w' e' => y_load T141.one_35 rfl ((hR68.ext0 e').cell (i := 0) rfl)) ?_
      refine m_y (v := .pointer (some ⟨b, o, none⟩)) 7 rfl (by kernel_rfl) rfl rfl (fun w' e' => y_move rfl) ?_
      refine m_y (v := .pointer (some ⟨b, o, none⟩)) 8 rfl (by kernel_rfl) rfl rfl (fun w' e' => y_nil rfl) ?_
      refine m_y (v := .pointer (some ⟨b, o + 4, none⟩)) 9 rfl (by kernel_rfl) rfl rfl (fun w' e' => y_fld (o := o + 0) T141.fld_26_4_4 rfl) ?_
      refine m_y (v := .slice als nls cls) 10 rfl (by kernel_rfl) rfl rfl (fun w' e' => y_load T141.one_24 rfl (((B0_66.s 2 rfl).ext0 e').cell (j := 4) rfl)) ?_
      refine m_y (v := .int .i64 (atI wd hi x y)) 11 rfl (by kernel_rfl) rfl rfl (fun w' e' => y_move rfl) ?_
      refine m_y (v := .pointer (some (sat als ((atI wd hi x y).toNat * 1)))) 12 rfl (by kernel_rfl) rfl rfl (fun w' e' => y_idx T141.sl_24_35_1 rfl rfl ((B.r 1 rfl).addr (by omega)) (by omega) (by omega)) ?_
      obtain ⟨r72, hr73, hR71⟩ := Rd.atF (B0_66.r 1 rfl) (atI wd hi x y) (by omega) (by omega)
      refine m_y (v := .float .f32 r72) 13 rfl (by kernel_rfl) rfl rfl (fun w' e' => y_load T141.one_35 rfl ((hR71.ext0 e').cell (i := 0) rfl)) ?_
      refine m_n 14 [15, 16] rfl (by kernel_rfl) rfl rfl (fun w' e' => n_arith (by decide) rfl rfl) ?_
      rintro _ ⟨r75, rfl, hr76⟩
      have hc79 := fopC hr76 (show can .f32 1065353216 = 1065353216 by kernel_rfl) hr73
      refine m_n 15 [16] rfl (by kernel_rfl) rfl rfl (fun w' e' => n_arith (by decide) rfl rfl) ?_
      rintro _ ⟨r81, rfl, hr82⟩
      have hc85 := fopC hr82 hr70 hc79
      refine m_y (v := .float .f32 r81) 16 rfl (by kernel_rfl) rfl rfl (fun w' e' => y_assign rfl) ?_
      refine m_done (by kernel_rfl) (fun w86 e87 => ?_)
      replace B := B.ext0 e87
      clear e87
      clear B0_66 R67
      refine W_seq ?_
      refine W_region (by kernel_rfl) ?_
      refine s_y (v := .float .f32 r81) rfl (y_move rfl) ?_
      refine s_y (v := .pointer (some ⟨b, o, none⟩)) rfl (y_move rfl) ?_
      refine s_y (v := .pointer (some ⟨b, o, none⟩)) rfl (y_nil rfl) ?_
      refine s_y (v := .pointer (some ⟨b, o + 3, none⟩)) rfl (y_fld (o := o + 0) T141.fld_26_3_3 rfl) ?_
      refine s_y (v := .slice asp nsp csp) rfl (y_load T141.one_24 rfl ((B.s 2 rfl).cell (j := 3) rfl)) ?_
      refine s_y (v := .int .i64 (atI wd hi x y)) rfl (y_move rfl) ?_
      refine s_y (v := .pointer (some (sat asp ((atI wd hi x y).toNat * 1)))) rfl (y_idx T141.sl_24_35_1 rfl rfl ((B.r 0 rfl).addr (by omega)) (by omega) (by omega)) ?_
      obtain ⟨r89, hr90, hR88⟩ := Rd.atF (B.r 0 rfl) (atI wd hi x y) (by omega) (by omega)
      refine s_y (v := .float .f32 r89) rfl (y_load T141.one_35 rfl (hR88.cell (i := 0) rfl)) ?_
      refine s_y (v := .float .f32 r30) rfl (y_move rfl) ?_
      refine s_y (v := .float .f32 r55) rfl (y_move rfl) ?_
      refine s_n rfl (n_arith (by decide) rfl rfl) ?_
      rintro _ w94 e95 ⟨r92, rfl, hr93⟩
      replace B := B.ext0 e95
      clear e95
      have hc96 := fopC hr93 hc34 hc59
      refine s_n rfl (n_arith (by decide) rfl rfl) ?_
      rintro _ w100 e101 ⟨r98, rfl, hr99⟩
      replace B := B.ext0 e101
      clear e101
      have hc102 := fopC hr99 hr90 hc96
      refine s_n rfl (n_arith (by decide) rfl rfl) ?_
      rintro _ w106 e107 ⟨r104, rfl, hr105⟩
      replace B := B.ext0 e107
      clear e107
      have hc108 := fopC hr105 hc85 hc102
      refine s_y (v := .float .f32 r104) rfl (y_assign rfl) ?_
      refine s_nil ?_
      refine W_ret ?_
      refine ret1 (v := .float .f32 r104) rfl rfl rfl ⟨_, rfl, ?_⟩
      have hcc : bordB wd hi false x y = false := by simp only [(Bool.eq_false_iff.2 c8), Bool.and_true, Bool.true_and, Bool.and_false, Bool.false_and, Bool.not_true, Bool.not_false, Bool.or_true, Bool.true_or, Bool.or_false, Bool.false_or]
      exact ⟨⟨_, rfl, hc108.trans (by unfold nwF nvV; rw [if_neg (by rw [hcc]; simp)])⟩, B.ext⟩
  · refine s_skip rfl ?_
    refine s_skip rfl ?_
    refine s_skip rfl ?_
    refine s_skip rfl ?_
    refine s_y (v := .bool false) rfl (y_pick_f rfl rfl) ?_
    refine s_nil ?_
    refine W_if_f (by decide) rfl ?_
    refine W_skip ?_
    refine W_seq ?_
    have B0_113 := B
    refine W_draw (no) T141.mx (by kernel_rfl) (fun w111 e112 => ?_)
    have R114 := Ext.refl (no) w1
    replace R114 := R114.trans (Ext0.any e112)
    replace B := B.ext0 e112
    clear e112
    refine m_y (v := .pointer (some ⟨b2, o2, none⟩)) 0 rfl (by kernel_rfl) rfl rfl (fun w' e' => y_move rfl) ?_
    refine m_y (v := .pointer (some ⟨b2, o2, none⟩)) 1 rfl (by kernel_rfl) rfl rfl (fun w' e' => y_nil rfl) ?_
    refine m_y (v := .pointer (some ⟨b2, o2 + 2, none⟩)) 2 rfl (by kernel_rfl) rfl rfl (fun w' e' => y_fld (o := o2 + 0) T141.fld_29_2_2 rfl) ?_
    refine m_y (v := .slice afy nfy cfy) 3 rfl (by kernel_rfl) rfl rfl (fun w' e' => y_load T141.one_24 rfl (((B0_113.s 6 rfl).ext0 e').cell (j := 2) rfl)) ?_
    refine m_y (v := .int .i64 (atI wd hi x y)) 4 rfl (by kernel_rfl) rfl rfl (fun w' e' => y_move rfl) ?_
    refine m_y (v := .pointer (some (sat afy ((atI wd hi x y).toNat * 1)))) 5 rfl (by kernel_rfl) rfl rfl (fun w' e' => y_idx T141.sl_24_35_1 rfl rfl ((B.r 5 rfl).addr (by omega)) (by omega) (by omega)) ?_
    obtain ⟨r116, hr117, hR115⟩ := Rd.atF (B0_113.r 5 rfl) (atI wd hi x y) (by omega) (by omega)
    refine m_y (v := .float .f32 r116) 6 rfl (by kernel_rfl) rfl rfl (fun w' e' => y_load T141.one_35 rfl ((hR115.ext0 e').cell (i := 0) rfl)) ?_
    refine m_y (v := .pointer (some ⟨b2, o2, none⟩)) 7 rfl (by kernel_rfl) rfl rfl (fun w' e' => y_move rfl) ?_
    refine m_y (v := .pointer (some ⟨b2, o2, none⟩)) 8 rfl (by kernel_rfl) rfl rfl (fun w' e' => y_nil rfl) ?_
    refine m_y (v := .pointer (some ⟨b2, o2 + 2, none⟩)) 9 rfl (by kernel_rfl) rfl rfl (fun w' e' => y_fld (o := o2 + 0) T141.fld_29_2_2 rfl) ?_
    refine m_y (v := .slice afy nfy cfy) 10 rfl (by kernel_rfl) rfl rfl (fun w' e' => y_load T141.one_24 rfl (((B0_113.s 6 rfl).ext0 e').cell (j := 2) rfl)) ?_
    refine m_y (v := .pointer (some ⟨b, o, none⟩)) 11 rfl (by kernel_rfl) rfl rfl (fun w' e' => y_move rfl) ?_
    refine m_y (v := .int .i64 x) 12 rfl (by kernel_rfl) rfl rfl (fun w' e' => y_move rfl) ?_
    refine m_y (v := .int .i64 (x - 1)) 13 rfl (by kernel_rfl) rfl rfl (fun w' e' => y_sub rfl rfl rfl (by omega)) ?_
    refine m_y (v := .int .i64 y) 14 rfl (by kernel_rfl) rfl rfl (fun w' e' => y_move rfl) ?_
    refine m_k 15 [16, 17, 18, 19] rfl (by kernel_rfl) rfl rfl (fun w118 e119 => ?_)
    replace R114 := R114.trans (Ext0.any e119)
    replace B := B.ext0 e119
    clear e119
    refine k_call T141.fn_117 (c_s_l03At (B.s 2 rfl) (by omega) (by omega) (by omega) (by omega) (by omega) (by omega) (by omega) (by omega)) rfl ?_
    rintro _ w120 ⟨rfl, e121⟩
    replace R114 := R114.trans (Ext0.any e121)
    replace B := B.ext0 e121
    clear e121
    refine ⟨fun _ => R114, ?_⟩
    have hat122 := atI_b (wd := wd) (hi := hi) (x := x - 1) (y := y) (by omega) (by omega)
    refine m_y (v := .pointer (some (sat afy ((atI wd hi (x - 1) y).toNat * 1)))) 16 rfl (by kernel_rfl) rfl rfl (fun w' e' => y_idx T141.sl_24_35_1 rfl rfl ((B.r 5 rfl).addr (by omega)) (by omega) (by omega)) ?_
    obtain ⟨r124, hr125, hR123⟩ := Rd.atF (B0_113.r 5 rfl) (atI wd hi (x - 1) y) (by omega) (by omega)
    refine m_y (v := .float .f32 r124) 17 rfl (by kernel_rfl) rfl rfl (fun w' e' => y_load T141.one_35 rfl ((hR123.ext0 e').cell (i := 0) rfl)) ?_
    refine m_n 18 [19] rfl (by kernel_rfl) rfl rfl (fun w' e' => n_arith (by decide) rfl rfl) ?_
    rintro _ ⟨r127, rfl, hr128⟩
    have hc131 := fopC hr128 hr117 hr125
    refine m_y (v := .float .f32 r127) 19 rfl (by kernel_rfl) rfl rfl (fun w' e' => y_assign rfl) ?_
    refine m_done (by kernel_rfl) (fun w132 e133 => ?_)
    replace B := B.ext0 e133
    clear e133
    clear B0_113 R114
    refine W_seq ?_
    have B0_138 := B
    refine W_draw (no) T141.mx (by kernel_rfl) (fun w136 e137 => ?_)
    have R139 := Ext.refl (no) w132
    replace R139 := R139.trans (Ext0.any e137)
    replace B := B.ext0 e137
    clear e137
    refine m_y (v := .pointer (some ⟨b2, o2, none⟩)) 0 rfl (by kernel_rfl) rfl rfl (fun w' e' => y_move rfl) ?_
    refine m_y (v := .pointer (some ⟨b2, o2, none⟩)) 1 rfl (by kernel_rfl) rfl rfl (fun w' e' => y_nil rfl) ?_
    refine m_y (v := .pointer (some ⟨b2, o2 + 1, none⟩)) 2 rfl (by kernel_rfl) rfl rfl (fun w' e' => y_fld (o := o2 + 0) T141.fld_29_1_1 rfl) ?_
    refine m_y (v := .slice afx nfx cfx) 3 rfl (by kernel_rfl) rfl rfl (fun w' e' => y_load T141.one_24 rfl (((B0_138.s 6 rfl).ext0 e').cell (j := 1) rfl)) ?_
    refine m_y (v := .int .i64 (atI wd hi x y)) 4 rfl (by kernel_rfl) rfl rfl (fun w' e' => y_move rfl) ?_
    refine m_y (v := .pointer (some (sat afx ((atI wd hi x y).toNat * 1)))) 5 rfl (by kernel_rfl) rfl rfl (fun w' e' => y_idx T141.sl_24_35_1 rfl rfl ((B.r 4 rfl).addr (by omega)) (by omega) (by omega)) ?_
    obtain ⟨r141, hr142, hR140⟩ := Rd.atF (B0_138.r 4 rfl) (atI wd hi x y) (by omega) (by omega)
    refine m_y (v := .float .f32 r141) 6 rfl (by kernel_rfl) rfl rfl (fun w' e' => y_load T141.one_35 rfl ((hR140.ext0 e').cell (i := 0) rfl)) ?_
    refine m_y (v := .pointer (some ⟨b2, o2, none⟩)) 7 rfl (by kernel_rfl) rfl rfl (fun w' e' => y_move rfl) ?_
    refine m_y (v := .pointer (some ⟨b2, o2, none⟩)) 8 rfl (by kernel_rfl) rfl rfl (fun w' e' => y_nil rfl) ?_
    refine m_y (v := .pointer (some ⟨b2, o2 + 1, none⟩)) 9 rfl (by kernel_rfl) rfl rfl (fun w' e' => y_fld (o := o2 + 0) T141.fld_29_1_1 rfl) ?_
    refine m_y (v := .slice afx nfx cfx) 10 rfl (by kernel_rfl) rfl rfl (fun w' e' => y_load T141.one_24 rfl (((B0_138.s 6 rfl).ext0 e').cell (j := 1) rfl)) ?_
    refine m_y (v := .pointer (some ⟨b, o, none⟩)) 11 rfl (by kernel_rfl) rfl rfl (fun w' e' => y_move rfl) ?_
    refine m_y (v := .int .i64 x) 12 rfl (by kernel_rfl) rfl rfl (fun w' e' => y_move rfl) ?_
    refine m_y (v := .int .i64 y) 13 rfl (by kernel_rfl) rfl rfl (fun w' e' => y_move rfl) ?_
    refine m_y (v := .int .i64 (y - 1)) 14 rfl (by kernel_rfl) rfl rfl (fun w' e' => y_sub rfl rfl rfl (by omega)) ?_
    refine m_k 15 [16, 17, 18, 19] rfl (by kernel_rfl) rfl rfl (fun w143 e144 => ?_)
    replace R139 := R139.trans (Ext0.any e144)
    replace B := B.ext0 e144
    clear e144
    refine k_call T141.fn_117 (c_s_l03At (B.s 2 rfl) (by omega) (by omega) (by omega) (by omega) (by omega) (by omega) (by omega) (by omega)) rfl ?_
    rintro _ w145 ⟨rfl, e146⟩
    replace R139 := R139.trans (Ext0.any e146)
    replace B := B.ext0 e146
    clear e146
    refine ⟨fun _ => R139, ?_⟩
    have hat147 := atI_b (wd := wd) (hi := hi) (x := x) (y := y - 1) (by omega) (by omega)
    refine m_y (v := .pointer (some (sat afx ((atI wd hi x (y - 1)).toNat * 1)))) 16 rfl (by kernel_rfl) rfl rfl (fun w' e' => y_idx T141.sl_24_35_1 rfl rfl ((B.r 4 rfl).addr (by omega)) (by omega) (by omega)) ?_
    obtain ⟨r149, hr150, hR148⟩ := Rd.atF (B0_138.r 4 rfl) (atI wd hi x (y - 1)) (by omega) (by omega)
    refine m_y (v := .float .f32 r149) 17 rfl (by kernel_rfl) rfl rfl (fun w' e' => y_load T141.one_35 rfl ((hR148.ext0 e').cell (i := 0) rfl)) ?_
    refine m_n 18 [19] rfl (by kernel_rfl) rfl rfl (fun w' e' => n_arith (by decide) rfl rfl) ?_
    rintro _ ⟨r152, rfl, hr153⟩
    have hc156 := fopC hr153 hr142 hr150
    refine m_y (v := .float .f32 r152) 19 rfl (by kernel_rfl) rfl rfl (fun w' e' => y_assign rfl) ?_
    refine m_done (by kernel_rfl) (fun w157 e158 => ?_)
    replace B := B.ext0 e158
    clear e158
    clear B0_138 R139
    refine W_seq ?_
    have B0_163 := B
    refine W_draw (no) T141.mx (by kernel_rfl) (fun w161 e162 => ?_)
    have R164 := Ext.refl (no) w157
    replace R164 := R164.trans (Ext0.any e162)
    replace B := B.ext0 e162
    clear e162
    refine m_y (v := .pointer (some ⟨b2, o2, none⟩)) 0 rfl (by kernel_rfl) rfl rfl (fun w' e' => y_move rfl) ?_
    refine m_y (v := .pointer (some ⟨b2, o2, none⟩)) 1 rfl (by kernel_rfl) rfl rfl (fun w' e' => y_nil rfl) ?_
    refine m_y (v := .pointer (some ⟨b2, o2, none⟩)) 2 rfl (by kernel_rfl) rfl rfl (fun w' e' => y_fld (o := o2 + 0) T141.fld_29_0_0 rfl) ?_
    refine m_y (v := .slice afe nfe cfe) 3 rfl (by kernel_rfl) rfl rfl (fun w' e' => y_load T141.one_24 rfl (((B0_163.s 6 rfl).ext0 e').cell (j := 0) rfl)) ?_
    refine m_y (v := .int .i64 (atI wd hi x y)) 4 rfl (by kernel_rfl) rfl rfl (fun w' e' => y_move rfl) ?_
    refine m_y (v := .pointer (some (sat afe ((atI wd hi x y).toNat * 1)))) 5 rfl (by kernel_rfl) rfl rfl (fun w' e' => y_idx T141.sl_24_35_1 rfl rfl ((B.r 3 rfl).addr (by omega)) (by omega) (by omega)) ?_
    obtain ⟨r166, hr167, hR165⟩ := Rd.atF (B0_163.r 3 rfl) (atI wd hi x y) (by omega) (by omega)
    refine m_y (v := .float .f32 r166) 6 rfl (by kernel_rfl) rfl rfl (fun w' e' => y_load T141.one_35 rfl ((hR165.ext0 e').cell (i := 0) rfl)) ?_
    refine m_y (v := .pointer (some ⟨b, o, none⟩)) 7 rfl (by kernel_rfl) rfl rfl (fun w' e' => y_move rfl) ?_
    refine m_y (v := .pointer (some ⟨b, o, none⟩)) 8 rfl (by kernel_rfl) rfl rfl (fun w' e' => y_nil rfl) ?_
    refine m_y (v := .pointer (some ⟨b, o + 4, none⟩)) 9 rfl (by kernel_rfl) rfl rfl (fun w' e' => y_fld (o := o + 0) T141.fld_26_4_4 rfl) ?_
    refine m_y (v := .slice als nls cls) 10 rfl (by kernel_rfl) rfl rfl (fun w' e' => y_load T141.one_24 rfl (((B0_163.s 2 rfl).ext0 e').cell (j := 4) rfl)) ?_
    refine m_y (v := .int .i64 (atI wd hi x y)) 11 rfl (by kernel_rfl) rfl rfl (fun w' e' => y_move rfl) ?_
    refine m_y (v := .pointer (some (sat als ((atI wd hi x y).toNat * 1)))) 12 rfl (by kernel_rfl) rfl rfl (fun w' e' => y_idx T141.sl_24_35_1 rfl rfl ((B.r 1 rfl).addr (by omega)) (by omega) (by omega)) ?_
    obtain ⟨r169, hr170, hR168⟩ := Rd.atF (B0_163.r 1 rfl) (atI wd hi x y) (by omega) (by omega)
    refine m_y (v := .float .f32 r169) 13 rfl (by kernel_rfl) rfl rfl (fun w' e' => y_load T141.one_35 rfl ((hR168.ext0 e').cell (i := 0) rfl)) ?_
    refine m_n 14 [15, 16] rfl (by kernel_rfl) rfl rfl (fun w' e' => n_arith (by decide) rfl rfl) ?_
    rintro _ ⟨r172, rfl, hr173⟩
    have hc176 := fopC hr173 (show can .f32 1065353216 = 1065353216 by kernel_rfl) hr170
    refine m_n 15 [16] rfl (by kernel_rfl) rfl rfl (fun w' e' => n_arith (by decide) rfl rfl) ?_
    rintro _ ⟨r178, rfl, hr179⟩
    have hc182 := fopC hr179 hr167 hc176
    refine m_y (v := .float .f32 r178) 16 rfl (by kernel_rfl) rfl rfl (fun w' e' => y_assign rfl) ?_
    refine m_done (by kernel_rfl) (fun w183 e184 => ?_)
    replace B := B.ext0 e184
    clear e184
    clear B0_163 R164
    refine W_seq ?_
    refine W_region (by kernel_rfl) ?_
    refine s_y (v := .float .f32 r178) rfl (y_move rfl) ?_
    refine s_y (v := .pointer (some ⟨b, o, none⟩)) rfl (y_move rfl) ?_
    refine s_y (v := .pointer (some ⟨b, o, none⟩)) rfl (y_nil rfl) ?_
    refine s_y (v := .pointer (some ⟨b, o + 3, none⟩)) rfl (y_fld (o := o + 0) T141.fld_26_3_3 rfl) ?_
    refine s_y (v := .slice asp nsp csp) rfl (y_load T141.one_24 rfl ((B.s 2 rfl).cell (j := 3) rfl)) ?_
    refine s_y (v := .int .i64 (atI wd hi x y)) rfl (y_move rfl) ?_
    refine s_y (v := .pointer (some (sat asp ((atI wd hi x y).toNat * 1)))) rfl (y_idx T141.sl_24_35_1 rfl rfl ((B.r 0 rfl).addr (by omega)) (by omega) (by omega)) ?_
    obtain ⟨r186, hr187, hR185⟩ := Rd.atF (B.r 0 rfl) (atI wd hi x y) (by omega) (by omega)
    refine s_y (v := .float .f32 r186) rfl (y_load T141.one_35 rfl (hR185.cell (i := 0) rfl)) ?_
    refine s_y (v := .float .f32 r127) rfl (y_move rfl) ?_
    refine s_y (v := .float .f32 r152) rfl (y_move rfl) ?_
    refine s_n rfl (n_arith (by decide) rfl rfl) ?_
    rintro _ w191 e192 ⟨r189, rfl, hr190⟩
    replace B := B.ext0 e192
    clear e192
    have hc193 := fopC hr190 hc131 hc156
    refine s_n rfl (n_arith (by decide) rfl rfl) ?_
    rintro _ w197 e198 ⟨r195, rfl, hr196⟩
    replace B := B.ext0 e198
    clear e198
    have hc199 := fopC hr196 hr187 hc193
    refine s_n rfl (n_arith (by decide) rfl rfl) ?_
    rintro _ w203 e204 ⟨r201, rfl, hr202⟩
    replace B := B.ext0 e204
    clear e204
    have hc205 := fopC hr202 hc182 hc199
    refine s_y (v := .float .f32 r201) rfl (y_assign rfl) ?_
    refine s_nil ?_
    refine W_ret ?_
    refine ret1 (v := .float .f32 r201) rfl rfl rfl ⟨_, rfl, ?_⟩
    have hcc : bordB wd hi true x y = false := rfl
    exact ⟨⟨_, rfl, hc205.trans (by unfold nwF nvV; rw [if_neg (by rw [hcc]; simp)])⟩, B.ext⟩
namespace T112
theorem mx : Try.prog.follows .mixedOrders = true := by kernel_rfl
theorem agg_29_3 : aggB Try.prog 29 3 = true := by kernel_rfl
theorem fld_26_0_0 : fldB Try.prog 26 0 0 = true := by kernel_rfl
theorem fld_26_1_1 : fldB Try.prog 26 1 1 = true := by kernel_rfl
theorem fld_29_0_0 : fldB Try.prog 29 0 0 = true := by kernel_rfl
theorem fn_114 : fnB Try.prog 114 = true := by kernel_rfl
theorem fn_117 : fnB Try.prog 117 = true := by kernel_rfl
theorem fn_141 : fnB Try.prog 141 = true := by kernel_rfl
theorem fn_99 : fnB Try.prog 99 = true := by kernel_rfl
theorem one_2 : oneB Try.prog 2 = true := by kernel_rfl
theorem one_24 : oneB Try.prog 24 = true := by kernel_rfl
theorem sl_24_35_1 : slB Try.prog 24 35 1 = true := by kernel_rfl
theorem sz_29_3 : szB Try.prog 29 3 = true := by kernel_rfl
theorem sz_35_1 : szB Try.prog 35 1 = true := by kernel_rfl
theorem zero_29 : zeroB Try.prog 29 (.agg #[.slice none 0 0, .slice none 0 0, .slice none 0 0]) := by unfold zeroB; kernel_rfl
end T112
set_option maxRecDepth 100000 in
set_option maxHeartbeats 4000000 in
theorem c_s_l03Step {b : Nat} {o : Nat} {wd : Int} {hi : Int} {wr : Bool} {asp : Option Addr} {nsp : Nat} {csp : Nat} {Xsp : List Nat} {als : Option Addr} {nls : Nat} {cls : Nat} {Xls : List Nat} {b2 : Nat} {o2 : Nat} {afe : Option Addr} {nfe : Nat} {cfe : Nat} {Xfe : List Nat} {afx : Option Addr} {nfx : Nat} {cfx : Nat} {Xfx : List Nat} {afy : Option Addr} {nfy : Nat} {cfy : Nat} {Xfy : List Nat} {w : World} (qsp : Rd w kF asp nsp Xsp) (qls : Rd w kF als nls Xls) (Pb : Sl w (some ⟨b, o, none⟩) [.int .i64 wd, .int .i64 hi, .bool wr, .slice asp nsp csp, .slice als nls cls]) (qfe : Rd w kF afe nfe Xfe) (qfx : Rd w kF afx nfx Xfx) (qfy : Rd w kF afy nfy Xfy) (Pb2 : Sl w (some ⟨b2, o2, none⟩) [.slice afe nfe cfe, .slice afx nfx cfx, .slice afy nfy cfy]) (h1 : 3 ≤ wd) (h2 : wd ≤ 16) (h3 : 3 ≤ hi) (h4 : hi ≤ 16) (gfe : (nfe : Int) = wd * hi) (gfx : (nfx : Int) = wd * hi) (gfy : (nfy : Int) = wd * hi) (gsp : (nsp : Int) = wd * hi) (gls : (nls : Int) = wd * hi) :
    Calls Try.prog 112 #[.pointer (some ⟨b, o, none⟩), .pointer (some ⟨b2, o2, none⟩)] w (Rt fun v w' => ∃ (a1 : Option Addr) (c1 : Nat) (a2 : Option Addr) (c2 : Nat) (a3 : Option Addr) (c3 : Nat), v = .agg #[.slice a1 nfe c1, .slice a2 nfx c2, .slice a3 nfy c3] ∧ New w w' [.ow kF a1 nfe c1 35 (nwL wd hi wr Xsp Xls Xfe (hxL wd hi wr Xfe Xfx) (hyL wd hi wr Xfe Xfy)), .ow kF a2 nfx c2 35 (hxL wd hi wr Xfe Xfx), .ow kF a3 nfy c3 35 (hyL wd hi wr Xfe Xfy)]) := by
  have hlsp := qsp.len
  have hlls := qls.len
  have hlfe := qfe.len
  have hlfx := qfx.len
  have hlfy := qfy.len
  have B : Bu w no w [.rd kF asp nsp Xsp, .rd kF als nls Xls, .sl (some ⟨b, o, none⟩) [.int .i64 wd, .int .i64 hi, .bool wr, .slice asp nsp csp, .slice als nls cls], .rd kF afe nfe Xfe, .rd kF afx nfx Xfx, .rd kF afy nfy Xfy, .sl (some ⟨b2, o2, none⟩) [.slice afe nfe cfe, .slice afx nfx cfx, .slice afy nfy cfy]] := Bu.ro (All.cons qsp (All.cons qls (All.cons Pb (All.cons qfe (All.cons qfx (All.cons qfy (All.cons Pb2 All.nil))))))) rfl
  have hwh := mul16 (And.intro (And.intro h1 h2) (And.intro h3 h4))
  refine calls_W (n := 41) Try.func112 rfl rfl (Nat.le_of_ble_eq_true rfl) ?_
  refine W_seq ?_
  refine W_region (by kernel_rfl) ?_
  refine s_k rfl (k_allocN (z := (.agg #[.slice none 0 0, .slice none 0 0, .slice none 0 0])) (cs := [.slice none 0 0, .slice none 0 0, .slice none 0 0]) T112.zero_29 rfl (fun b1 w2 hN3 => ?_))
  replace B := B.new1 hN3
  clear hN3
  refine s_nil ?_
  refine W_seq ?_
  refine W_region (by kernel_rfl) ?_
  refine s_y (v := .pointer (some ⟨b, o, none⟩)) rfl (y_move rfl) ?_
  refine s_y (v := .pointer (some ⟨b2, o2, none⟩)) rfl (y_move rfl) ?_
  refine s_k rfl (k_call T112.fn_99 (c_s_l03Half (B.s 3 rfl) (B.r 4 rfl) (B.r 5 rfl) (B.r 6 rfl) (B.s 7 rfl) (by omega) (by omega) (by omega) (by omega) (by omega) (by omega) (by omega)) rfl ?_)
  rintro _ w4 ⟨a5, c6, a7, c8, a9, c10, rfl, hN11⟩
  replace B := B.new3 hN11
  clear hN11
  refine s_k rfl (k_allocN (z := (.agg #[.slice none 0 0, .slice none 0 0, .slice none 0 0])) (cs := [.slice none 0 0, .slice none 0 0, .slice none 0 0]) T112.zero_29 rfl (fun b12 w13 hN14 => ?_))
  replace B := B.new1 hN14
  clear hN14
  refine s_k0 rfl (k_stB (v := .agg #[.slice a5 nfe c6, .slice a7 nfx c8, .slice a9 nfy c10]) (n := 3) (cs' := [.slice a5 nfe c6, .slice a7 nfx c8, .slice a9 nfy c10]) T112.sz_29_3 rfl rfl rfl (B.b 0 rfl) (by simp [Value.cells, Value.oneCell']) (Nat.le_of_ble_eq_true rfl) rfl (fun w15 hU16 => ?_))
  replace B : Bu w no w15 [.blk b12 [.slice a5 nfe c6, .slice a7 nfx c8, .slice a9 nfy c10] 29, .ow kF a5 nfe c6 35 Xfe, .ow kF a7 nfx c8 35 (hxL wd hi wr Xfe Xfx), .ow kF a9 nfy c10 35 (hyL wd hi wr Xfe Xfy), .blk b1 [.slice none 0 0, .slice none 0 0, .slice none 0 0] 29, .rd kF asp nsp Xsp, .rd kF als nls Xls, .sl (some ⟨b, o, none⟩) [.int .i64 wd, .int .i64 hi, .bool wr, .slice asp nsp csp, .slice als nls cls], .rd kF afe nfe Xfe, .rd kF afx nfx Xfx, .rd kF afy nfy Xfy, .sl (some ⟨b2, o2, none⟩) [.slice afe nfe cfe, .slice afx nfx cfx, .slice afy nfy cfy]] := B.upd [0] rfl hU16
  clear hU16
  refine s_nil ?_
  refine W_seq ?_
  refine W_region (by kernel_rfl) ?_
  refine s_k rfl (k_call T112.fn_114 (c_s_l02Own ((B.o 1 rfl).rd) ((B.o 2 rfl).rd) ((B.o 3 rfl).rd) ((B.b 0 rfl).sl) (by omega) (by omega) (by omega)) rfl ?_)
  rintro _ w17 ⟨a18, c19, a20, c21, a22, c23, rfl, hN24⟩
  replace B := B.new3 hN24
  clear hN24
  refine s_k rfl (k_allocN (z := (.agg #[.slice none 0 0, .slice none 0 0, .slice none 0 0])) (cs := [.slice none 0 0, .slice none 0 0, .slice none 0 0]) T112.zero_29 rfl (fun b25 w26 hN27 => ?_))
  replace B := B.new1 hN27
  clear hN27
  refine s_k0 rfl (k_stB (v := .agg #[.slice a18 nfe c19, .slice a20 nfx c21, .slice a22 nfy c23]) (n := 3) (cs' := [.slice a18 nfe c19, .slice a20 nfx c21, .slice a22 nfy c23]) T112.sz_29_3 rfl rfl rfl (B.b 0 rfl) (by simp [Value.cells, Value.oneCell']) (Nat.le_of_ble_eq_true rfl) rfl (fun w28 hU29 => ?_))
  replace B : Bu w no w28 [.blk b25 [.slice a18 nfe c19, .slice a20 nfx c21, .slice a22 nfy c23] 29, .ow kF a18 nfe c19 35 Xfe, .ow kF a20 nfx c21 35 (hxL wd hi wr Xfe Xfx), .ow kF a22 nfy c23 35 (hyL wd hi wr Xfe Xfy), .blk b12 [.slice a5 nfe c6, .slice a7 nfx c8, .slice a9 nfy c10] 29, .ow kF a5 nfe c6 35 Xfe, .ow kF a7 nfx c8 35 (hxL wd hi wr Xfe Xfx), .ow kF a9 nfy c10 35 (hyL wd hi wr Xfe Xfy), .blk b1 [.slice none 0 0, .slice none 0 0, .slice none 0 0] 29, .rd kF asp nsp Xsp, .rd kF als nls Xls, .sl (some ⟨b, o, none⟩) [.int .i64 wd, .int .i64 hi, .bool wr, .slice asp nsp csp, .slice als nls cls], .rd kF afe nfe Xfe, .rd kF afx nfx Xfx, .rd kF afy nfy Xfy, .sl (some ⟨b2, o2, none⟩) [.slice afe nfe cfe, .slice afx nfx cfx, .slice afy nfy cfy]] := B.upd [0] rfl hU29
  clear hU29
  refine s_nil ?_
  refine W_seq ?_
  refine W_seq ?_
  refine W_region (by kernel_rfl) ?_
  refine s_y (v := .int .i64 0) rfl (y_assign rfl) ?_
  refine s_nil ?_
  refine W_block ?_
  refine W_loop (fun ρ' w' => ∃ (ρ1 : Env) (py : Int), ρ' = updL ρ1 [(0, .pointer (some ⟨b, o, none⟩)), (4, .pointer (some ⟨b1, 0, none⟩)), (5, .pointer (some ⟨b12, 0, none⟩)), (6, .pointer (some ⟨b25, 0, none⟩)), (7, .int .i64 py)] ∧ Bu w no w' [.ow kF a18 nfe c19 35 (mix (wd * hi) (wd * py) (fun i => nwF wd hi wr Xsp Xls Xfe (hxL wd hi wr Xfe Xfx) (hyL wd hi wr Xfe Xfy) (i % wd) (i / wd)) Xfe), .blk b25 [.slice a18 nfe c19, .slice a20 nfx c21, .slice a22 nfy c23] 29, .ow kF a20 nfx c21 35 (hxL wd hi wr Xfe Xfx), .ow kF a22 nfy c23 35 (hyL wd hi wr Xfe Xfy), .blk b12 [.slice a5 nfe c6, .slice a7 nfx c8, .slice a9 nfy c10] 29, .ow kF a5 nfe c6 35 Xfe, .ow kF a7 nfx c8 35 (hxL wd hi wr Xfe Xfx), .ow kF a9 nfy c10 35 (hyL wd hi wr Xfe Xfy), .blk b1 [.slice none 0 0, .slice none 0 0, .slice none 0 0] 29, .rd kF asp nsp Xsp, .rd kF als nls Xls, .sl (some ⟨b, o, none⟩) [.int .i64 wd, .int .i64 hi, .bool wr, .slice asp nsp csp, .slice als nls cls], .rd kF afe nfe Xfe, .rd kF afx nfx Xfx, .rd kF afy nfy Xfy, .sl (some ⟨b2, o2, none⟩) [.slice afe nfe cfe, .slice afx nfx cfx, .slice afy nfy cfy]] ∧ (0 ≤ py) ∧ (py ≤ hi)) (fun ρ' _ => (hi - iv (ρ' 7)).toNat) ?_ ?_
  · replace B : Bu w no w28 [.blk b25 [.slice a18 nfe c19, .slice a20 nfx c21, .slice a22 nfy c23] 29, .ow kF a18 nfe c19 35 (mix (wd * hi) (wd * 0) (fun i => nwF wd hi wr Xsp Xls Xfe (hxL wd hi wr Xfe Xfx) (hyL wd hi wr Xfe Xfy) (i % wd) (i / wd)) Xfe), .ow kF a20 nfx c21 35 (hxL wd hi wr Xfe Xfx), .ow kF a22 nfy c23 35 (hyL wd hi wr Xfe Xfy), .blk b12 [.slice a5 nfe c6, .slice a7 nfx c8, .slice a9 nfy c10] 29, .ow kF a5 nfe c6 35 Xfe, .ow kF a7 nfx c8 35 (hxL wd hi wr Xfe Xfx), .ow kF a9 nfy c10 35 (hyL wd hi wr Xfe Xfy), .blk b1 [.slice none 0 0, .slice none 0 0, .slice none 0 0] 29, .rd kF asp nsp Xsp, .rd kF als nls Xls, .sl (some ⟨b, o, none⟩) [.int .i64 wd, .int .i64 hi, .bool wr, .slice asp nsp csp, .slice als nls cls], .rd kF afe nfe Xfe, .rd kF afx nfx Xfx, .rd kF afy nfy Xfy, .sl (some ⟨b2, o2, none⟩) [.slice afe nfe cfe, .slice afx nfx cfx, .slice afy nfy cfy]] := B.castX 1 rfl rfl ((mix_zero (by omega)).trans (congrArg (fun q => mix (wd * hi) q (fun i => nwF wd hi wr Xsp Xls Xfe (hxL wd hi wr Xfe Xfx) (hyL wd hi wr Xfe Xfy) (i % wd) (i / wd)) _) (Int.mul_zero wd).symm))
    exact ⟨_, 0, Fits.eq ⟨rfl, rfl, rfl, rfl, rfl, trivial⟩, (B.pick [1, 0, 2, 3, 4, 5, 6, 7, 8, 9, 10, 11, 12, 13, 14, 15] rfl rfl), (Int.le_refl _), (by omega)⟩
  · clear B; rintro _ w30 ⟨ρ31, py, rfl, B, h0py, h1py⟩
    refine W_seq ?_
    refine W_seq ?_
    refine W_region (by kernel_rfl) ?_
    refine s_y (v := .int .i64 py) rfl (y_move rfl) ?_
    refine s_y (v := .pointer (some ⟨b, o, none⟩)) rfl (y_move rfl) ?_
    refine s_y (v := .pointer (some ⟨b, o, none⟩)) rfl (y_nil rfl) ?_
    refine s_y (v := .pointer (some ⟨b, o + 1, none⟩)) rfl (y_fld (o := o + 0) T112.fld_26_1_1 rfl) ?_
    refine s_y (v := .int .i64 hi) rfl (y_load T112.one_2 rfl ((B.s 11 rfl).cell (j := 1) rfl)) ?_
    by_cases c32 : py < hi
    · refine s_y (v := .bool true) rfl (y_lss rfl rfl (decide_eq_true c32)) ?_
      refine s_nil ?_
      refine W_if_t (by decide) rfl ?_
      refine W_skip ?_
      refine W_seq ?_
      refine W_block ?_
      refine W_seq ?_
      refine W_region (by kernel_rfl) ?_
      refine s_y (v := .int .i64 0) rfl (y_assign rfl) ?_
      refine s_nil ?_
      refine W_block ?_
      refine W_loop (fun ρ' w' => ∃ (ρ1 : Env) (px : Int), ρ' = updL ρ1 [(0, .pointer (some ⟨b, o, none⟩)), (4, .pointer (some ⟨b1, 0, none⟩)), (5, .pointer (some ⟨b12, 0, none⟩)), (6, .pointer (some ⟨b25, 0, none⟩)), (7, .int .i64 py), (8, .int .i64 px), (13, .int .i64 py), (14, .pointer (some ⟨b, o, none⟩)), (15, .pointer (some ⟨b, o, none⟩)), (16, .pointer (some ⟨b, o + 1, none⟩)), (17, .int .i64 hi), (18, .bool true)] ∧ Bu w no w' [.ow kF a18 nfe c19 35 (mix (wd * hi) (wd * py + px) (fun i => nwF wd hi wr Xsp Xls Xfe (hxL wd hi wr Xfe Xfx) (hyL wd hi wr Xfe Xfy) (i % wd) (i / wd)) Xfe), .blk b25 [.slice a18 nfe c19, .slice a20 nfx c21, .slice a22 nfy c23] 29, .ow kF a20 nfx c21 35 (hxL wd hi wr Xfe Xfx), .ow kF a22 nfy c23 35 (hyL wd hi wr Xfe Xfy), .blk b12 [.slice a5 nfe c6, .slice a7 nfx c8, .slice a9 nfy c10] 29, .ow kF a5 nfe c6 35 Xfe, .ow kF a7 nfx c8 35 (hxL wd hi wr Xfe Xfx), .ow kF a9 nfy c10 35 (hyL wd hi wr Xfe Xfy), .blk b1 [.slice none 0 0, .slice none 0 0, .slice none 0 0] 29, .rd kF asp nsp Xsp, .rd kF als nls Xls, .sl (some ⟨b, o, none⟩) [.int .i64 wd, .int .i64 hi, .bool wr, .slice asp nsp csp, .slice als nls cls], .rd kF afe nfe Xfe, .rd kF afx nfx Xfx, .rd kF afy nfy Xfy, .sl (some ⟨b2, o2, none⟩) [.slice afe nfe cfe, .slice afx nfx cfx, .slice afy nfy cfy]] ∧ (0 ≤ px) ∧ (px ≤ wd)) (fun ρ' _ => (wd - iv (ρ' 8)).toNat) ?_ ?_
      · replace B : Bu w no w30 [.ow kF a18 nfe c19 35 (mix (wd * hi) (wd * py + 0) (fun i => nwF wd hi wr Xsp Xls Xfe (hxL wd hi wr Xfe Xfx) (hyL wd hi wr Xfe Xfy) (i % wd) (i / wd)) Xfe), .blk b25 [.slice a18 nfe c19, .slice a20 nfx c21, .slice a22 nfy c23] 29, .ow kF a20 nfx c21 35 (hxL wd hi wr Xfe Xfx), .ow kF a22 nfy c23 35 (hyL wd hi wr Xfe Xfy), .blk b12 [.slice a5 nfe c6, .slice a7 nfx c8, .slice a9 nfy c10] 29, .ow kF a5 nfe c6 35 Xfe, .ow kF a7 nfx c8 35 (hxL wd hi wr Xfe Xfx), .ow kF a9 nfy c10 35 (hyL wd hi wr Xfe Xfy), .blk b1 [.slice none 0 0, .slice none 0 0, .slice none 0 0] 29, .rd kF asp nsp Xsp, .rd kF als nls Xls, .sl (some ⟨b, o, none⟩) [.int .i64 wd, .int .i64 hi, .bool wr, .slice asp nsp csp, .slice als nls cls], .rd kF afe nfe Xfe, .rd kF afx nfx Xfx, .rd kF afy nfy Xfy, .sl (some ⟨b2, o2, none⟩) [.slice afe nfe cfe, .slice afx nfx cfx, .slice afy nfy cfy]] := B.castX 0 rfl rfl (congrArg (fun q => mix (wd * hi) q (fun i => nwF wd hi wr Xsp Xls Xfe (hxL wd hi wr Xfe Xfx) (hyL wd hi wr Xfe Xfy) (i % wd) (i / wd)) _) (Int.add_zero _).symm)
        exact ⟨_, 0, Fits.eq ⟨rfl, rfl, rfl, rfl, rfl, rfl, rfl, rfl, rfl, rfl, rfl, rfl, trivial⟩, B, (Int.le_refl _), (by omega)⟩
      · clear B; rintro _ w33 ⟨ρ34, px, rfl, B, h0px, h1px⟩
        refine W_seq ?_
        refine W_seq ?_
        refine W_region (by kernel_rfl) ?_
        refine s_y (v := .int .i64 px) rfl (y_move rfl) ?_
        refine s_y (v := .pointer (some ⟨b, o, none⟩)) rfl (y_move rfl) ?_
        refine s_y (v := .pointer (some ⟨b, o, none⟩)) rfl (y_nil rfl) ?_
        refine s_y (v := .pointer (some ⟨b, o, none⟩)) rfl (y_fld (o := o + 0) T112.fld_26_0_0 rfl) ?_
        refine s_y (v := .int .i64 wd) rfl (y_load T112.one_2 rfl ((B.s 11 rfl).cell (j := 0) rfl)) ?_
        by_cases c35 : px < wd
        · refine s_y (v := .bool true) rfl (y_lss rfl rfl (decide_eq_true c35)) ?_
          refine s_nil ?_
          refine W_if_t (by decide) rfl ?_
          refine W_skip ?_
          refine W_seq ?_
          refine W_block ?_
          have B0_40 := B
          refine W_draw (no) T112.mx (by kernel_rfl) (fun w38 e39 => ?_)
          have R41 := Ext.refl (no) w33
          replace R41 := R41.trans (Ext0.any e39)
          replace B := B.ext0 e39
          clear e39
          refine m_y (v := .pointer (some ⟨b25, 0, none⟩)) 0 rfl (by kernel_rfl) rfl rfl (fun w' e' => y_fld (o := 0) T112.fld_29_0_0 rfl) ?_
          refine m_y (v := .slice a18 nfe c19) 1 rfl (by kernel_rfl) rfl rfl (fun w' e' => y_load T112.one_24 rfl (((B0_40.b 1 rfl).ext0 e').cell (j := 0) rfl)) ?_
          refine m_y (v := .pointer (some ⟨b, o, none⟩)) 2 rfl (by kernel_rfl) rfl rfl (fun w' e' => y_move rfl) ?_
          refine m_y (v := .int .i64 px) 3 rfl (by kernel_rfl) rfl rfl (fun w' e' => y_move rfl) ?_
          refine m_y (v := .int .i64 py) 4 rfl (by kernel_rfl) rfl rfl (fun w' e' => y_move rfl) ?_
          refine m_y (v := .pointer (some ⟨b, o, none⟩)) 6 rfl (by kernel_rfl) rfl rfl (fun w' e' => y_move rfl) ?_
          refine m_y (v := .int .i64 px) 7 rfl (by kernel_rfl) rfl rfl (fun w' e' => y_move rfl) ?_
          refine m_y (v := .int .i64 py) 8 rfl (by kernel_rfl) rfl rfl (fun w' e' => y_move rfl) ?_
          refine m_k 5 [9, 10, 11] rfl (by kernel_rfl) rfl rfl (fun w42 e43 => ?_)
          replace R41 := R41.trans (Ext0.any e43)
          replace B := B.ext0 e43
          clear e43
          refine k_call T112.fn_117 (c_s_l03At (B.s 11 rfl) (by omega) (by omega) (by omega) (by omega) (by omega) (by omega) (by omega) (by omega)) rfl ?_
          rintro _ w44 ⟨rfl, e45⟩
          replace R41 := R41.trans (Ext0.any e45)
          replace B := B.ext0 e45
          clear e45
          refine ⟨fun _ => R41, ?_⟩
          have hat46 := atI_b (wd := wd) (hi := hi) (x := px) (y := py) (by omega) (by omega)
          refine m_k 9 [10, 11] rfl (by kernel_rfl) rfl rfl (fun w47 e48 => ?_)
          replace R41 := R41.trans (Ext0.any e48)
          replace B := B.ext0 e48
          clear e48
          refine k_call T112.fn_141 (c_s_l03Rest (B.r 9 rfl) (B.r 10 rfl) (B.s 11 rfl) ((B.o 5 rfl).rd) ((B.o 6 rfl).rd) ((B.o 7 rfl).rd) ((B.b 4 rfl).sl) (by omega) (by omega) (by omega) (by omega) (by omega) (by omega) (by omega) (by omega) (by omega) (by omega) (by omega) (by omega) (by omega)) rfl ?_
          rintro _ w49 ⟨⟨r51, rfl, hr52⟩, e50⟩
          replace R41 := R41.trans (Ext0.any e50)
          replace B := B.ext0 e50
          clear e50
          refine ⟨fun _ => R41, ?_⟩
          refine m_y (v := .pointer (some (sat a18 ((atI wd hi px py).toNat * 1)))) 10 rfl (by kernel_rfl) rfl rfl (fun w' e' => y_idx T112.sl_24_35_1 rfl rfl ((B.o 0 rfl).rd.addr (by omega)) (by omega) (by omega)) ?_
          refine m_kt 11 [] rfl (by kernel_rfl) rfl rfl (by kernel_rfl) (fun w55 e56 => ?_)
          replace R41 := R41.trans (Ext0.any e56)
          replace B := B.ext0 e56
          clear e56
          refine k_stO (k := kF) (i := atI wd hi px py) (j := 0) (x' := nwF wd hi wr Xsp Xls Xfe (hxL wd hi wr Xfe Xfx) (hyL wd hi wr Xfe Xfy) px py) (new := [.float .f32 r51]) T112.sz_35_1 rfl rfl rfl rfl rfl (by simp [Value.oneCell']) (by decide) (B.o 0 rfl) (by omega) (by omega) (by decide) (by rintro q ⟨_, rfl, _⟩; exact ⟨_, rfl, hr52⟩) (fun w53 hU54 => ?_)
          clear R41
          replace B : Bu w no w53 [.ow kF a18 nfe c19 35 (put (mix (wd * hi) (wd * py + px) (fun i => nwF wd hi wr Xsp Xls Xfe (hxL wd hi wr Xfe Xfx) (hyL wd hi wr Xfe Xfy) (i % wd) (i / wd)) Xfe) (atI wd hi px py) (nwF wd hi wr Xsp Xls Xfe (hxL wd hi wr Xfe Xfx) (hyL wd hi wr Xfe Xfy) px py)), .blk b25 [.slice a18 nfe c19, .slice a20 nfx c21, .slice a22 nfy c23] 29, .ow kF a20 nfx c21 35 (hxL wd hi wr Xfe Xfx), .ow kF a22 nfy c23 35 (hyL wd hi wr Xfe Xfy), .blk b12 [.slice a5 nfe c6, .slice a7 nfx c8, .slice a9 nfy c10] 29, .ow kF a5 nfe c6 35 Xfe, .ow kF a7 nfx c8 35 (hxL wd hi wr Xfe Xfx), .ow kF a9 nfy c10 35 (hyL wd hi wr Xfe Xfy), .blk b1 [.slice none 0 0, .slice none 0 0, .slice none 0 0] 29, .rd kF asp nsp Xsp, .rd kF als nls Xls, .sl (some ⟨b, o, none⟩) [.int .i64 wd, .int .i64 hi, .bool wr, .slice asp nsp csp, .slice als nls cls], .rd kF afe nfe Xfe, .rd kF afx nfx Xfx, .rd kF afy nfy Xfy, .sl (some ⟨b2, o2, none⟩) [.slice afe nfe cfe, .slice afx nfx cfx, .slice afy nfy cfy]] := B.upd [0] rfl hU54
          clear hU54
          refine m_done (by kernel_rfl) (fun w57 e58 => ?_)
          replace B := B.ext0 e58
          clear e58
          clear B0_40
          refine W_region (by kernel_rfl) ?_
          refine s_y (v := .int .i64 px) rfl (y_move rfl) ?_
          refine s_y (v := .int .i64 (px + 1)) rfl (y_add rfl rfl rfl (by omega)) ?_
          refine s_y (v := .int .i64 (px + 1)) rfl (y_assign rfl) ?_
          refine s_nil ?_
          replace B : Bu w no w57 [.ow kF a18 nfe c19 35 (mix (wd * hi) (wd * py + (px + 1)) (fun i => nwF wd hi wr Xsp Xls Xfe (hxL wd hi wr Xfe Xfx) (hyL wd hi wr Xfe Xfy) (i % wd) (i / wd)) Xfe), .blk b25 [.slice a18 nfe c19, .slice a20 nfx c21, .slice a22 nfy c23] 29, .ow kF a20 nfx c21 35 (hxL wd hi wr Xfe Xfx), .ow kF a22 nfy c23 35 (hyL wd hi wr Xfe Xfy), .blk b12 [.slice a5 nfe c6, .slice a7 nfx c8, .slice a9 nfy c10] 29, .ow kF a5 nfe c6 35 Xfe, .ow kF a7 nfx c8 35 (hxL wd hi wr Xfe Xfx), .ow kF a9 nfy c10 35 (hyL wd hi wr Xfe Xfy), .blk b1 [.slice none 0 0, .slice none 0 0, .slice none 0 0] 29, .rd kF asp nsp Xsp, .rd kF als nls Xls, .sl (some ⟨b, o, none⟩) [.int .i64 wd, .int .i64 hi, .bool wr, .slice asp nsp csp, .slice als nls cls], .rd kF afe nfe Xfe, .rd kF afx nfx Xfx, .rd kF afy nfy Xfy, .sl (some ⟨b2, o2, none⟩) [.slice afe nfe cfe, .slice afx nfx cfx, .slice afy nfy cfy]] := B.castX 0 rfl rfl (mix_cell (G := nwF wd hi wr Xsp Xls Xfe (hxL wd hi wr Xfe Xfx) (hyL wd hi wr Xfe Xfy)) rfl (by omega) (by omega) (by omega) (by omega) rfl rfl)
          refine ⟨⟨_, px + 1, Fits.eq ⟨rfl, rfl, rfl, rfl, rfl, rfl, rfl, rfl, rfl, rfl, rfl, rfl, trivial⟩, B, (by omega), (by omega)⟩, ?_⟩
          show (wd - (px + 1)).toNat < (wd - px).toNat
          omega
        · refine s_y (v := .bool false) rfl (y_lss rfl rfl (decide_eq_false c35)) ?_
          refine s_nil ?_
          refine W_if_f (by decide) rfl ?_
          refine W_exit ?_
          refine W_region (by kernel_rfl) ?_
          refine s_y (v := .int .i64 py) rfl (y_move rfl) ?_
          refine s_y (v := .int .i64 (py + 1)) rfl (y_add rfl rfl rfl (by omega)) ?_
          refine s_y (v := .int .i64 (py + 1)) rfl (y_assign rfl) ?_
          refine s_nil ?_
          replace B : Bu w no w33 [.ow kF a18 nfe c19 35 (mix (wd * hi) (wd * (py + 1)) (fun i => nwF wd hi wr Xsp Xls Xfe (hxL wd hi wr Xfe Xfx) (hyL wd hi wr Xfe Xfy) (i % wd) (i / wd)) Xfe), .blk b25 [.slice a18 nfe c19, .slice a20 nfx c21, .slice a22 nfy c23] 29, .ow kF a20 nfx c21 35 (hxL wd hi wr Xfe Xfx), .ow kF a22 nfy c23 35 (hyL wd hi wr Xfe Xfy), .blk b12 [.slice a5 nfe c6, .slice a7 nfx c8, .slice a9 nfy c10] 29, .ow kF a5 nfe c6 35 Xfe, .ow kF a7 nfx c8 35 (hxL wd hi wr Xfe Xfx), .ow kF a9 nfy c10 35 (hyL wd hi wr Xfe Xfy), .blk b1 [.slice none 0 0, .slice none 0 0, .slice none 0 0] 29, .rd kF asp nsp Xsp, .rd kF als nls Xls, .sl (some ⟨b, o, none⟩) [.int .i64 wd, .int .i64 hi, .bool wr, .slice asp nsp csp, .slice als nls cls], .rd kF afe nfe Xfe, .rd kF afx nfx Xfx, .rd kF afy nfy Xfy, .sl (some ⟨b2, o2, none⟩) [.slice afe nfe cfe, .slice afx nfx cfx, .slice afy nfy cfy]] := B.castX 0 rfl rfl (congrArg (fun q => mix (wd * hi) q (fun i => nwF wd hi wr Xsp Xls Xfe (hxL wd hi wr Xfe Xfx) (hyL wd hi wr Xfe Xfy) (i % wd) (i / wd)) _) (show wd * py + px = wd * (py + 1) by rw [Int.mul_add, Int.mul_one]; omega))
          refine ⟨⟨_, py + 1, Fits.eq ⟨rfl, rfl, rfl, rfl, rfl, trivial⟩, B, (by omega), (by omega)⟩, ?_⟩
          show (hi - (py + 1)).toNat < (hi - py).toNat
          omega
    · refine s_y (v := .bool false) rfl (y_lss rfl rfl (decide_eq_false c32)) ?_
      refine s_nil ?_
      refine W_if_f (by decide) rfl ?_
      refine W_exit ?_
      have hye : py = hi := by omega
      subst hye
      replace B : Bu w no w30 [.ow kF a18 nfe c19 35 (tab (wd * py) (fun i => nwF wd py wr Xsp Xls Xfe (hxL wd py wr Xfe Xfx) (hyL wd py wr Xfe Xfy) (i % wd) (i / wd))), .blk b25 [.slice a18 nfe c19, .slice a20 nfx c21, .slice a22 nfy c23] 29, .ow kF a20 nfx c21 35 (hxL wd py wr Xfe Xfx), .ow kF a22 nfy c23 35 (hyL wd py wr Xfe Xfy), .blk b12 [.slice a5 nfe c6, .slice a7 nfx c8, .slice a9 nfy c10] 29, .ow kF a5 nfe c6 35 Xfe, .ow kF a7 nfx c8 35 (hxL wd py wr Xfe Xfx), .ow kF a9 nfy c10 35 (hyL wd py wr Xfe Xfy), .blk b1 [.slice none 0 0, .slice none 0 0, .slice none 0 0] 29, .rd kF asp nsp Xsp, .rd kF als nls Xls, .sl (some ⟨b, o, none⟩) [.int .i64 wd, .int .i64 py, .bool wr, .slice asp nsp csp, .slice als nls cls], .rd kF afe nfe Xfe, .rd kF afx nfx Xfx, .rd kF afy nfy Xfy, .sl (some ⟨b2, o2, none⟩) [.slice afe nfe cfe, .slice afx nfx cfx, .slice afy nfy cfy]] := B.castX 0 rfl rfl mix_all
      refine W_seq ?_
      refine W_region (by kernel_rfl) ?_
      refine s_y (v := .agg #[.slice a18 nfe c19, .slice a20 nfx c21, .slice a22 nfy c23]) rfl (y_loadn (b := b25) (o := 0) (vs := [.slice a18 nfe c19, .slice a20 nfx c21, .slice a22 nfy c23]) T112.agg_29_3 rfl rfl ((B.b 1 rfl).cells (o := 0) rfl)) ?_
      refine s_k0 rfl (k_stB (v := .agg #[.slice a18 nfe c19, .slice a20 nfx c21, .slice a22 nfy c23]) (n := 3) (cs' := [.slice a18 nfe c19, .slice a20 nfx c21, .slice a22 nfy c23]) T112.sz_29_3 rfl rfl rfl (B.b 8 rfl) (by simp [Value.cells, Value.oneCell']) (Nat.le_of_ble_eq_true rfl) rfl (fun w59 hU60 => ?_))
      replace B : Bu w no w59 [.blk b1 [.slice a18 nfe c19, .slice a20 nfx c21, .slice a22 nfy c23] 29, .ow kF a18 nfe c19 35 (tab (wd * py) (fun i => nwF wd py wr Xsp Xls Xfe (hxL wd py wr Xfe Xfx) (hyL wd py wr Xfe Xfy) (i % wd) (i / wd))), .blk b25 [.slice a18 nfe c19, .slice a20 nfx c21, .slice a22 nfy c23] 29, .ow kF a20 nfx c21 35 (hxL wd py wr Xfe Xfx), .ow kF a22 nfy c23 35 (hyL wd py wr Xfe Xfy), .blk b12 [.slice a5 nfe c6, .slice a7 nfx c8, .slice a9 nfy c10] 29, .ow kF a5 nfe c6 35 Xfe, .ow kF a7 nfx c8 35 (hxL wd py wr Xfe Xfx), .ow kF a9 nfy c10 35 (hyL wd py wr Xfe Xfy), .rd kF asp nsp Xsp, .rd kF als nls Xls, .sl (some ⟨b, o, none⟩) [.int .i64 wd, .int .i64 py, .bool wr, .slice asp nsp csp, .slice als nls cls], .rd kF afe nfe Xfe, .rd kF afx nfx Xfx, .rd kF afy nfy Xfy, .sl (some ⟨b2, o2, none⟩) [.slice afe nfe cfe, .slice afx nfx cfx, .slice afy nfy cfy]] := B.upd [8] rfl hU60
      clear hU60
      refine s_nil ?_
      refine W_ret ?_
      refine ret1 (v := .agg #[.slice a18 nfe c19, .slice a20 nfx c21, .slice a22 nfy c23]) rfl rfl ⟨_, [.slice a18 nfe c19, .slice a20 nfx c21, .slice a22 nfy c23], _, rfl, (B.b 0 rfl), T112.agg_29_3, rfl⟩ ⟨_, rfl, ?_⟩
      replace B : Bu w no w59 [.blk b1 [.slice a18 nfe c19, .slice a20 nfx c21, .slice a22 nfy c23] 29, .ow kF a18 nfe c19 35 (nwL wd py wr Xsp Xls Xfe (hxL wd py wr Xfe Xfx) (hyL wd py wr Xfe Xfy)), .blk b25 [.slice a18 nfe c19, .slice a20 nfx c21, .slice a22 nfy c23] 29, .ow kF a20 nfx c21 35 (hxL wd py wr Xfe Xfx), .ow kF a22 nfy c23 35 (hyL wd py wr Xfe Xfy), .blk b12 [.slice a5 nfe c6, .slice a7 nfx c8, .slice a9 nfy c10] 29, .ow kF a5 nfe c6 35 Xfe, .ow kF a7 nfx c8 35 (hxL wd py wr Xfe Xfx), .ow kF a9 nfy c10 35 (hyL wd py wr Xfe Xfy), .rd kF asp nsp Xsp, .rd kF als nls Xls, .sl (some ⟨b, o, none⟩) [.int .i64 wd, .int .i64 py, .bool wr, .slice asp nsp csp, .slice als nls cls], .rd kF afe nfe Xfe, .rd kF afx nfx Xfx, .rd kF afy nfy Xfy, .sl (some ⟨b2, o2, none⟩) [.slice afe nfe cfe, .slice afx nfx cfx, .slice afy nfy cfy]] := B.castX 1 rfl rfl rfl
      exact ⟨_, _, _, _, _, _, rfl, B.give [1, 3, 4] rfl rfl rfl⟩
namespace T61
theorem mx : Try.prog.follows .mixedOrders = true := by kernel_rfl
theorem fld_29_0_0 : fldB Try.prog 29 0 0 = true := by kernel_rfl
theorem fn_112 : fnB Try.prog 112 = true := by kernel_rfl
theorem fn_113 : fnB Try.prog 113 = true := by kernel_rfl
theorem fn_114 : fnB Try.prog 114 = true := by kernel_rfl
theorem fn_94 : fnB Try.prog 94 = true := by kernel_rfl
theorem one_24 : oneB Try.prog 24 = true := by kernel_rfl
theorem one_35 : oneB Try.prog 35 = true := by kernel_rfl
theorem sl_24_35_1 : slB Try.prog 24 35 1 = true := by kernel_rfl
theorem slt_24 : SlT Try.prog 24 35 1 4 (.float .f32 0) := ⟨by kernel_rfl, by kernel_rfl, rfl, by decide⟩
theorem sz_29_3 : szB Try.prog 29 3 = true := by kernel_rfl
theorem sz_35_1 : szB Try.prog 35 1 = true := by kernel_rfl
theorem zero_29 : zeroB Try.prog 29 (.agg #[.slice none 0 0, .slice none 0 0, .slice none 0 0]) := by unfold zeroB; kernel_rfl
end T61
set_option maxRecDepth 100000 in
set_option maxHeartbeats 4000000 in
theorem c_s_SumOfSteps {wd : Int} {hi : Int} {wr : Bool} {asp : Option Addr} {nsp : Nat} {csp : Nat} {Xsp : List Nat} {als : Option Addr} {nls : Nat} {cls : Nat} {Xls : List Nat} {afe : Option Addr} {nfe : Nat} {cfe : Nat} {Xfe : List Nat} {afx : Option Addr} {nfx : Nat} {cfx : Nat} {Xfx : List Nat} {afy : Option Addr} {nfy : Nat} {cfy : Nat} {Xfy : List Nat} {m : Int} {w : World} (qsp : Rd w kF asp nsp Xsp) (qls : Rd w kF als nls Xls) (qfe : Rd w kF afe nfe Xfe) (qfx : Rd w kF afx nfx Xfx) (qfy : Rd w kF afy nfy Xfy) (hbsp : nsp ≤ 9223372036854775806) (hbls : nls ≤ 9223372036854775806) (hbfe : nfe ≤ 9223372036854775806) (hbfx : nfx ≤ 9223372036854775806) (hbfy : nfy ≤ 9223372036854775806) (hbe : nfe ≤ 1048576) :
    Calls Try.prog 61 #[.agg #[.int .i64 wd, .int .i64 hi, .bool wr, .slice asp nsp csp, .slice als nls cls], .agg #[.slice afe nfe cfe, .slice afx nfx cfx, .slice afy nfy cfy], .int .i64 m] w (Rt fun v w' => (runB wd hi wr Xsp Xls Xfe Xfx Xfy m = true ∧ ∃ (a1 : Option Addr) (c1 : Nat), v = .tuple #[.slice a1 ((wd * hi).toNat) c1, .bool true] ∧ New w w' [.ow kF a1 ((wd * hi).toNat) c1 35 (smT wd hi wr Xsp Xls (Xfe, Xfx, Xfy) (wd * hi) (List.replicate (wd * hi).toNat 0) (Int.toNat m))]) ∨ (runB wd hi wr Xsp Xls Xfe Xfx Xfy m = false ∧ v = .tuple #[.slice none 0 0, .bool false] ∧ Ext0 w w')) := by
  have hlsp := qsp.len
  have hlls := qls.len
  have hlfe := qfe.len
  have hlfx := qfx.len
  have hlfy := qfy.len
  have B : Bu w no w [.rd kF asp nsp Xsp, .rd kF als nls Xls, .rd kF afe nfe Xfe, .rd kF afx nfx Xfx, .rd kF afy nfy Xfy] := Bu.ro (All.cons qsp (All.cons qls (All.cons qfe (All.cons qfx (All.cons qfy All.nil))))) rfl
  refine calls_W (n := 46) Try.func61 rfl rfl (Nat.le_of_ble_eq_true rfl) ?_
  refine W_seq ?_
  refine W_region (by kernel_rfl) ?_
  refine s_k rfl (k_boxN (v := .agg #[.int .i64 wd, .int .i64 hi, .bool wr, .slice asp nsp csp, .slice als nls cls]) (cs := [.int .i64 wd, .int .i64 hi, .bool wr, .slice asp nsp csp, .slice als nls cls]) rfl rfl (fun b1 w2 hN3 => ?_))
  replace B := B.new1 hN3
  clear hN3
  refine s_k rfl (k_boxN (v := .agg #[.slice afe nfe cfe, .slice afx nfx cfx, .slice afy nfy cfy]) (cs := [.slice afe nfe cfe, .slice afx nfx cfx, .slice afy nfy cfy]) rfl rfl (fun b4 w5 hN6 => ?_))
  replace B := B.new1 hN6
  clear hN6
  refine s_y (v := .slice none 0 0) rfl (y_assign rfl) ?_
  refine s_y (v := .bool false) rfl (y_assign rfl) ?_
  refine s_nil ?_
  refine W_seq ?_
  refine W_seq ?_
  refine W_region (by kernel_rfl) ?_
  refine s_k rfl (k_call T61.fn_94 (c_s_l03Both (B.r 2 rfl) (B.r 3 rfl) ((B.b 1 rfl).sl) (B.r 4 rfl) (B.r 5 rfl) (B.r 6 rfl) ((B.b 0 rfl).sl) (by omega) (by omega) (by omega) (by omega) (by omega)) rfl ?_)
  rintro v9 w7 ⟨hv10, e8⟩
  replace B := B.ext0 e8
  clear e8
  by_cases c11 : fieldB wd hi wr Xsp Xls Xfe Xfx Xfy = true
  · have hb12 := fieldB_b c11
    obtain rfl : v9 = .bool true := hv10.trans (congrArg Value.bool c11)
    refine s_y (v := .bool false) rfl (y_not rfl rfl) ?_
    refine s_y (v := .bool false) rfl (y_move rfl) ?_
    refine s_y (v := .int .i64 m) rfl (y_move rfl) ?_
    refine s_k rfl (k_call T61.fn_113 (c_s_l00In) rfl ?_)
    rintro v15 w13 ⟨hv16, e14⟩
    replace B := B.ext0 e14
    clear e14
    by_cases c17 : within m 0 64 = true
    · have hb18 := within_b c17
      obtain rfl : v15 = .bool true := hv16.trans (congrArg Value.bool c17)
      refine s_y (v := .bool false) rfl (y_not rfl rfl) ?_
      refine s_y (v := .bool false) rfl (y_pick_f rfl rfl) ?_
      refine s_nil ?_
      refine W_if_f (by decide) rfl ?_
      refine W_skip ?_
      refine W_seq ?_
      refine W_region (by kernel_rfl) ?_
      refine s_y (v := .pointer (some ⟨b4, 0, none⟩)) rfl (y_fld (o := 0) T61.fld_29_0_0 rfl) ?_
      refine s_y (v := .slice afe nfe cfe) rfl (y_load T61.one_24 rfl ((B.b 0 rfl).cell (j := 0) rfl)) ?_
      refine s_y (v := .int .i64 ((nfe : Nat) : Int)) rfl (y_len T61.sl_24_35_1 rfl rfl) ?_
      refine s_k rfl (k_mkO (k := kF) (z0 := 0) T61.slt_24 ⟨0, rfl, can_zero⟩ rfl rfl (by omega) (by omega) (by omega) (fun b19 w20 hN21 => ?_))
      replace B := B.new1 hN21
      clear hN21
      refine s_y (v := .slice (some ⟨b19, 0, none⟩) ((((nfe : Nat) : Int)).toNat) ((((nfe : Nat) : Int)).toNat)) rfl (y_assign rfl) ?_
      refine s_nil ?_
      refine W_seq ?_
      refine W_region (by kernel_rfl) ?_
      refine s_k rfl (k_call T61.fn_114 (c_s_l02Own (B.r 5 rfl) (B.r 6 rfl) (B.r 7 rfl) ((B.b 1 rfl).sl) (by omega) (by omega) (by omega)) rfl ?_)
      rintro _ w22 ⟨a23, c24, a25, c26, a27, c28, rfl, hN29⟩
      replace B := B.new3 hN29
      clear hN29
      refine s_k rfl (k_allocN (z := (.agg #[.slice none 0 0, .slice none 0 0, .slice none 0 0])) (cs := [.slice none 0 0, .slice none 0 0, .slice none 0 0]) T61.zero_29 rfl (fun b30 w31 hN32 => ?_))
      replace B := B.new1 hN32
      clear hN32
      refine s_k0 rfl (k_stB (v := .agg #[.slice a23 nfe c24, .slice a25 nfx c26, .slice a27 nfy c28]) (n := 3) (cs' := [.slice a23 nfe c24, .slice a25 nfx c26, .slice a27 nfy c28]) T61.sz_29_3 rfl rfl rfl (B.b 0 rfl) (by simp [Value.cells, Value.oneCell']) (Nat.le_of_ble_eq_true rfl) rfl (fun w33 hU34 => ?_))
      replace B : Bu w no w33 [.blk b30 [.slice a23 nfe c24, .slice a25 nfx c26, .slice a27 nfy c28] 29, .ow kF a23 nfe c24 35 Xfe, .ow kF a25 nfx c26 35 Xfx, .ow kF a27 nfy c28 35 Xfy, .ow kF (some ⟨b19, 0, none⟩) ((((nfe : Nat) : Int)).toNat) ((((nfe : Nat) : Int)).toNat) 35 (List.replicate (((nfe : Nat) : Int)).toNat 0), .blk b4 [.slice afe nfe cfe, .slice afx nfx cfx, .slice afy nfy cfy] 29, .blk b1 [.int .i64 wd, .int .i64 hi, .bool wr, .slice asp nsp csp, .slice als nls cls] 26, .rd kF asp nsp Xsp, .rd kF als nls Xls, .rd kF afe nfe Xfe, .rd kF afx nfx Xfx, .rd kF afy nfy Xfy] := B.upd [0] rfl hU34
      clear hU34
      refine s_nil ?_
      refine W_seq ?_
      refine W_block ?_
      refine W_loop (fun ρ' w' => ∃ (ρ1 : Env) (k : Int) (A1 : Option Addr) (A2 : Option Addr) (A3 : Option Addr) (C1 : Nat) (C2 : Nat) (C3 : Nat), ρ' = updL ρ1 [(2, .int .i64 (m - k)), (3, .pointer (some ⟨b1, 0, none⟩)), (6, .slice none 0 0), (7, .bool false), (8, .slice (some ⟨b19, 0, none⟩) ((((nfe : Nat) : Int)).toNat) ((((nfe : Nat) : Int)).toNat)), (9, .pointer (some ⟨b30, 0, none⟩))] ∧ Bu w no w' [.ow kF A1 nfe C1 35 ((rnT wd hi wr Xsp Xls (Xfe, Xfx, Xfy) (Int.toNat k)).1), .ow kF A2 nfx C2 35 ((rnT wd hi wr Xsp Xls (Xfe, Xfx, Xfy) (Int.toNat k)).2.1), .ow kF A3 nfy C3 35 ((rnT wd hi wr Xsp Xls (Xfe, Xfx, Xfy) (Int.toNat k)).2.2), .ow kF (some ⟨b19, 0, none⟩) ((((nfe : Nat) : Int)).toNat) ((((nfe : Nat) : Int)).toNat) 35 (smT wd hi wr Xsp Xls (Xfe, Xfx, Xfy) (wd * hi) (List.replicate ((nfe : Int)).toNat 0) (Int.toNat k)), .blk b30 [.slice A1 nfe C1, .slice A2 nfx C2, .slice A3 nfy C3] 29, .blk b4 [.slice afe nfe cfe, .slice afx nfx cfx, .slice afy nfy cfy] 29, .blk b1 [.int .i64 wd, .int .i64 hi, .bool wr, .slice asp nsp csp, .slice als nls cls] 26, .rd kF asp nsp Xsp, .rd kF als nls Xls, .rd kF afe nfe Xfe, .rd kF afx nfx Xfx, .rd kF afy nfy Xfy] ∧ (0 ≤ k) ∧ (k ≤ m)) (fun ρ' _ => (iv (ρ' 2)).toNat) ?_ ?_
      · replace B : Bu w no w33 [.blk b30 [.slice a23 nfe c24, .slice a25 nfx c26, .slice a27 nfy c28] 29, .ow kF a23 nfe c24 35 ((rnT wd hi wr Xsp Xls (Xfe, Xfx, Xfy) (Int.toNat 0)).1), .ow kF a25 nfx c26 35 Xfx, .ow kF a27 nfy c28 35 Xfy, .ow kF (some ⟨b19, 0, none⟩) ((((nfe : Nat) : Int)).toNat) ((((nfe : Nat) : Int)).toNat) 35 (List.replicate (((nfe : Nat) : Int)).toNat 0), .blk b4 [.slice afe nfe cfe, .slice afx nfx cfx, .slice afy nfy cfy] 29, .blk b1 [.int .i64 wd, .int .i64 hi, .bool wr, .slice asp nsp csp, .slice als nls cls] 26, .rd kF asp nsp Xsp, .rd kF als nls Xls, .rd kF afe nfe Xfe, .rd kF afx nfx Xfx, .rd kF afy nfy Xfy] := B.castX 1 rfl rfl rfl
        replace B : Bu w no w33 [.blk b30 [.slice a23 nfe c24, .slice a25 nfx c26, .slice a27 nfy c28] 29, .ow kF a23 nfe c24 35 ((rnT wd hi wr Xsp Xls (Xfe, Xfx, Xfy) (Int.toNat 0)).1), .ow kF a25 nfx c26 35 ((rnT wd hi wr Xsp Xls (Xfe, Xfx, Xfy) (Int.toNat 0)).2.1), .ow kF a27 nfy c28 35 Xfy, .ow kF (some ⟨b19, 0, none⟩) ((((nfe : Nat) : Int)).toNat) ((((nfe : Nat) : Int)).toNat) 35 (List.replicate (((nfe : Nat) : Int)).toNat 0), .blk b4 [.slice afe nfe cfe, .slice afx nfx cfx, .slice afy nfy cfy] 29, .blk b1 [.int .i64 wd, .int .i64 hi, .bool wr, .slice asp nsp csp, .slice als nls cls] 26, .rd kF asp nsp Xsp, .rd kF als nls Xls, .rd kF afe nfe Xfe, .rd kF afx nfx Xfx, .rd kF afy nfy Xfy] := B.castX 2 rfl rfl rfl
        replace B : Bu w no w33 [.blk b30 [.slice a23 nfe c24, .slice a25 nfx c26, .slice a27 nfy c28] 29, .ow kF a23 nfe c24 35 ((rnT wd hi wr Xsp Xls (Xfe, Xfx, Xfy) (Int.toNat 0)).1), .ow kF a25 nfx c26 35 ((rnT wd hi wr Xsp Xls (Xfe, Xfx, Xfy) (Int.toNat 0)).2.1), .ow kF a27 nfy c28 35 ((rnT wd hi wr Xsp Xls (Xfe, Xfx, Xfy) (Int.toNat 0)).2.2), .ow kF (some ⟨b19, 0, none⟩) ((((nfe : Nat) : Int)).toNat) ((((nfe : Nat) : Int)).toNat) 35 (List.replicate (((nfe : Nat) : Int)).toNat 0), .blk b4 [.slice afe nfe cfe, .slice afx nfx cfx, .slice afy nfy cfy] 29, .blk b1 [.int .i64 wd, .int .i64 hi, .bool wr, .slice asp nsp csp, .slice als nls cls] 26, .rd kF asp nsp Xsp, .rd kF als nls Xls, .rd kF afe nfe Xfe, .rd kF afx nfx Xfx, .rd kF afy nfy Xfy] := B.castX 3 rfl rfl rfl
        replace B : Bu w no w33 [.blk b30 [.slice a23 nfe c24, .slice a25 nfx c26, .slice a27 nfy c28] 29, .ow kF a23 nfe c24 35 ((rnT wd hi wr Xsp Xls (Xfe, Xfx, Xfy) (Int.toNat 0)).1), .ow kF a25 nfx c26 35 ((rnT wd hi wr Xsp Xls (Xfe, Xfx, Xfy) (Int.toNat 0)).2.1), .ow kF a27 nfy c28 35 ((rnT wd hi wr Xsp Xls (Xfe, Xfx, Xfy) (Int.toNat 0)).2.2), .ow kF (some ⟨b19, 0, none⟩) ((((nfe : Nat) : Int)).toNat) ((((nfe : Nat) : Int)).toNat) 35 (smT wd hi wr Xsp Xls (Xfe, Xfx, Xfy) (wd * hi) (List.replicate ((nfe : Int)).toNat 0) (Int.toNat 0)), .blk b4 [.slice afe nfe cfe, .slice afx nfx cfx, .slice afy nfy cfy] 29, .blk b1 [.int .i64 wd, .int .i64 hi, .bool wr, .slice asp nsp csp, .slice als nls cls] 26, .rd kF asp nsp Xsp, .rd kF als nls Xls, .rd kF afe nfe Xfe, .rd kF afx nfx Xfx, .rd kF afy nfy Xfy] := B.castX 4 rfl rfl rfl
        exact ⟨_, 0, a23, a25, a27, c24, c26, c28, Fits.eq ⟨(by first | exact congrArg (Value.int .i64) (by omega) | rfl), rfl, rfl, rfl, rfl, rfl, trivial⟩, (B.pick [1, 2, 3, 4, 0, 5, 6, 7, 8, 9, 10, 11] rfl rfl), (Int.le_refl _), (by omega)⟩
      · clear B; rintro _ w35 ⟨ρ36, k, A1, A2, A3, C1, C2, C3, rfl, B, h0k, h1k⟩
        have hlsm := smT_len (wd := wd) (hi := hi) (wr := wr) (P := Xsp) (L := Xls) (F := (Xfe, Xfx, Xfy)) (n := wd * hi) (Q := (List.replicate ((nfe : Int)).toNat 0)) (by rw [List.length_replicate]; omega) k.toNat
        refine W_seq ?_
        refine W_seq ?_
        refine W_region (by kernel_rfl) ?_
        refine s_y (v := .int .i64 (m - k)) rfl (y_move rfl) ?_
        by_cases c37 : 0 < (m - k)
        · refine s_y (v := .bool true) rfl (y_gtr rfl rfl (decide_eq_true c37)) ?_
          refine s_nil ?_
          refine W_if_t (by decide) rfl ?_
          refine W_skip ?_
          refine W_seq ?_
          refine W_block ?_
          refine W_seq ?_
          refine W_region (by kernel_rfl) ?_
          refine s_k rfl (k_call T61.fn_112 (c_s_l03Step (B.r 7 rfl) (B.r 8 rfl) ((B.b 6 rfl).sl) ((B.o 0 rfl).rd) ((B.o 1 rfl).rd) ((B.o 2 rfl).rd) ((B.b 4 rfl).sl) (by omega) (by omega) (by omega) (by omega) (by omega) (by omega) (by omega) (by omega) (by omega)) rfl ?_)
          rintro _ w38 ⟨a39, c40, a41, c42, a43, c44, rfl, hN45⟩
          replace B := B.new3 hN45
          clear hN45
          refine s_k0 rfl (k_stB (v := .agg #[.slice a39 nfe c40, .slice a41 nfx c42, .slice a43 nfy c44]) (n := 3) (cs' := [.slice a39 nfe c40, .slice a41 nfx c42, .slice a43 nfy c44]) T61.sz_29_3 rfl rfl rfl (B.b 7 rfl) (by simp [Value.cells, Value.oneCell']) (Nat.le_of_ble_eq_true rfl) rfl (fun w46 hU47 => ?_))
          replace B : Bu w no w46 [.blk b30 [.slice a39 nfe c40, .slice a41 nfx c42, .slice a43 nfy c44] 29, .ow kF a39 nfe c40 35 (nwL wd hi wr Xsp Xls ((rnT wd hi wr Xsp Xls (Xfe, Xfx, Xfy) (Int.toNat k)).1) (hxL wd hi wr ((rnT wd hi wr Xsp Xls (Xfe, Xfx, Xfy) (Int.toNat k)).1) ((rnT wd hi wr Xsp Xls (Xfe, Xfx, Xfy) (Int.toNat k)).2.1)) (hyL wd hi wr ((rnT wd hi wr Xsp Xls (Xfe, Xfx, Xfy) (Int.toNat k)).1) ((rnT wd hi wr Xsp Xls (Xfe, Xfx, Xfy) (Int.toNat k)).2.2))), .ow kF a41 nfx c42 35 (hxL wd hi wr ((rnT wd hi wr Xsp Xls (Xfe, Xfx, Xfy) (Int.toNat k)).1) ((rnT wd hi wr Xsp Xls (Xfe, Xfx, Xfy) (Int.toNat k)).2.1)), .ow kF a43 nfy c44 35 (hyL wd hi wr ((rnT wd hi wr Xsp Xls (Xfe, Xfx, Xfy) (Int.toNat k)).1) ((rnT wd hi wr Xsp Xls (Xfe, Xfx, Xfy) (Int.toNat k)).2.2)), .ow kF A1 nfe C1 35 ((rnT wd hi wr Xsp Xls (Xfe, Xfx, Xfy) (Int.toNat k)).1), .ow kF A2 nfx C2 35 ((rnT wd hi wr Xsp Xls (Xfe, Xfx, Xfy) (Int.toNat k)).2.1), .ow kF A3 nfy C3 35 ((rnT wd hi wr Xsp Xls (Xfe, Xfx, Xfy) (Int.toNat k)).2.2), .ow kF (some ⟨b19, 0, none⟩) ((((nfe : Nat) : Int)).toNat) ((((nfe : Nat) : Int)).toNat) 35 (smT wd hi wr Xsp Xls (Xfe, Xfx, Xfy) (wd * hi) (List.replicate ((nfe : Int)).toNat 0) (Int.toNat k)), .blk b4 [.slice afe nfe cfe, .slice afx nfx cfx, .slice afy nfy cfy] 29, .blk b1 [.int .i64 wd, .int .i64 hi, .bool wr, .slice asp nsp csp, .slice als nls cls] 26, .rd kF asp nsp Xsp, .rd kF als nls Xls, .rd kF afe nfe Xfe, .rd kF afx nfx Xfx, .rd kF afy nfy Xfy] := B.upd [7] rfl hU47
          clear hU47
          refine s_nil ?_
          refine W_seq ?_
          refine W_region (by kernel_rfl) ?_
          refine s_y (v := .slice (some ⟨b19, 0, none⟩) ((((nfe : Nat) : Int)).toNat) ((((nfe : Nat) : Int)).toNat)) rfl (y_move rfl) ?_
          refine s_y (v := .int .i64 (((((nfe : Nat) : Int)).toNat : Nat) : Int)) rfl (y_len T61.sl_24_35_1 rfl rfl) ?_
          refine s_y (v := .int .i64 0) rfl (y_move rfl) ?_
          refine s_nil ?_
          refine W_block ?_
          replace B : Bu w no w46 [.blk b30 [.slice a39 nfe c40, .slice a41 nfx c42, .slice a43 nfy c44] 29, .ow kF a39 nfe c40 35 ((rnT wd hi wr Xsp Xls (Xfe, Xfx, Xfy) (Int.toNat (k + 1))).1), .ow kF a41 nfx c42 35 (hxL wd hi wr ((rnT wd hi wr Xsp Xls (Xfe, Xfx, Xfy) (Int.toNat k)).1) ((rnT wd hi wr Xsp Xls (Xfe, Xfx, Xfy) (Int.toNat k)).2.1)), .ow kF a43 nfy c44 35 (hyL wd hi wr ((rnT wd hi wr Xsp Xls (Xfe, Xfx, Xfy) (Int.toNat k)).1) ((rnT wd hi wr Xsp Xls (Xfe, Xfx, Xfy) (Int.toNat k)).2.2)), .ow kF A1 nfe C1 35 ((rnT wd hi wr Xsp Xls (Xfe, Xfx, Xfy) (Int.toNat k)).1), .ow kF A2 nfx C2 35 ((rnT wd hi wr Xsp Xls (Xfe, Xfx, Xfy) (Int.toNat k)).2.1), .ow kF A3 nfy C3 35 ((rnT wd hi wr Xsp Xls (Xfe, Xfx, Xfy) (Int.toNat k)).2.2), .ow kF (some ⟨b19, 0, none⟩) ((((nfe : Nat) : Int)).toNat) ((((nfe : Nat) : Int)).toNat) 35 (smT wd hi wr Xsp Xls (Xfe, Xfx, Xfy) (wd * hi) (List.replicate ((nfe : Int)).toNat 0) (Int.toNat k)), .blk b4 [.slice afe nfe cfe, .slice afx nfx cfx, .slice afy nfy cfy] 29, .blk b1 [.int .i64 wd, .int .i64 hi, .bool wr, .slice asp nsp csp, .slice als nls cls] 26, .rd kF asp nsp Xsp, .rd kF als nls Xls, .rd kF afe nfe Xfe, .rd kF afx nfx Xfx, .rd kF afy nfy Xfy] := B.castX 1 rfl rfl (congrArg (fun q : Fld => q.1) (rnT_next (by omega)))
          replace B : Bu w no w46 [.blk b30 [.slice a39 nfe c40, .slice a41 nfx c42, .slice a43 nfy c44] 29, .ow kF a39 nfe c40 35 ((rnT wd hi wr Xsp Xls (Xfe, Xfx, Xfy) (Int.toNat (k + 1))).1), .ow kF a41 nfx c42 35 ((rnT wd hi wr Xsp Xls (Xfe, Xfx, Xfy) (Int.toNat (k + 1))).2.1), .ow kF a43 nfy c44 35 (hyL wd hi wr ((rnT wd hi wr Xsp Xls (Xfe, Xfx, Xfy) (Int.toNat k)).1) ((rnT wd hi wr Xsp Xls (Xfe, Xfx, Xfy) (Int.toNat k)).2.2)), .ow kF A1 nfe C1 35 ((rnT wd hi wr Xsp Xls (Xfe, Xfx, Xfy) (Int.toNat k)).1), .ow kF A2 nfx C2 35 ((rnT wd hi wr Xsp Xls (Xfe, Xfx, Xfy) (Int.toNat k)).2.1), .ow kF A3 nfy C3 35 ((rnT wd hi wr Xsp Xls (Xfe, Xfx, Xfy) (Int.toNat k)).2.2), .ow kF (some ⟨b19, 0, none⟩) ((((nfe : Nat) : Int)).toNat) ((((nfe : Nat) : Int)).toNat) 35 (smT wd hi wr Xsp Xls (Xfe, Xfx, Xfy) (wd * hi) (List.replicate ((nfe : Int)).toNat 0) (Int.toNat k)), .blk b4 [.slice afe nfe cfe, .slice afx nfx cfx, .slice afy nfy cfy] 29, .blk b1 [.int .i64 wd, .int .i64 hi, .bool wr, .slice asp nsp csp, .slice als nls cls] 26, .rd kF asp nsp Xsp, .rd kF als nls Xls, .rd kF afe nfe Xfe, .rd kF afx nfx Xfx, .rd kF afy nfy Xfy] := B.castX 2 rfl rfl (congrArg (fun q : Fld => q.2.1) (rnT_next (by omega)))
          replace B : Bu w no w46 [.blk b30 [.slice a39 nfe c40, .slice a41 nfx c42, .slice a43 nfy c44] 29, .ow kF a39 nfe c40 35 ((rnT wd hi wr Xsp Xls (Xfe, Xfx, Xfy) (Int.toNat (k + 1))).1), .ow kF a41 nfx c42 35 ((rnT wd hi wr Xsp Xls (Xfe, Xfx, Xfy) (Int.toNat (k + 1))).2.1), .ow kF a43 nfy c44 35 ((rnT wd hi wr Xsp Xls (Xfe, Xfx, Xfy) (Int.toNat (k + 1))).2.2), .ow kF A1 nfe C1 35 ((rnT wd hi wr Xsp Xls (Xfe, Xfx, Xfy) (Int.toNat k)).1), .ow kF A2 nfx C2 35 ((rnT wd hi wr Xsp Xls (Xfe, Xfx, Xfy) (Int.toNat k)).2.1), .ow kF A3 nfy C3 35 ((rnT wd hi wr Xsp Xls (Xfe, Xfx, Xfy) (Int.toNat k)).2.2), .ow kF (some ⟨b19, 0, none⟩) ((((nfe : Nat) : Int)).toNat) ((((nfe : Nat) : Int)).toNat) 35 (smT wd hi wr Xsp Xls (Xfe, Xfx, Xfy) (wd * hi) (List.replicate ((nfe : Int)).toNat 0) (Int.toNat k)), .blk b4 [.slice afe nfe cfe, .slice afx nfx cfx, .slice afy nfy cfy] 29, .blk b1 [.int .i64 wd, .int .i64 hi, .bool wr, .slice asp nsp csp, .slice als nls cls] 26, .rd kF asp nsp Xsp, .rd kF als nls Xls, .rd kF afe nfe Xfe, .rd kF afx nfx Xfx, .rd kF afy nfy Xfy] := B.castX 3 rfl rfl (congrArg (fun q : Fld => q.2.2) (rnT_next (by omega)))
          refine W_loop (fun ρ' w' => ∃ (ρ1 : Env) (j : Int), ρ' = updL ρ1 [(2, .int .i64 (m - k)), (3, .pointer (some ⟨b1, 0, none⟩)), (6, .slice none 0 0), (7, .bool false), (8, .slice (some ⟨b19, 0, none⟩) ((((nfe : Nat) : Int)).toNat) ((((nfe : Nat) : Int)).toNat)), (9, .pointer (some ⟨b30, 0, none⟩)), (23, .int .i64 (m - k)), (24, .bool true), (27, .agg #[.slice a39 nfe c40, .slice a41 nfx c42, .slice a43 nfy c44]), (28, .slice (some ⟨b19, 0, none⟩) ((((nfe : Nat) : Int)).toNat) ((((nfe : Nat) : Int)).toNat)), (29, .int .i64 (((((nfe : Nat) : Int)).toNat : Nat) : Int)), (30, .int .i64 j)] ∧ Bu w no w' [.ow kF (some ⟨b19, 0, none⟩) ((((nfe : Nat) : Int)).toNat) ((((nfe : Nat) : Int)).toNat) 35 (mix (wd * hi) j (fun i => fop .add .f32 (el (smT wd hi wr Xsp Xls (Xfe, Xfx, Xfy) (wd * hi) (List.replicate ((nfe : Int)).toNat 0) (Int.toNat k)) i) (el (rnT wd hi wr Xsp Xls (Xfe, Xfx, Xfy) (Int.toNat (k + 1))).1 i)) (smT wd hi wr Xsp Xls (Xfe, Xfx, Xfy) (wd * hi) (List.replicate ((nfe : Int)).toNat 0) (Int.toNat k))), .blk b30 [.slice a39 nfe c40, .slice a41 nfx c42, .slice a43 nfy c44] 29, .ow kF a39 nfe c40 35 ((rnT wd hi wr Xsp Xls (Xfe, Xfx, Xfy) (Int.toNat (k + 1))).1), .ow kF a41 nfx c42 35 ((rnT wd hi wr Xsp Xls (Xfe, Xfx, Xfy) (Int.toNat (k + 1))).2.1), .ow kF a43 nfy c44 35 ((rnT wd hi wr Xsp Xls (Xfe, Xfx, Xfy) (Int.toNat (k + 1))).2.2), .ow kF A1 nfe C1 35 ((rnT wd hi wr Xsp Xls (Xfe, Xfx, Xfy) (Int.toNat k)).1), .ow kF A2 nfx C2 35 ((rnT wd hi wr Xsp Xls (Xfe, Xfx, Xfy) (Int.toNat k)).2.1), .ow kF A3 nfy C3 35 ((rnT wd hi wr Xsp Xls (Xfe, Xfx, Xfy) (Int.toNat k)).2.2), .blk b4 [.slice afe nfe cfe, .slice afx nfx cfx, .slice afy nfy cfy] 29, .blk b1 [.int .i64 wd, .int .i64 hi, .bool wr, .slice asp nsp csp, .slice als nls cls] 26, .rd kF asp nsp Xsp, .rd kF als nls Xls, .rd kF afe nfe Xfe, .rd kF afx nfx Xfx, .rd kF afy nfy Xfy] ∧ (0 ≤ j) ∧ (j ≤ wd * hi)) (fun ρ' _ => (wd * hi - iv (ρ' 30)).toNat) ?_ ?_
          · replace B : Bu w no w46 [.blk b30 [.slice a39 nfe c40, .slice a41 nfx c42, .slice a43 nfy c44] 29, .ow kF a39 nfe c40 35 ((rnT wd hi wr Xsp Xls (Xfe, Xfx, Xfy) (Int.toNat (k + 1))).1), .ow kF a41 nfx c42 35 ((rnT wd hi wr Xsp Xls (Xfe, Xfx, Xfy) (Int.toNat (k + 1))).2.1), .ow kF a43 nfy c44 35 ((rnT wd hi wr Xsp Xls (Xfe, Xfx, Xfy) (Int.toNat (k + 1))).2.2), .ow kF A1 nfe C1 35 ((rnT wd hi wr Xsp Xls (Xfe, Xfx, Xfy) (Int.toNat k)).1), .ow kF A2 nfx C2 35 ((rnT wd hi wr Xsp Xls (Xfe, Xfx, Xfy) (Int.toNat k)).2.1), .ow kF A3 nfy C3 35 ((rnT wd hi wr Xsp Xls (Xfe, Xfx, Xfy) (Int.toNat k)).2.2), .ow kF (some ⟨b19, 0, none⟩) ((((nfe : Nat) : Int)).toNat) ((((nfe : Nat) : Int)).toNat) 35 (mix (wd * hi) 0 (fun i => fop .add .f32 (el (smT wd hi wr Xsp Xls (Xfe, Xfx, Xfy) (wd * hi) (List.replicate ((nfe : Int)).toNat 0) (Int.toNat k)) i) (el (rnT wd hi wr Xsp Xls (Xfe, Xfx, Xfy) (Int.toNat (k + 1))).1 i)) (smT wd hi wr Xsp Xls (Xfe, Xfx, Xfy) (wd * hi) (List.replicate ((nfe : Int)).toNat 0) (Int.toNat k))), .blk b4 [.slice afe nfe cfe, .slice afx nfx cfx, .slice afy nfy cfy] 29, .blk b1 [.int .i64 wd, .int .i64 hi, .bool wr, .slice asp nsp csp, .slice als nls cls] 26, .rd kF asp nsp Xsp, .rd kF als nls Xls, .rd kF afe nfe Xfe, .rd kF afx nfx Xfx, .rd kF afy nfy Xfy] := B.castX 7 rfl rfl (mix_zero hlsm)
            exact ⟨_, 0, Fits.eq ⟨rfl, rfl, rfl, rfl, rfl, rfl, rfl, rfl, rfl, rfl, rfl, rfl, trivial⟩, (B.pick [7, 0, 1, 2, 3, 4, 5, 6, 8, 9, 10, 11, 12, 13, 14] rfl rfl), (Int.le_refl _), (by omega)⟩
          · clear B; rintro _ w48 ⟨ρ49, j, rfl, B, h0j, h1j⟩
            refine W_seq ?_
            refine W_region (by kernel_rfl) ?_
            by_cases c50 : j < (((((nfe : Nat) : Int)).toNat : Nat) : Int)
            · refine s_y (v := .bool true) rfl (y_lss rfl rfl (decide_eq_true c50)) ?_
              refine s_nil ?_
              refine W_seq ?_
              refine W_if_t (by decide) rfl ?_
              refine W_skip ?_
              refine W_seq ?_
              refine W_block ?_
              refine W_seq ?_
              refine W_region (by kernel_rfl) ?_
              refine s_y (v := .int .i64 j) rfl (y_move rfl) ?_
              refine s_y (v := .int .i64 j) rfl (y_assign rfl) ?_
              refine s_nil ?_
              have B0_55 := B
              refine W_draw (no) T61.mx (by kernel_rfl) (fun w53 e54 => ?_)
              have R56 := Ext.refl (no) w48
              replace R56 := R56.trans (Ext0.any e54)
              replace B := B.ext0 e54
              clear e54
              refine m_y (v := .slice (some ⟨b19, 0, none⟩) ((((nfe : Nat) : Int)).toNat) ((((nfe : Nat) : Int)).toNat)) 0 rfl (by kernel_rfl) rfl rfl (fun w' e' => y_move rfl) ?_
              refine m_y (v := .int .i64 j) 1 rfl (by kernel_rfl) rfl rfl (fun w' e' => y_move rfl) ?_
              refine m_y (v := .pointer (some (sat (some ⟨b19, 0, none⟩) ((j).toNat * 1)))) 2 rfl (by kernel_rfl) rfl rfl (fun w' e' => y_idx T61.sl_24_35_1 rfl rfl ((B.o 0 rfl).rd.addr (by omega)) (by omega) (by omega)) ?_
              obtain ⟨r58, hr59, hR57⟩ := Rd.atF (B0_55.o 0 rfl).rd j (by omega) (by omega)
              refine m_y (v := .float .f32 r58) 3 rfl (by kernel_rfl) rfl rfl (fun w' e' => y_load T61.one_35 rfl ((hR57.ext0 e').cell (i := 0) rfl)) ?_
              refine m_y (v := .pointer (some ⟨b30, 0, none⟩)) 4 rfl (by kernel_rfl) rfl rfl (fun w' e' => y_fld (o := 0) T61.fld_29_0_0 rfl) ?_
              refine m_y (v := .slice a39 nfe c40) 5 rfl (by kernel_rfl) rfl rfl (fun w' e' => y_load T61.one_24 rfl (((B0_55.b 1 rfl).ext0 e').cell (j := 0) rfl)) ?_
              refine m_y (v := .int .i64 j) 6 rfl (by kernel_rfl) rfl rfl (fun w' e' => y_move rfl) ?_
              refine m_y (v := .pointer (some (sat a39 ((j).toNat * 1)))) 7 rfl (by kernel_rfl) rfl rfl (fun w' e' => y_idx T61.sl_24_35_1 rfl rfl ((B.o 2 rfl).rd.addr (by omega)) (by omega) (by omega)) ?_
              obtain ⟨r61, hr62, hR60⟩ := Rd.atF (B0_55.o 2 rfl).rd j (by omega) (by omega)
              refine m_y (v := .float .f32 r61) 8 rfl (by kernel_rfl) rfl rfl (fun w' e' => y_load T61.one_35 rfl ((hR60.ext0 e').cell (i := 0) rfl)) ?_
              refine m_n 9 [10, 11] rfl (by kernel_rfl) rfl rfl (fun w' e' => n_arith (by decide) rfl rfl) ?_
              rintro _ ⟨r64, rfl, hr65⟩
              have hc68 := fopC hr65 hr59 hr62
              refine m_y (v := .pointer (some (sat (some ⟨b19, 0, none⟩) ((j).toNat * 1)))) 10 rfl (by kernel_rfl) rfl rfl (fun w' e' => y_idx T61.sl_24_35_1 rfl rfl ((B.o 0 rfl).rd.addr (by omega)) (by omega) (by omega)) ?_
              refine m_kt 11 [] rfl (by kernel_rfl) rfl rfl (by kernel_rfl) (fun w71 e72 => ?_)
              replace R56 := R56.trans (Ext0.any e72)
              replace B := B.ext0 e72
              clear e72
              refine k_stO (k := kF) (i := j) (j := 0) (x' := fop .add .f32 (el (mix (wd * hi) j (fun i => fop .add .f32 (el (smT wd hi wr Xsp Xls (Xfe, Xfx, Xfy) (wd * hi) (List.replicate ((nfe : Int)).toNat 0) (Int.toNat k)) i) (el (rnT wd hi wr Xsp Xls (Xfe, Xfx, Xfy) (Int.toNat (k + 1))).1 i)) (smT wd hi wr Xsp Xls (Xfe, Xfx, Xfy) (wd * hi) (List.replicate ((nfe : Int)).toNat 0) (Int.toNat k))) j) (el ((rnT wd hi wr Xsp Xls (Xfe, Xfx, Xfy) (Int.toNat (k + 1))).1) j)) (new := [.float .f32 r64]) T61.sz_35_1 rfl rfl rfl rfl rfl (by simp [Value.oneCell']) (by decide) (B.o 0 rfl) (by omega) (by omega) (by decide) (by rintro q ⟨_, rfl, _⟩; exact ⟨_, rfl, hc68⟩) (fun w69 hU70 => ?_)
              clear R56
              replace B : Bu w no w69 [.ow kF (some ⟨b19, 0, none⟩) ((((nfe : Nat) : Int)).toNat) ((((nfe : Nat) : Int)).toNat) 35 (put (mix (wd * hi) j (fun i => fop .add .f32 (el (smT wd hi wr Xsp Xls (Xfe, Xfx, Xfy) (wd * hi) (List.replicate ((nfe : Int)).toNat 0) (Int.toNat k)) i) (el (rnT wd hi wr Xsp Xls (Xfe, Xfx, Xfy) (Int.toNat (k + 1))).1 i)) (smT wd hi wr Xsp Xls (Xfe, Xfx, Xfy) (wd * hi) (List.replicate ((nfe : Int)).toNat 0) (Int.toNat k))) j (fop .add .f32 (el (mix (wd * hi) j (fun i => fop .add .f32 (el (smT wd hi wr Xsp Xls (Xfe, Xfx, Xfy) (wd * hi) (List.replicate ((nfe : Int)).toNat 0) (Int.toNat k)) i) (el (rnT wd hi wr Xsp Xls (Xfe, Xfx, Xfy) (Int.toNat (k + 1))).1 i)) (smT wd hi wr Xsp Xls (Xfe, Xfx, Xfy) (wd * hi) (List.replicate ((nfe : Int)).toNat 0) (Int.toNat k))) j) (el ((rnT wd hi wr Xsp Xls (Xfe, Xfx, Xfy) (Int.toNat (k + 1))).1) j))), .blk b30 [.slice a39 nfe c40, .slice a41 nfx c42, .slice a43 nfy c44] 29, .ow kF a39 nfe c40 35 ((rnT wd hi wr Xsp Xls (Xfe, Xfx, Xfy) (Int.toNat (k + 1))).1), .ow kF a41 nfx c42 35 ((rnT wd hi wr Xsp Xls (Xfe, Xfx, Xfy) (Int.toNat (k + 1))).2.1), .ow kF a43 nfy c44 35 ((rnT wd hi wr Xsp Xls (Xfe, Xfx, Xfy) (Int.toNat (k + 1))).2.2), .ow kF A1 nfe C1 35 ((rnT wd hi wr Xsp Xls (Xfe, Xfx, Xfy) (Int.toNat k)).1), .ow kF A2 nfx C2 35 ((rnT wd hi wr Xsp Xls (Xfe, Xfx, Xfy) (Int.toNat k)).2.1), .ow kF A3 nfy C3 35 ((rnT wd hi wr Xsp Xls (Xfe, Xfx, Xfy) (Int.toNat k)).2.2), .blk b4 [.slice afe nfe cfe, .slice afx nfx cfx, .slice afy nfy cfy] 29, .blk b1 [.int .i64 wd, .int .i64 hi, .bool wr, .slice asp nsp csp, .slice als nls cls] 26, .rd kF asp nsp Xsp, .rd kF als nls Xls, .rd kF afe nfe Xfe, .rd kF afx nfx Xfx, .rd kF afy nfy Xfy] := B.upd [0] rfl hU70
              clear hU70
              refine m_done (by kernel_rfl) (fun w73 e74 => ?_)
              replace B := B.ext0 e74
              clear e74
              clear B0_55
              refine W_region (by kernel_rfl) ?_
              refine s_y (v := .int .i64 (j + 1)) rfl (y_add rfl rfl rfl (by omega)) ?_
              refine s_y (v := .int .i64 (j + 1)) rfl (y_move rfl) ?_
              refine s_nil ?_
              replace B : Bu w no w73 [.ow kF (some ⟨b19, 0, none⟩) ((((nfe : Nat) : Int)).toNat) ((((nfe : Nat) : Int)).toNat) 35 (mix (wd * hi) (j + 1) (fun i => fop .add .f32 (el (smT wd hi wr Xsp Xls (Xfe, Xfx, Xfy) (wd * hi) (List.replicate ((nfe : Int)).toNat 0) (Int.toNat k)) i) (el (rnT wd hi wr Xsp Xls (Xfe, Xfx, Xfy) (Int.toNat (k + 1))).1 i)) (smT wd hi wr Xsp Xls (Xfe, Xfx, Xfy) (wd * hi) (List.replicate ((nfe : Int)).toNat 0) (Int.toNat k))), .blk b30 [.slice a39 nfe c40, .slice a41 nfx c42, .slice a43 nfy c44] 29, .ow kF a39 nfe c40 35 ((rnT wd hi wr Xsp Xls (Xfe, Xfx, Xfy) (Int.toNat (k + 1))).1), .ow kF a41 nfx c42 35 ((rnT wd hi wr Xsp Xls (Xfe, Xfx, Xfy) (Int.toNat (k + 1))).2.1), .ow kF a43 nfy c44 35 ((rnT wd hi wr Xsp Xls (Xfe, Xfx, Xfy) (Int.toNat (k + 1))).2.2), .ow kF A1 nfe C1 35 ((rnT wd hi wr Xsp Xls (Xfe, Xfx, Xfy) (Int.toNat k)).1), .ow kF A2 nfx C2 35 ((rnT wd hi wr Xsp Xls (Xfe, Xfx, Xfy) (Int.toNat k)).2.1), .ow kF A3 nfy C3 35 ((rnT wd hi wr Xsp Xls (Xfe, Xfx, Xfy) (Int.toNat k)).2.2), .blk b4 [.slice afe nfe cfe, .slice afx nfx cfx, .slice afy nfy cfy] 29, .blk b1 [.int .i64 wd, .int .i64 hi, .bool wr, .slice asp nsp csp, .slice als nls cls] 26, .rd kF asp nsp Xsp, .rd kF als nls Xls, .rd kF afe nfe Xfe, .rd kF afx nfx Xfx, .rd kF afy nfy Xfy] := B.castX 0 rfl rfl (mix_put (by omega) (by omega) (by rw [el_mix (by omega) (by omega) (Int.le_refl _)]))
              refine ⟨⟨_, j + 1, Fits.eq ⟨rfl, rfl, rfl, rfl, rfl, rfl, rfl, rfl, rfl, rfl, rfl, rfl, trivial⟩, B, (by omega), (by omega)⟩, ?_⟩
              show (wd * hi - (j + 1)).toNat < (wd * hi - j).toNat
              omega
            · refine s_y (v := .bool false) rfl (y_lss rfl rfl (decide_eq_false c50)) ?_
              refine s_nil ?_
              refine W_seq ?_
              refine W_if_f (by decide) rfl ?_
              refine W_exit ?_
              have hjj : j = wd * hi := by omega
              subst hjj
              replace B : Bu w no w48 [.ow kF (some ⟨b19, 0, none⟩) ((((nfe : Nat) : Int)).toNat) ((((nfe : Nat) : Int)).toNat) 35 (addL (wd * hi) (smT wd hi wr Xsp Xls (Xfe, Xfx, Xfy) (wd * hi) (List.replicate ((nfe : Int)).toNat 0) (Int.toNat k)) (rnT wd hi wr Xsp Xls (Xfe, Xfx, Xfy) (Int.toNat (k + 1))).1), .blk b30 [.slice a39 nfe c40, .slice a41 nfx c42, .slice a43 nfy c44] 29, .ow kF a39 nfe c40 35 ((rnT wd hi wr Xsp Xls (Xfe, Xfx, Xfy) (Int.toNat (k + 1))).1), .ow kF a41 nfx c42 35 ((rnT wd hi wr Xsp Xls (Xfe, Xfx, Xfy) (Int.toNat (k + 1))).2.1), .ow kF a43 nfy c44 35 ((rnT wd hi wr Xsp Xls (Xfe, Xfx, Xfy) (Int.toNat (k + 1))).2.2), .ow kF A1 nfe C1 35 ((rnT wd hi wr Xsp Xls (Xfe, Xfx, Xfy) (Int.toNat k)).1), .ow kF A2 nfx C2 35 ((rnT wd hi wr Xsp Xls (Xfe, Xfx, Xfy) (Int.toNat k)).2.1), .ow kF A3 nfy C3 35 ((rnT wd hi wr Xsp Xls (Xfe, Xfx, Xfy) (Int.toNat k)).2.2), .blk b4 [.slice afe nfe cfe, .slice afx nfx cfx, .slice afy nfy cfy] 29, .blk b1 [.int .i64 wd, .int .i64 hi, .bool wr, .slice asp nsp csp, .slice als nls cls] 26, .rd kF asp nsp Xsp, .rd kF als nls Xls, .rd kF afe nfe Xfe, .rd kF afx nfx Xfx, .rd kF afy nfy Xfy] := B.castX 0 rfl rfl mix_all
              refine W_region (by kernel_rfl) ?_
              refine s_y (v := .int .i64 (m - k)) rfl (y_move rfl) ?_
              refine s_y (v := .int .i64 ((m - k) - 1)) rfl (y_sub rfl rfl rfl (by omega)) ?_
              refine s_y (v := .int .i64 ((m - k) - 1)) rfl (y_assign rfl) ?_
              refine s_nil ?_
              replace B : Bu w no w48 [.ow kF (some ⟨b19, 0, none⟩) ((((nfe : Nat) : Int)).toNat) ((((nfe : Nat) : Int)).toNat) 35 (smT wd hi wr Xsp Xls (Xfe, Xfx, Xfy) (wd * hi) (List.replicate ((nfe : Int)).toNat 0) (Int.toNat (k + 1))), .blk b30 [.slice a39 nfe c40, .slice a41 nfx c42, .slice a43 nfy c44] 29, .ow kF a39 nfe c40 35 ((rnT wd hi wr Xsp Xls (Xfe, Xfx, Xfy) (Int.toNat (k + 1))).1), .ow kF a41 nfx c42 35 ((rnT wd hi wr Xsp Xls (Xfe, Xfx, Xfy) (Int.toNat (k + 1))).2.1), .ow kF a43 nfy c44 35 ((rnT wd hi wr Xsp Xls (Xfe, Xfx, Xfy) (Int.toNat (k + 1))).2.2), .ow kF A1 nfe C1 35 ((rnT wd hi wr Xsp Xls (Xfe, Xfx, Xfy) (Int.toNat k)).1), .ow kF A2 nfx C2 35 ((rnT wd hi wr Xsp Xls (Xfe, Xfx, Xfy) (Int.toNat k)).2.1), .ow kF A3 nfy C3 35 ((rnT wd hi wr Xsp Xls (Xfe, Xfx, Xfy) (Int.toNat k)).2.2), .blk b4 [.slice afe nfe cfe, .slice afx nfx cfx, .slice afy nfy cfy] 29, .blk b1 [.int .i64 wd, .int .i64 hi, .bool wr, .slice asp nsp csp, .slice als nls cls] 26, .rd kF asp nsp Xsp, .rd kF als nls Xls, .rd kF afe nfe Xfe, .rd kF afx nfx Xfx, .rd kF afy nfy Xfy] := B.castX 0 rfl rfl (smT_next (by omega))
              refine ⟨⟨_, k + 1, a39, a41, a43, c40, c42, c44, Fits.eq ⟨(by first | exact congrArg (Value.int .i64) (by omega) | rfl), rfl, rfl, rfl, rfl, rfl, trivial⟩, (B.pick [2, 3, 4, 0, 1, 8, 9, 10, 11, 12, 13, 14] rfl rfl), (by omega), (by omega)⟩, ?_⟩
              show (m - k - 1).toNat < (m - k).toNat
              omega
        · refine s_y (v := .bool false) rfl (y_gtr rfl rfl (decide_eq_false c37)) ?_
          refine s_nil ?_
          refine W_if_f (by decide) rfl ?_
          refine W_exit ?_
          have hkm : k = m := by omega
          subst k
          refine W_seq ?_
          refine W_region (by kernel_rfl) ?_
          refine s_y (v := .slice (some ⟨b19, 0, none⟩) ((((nfe : Nat) : Int)).toNat) ((((nfe : Nat) : Int)).toNat)) rfl (y_move rfl) ?_
          refine s_y (v := .slice (some ⟨b19, 0, none⟩) ((((nfe : Nat) : Int)).toNat) ((((nfe : Nat) : Int)).toNat)) rfl (y_assign rfl) ?_
          refine s_y (v := .bool true) rfl (y_assign rfl) ?_
          refine s_nil ?_
          refine W_ret ?_
          refine ret2 (v1 := .slice (some ⟨b19, 0, none⟩) ((((nfe : Nat) : Int)).toNat) ((((nfe : Nat) : Int)).toNat)) (v2 := .bool true) rfl rfl rfl rfl rfl ⟨_, rfl, ?_⟩
          have hcond : runB wd hi wr Xsp Xls Xfe Xfx Xfy m = true := by simp only [runB, c11, c17, (decide_eq_false c37), Bool.and_true, Bool.true_and, Bool.and_false, Bool.false_and, Bool.not_true, Bool.not_false, Bool.or_true, Bool.true_or, Bool.or_false, Bool.false_or]
          replace B : Bu w no w35 [.ow kF A1 nfe C1 35 ((rnT wd hi wr Xsp Xls (Xfe, Xfx, Xfy) (Int.toNat m)).1), .ow kF A2 nfx C2 35 ((rnT wd hi wr Xsp Xls (Xfe, Xfx, Xfy) (Int.toNat m)).2.1), .ow kF A3 nfy C3 35 ((rnT wd hi wr Xsp Xls (Xfe, Xfx, Xfy) (Int.toNat m)).2.2), .ow kF (some ⟨b19, 0, none⟩) ((wd * hi).toNat) ((((nfe : Nat) : Int)).toNat) 35 (smT wd hi wr Xsp Xls (Xfe, Xfx, Xfy) (wd * hi) (List.replicate (wd * hi).toNat 0) (Int.toNat m)), .blk b30 [.slice A1 nfe C1, .slice A2 nfx C2, .slice A3 nfy C3] 29, .blk b4 [.slice afe nfe cfe, .slice afx nfx cfx, .slice afy nfy cfy] 29, .blk b1 [.int .i64 wd, .int .i64 hi, .bool wr, .slice asp nsp csp, .slice als nls cls] 26, .rd kF asp nsp Xsp, .rd kF als nls Xls, .rd kF afe nfe Xfe, .rd kF afx nfx Xfx, .rd kF afy nfy Xfy] := B.castX 3 rfl (by omega) (congrArg (fun q => smT wd hi wr Xsp Xls (Xfe, Xfx, Xfy) (wd * hi) (List.replicate q 0) (Int.toNat m)) (by omega))
          exact .inl ⟨hcond, ⟨_, _, (by rw [(show (((nfe : Nat) : Int)).toNat = (wd * hi).toNat from (by omega))]), B.give [3] rfl rfl rfl⟩⟩
    · obtain rfl : v15 = .bool false := hv16.trans (congrArg Value.bool (Bool.eq_false_iff.2 c17))
      refine s_y (v := .bool true) rfl (y_not rfl rfl) ?_
      refine s_y (v := .bool true) rfl (y_pick_f rfl rfl) ?_
      refine s_nil ?_
      refine W_if_t (by decide) rfl ?_
      refine W_seq ?_
      refine W_region (by kernel_rfl) ?_
      refine s_y (v := .slice none 0 0) rfl (y_assign rfl) ?_
      refine s_y (v := .bool false) rfl (y_assign rfl) ?_
      refine s_nil ?_
      refine W_ret ?_
      refine ret2 (v1 := .slice none 0 0) (v2 := .bool false) rfl rfl rfl rfl rfl ⟨_, rfl, ?_⟩
      exact .inr ⟨by simp only [runB, c11, (Bool.eq_false_iff.2 c17), Bool.and_true, Bool.true_and, Bool.and_false, Bool.false_and, Bool.not_true, Bool.not_false, Bool.or_true, Bool.true_or, Bool.or_false, Bool.false_or], rfl, B.ext⟩
  · obtain rfl : v9 = .bool false := hv10.trans (congrArg Value.bool (Bool.eq_false_iff.2 c11))
    refine s_y (v := .bool true) rfl (y_not rfl rfl) ?_
    refine s_y (v := .bool true) rfl (y_move rfl) ?_
    refine s_skip rfl ?_
    refine s_skip rfl ?_
    refine s_skip rfl ?_
    refine s_y (v := .bool true) rfl (y_pick_t rfl rfl) ?_
    refine s_nil ?_
    refine W_if_t (by decide) rfl ?_
    refine W_seq ?_
    refine W_region (by kernel_rfl) ?_
    refine s_y (v := .slice none 0 0) rfl (y_assign rfl) ?_
    refine s_y (v := .bool false) rfl (y_assign rfl) ?_
    refine s_nil ?_
    refine W_ret ?_
    refine ret2 (v1 := .slice none 0 0) (v2 := .bool false) rfl rfl rfl rfl rfl ⟨_, rfl, ?_⟩
    exact .inr ⟨by simp only [runB, (Bool.eq_false_iff.2 c11), Bool.and_true, Bool.true_and, Bool.and_false, Bool.false_and, Bool.not_true, Bool.not_false, Bool.or_true, Bool.true_or, Bool.or_false, Bool.false_or], rfl, B.ext⟩
end Go.Proofs.Ytmcldploldaceaa
