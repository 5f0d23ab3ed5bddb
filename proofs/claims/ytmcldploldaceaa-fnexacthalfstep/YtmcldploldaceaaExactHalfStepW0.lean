/- Walks: what the functions under FnExactHalfStep do (part 1). Printed by a program of this claim's author. -/
import Derived.Test.YtmcldploldaceaaBw1
set_option linter.unusedSimpArgs false
set_option linter.unusedVariables false
open Go.Wv
namespace Go.Proofs.Ytmcldploldaceaa
open Go.Proofs
namespace T94
theorem mx : Try.prog.follows .mixedOrders = true := by kernel_rfl
theorem fn_104 : fnB Try.prog 104 = true := by kernel_rfl
theorem fn_105 : fnB Try.prog 105 = true := by kernel_rfl
end T94
set_option maxRecDepth 100000 in
set_option maxHeartbeats 4000000 in
theorem c_s_l03Both {b : Nat} {o : Nat} {wd : Int} {hi : Int} {wr : Bool} {asp : Option Addr} {nsp : Nat} {csp : Nat} {Xsp : List Nat} {als : Option Addr} {nls : Nat} {cls : Nat} {Xls : List Nat} {b2 : Nat} {o2 : Nat} {afe : Option Addr} {nfe : Nat} {cfe : Nat} {Xfe : List Nat} {afx : Option Addr} {nfx : Nat} {cfx : Nat} {Xfx : List Nat} {afy : Option Addr} {nfy : Nat} {cfy : Nat} {Xfy : List Nat} {w : World} (qsp : Rd w kF asp nsp Xsp) (qls : Rd w kF als nls Xls) (Pb : Sl w (some ⟨b, o, none⟩) [.int .i64 wd, .int .i64 hi, .bool wr, .slice asp nsp csp, .slice als nls cls]) (qfe : Rd w kF afe nfe Xfe) (qfx : Rd w kF afx nfx Xfx) (qfy : Rd w kF afy nfy Xfy) (Pb2 : Sl w (some ⟨b2, o2, none⟩) [.slice afe nfe cfe, .slice afx nfx cfx, .slice afy nfy cfy]) (hbsp : nsp ≤ 9223372036854775806) (hbls : nls ≤ 9223372036854775806) (hbfe : nfe ≤ 9223372036854775806) (hbfx : nfx ≤ 9223372036854775806) (hbfy : nfy ≤ 9223372036854775806) :
    Calls Try.prog 94 #[.pointer (some ⟨b, o, none⟩), .pointer (some ⟨b2, o2, none⟩)] w (Rt fun v w' => v = .bool (fieldB wd hi wr Xsp Xls Xfe Xfx Xfy) ∧ Ext0 w w') := by
  have hlsp := qsp.len
  have hlls := qls.len
  have hlfe := qfe.len
  have hlfx := qfx.len
  have hlfy := qfy.len
  have B : Bu w no w [.rd kF asp nsp Xsp, .rd kF als nls Xls, .sl (some ⟨b, o, none⟩) [.int .i64 wd, .int .i64 hi, .bool wr, .slice asp nsp csp, .slice als nls cls], .rd kF afe nfe Xfe, .rd kF afx nfx Xfx, .rd kF afy nfy Xfy, .sl (some ⟨b2, o2, none⟩) [.slice afe nfe cfe, .slice afx nfx cfx, .slice afy nfy cfy]] := Bu.ro (All.cons qsp (All.cons qls (All.cons Pb (All.cons qfe (All.cons qfx (All.cons qfy (All.cons Pb2 All.nil))))))) rfl
  refine calls_W (n := 12) Try.func94 rfl rfl (Nat.le_of_ble_eq_true rfl) ?_
  refine W_seq ?_
  refine W_region (by kernel_rfl) ?_
  refine s_y (v := .bool false) rfl (y_assign rfl) ?_
  refine s_nil ?_
  refine W_seq ?_
  refine W_region (by kernel_rfl) ?_
  refine s_y (v := .pointer (some ⟨b, o, none⟩)) rfl (y_move rfl) ?_
  refine s_k rfl (k_call T94.fn_104 (c_s_l02Is (B.r 0 rfl) (B.r 1 rfl) (B.s 2 rfl) (by omega) (by omega)) rfl ?_)
  rintro v3 w1 ⟨hv4, e2⟩
  replace B := B.ext0 e2
  clear e2
  by_cases c5 : validS wd hi Xsp Xls = true
  · have hb6 := validS_b c5
    obtain rfl : v3 = .bool true := hv4.trans (congrArg Value.bool c5)
    refine s_y (v := .bool true) rfl (y_move rfl) ?_
    refine s_y (v := .pointer (some ⟨b, o, none⟩)) rfl (y_move rfl) ?_
    refine s_y (v := .pointer (some ⟨b2, o2, none⟩)) rfl (y_move rfl) ?_
    refine s_k rfl (k_call T94.fn_105 (c_s_l02Fits (B.s 2 rfl) (B.r 3 rfl) (B.r 4 rfl) (B.r 5 rfl) (B.s 6 rfl) (by omega) (by omega) (by omega) (by omega) (by omega) (by omega) (by omega)) rfl ?_)
    rintro v9 w7 ⟨hv10, e8⟩
    replace B := B.ext0 e8
    clear e8
    by_cases c11 : fitsB wd hi wr Xfe Xfx Xfy = true
    · have hb12 := fitsB_b c11
      obtain rfl : v9 = .bool true := hv10.trans (congrArg Value.bool c11)
      refine s_y (v := .bool true) rfl (y_pick_t rfl rfl) ?_
      refine s_y (v := .bool true) rfl (y_assign rfl) ?_
      refine s_nil ?_
      refine W_ret ?_
      refine ret1 (v := .bool true) rfl rfl rfl ⟨_, rfl, ?_⟩
      exact ⟨congrArg Value.bool (by simp only [fieldB, c5, c11, Bool.and_true, Bool.true_and, Bool.and_false, Bool.false_and, Bool.not_true, Bool.not_false, Bool.or_true, Bool.true_or, Bool.or_false, Bool.false_or]), B.ext⟩
    · obtain rfl : v9 = .bool false := hv10.trans (congrArg Value.bool (Bool.eq_false_iff.2 c11))
      refine s_y (v := .bool false) rfl (y_pick_t rfl rfl) ?_
      refine s_y (v := .bool false) rfl (y_assign rfl) ?_
      refine s_nil ?_
      refine W_ret ?_
      refine ret1 (v := .bool false) rfl rfl rfl ⟨_, rfl, ?_⟩
      exact ⟨congrArg Value.bool (by simp only [fieldB, c5, (Bool.eq_false_iff.2 c11), Bool.and_true, Bool.true_and, Bool.and_false, Bool.false_and, Bool.not_true, Bool.not_false, Bool.or_true, Bool.true_or, Bool.or_false, Bool.false_or]), B.ext⟩
  · obtain rfl : v3 = .bool false := hv4.trans (congrArg Value.bool (Bool.eq_false_iff.2 c5))
    refine s_y (v := .bool false) rfl (y_move rfl) ?_
    refine s_skip rfl ?_
    refine s_skip rfl ?_
    refine s_skip rfl ?_
    refine s_y (v := .bool false) rfl (y_pick_f rfl rfl) ?_
    refine s_y (v := .bool false) rfl (y_assign rfl) ?_
    refine s_nil ?_
    refine W_ret ?_
    refine ret1 (v := .bool false) rfl rfl rfl ⟨_, rfl, ?_⟩
    exact ⟨congrArg Value.bool (by simp only [fieldB, (Bool.eq_false_iff.2 c5), Bool.and_true, Bool.true_and, Bool.and_false, Bool.false_and, Bool.not_true, Bool.not_false, Bool.or_true, Bool.true_or, Bool.or_false, Bool.false_or]), B.ext⟩
namespace T114
theorem mx : Try.prog.follows .mixedOrders = true := by kernel_rfl
theorem agg_29_3 : aggB Try.prog 29 3 = true := by kernel_rfl
theorem fld_29_0_0 : fldB Try.prog 29 0 0 = true := by kernel_rfl
theorem fld_29_1_1 : fldB Try.prog 29 1 1 = true := by kernel_rfl
theorem fld_29_2_2 : fldB Try.prog 29 2 2 = true := by kernel_rfl
theorem one_24 : oneB Try.prog 24 = true := by kernel_rfl
theorem slt_24 : SlT Try.prog 24 35 1 4 (.float .f32 0) := ⟨by kernel_rfl, by kernel_rfl, rfl, by decide⟩
theorem sz_24_1 : szB Try.prog 24 1 = true := by kernel_rfl
theorem sz_29_3 : szB Try.prog 29 3 = true := by kernel_rfl
theorem zero_29 : zeroB Try.prog 29 (.agg #[.slice none 0 0, .slice none 0 0, .slice none 0 0]) := by unfold zeroB; kernel_rfl
end T114
set_option maxRecDepth 100000 in
set_option maxHeartbeats 4000000 in
theorem c_s_l02Own {b : Nat} {o : Nat} {afe : Option Addr} {nfe : Nat} {cfe : Nat} {Xfe : List Nat} {afx : Option Addr} {nfx : Nat} {cfx : Nat} {Xfx : List Nat} {afy : Option Addr} {nfy : Nat} {cfy : Nat} {Xfy : List Nat} {w : World} (qfe : Rd w kF afe nfe Xfe) (qfx : Rd w kF afx nfx Xfx) (qfy : Rd w kF afy nfy Xfy) (Pb : Sl w (some ⟨b, o, none⟩) [.slice afe nfe cfe, .slice afx nfx cfx, .slice afy nfy cfy]) (b1 : nfe ≤ 1048576) (b2 : nfx ≤ 1048576) (b3 : nfy ≤ 1048576) :
    Calls Try.prog 114 #[.pointer (some ⟨b, o, none⟩)] w (Rt fun v w' => ∃ (a1 : Option Addr) (c1 : Nat) (a2 : Option Addr) (c2 : Nat) (a3 : Option Addr) (c3 : Nat), v = .agg #[.slice a1 nfe c1, .slice a2 nfx c2, .slice a3 nfy c3] ∧ New w w' [.ow kF a1 nfe c1 35 Xfe, .ow kF a2 nfx c2 35 Xfx, .ow kF a3 nfy c3 35 Xfy]) := by
  have hlfe := qfe.len
  have hlfx := qfx.len
  have hlfy := qfy.len
  have B : Bu w no w [.rd kF afe nfe Xfe, .rd kF afx nfx Xfx, .rd kF afy nfy Xfy, .sl (some ⟨b, o, none⟩) [.slice afe nfe cfe, .slice afx nfx cfx, .slice afy nfy cfy]] := Bu.ro (All.cons qfe (All.cons qfx (All.cons qfy (All.cons Pb All.nil)))) rfl
  refine calls_W (n := 26) Try.func114 rfl rfl (Nat.le_of_ble_eq_true rfl) ?_
  refine W_seq ?_
  refine W_region (by kernel_rfl) ?_
  refine s_k rfl (k_allocN (z := (.agg #[.slice none 0 0, .slice none 0 0, .slice none 0 0])) (cs := [.slice none 0 0, .slice none 0 0, .slice none 0 0]) T114.zero_29 rfl (fun b1 w2 hN3 => ?_))
  replace B := B.new1 hN3
  clear hN3
  refine s_nil ?_
  refine W_seq ?_
  refine W_region (by kernel_rfl) ?_
  refine s_k rfl (k_bsliceO (k := kF) (n := 0) (cells := #[]) (X := []) T114.slt_24 (by decide) (by first | rfl | kernel_rfl) (rfl : Reps kF [] []) rfl (fun b4 w5 hN6 => ?_))
  replace B := B.new1 hN6
  clear hN6
  refine s_y (v := .pointer (some ⟨b, o, none⟩)) rfl (y_move rfl) ?_
  refine s_y (v := .pointer (some ⟨b, o, none⟩)) rfl (y_nil rfl) ?_
  refine s_y (v := .pointer (some ⟨b, o, none⟩)) rfl (y_fld (o := o + 0) T114.fld_29_0_0 rfl) ?_
  refine s_y (v := .slice afe nfe cfe) rfl (y_load T114.one_24 rfl ((B.s 5 rfl).cell (j := 0) rfl)) ?_
  refine s_k rfl (k_appO (k := kF) T114.slt_24 rfl rfl rfl (B.o 0 rfl) (B.r 2 rfl) (by omega) (by unfold maxLen; omega) (fun a7 c8 w9 hU10 => ?_))
  replace B : Bu w no w9 [.ow kF a7 (0 + nfe) c8 35 (([] : List Nat) ++ Xfe), .blk b1 [.slice none 0 0, .slice none 0 0, .slice none 0 0] 29, .rd kF afe nfe Xfe, .rd kF afx nfx Xfx, .rd kF afy nfy Xfy, .sl (some ⟨b, o, none⟩) [.slice afe nfe cfe, .slice afx nfx cfx, .slice afy nfy cfy]] := B.upd [0] rfl hU10
  clear hU10
  refine s_y (v := .agg #[.slice a7 (0 + nfe) c8, .slice none 0 0, .slice none 0 0]) rfl (y_build (cells := #[.slice a7 (0 + nfe) c8, .slice none 0 0, .slice none 0 0]) (by kernel_rfl)) ?_
  refine s_k rfl (k_allocN (z := (.agg #[.slice none 0 0, .slice none 0 0, .slice none 0 0])) (cs := [.slice none 0 0, .slice none 0 0, .slice none 0 0]) T114.zero_29 rfl (fun b11 w12 hN13 => ?_))
  replace B := B.new1 hN13
  clear hN13
  refine s_k0 rfl (k_stB (v := .agg #[.slice a7 (0 + nfe) c8, .slice none 0 0, .slice none 0 0]) (n := 3) (cs' := [.slice a7 (0 + nfe) c8, .slice none 0 0, .slice none 0 0]) T114.sz_29_3 rfl rfl rfl (B.b 0 rfl) (by simp [Value.cells, Value.oneCell']) (Nat.le_of_ble_eq_true rfl) rfl (fun w14 hU15 => ?_))
  replace B : Bu w no w14 [.blk b11 [.slice a7 (0 + nfe) c8, .slice none 0 0, .slice none 0 0] 29, .ow kF a7 (0 + nfe) c8 35 (([] : List Nat) ++ Xfe), .blk b1 [.slice none 0 0, .slice none 0 0, .slice none 0 0] 29, .rd kF afe nfe Xfe, .rd kF afx nfx Xfx, .rd kF afy nfy Xfy, .sl (some ⟨b, o, none⟩) [.slice afe nfe cfe, .slice afx nfx cfx, .slice afy nfy cfy]] := B.upd [0] rfl hU15
  clear hU15
  refine s_nil ?_
  refine W_seq ?_
  refine W_region (by kernel_rfl) ?_
  refine s_k rfl (k_bsliceO (k := kF) (n := 0) (cells := #[]) (X := []) T114.slt_24 (by decide) (by first | rfl | kernel_rfl) (rfl : Reps kF [] []) rfl (fun b16 w17 hN18 => ?_))
  replace B := B.new1 hN18
  clear hN18
  refine s_y (v := .pointer (some ⟨b, o, none⟩)) rfl (y_move rfl) ?_
  refine s_y (v := .pointer (some ⟨b, o, none⟩)) rfl (y_nil rfl) ?_
  refine s_y (v := .pointer (some ⟨b, o + 1, none⟩)) rfl (y_fld (o := o + 0) T114.fld_29_1_1 rfl) ?_
  refine s_y (v := .slice afx nfx cfx) rfl (y_load T114.one_24 rfl ((B.s 7 rfl).cell (j := 1) rfl)) ?_
  refine s_k rfl (k_appO (k := kF) T114.slt_24 rfl rfl rfl (B.o 0 rfl) (B.r 5 rfl) (by omega) (by unfold maxLen; omega) (fun a19 c20 w21 hU22 => ?_))
  replace B : Bu w no w21 [.ow kF a19 (0 + nfx) c20 35 (([] : List Nat) ++ Xfx), .blk b11 [.slice a7 (0 + nfe) c8, .slice none 0 0, .slice none 0 0] 29, .ow kF a7 (0 + nfe) c8 35 (([] : List Nat) ++ Xfe), .blk b1 [.slice none 0 0, .slice none 0 0, .slice none 0 0] 29, .rd kF afe nfe Xfe, .rd kF afx nfx Xfx, .rd kF afy nfy Xfy, .sl (some ⟨b, o, none⟩) [.slice afe nfe cfe, .slice afx nfx cfx, .slice afy nfy cfy]] := B.upd [0] rfl hU22
  clear hU22
  refine s_y (v := .pointer (some ⟨b11, 1, none⟩)) rfl (y_fld (o := 0) T114.fld_29_1_1 rfl) ?_
  refine s_k0 rfl (k_stB (v := .slice a19 (0 + nfx) c20) (n := 1) (cs' := [.slice a7 (0 + nfe) c8, .slice a19 (0 + nfx) c20, .slice none 0 0]) T114.sz_24_1 rfl rfl rfl (B.b 1 rfl) (by simp [Value.cells, Value.oneCell']) (Nat.le_of_ble_eq_true rfl) rfl (fun w23 hU24 => ?_))
  replace B : Bu w no w23 [.blk b11 [.slice a7 (0 + nfe) c8, .slice a19 (0 + nfx) c20, .slice none 0 0] 29, .ow kF a19 (0 + nfx) c20 35 (([] : List Nat) ++ Xfx), .ow kF a7 (0 + nfe) c8 35 (([] : List Nat) ++ Xfe), .blk b1 [.slice none 0 0, .slice none 0 0, .slice none 0 0] 29, .rd kF afe nfe Xfe, .rd kF afx nfx Xfx, .rd kF afy nfy Xfy, .sl (some ⟨b, o, none⟩) [.slice afe nfe cfe, .slice afx nfx cfx, .slice afy nfy cfy]] := B.upd [1] rfl hU24
  clear hU24
  refine s_nil ?_
  refine W_seq ?_
  refine W_region (by kernel_rfl) ?_
  refine s_k rfl (k_bsliceO (k := kF) (n := 0) (cells := #[]) (X := []) T114.slt_24 (by decide) (by first | rfl | kernel_rfl) (rfl : Reps kF [] []) rfl (fun b25 w26 hN27 => ?_))
  replace B := B.new1 hN27
  clear hN27
  refine s_y (v := .pointer (some ⟨b, o, none⟩)) rfl (y_move rfl) ?_
  refine s_y (v := .pointer (some ⟨b, o, none⟩)) rfl (y_nil rfl) ?_
  refine s_y (v := .pointer (some ⟨b, o + 2, none⟩)) rfl (y_fld (o := o + 0) T114.fld_29_2_2 rfl) ?_
  refine s_y (v := .slice afy nfy cfy) rfl (y_load T114.one_24 rfl ((B.s 8 rfl).cell (j := 2) rfl)) ?_
  refine s_k rfl (k_appO (k := kF) T114.slt_24 rfl rfl rfl (B.o 0 rfl) (B.r 7 rfl) (by omega) (by unfold maxLen; omega) (fun a28 c29 w30 hU31 => ?_))
  replace B : Bu w no w30 [.ow kF a28 (0 + nfy) c29 35 (([] : List Nat) ++ Xfy), .blk b11 [.slice a7 (0 + nfe) c8, .slice a19 (0 + nfx) c20, .slice none 0 0] 29, .ow kF a19 (0 + nfx) c20 35 (([] : List Nat) ++ Xfx), .ow kF a7 (0 + nfe) c8 35 (([] : List Nat) ++ Xfe), .blk b1 [.slice none 0 0, .slice none 0 0, .slice none 0 0] 29, .rd kF afe nfe Xfe, .rd kF afx nfx Xfx, .rd kF afy nfy Xfy, .sl (some ⟨b, o, none⟩) [.slice afe nfe cfe, .slice afx nfx cfx, .slice afy nfy cfy]] := B.upd [0] rfl hU31
  clear hU31
  refine s_y (v := .pointer (some ⟨b11, 2, none⟩)) rfl (y_fld (o := 0) T114.fld_29_2_2 rfl) ?_
  refine s_k0 rfl (k_stB (v := .slice a28 (0 + nfy) c29) (n := 1) (cs' := [.slice a7 (0 + nfe) c8, .slice a19 (0 + nfx) c20, .slice a28 (0 + nfy) c29]) T114.sz_24_1 rfl rfl rfl (B.b 1 rfl) (by simp [Value.cells, Value.oneCell']) (Nat.le_of_ble_eq_true rfl) rfl (fun w32 hU33 => ?_))
  replace B : Bu w no w32 [.blk b11 [.slice a7 (0 + nfe) c8, .slice a19 (0 + nfx) c20, .slice a28 (0 + nfy) c29] 29, .ow kF a28 (0 + nfy) c29 35 (([] : List Nat) ++ Xfy), .ow kF a19 (0 + nfx) c20 35 (([] : List Nat) ++ Xfx), .ow kF a7 (0 + nfe) c8 35 (([] : List Nat) ++ Xfe), .blk b1 [.slice none 0 0, .slice none 0 0, .slice none 0 0] 29, .rd kF afe nfe Xfe, .rd kF afx nfx Xfx, .rd kF afy nfy Xfy, .sl (some ⟨b, o, none⟩) [.slice afe nfe cfe, .slice afx nfx cfx, .slice afy nfy cfy]] := B.upd [1] rfl hU33
  clear hU33
  refine s_nil ?_
  refine W_seq ?_
  refine W_region (by kernel_rfl) ?_
  refine s_y (v := .agg #[.slice a7 (0 + nfe) c8, .slice a19 (0 + nfx) c20, .slice a28 (0 + nfy) c29]) rfl (y_loadn (b := b11) (o := 0) (vs := [.slice a7 (0 + nfe) c8, .slice a19 (0 + nfx) c20, .slice a28 (0 + nfy) c29]) T114.agg_29_3 rfl rfl ((B.b 0 rfl).cells (o := 0) rfl)) ?_
  refine s_k0 rfl (k_stB (v := .agg #[.slice a7 (0 + nfe) c8, .slice a19 (0 + nfx) c20, .slice a28 (0 + nfy) c29]) (n := 3) (cs' := [.slice a7 (0 + nfe) c8, .slice a19 (0 + nfx) c20, .slice a28 (0 + nfy) c29]) T114.sz_29_3 rfl rfl rfl (B.b 4 rfl) (by simp [Value.cells, Value.oneCell']) (Nat.le_of_ble_eq_true rfl) rfl (fun w34 hU35 => ?_))
  replace B : Bu w no w34 [.blk b1 [.slice a7 (0 + nfe) c8, .slice a19 (0 + nfx) c20, .slice a28 (0 + nfy) c29] 29, .blk b11 [.slice a7 (0 + nfe) c8, .slice a19 (0 + nfx) c20, .slice a28 (0 + nfy) c29] 29, .ow kF a28 (0 + nfy) c29 35 (([] : List Nat) ++ Xfy), .ow kF a19 (0 + nfx) c20 35 (([] : List Nat) ++ Xfx), .ow kF a7 (0 + nfe) c8 35 (([] : List Nat) ++ Xfe), .rd kF afe nfe Xfe, .rd kF afx nfx Xfx, .rd kF afy nfy Xfy, .sl (some ⟨b, o, none⟩) [.slice afe nfe cfe, .slice afx nfx cfx, .slice afy nfy cfy]] := B.upd [4] rfl hU35
  clear hU35
  refine s_nil ?_
  refine W_ret ?_
  refine ret1 (v := .agg #[.slice a7 (0 + nfe) c8, .slice a19 (0 + nfx) c20, .slice a28 (0 + nfy) c29]) rfl rfl ⟨_, [.slice a7 (0 + nfe) c8, .slice a19 (0 + nfx) c20, .slice a28 (0 + nfy) c29], _, rfl, (B.b 0 rfl), T114.agg_29_3, rfl⟩ ⟨_, rfl, ?_⟩
  replace B : Bu w no w34 [.blk b1 [.slice a7 (0 + nfe) c8, .slice a19 (0 + nfx) c20, .slice a28 (0 + nfy) c29] 29, .blk b11 [.slice a7 (0 + nfe) c8, .slice a19 (0 + nfx) c20, .slice a28 (0 + nfy) c29] 29, .ow kF a28 (0 + nfy) c29 35 (([] : List Nat) ++ Xfy), .ow kF a19 (0 + nfx) c20 35 (([] : List Nat) ++ Xfx), .ow kF a7 nfe c8 35 Xfe, .rd kF afe nfe Xfe, .rd kF afx nfx Xfx, .rd kF afy nfy Xfy, .sl (some ⟨b, o, none⟩) [.slice afe nfe cfe, .slice afx nfx cfx, .slice afy nfy cfy]] := B.castX 4 rfl (by omega) rfl
  replace B : Bu w no w34 [.blk b1 [.slice a7 (0 + nfe) c8, .slice a19 (0 + nfx) c20, .slice a28 (0 + nfy) c29] 29, .blk b11 [.slice a7 (0 + nfe) c8, .slice a19 (0 + nfx) c20, .slice a28 (0 + nfy) c29] 29, .ow kF a28 (0 + nfy) c29 35 (([] : List Nat) ++ Xfy), .ow kF a19 nfx c20 35 Xfx, .ow kF a7 nfe c8 35 Xfe, .rd kF afe nfe Xfe, .rd kF afx nfx Xfx, .rd kF afy nfy Xfy, .sl (some ⟨b, o, none⟩) [.slice afe nfe cfe, .slice afx nfx cfx, .slice afy nfy cfy]] := B.castX 3 rfl (by omega) rfl
  replace B : Bu w no w34 [.blk b1 [.slice a7 (0 + nfe) c8, .slice a19 (0 + nfx) c20, .slice a28 (0 + nfy) c29] 29, .blk b11 [.slice a7 (0 + nfe) c8, .slice a19 (0 + nfx) c20, .slice a28 (0 + nfy) c29] 29, .ow kF a28 nfy c29 35 Xfy, .ow kF a19 nfx c20 35 Xfx, .ow kF a7 nfe c8 35 Xfe, .rd kF afe nfe Xfe, .rd kF afx nfx Xfx, .rd kF afy nfy Xfy, .sl (some ⟨b, o, none⟩) [.slice afe nfe cfe, .slice afx nfx cfx, .slice afy nfy cfy]] := B.castX 2 rfl (by omega) rfl
  exact ⟨_, _, _, _, _, _, (by rw [(show 0 + nfe = nfe from (by omega)), (show 0 + nfx = nfx from (by omega)), (show 0 + nfy = nfy from (by omega))]), B.give [4, 3, 2] rfl rfl rfl⟩
namespace T117
theorem mx : Try.prog.follows .mixedOrders = true := by kernel_rfl
theorem fld_26_0_0 : fldB Try.prog 26 0 0 = true := by kernel_rfl
theorem fld_26_1_1 : fldB Try.prog 26 1 1 = true := by kernel_rfl
theorem one_2 : oneB Try.prog 2 = true := by kernel_rfl
end T117
set_option maxRecDepth 100000 in
set_option maxHeartbeats 4000000 in
theorem c_s_l03At {b : Nat} {o : Nat} {wd : Int} {hi : Int} {wr : Bool} {asp : Option Addr} {nsp : Nat} {csp : Nat} {als : Option Addr} {nls : Nat} {cls : Nat} {x : Int} {y : Int} {w : World} (Pb : Sl w (some ⟨b, o, none⟩) [.int .i64 wd, .int .i64 hi, .bool wr, .slice asp nsp csp, .slice als nls cls]) (h1 : 3 ≤ wd) (h2 : wd ≤ 16) (h3 : 3 ≤ hi) (h4 : hi ≤ 16) (h5 : -wd ≤ x) (h6 : x ≤ 1000000) (h7 : -hi ≤ y) (h8 : y ≤ 1000000) :
    Calls Try.prog 117 #[.pointer (some ⟨b, o, none⟩), .int .i64 x, .int .i64 y] w (Rt fun v w' => v = .int .i64 (atI wd hi x y) ∧ Ext0 w w') := by
  have B : Bu w no w [.sl (some ⟨b, o, none⟩) [.int .i64 wd, .int .i64 hi, .bool wr, .slice asp nsp csp, .slice als nls cls]] := Bu.ro (All.cons Pb All.nil) rfl
  refine calls_W (n := 35) Try.func117 rfl rfl (Nat.le_of_ble_eq_true rfl) ?_
  refine W_seq ?_
  refine W_region (by kernel_rfl) ?_
  refine s_y (v := .int .i64 0) rfl (y_assign rfl) ?_
  refine s_nil ?_
  refine W_seq ?_
  have B0_5 := B
  refine W_draw (no) T117.mx (by kernel_rfl) (fun w3 e4 => ?_)
  have R6 := Ext.refl (no) w
  replace R6 := R6.trans (Ext0.any e4)
  replace B := B.ext0 e4
  clear e4
  refine m_y (v := .int .i64 x) 0 rfl (by kernel_rfl) rfl rfl (fun w' e' => y_move rfl) ?_
  refine m_y (v := .pointer (some ⟨b, o, none⟩)) 1 rfl (by kernel_rfl) rfl rfl (fun w' e' => y_move rfl) ?_
  refine m_y (v := .pointer (some ⟨b, o, none⟩)) 2 rfl (by kernel_rfl) rfl rfl (fun w' e' => y_nil rfl) ?_
  refine m_y (v := .pointer (some ⟨b, o, none⟩)) 3 rfl (by kernel_rfl) rfl rfl (fun w' e' => y_fld (o := o + 0) T117.fld_26_0_0 rfl) ?_
  refine m_y (v := .int .i64 wd) 4 rfl (by kernel_rfl) rfl rfl (fun w' e' => y_load T117.one_2 rfl (((B0_5.s 0 rfl).ext0 e').cell (j := 0) rfl)) ?_
  refine m_y (v := .int .i64 (x + wd)) 5 rfl (by kernel_rfl) rfl rfl (fun w' e' => y_add rfl rfl rfl (by omega)) ?_
  refine m_y (v := .pointer (some ⟨b, o, none⟩)) 6 rfl (by kernel_rfl) rfl rfl (fun w' e' => y_move rfl) ?_
  refine m_y (v := .pointer (some ⟨b, o, none⟩)) 7 rfl (by kernel_rfl) rfl rfl (fun w' e' => y_nil rfl) ?_
  refine m_y (v := .pointer (some ⟨b, o, none⟩)) 8 rfl (by kernel_rfl) rfl rfl (fun w' e' => y_fld (o := o + 0) T117.fld_26_0_0 rfl) ?_
  refine m_y (v := .int .i64 wd) 9 rfl (by kernel_rfl) rfl rfl (fun w' e' => y_load T117.one_2 rfl (((B0_5.s 0 rfl).ext0 e').cell (j := 0) rfl)) ?_
  have hm7 := rem_b (x := x + wd) (m := wd) (by omega) (by omega)
  refine m_y (v := .int .i64 ((x + wd) % wd)) 10 rfl (by kernel_rfl) rfl rfl (fun w' e' => y_rem rfl rfl (by omega) (by omega) rfl) ?_
  refine m_y (v := .pointer (some ⟨b, o, none⟩)) 11 rfl (by kernel_rfl) rfl rfl (fun w' e' => y_move rfl) ?_
  refine m_y (v := .pointer (some ⟨b, o, none⟩)) 12 rfl (by kernel_rfl) rfl rfl (fun w' e' => y_nil rfl) ?_
  refine m_y (v := .pointer (some ⟨b, o, none⟩)) 13 rfl (by kernel_rfl) rfl rfl (fun w' e' => y_fld (o := o + 0) T117.fld_26_0_0 rfl) ?_
  refine m_y (v := .int .i64 wd) 14 rfl (by kernel_rfl) rfl rfl (fun w' e' => y_load T117.one_2 rfl (((B0_5.s 0 rfl).ext0 e').cell (j := 0) rfl)) ?_
  refine m_y (v := .int .i64 y) 15 rfl (by kernel_rfl) rfl rfl (fun w' e' => y_move rfl) ?_
  refine m_y (v := .pointer (some ⟨b, o, none⟩)) 16 rfl (by kernel_rfl) rfl rfl (fun w' e' => y_move rfl) ?_
  refine m_y (v := .pointer (some ⟨b, o, none⟩)) 17 rfl (by kernel_rfl) rfl rfl (fun w' e' => y_nil rfl) ?_
  refine m_y (v := .pointer (some ⟨b, o + 1, none⟩)) 18 rfl (by kernel_rfl) rfl rfl (fun w' e' => y_fld (o := o + 0) T117.fld_26_1_1 rfl) ?_
  refine m_y (v := .int .i64 hi) 19 rfl (by kernel_rfl) rfl rfl (fun w' e' => y_load T117.one_2 rfl (((B0_5.s 0 rfl).ext0 e').cell (j := 1) rfl)) ?_
  refine m_y (v := .int .i64 (y + hi)) 20 rfl (by kernel_rfl) rfl rfl (fun w' e' => y_add rfl rfl rfl (by omega)) ?_
  refine m_y (v := .pointer (some ⟨b, o, none⟩)) 21 rfl (by kernel_rfl) rfl rfl (fun w' e' => y_move rfl) ?_
  refine m_y (v := .pointer (some ⟨b, o, none⟩)) 22 rfl (by kernel_rfl) rfl rfl (fun w' e' => y_nil rfl) ?_
  refine m_y (v := .pointer (some ⟨b, o + 1, none⟩)) 23 rfl (by kernel_rfl) rfl rfl (fun w' e' => y_fld (o := o + 0) T117.fld_26_1_1 rfl) ?_
  refine m_y (v := .int .i64 hi) 24 rfl (by kernel_rfl) rfl rfl (fun w' e' => y_load T117.one_2 rfl (((B0_5.s 0 rfl).ext0 e').cell (j := 1) rfl)) ?_
  have hm8 := rem_b (x := y + hi) (m := hi) (by omega) (by omega)
  refine m_y (v := .int .i64 ((y + hi) % hi)) 25 rfl (by kernel_rfl) rfl rfl (fun w' e' => y_rem rfl rfl (by omega) (by omega) rfl) ?_
  have hm9 := mul_rem (a := wd) (x := y + hi) (m := hi) (by omega) (by omega) (by omega) (by omega)
  refine m_y (v := .int .i64 (wd * ((y + hi) % hi))) 26 rfl (by kernel_rfl) rfl rfl (fun w' e' => y_mul rfl rfl rfl (by omega)) ?_
  refine m_y (v := .int .i64 (((x + wd) % wd) + (wd * ((y + hi) % hi)))) 27 rfl (by kernel_rfl) rfl rfl (fun w' e' => y_add rfl rfl rfl (by omega)) ?_
  refine m_y (v := .int .i64 (((x + wd) % wd) + (wd * ((y + hi) % hi)))) 28 rfl (by kernel_rfl) rfl rfl (fun w' e' => y_assign rfl) ?_
  refine m_done (by kernel_rfl) (fun w10 e11 => ?_)
  replace B := B.ext0 e11
  clear e11
  clear B0_5 R6
  refine W_ret ?_
  refine ret1 (v := .int .i64 (((x + wd) % wd) + (wd * ((y + hi) % hi)))) rfl rfl rfl ⟨_, rfl, ?_⟩
  exact ⟨rfl, B.ext⟩
namespace T131
theorem mx : Try.prog.follows .mixedOrders = true := by kernel_rfl
theorem fld_26_1_1 : fldB Try.prog 26 1 1 = true := by kernel_rfl
theorem fld_26_2_2 : fldB Try.prog 26 2 2 = true := by kernel_rfl
theorem fld_29_0_0 : fldB Try.prog 29 0 0 = true := by kernel_rfl
theorem fld_29_1_1 : fldB Try.prog 29 1 1 = true := by kernel_rfl
theorem fn_117 : fnB Try.prog 117 = true := by kernel_rfl
theorem one_2 : oneB Try.prog 2 = true := by kernel_rfl
theorem one_24 : oneB Try.prog 24 = true := by kernel_rfl
theorem one_35 : oneB Try.prog 35 = true := by kernel_rfl
theorem one_4 : oneB Try.prog 4 = true := by kernel_rfl
theorem sl_24_35_1 : slB Try.prog 24 35 1 = true := by kernel_rfl
end T131
set_option maxRecDepth 100000 in
set_option maxHeartbeats 4000000 in
theorem c_s_l03HalfX {b : Nat} {o : Nat} {wd : Int} {hi : Int} {wr : Bool} {asp : Option Addr} {nsp : Nat} {csp : Nat} {als : Option Addr} {nls : Nat} {cls : Nat} {b2 : Nat} {o2 : Nat} {afe : Option Addr} {nfe : Nat} {cfe : Nat} {Xfe : List Nat} {afx : Option Addr} {nfx : Nat} {cfx : Nat} {Xfx : List Nat} {afy : Option Addr} {nfy : Nat} {cfy : Nat} {Xfy : List Nat} {x : Int} {y : Int} {w : World} (Pb : Sl w (some ⟨b, o, none⟩) [.int .i64 wd, .int .i64 hi, .bool wr, .slice asp nsp csp, .slice als nls cls]) (qfe : Rd w kF afe nfe Xfe) (qfx : Rd w kF afx nfx Xfx) (qfy : Rd w kF afy nfy Xfy) (Pb2 : Sl w (some ⟨b2, o2, none⟩) [.slice afe nfe cfe, .slice afx nfx cfx, .slice afy nfy cfy]) (h1 : 3 ≤ wd) (h2 : wd ≤ 16) (h3 : 3 ≤ hi) (h4 : hi ≤ 16) (gfe : (nfe : Int) = wd * hi) (gfx : (nfx : Int) = wd * hi) (gfy : (nfy : Int) = wd * hi) (p1 : 0 ≤ x) (p2 : x < wd) (p3 : 0 ≤ y) (p4 : y < hi) :
    Calls Try.prog 131 #[.pointer (some ⟨b, o, none⟩), .pointer (some ⟨b2, o2, none⟩), .int .i64 x, .int .i64 y] w (Rt fun v w' => (∃ r, v = .float .f32 r ∧ can .f32 r = hxF wd hi wr Xfe Xfx x y) ∧ Ext0 w w') := by
  have hlfe := qfe.len
  have hlfx := qfx.len
  have hlfy := qfy.len
  have B : Bu w no w [.sl (some ⟨b, o, none⟩) [.int .i64 wd, .int .i64 hi, .bool wr, .slice asp nsp csp, .slice als nls cls], .rd kF afe nfe Xfe, .rd kF afx nfx Xfx, .rd kF afy nfy Xfy, .sl (some ⟨b2, o2, none⟩) [.slice afe nfe cfe, .slice afx nfx cfx, .slice afy nfy cfy]] := Bu.ro (All.cons Pb (All.cons qfe (All.cons qfx (All.cons qfy (All.cons Pb2 All.nil))))) rfl
  refine calls_W (n := 63) Try.func131 rfl rfl (Nat.le_of_ble_eq_true rfl) ?_
  refine W_seq ?_
  refine W_region (by kernel_rfl) ?_
  refine s_y (v := .float .f32 0) rfl (y_assign rfl) ?_
  refine s_nil ?_
  refine W_seq ?_
  refine W_region (by kernel_rfl) ?_
  refine s_y (v := .pointer (some ⟨b, o, none⟩)) rfl (y_move rfl) ?_
  refine s_y (v := .int .i64 x) rfl (y_move rfl) ?_
  refine s_y (v := .int .i64 y) rfl (y_move rfl) ?_
  refine s_k rfl (k_call T131.fn_117 (c_s_l03At (B.s 0 rfl) (by omega) (by omega) (by omega) (by omega) (by omega) (by omega) (by omega) (by omega)) rfl ?_)
  rintro _ w1 ⟨rfl, e2⟩
  replace B := B.ext0 e2
  clear e2
  have hat3 := atI_b (wd := wd) (hi := hi) (x := x) (y := y) (by omega) (by omega)
  refine s_y (v := .int .i64 (atI wd hi x y)) rfl (y_assign rfl) ?_
  refine s_nil ?_
  refine W_seq ?_
  refine W_seq ?_
  refine W_region (by kernel_rfl) ?_
  refine s_y (v := .pointer (some ⟨b, o, none⟩)) rfl (y_move rfl) ?_
  refine s_y (v := .pointer (some ⟨b, o, none⟩)) rfl (y_nil rfl) ?_
  refine s_y (v := .pointer (some ⟨b, o + 2, none⟩)) rfl (y_fld (o := o + 0) T131.fld_26_2_2 rfl) ?_
  refine s_y (v := .bool wr) rfl (y_load T131.one_4 rfl ((B.s 0 rfl).cell (j := 2) rfl)) ?_
  refine s_y (v := .bool (!wr)) rfl (y_not rfl rfl) ?_
  refine s_y (v := .bool (!wr)) rfl (y_move rfl) ?_
  cases wr
  · refine s_y (v := .int .i64 y) rfl (y_move rfl) ?_
    refine s_y (v := .pointer (some ⟨b, o, none⟩)) rfl (y_move rfl) ?_
    refine s_y (v := .pointer (some ⟨b, o, none⟩)) rfl (y_nil rfl) ?_
    refine s_y (v := .pointer (some ⟨b, o + 1, none⟩)) rfl (y_fld (o := o + 0) T131.fld_26_1_1 rfl) ?_
    refine s_y (v := .int .i64 hi) rfl (y_load T131.one_2 rfl ((B.s 0 rfl).cell (j := 1) rfl)) ?_
    refine s_y (v := .int .i64 (hi - 1)) rfl (y_sub rfl rfl rfl (by omega)) ?_
    by_cases c4 : y = (hi - 1)
    · refine s_y (v := .bool true) rfl (y_eql rfl rfl (decide_eq_true c4)) ?_
      refine s_y (v := .bool true) rfl (y_pick_t rfl rfl) ?_
      refine s_nil ?_
      refine W_if_t (by decide) rfl ?_
      refine W_seq ?_
      refine W_region (by kernel_rfl) ?_
      refine s_y (v := .pointer (some ⟨b2, o2, none⟩)) rfl (y_move rfl) ?_
      refine s_y (v := .pointer (some ⟨b2, o2, none⟩)) rfl (y_nil rfl) ?_
      refine s_y (v := .pointer (some ⟨b2, o2 + 1, none⟩)) rfl (y_fld (o := o2 + 0) T131.fld_29_1_1 rfl) ?_
      refine s_y (v := .slice afx nfx cfx) rfl (y_load T131.one_24 rfl ((B.s 4 rfl).cell (j := 1) rfl)) ?_
      refine s_y (v := .int .i64 (atI wd hi x y)) rfl (y_move rfl) ?_
      refine s_y (v := .pointer (some (sat afx ((atI wd hi x y).toNat * 1)))) rfl (y_idx T131.sl_24_35_1 rfl rfl ((B.r 2 rfl).addr (by omega)) (by omega) (by omega)) ?_
      obtain ⟨r6, hr7, hR5⟩ := Rd.atF (B.r 2 rfl) (atI wd hi x y) (by omega) (by omega)
      refine s_y (v := .float .f32 r6) rfl (y_load T131.one_35 rfl (hR5.cell (i := 0) rfl)) ?_
      refine s_y (v := .float .f32 r6) rfl (y_assign rfl) ?_
      refine s_nil ?_
      refine W_ret ?_
      refine ret1 (v := .float .f32 r6) rfl rfl rfl ⟨_, rfl, ?_⟩
      have hcc : (false || decide (y < hi - 1)) = false := by first | rfl | (rw [Bool.false_or]; exact decide_eq_false (by omega))
      exact ⟨⟨_, rfl, hr7.trans (hx_no hcc)⟩, B.ext⟩
    · refine s_y (v := .bool false) rfl (y_eql rfl rfl (decide_eq_false c4)) ?_
      refine s_y (v := .bool false) rfl (y_pick_t rfl rfl) ?_
      refine s_nil ?_
      refine W_if_f (by decide) rfl ?_
      refine W_skip ?_
      refine W_seq ?_
      have B0_12 := B
      refine W_draw (no) T131.mx (by kernel_rfl) (fun w10 e11 => ?_)
      have R13 := Ext.refl (no) w1
      replace R13 := R13.trans (Ext0.any e11)
      replace B := B.ext0 e11
      clear e11
      refine m_y (v := .pointer (some ⟨b2, o2, none⟩)) 0 rfl (by kernel_rfl) rfl rfl (fun w' e' => y_move rfl) ?_
      refine m_y (v := .pointer (some ⟨b2, o2, none⟩)) 1 rfl (by kernel_rfl) rfl rfl (fun w' e' => y_nil rfl) ?_
      refine m_y (v := .pointer (some ⟨b2, o2 + 1, none⟩)) 2 rfl (by kernel_rfl) rfl rfl (fun w' e' => y_fld (o := o2 + 0) T131.fld_29_1_1 rfl) ?_
      refine m_y (v := .slice afx nfx cfx) 3 rfl (by kernel_rfl) rfl rfl (fun w' e' => y_load T131.one_24 rfl (((B0_12.s 4 rfl).ext0 e').cell (j := 1) rfl)) ?_
      refine m_y (v := .int .i64 (atI wd hi x y)) 4 rfl (by kernel_rfl) rfl rfl (fun w' e' => y_move rfl) ?_
      refine m_y (v := .pointer (some (sat afx ((atI wd hi x y).toNat * 1)))) 5 rfl (by kernel_rfl) rfl rfl (fun w' e' => y_idx T131.sl_24_35_1 rfl rfl ((B.r 2 rfl).addr (by omega)) (by omega) (by omega)) ?_
      obtain ⟨r15, hr16, hR14⟩ := Rd.atF (B0_12.r 2 rfl) (atI wd hi x y) (by omega) (by omega)
      refine m_y (v := .float .f32 r15) 6 rfl (by kernel_rfl) rfl rfl (fun w' e' => y_load T131.one_35 rfl ((hR14.ext0 e').cell (i := 0) rfl)) ?_
      refine m_y (v := .pointer (some ⟨b2, o2, none⟩)) 7 rfl (by kernel_rfl) rfl rfl (fun w' e' => y_move rfl) ?_
      refine m_y (v := .pointer (some ⟨b2, o2, none⟩)) 8 rfl (by kernel_rfl) rfl rfl (fun w' e' => y_nil rfl) ?_
      refine m_y (v := .pointer (some ⟨b2, o2, none⟩)) 9 rfl (by kernel_rfl) rfl rfl (fun w' e' => y_fld (o := o2 + 0) T131.fld_29_0_0 rfl) ?_
      refine m_y (v := .slice afe nfe cfe) 10 rfl (by kernel_rfl) rfl rfl (fun w' e' => y_load T131.one_24 rfl (((B0_12.s 4 rfl).ext0 e').cell (j := 0) rfl)) ?_
      refine m_y (v := .pointer (some ⟨b, o, none⟩)) 11 rfl (by kernel_rfl) rfl rfl (fun w' e' => y_move rfl) ?_
      refine m_y (v := .int .i64 x) 12 rfl (by kernel_rfl) rfl rfl (fun w' e' => y_move rfl) ?_
      refine m_y (v := .int .i64 y) 13 rfl (by kernel_rfl) rfl rfl (fun w' e' => y_move rfl) ?_
      refine m_y (v := .int .i64 (y + 1)) 14 rfl (by kernel_rfl) rfl rfl (fun w' e' => y_add rfl rfl rfl (by omega)) ?_
      refine m_y (v := .pointer (some ⟨b2, o2, none⟩)) 18 rfl (by kernel_rfl) rfl rfl (fun w' e' => y_move rfl) ?_
      refine m_y (v := .pointer (some ⟨b2, o2, none⟩)) 19 rfl (by kernel_rfl) rfl rfl (fun w' e' => y_nil rfl) ?_
      refine m_y (v := .pointer (some ⟨b2, o2, none⟩)) 20 rfl (by kernel_rfl) rfl rfl (fun w' e' => y_fld (o := o2 + 0) T131.fld_29_0_0 rfl) ?_
      refine m_y (v := .slice afe nfe cfe) 21 rfl (by kernel_rfl) rfl rfl (fun w' e' => y_load T131.one_24 rfl (((B0_12.s 4 rfl).ext0 e').cell (j := 0) rfl)) ?_
      refine m_y (v := .int .i64 (atI wd hi x y)) 22 rfl (by kernel_rfl) rfl rfl (fun w' e' => y_move rfl) ?_
      refine m_y (v := .pointer (some (sat afe ((atI wd hi x y).toNat * 1)))) 23 rfl (by kernel_rfl) rfl rfl (fun w' e' => y_idx T131.sl_24_35_1 rfl rfl ((B.r 1 rfl).addr (by omega)) (by omega) (by omega)) ?_
      obtain ⟨r18, hr19, hR17⟩ := Rd.atF (B0_12.r 1 rfl) (atI wd hi x y) (by omega) (by omega)
      refine m_y (v := .float .f32 r18) 24 rfl (by kernel_rfl) rfl rfl (fun w' e' => y_load T131.one_35 rfl ((hR17.ext0 e').cell (i := 0) rfl)) ?_
      refine m_k 15 [16, 17, 25, 26, 27, 28] rfl (by kernel_rfl) rfl rfl (fun w20 e21 => ?_)
      replace R13 := R13.trans (Ext0.any e21)
      replace B := B.ext0 e21
      clear e21
      refine k_call T131.fn_117 (c_s_l03At (B.s 0 rfl) (by omega) (by omega) (by omega) (by omega) (by omega) (by omega) (by omega) (by omega)) rfl ?_
      rintro _ w22 ⟨rfl, e23⟩
      replace R13 := R13.trans (Ext0.any e23)
      replace B := B.ext0 e23
      clear e23
      refine ⟨fun _ => R13, ?_⟩
      have hat24 := atI_b (wd := wd) (hi := hi) (x := x) (y := y + 1) (by omega) (by omega)
      refine m_y (v := .pointer (some (sat afe ((atI wd hi x (y + 1)).toNat * 1)))) 16 rfl (by kernel_rfl) rfl rfl (fun w' e' => y_idx T131.sl_24_35_1 rfl rfl ((B.r 1 rfl).addr (by omega)) (by omega) (by omega)) ?_
      obtain ⟨r26, hr27, hR25⟩ := Rd.atF (B0_12.r 1 rfl) (atI wd hi x (y + 1)) (by omega) (by omega)
      refine m_y (v := .float .f32 r26) 17 rfl (by kernel_rfl) rfl rfl (fun w' e' => y_load T131.one_35 rfl ((hR25.ext0 e').cell (i := 0) rfl)) ?_
      refine m_n 25 [26, 27, 28] rfl (by kernel_rfl) rfl rfl (fun w' e' => n_arith (by decide) rfl rfl) ?_
      rintro _ ⟨r29, rfl, hr30⟩
      have hc33 := fopC hr30 hr27 hr19
      refine m_n 26 [27, 28] rfl (by kernel_rfl) rfl rfl (fun w' e' => n_arith (by decide) rfl rfl) ?_
      rintro _ ⟨r35, rfl, hr36⟩
      have hc39 := fopC hr36 (show can .f32 1056964608 = 1056964608 by kernel_rfl) hc33
      refine m_n 27 [28] rfl (by kernel_rfl) rfl rfl (fun w' e' => n_arith (by decide) rfl rfl) ?_
      rintro _ ⟨r41, rfl, hr42⟩
      have hc45 := fopC hr42 hr16 hc39
      refine m_y (v := .float .f32 r41) 28 rfl (by kernel_rfl) rfl rfl (fun w' e' => y_assign rfl) ?_
      refine m_done (by kernel_rfl) (fun w46 e47 => ?_)
      replace B := B.ext0 e47
      clear e47
      clear B0_12 R13
      refine W_ret ?_
      refine ret1 (v := .float .f32 r41) rfl rfl rfl ⟨_, rfl, ?_⟩
      have hcc : (false || decide (y < hi - 1)) = true := by first | rfl | (rw [Bool.false_or]; exact decide_eq_true (by omega))
      exact ⟨⟨_, rfl, hc45.trans (by unfold hxF; rw [if_pos hcc])⟩, B.ext⟩
  · refine s_skip rfl ?_
    refine s_skip rfl ?_
    refine s_skip rfl ?_
    refine s_skip rfl ?_
    refine s_skip rfl ?_
    refine s_skip rfl ?_
    refine s_skip rfl ?_
    refine s_y (v := .bool false) rfl (y_pick_f rfl rfl) ?_
    refine s_nil ?_
    refine W_if_f (by decide) rfl ?_
    refine W_skip ?_
    refine W_seq ?_
    have B0_52 := B
    refine W_draw (no) T131.mx (by kernel_rfl) (fun w50 e51 => ?_)
    have R53 := Ext.refl (no) w1
    replace R53 := R53.trans (Ext0.any e51)
    replace B := B.ext0 e51
    clear e51
    refine m_y (v := .pointer (some ⟨b2, o2, none⟩)) 0 rfl (by kernel_rfl) rfl rfl (fun w' e' => y_move rfl) ?_
    refine m_y (v := .pointer (some ⟨b2, o2, none⟩)) 1 rfl (by kernel_rfl) rfl rfl (fun w' e' => y_nil rfl) ?_
    refine m_y (v := .pointer (some ⟨b2, o2 + 1, none⟩)) 2 rfl (by kernel_rfl) rfl rfl (fun w' e' => y_fld (o := o2 + 0) T131.fld_29_1_1 rfl) ?_
    refine m_y (v := .slice afx nfx cfx) 3 rfl (by kernel_rfl) rfl rfl (fun w' e' => y_load T131.one_24 rfl (((B0_52.s 4 rfl).ext0 e').cell (j := 1) rfl)) ?_
    refine m_y (v := .int .i64 (atI wd hi x y)) 4 rfl (by kernel_rfl) rfl rfl (fun w' e' => y_move rfl) ?_
    refine m_y (v := .pointer (some (sat afx ((atI wd hi x y).toNat * 1)))) 5 rfl (by kernel_rfl) rfl rfl (fun w' e' => y_idx T131.sl_24_35_1 rfl rfl ((B.r 2 rfl).addr (by omega)) (by omega) (by omega)) ?_
    obtain ⟨r55, hr56, hR54⟩ := Rd.atF (B0_52.r 2 rfl) (atI wd hi x y) (by omega) (by omega)
    refine m_y (v := .float .f32 r55) 6 rfl (by kernel_rfl) rfl rfl (fun w' e' => y_load T131.one_35 rfl ((hR54.ext0 e').cell (i := 0) rfl)) ?_
    refine m_y (v := .pointer (some ⟨b2, o2, none⟩)) 7 rfl (by kernel_rfl) rfl rfl (fun w' e' => y_move rfl) ?_
    refine m_y (v := .pointer (some ⟨b2, o2, none⟩)) 8 rfl (by kernel_rfl) rfl rfl (fun w' e' => y_nil rfl) ?_
    refine m_y (v := .pointer (some ⟨b2, o2, none⟩)) 9 rfl (by kernel_rfl) rfl rfl (fun w' e' => y_fld (o := o2 + 0) T131.fld_29_0_0 rfl) ?_
    refine m_y (v := .slice afe nfe cfe) 10 rfl (by kernel_rfl) rfl rfl (fun w' e' => y_load T131.one_24 rfl (((B0_52.s 4 rfl).ext0 e').cell (j := 0) rfl)) ?_
    refine m_y (v := .pointer (some ⟨b, o, none⟩)) 11 rfl (by kernel_rfl) rfl rfl (fun w' e' => y_move rfl) ?_
    refine m_y (v := .int .i64 x) 12 rfl (by kernel_rfl) rfl rfl (fun w' e' => y_move rfl) ?_
    refine m_y (v := .int .i64 y) 13 rfl (by kernel_rfl) rfl rfl (fun w' e' => y_move rfl) ?_
    refine m_y (v := .int .i64 (y + 1)) 14 rfl (by kernel_rfl) rfl rfl (fun w' e' => y_add rfl rfl rfl (by omega)) ?_
    refine m_y (v := .pointer (some ⟨b2, o2, none⟩)) 18 rfl (by kernel_rfl) rfl rfl (fun w' e' => y_move rfl) ?_
    refine m_y (v := .pointer (some ⟨b2, o2, none⟩)) 19 rfl (by kernel_rfl) rfl rfl (fun w' e' => y_nil rfl) ?_
    refine m_y (v := .pointer (some ⟨b2, o2, none⟩)) 20 rfl (by kernel_rfl) rfl rfl (fun w' e' => y_fld (o := o2 + 0) T131.fld_29_0_0 rfl) ?_
    refine m_y (v := .slice afe nfe cfe) 21 rfl (by kernel_rfl) rfl rfl (fun w' e' => y_load T131.one_24 rfl (((B0_52.s 4 rfl).ext0 e').cell (j := 0) rfl)) ?_
    refine m_y (v := .int .i64 (atI wd hi x y)) 22 rfl (by kernel_rfl) rfl rfl (fun w' e' => y_move rfl) ?_
    refine m_y (v := .pointer (some (sat afe ((atI wd hi x y).toNat * 1)))) 23 rfl (by kernel_rfl) rfl rfl (fun w' e' => y_idx T131.sl_24_35_1 rfl rfl ((B.r 1 rfl).addr (by omega)) (by omega) (by omega)) ?_
    obtain ⟨r58, hr59, hR57⟩ := Rd.atF (B0_52.r 1 rfl) (atI wd hi x y) (by omega) (by omega)
    refine m_y (v := .float .f32 r58) 24 rfl (by kernel_rfl) rfl rfl (fun w' e' => y_load T131.one_35 rfl ((hR57.ext0 e').cell (i := 0) rfl)) ?_
    refine m_k 15 [16, 17, 25, 26, 27, 28] rfl (by kernel_rfl) rfl rfl (fun w60 e61 => ?_)
    replace R53 := R53.trans (Ext0.any e61)
    replace B := B.ext0 e61
    clear e61
    refine k_call T131.fn_117 (c_s_l03At (B.s 0 rfl) (by omega) (by omega) (by omega) (by omega) (by omega) (by omega) (by omega) (by omega)) rfl ?_
    rintro _ w62 ⟨rfl, e63⟩
    replace R53 := R53.trans (Ext0.any e63)
    replace B := B.ext0 e63
    clear e63
    refine ⟨fun _ => R53, ?_⟩
    have hat64 := atI_b (wd := wd) (hi := hi) (x := x) (y := y + 1) (by omega) (by omega)
    refine m_y (v := .pointer (some (sat afe ((atI wd hi x (y + 1)).toNat * 1)))) 16 rfl (by kernel_rfl) rfl rfl (fun w' e' => y_idx T131.sl_24_35_1 rfl rfl ((B.r 1 rfl).addr (by omega)) (by omega) (by omega)) ?_
    obtain ⟨r66, hr67, hR65⟩ := Rd.atF (B0_52.r 1 rfl) (atI wd hi x (y + 1)) (by omega) (by omega)
    refine m_y (v := .float .f32 r66) 17 rfl (by kernel_rfl) rfl rfl (fun w' e' => y_load T131.one_35 rfl ((hR65.ext0 e').cell (i := 0) rfl)) ?_
    refine m_n 25 [26, 27, 28] rfl (by kernel_rfl) rfl rfl (fun w' e' => n_arith (by decide) rfl rfl) ?_
    rintro _ ⟨r69, rfl, hr70⟩
    have hc73 := fopC hr70 hr67 hr59
    refine m_n 26 [27, 28] rfl (by kernel_rfl) rfl rfl (fun w' e' => n_arith (by decide) rfl rfl) ?_
    rintro _ ⟨r75, rfl, hr76⟩
    have hc79 := fopC hr76 (show can .f32 1056964608 = 1056964608 by kernel_rfl) hc73
    refine m_n 27 [28] rfl (by kernel_rfl) rfl rfl (fun w' e' => n_arith (by decide) rfl rfl) ?_
    rintro _ ⟨r81, rfl, hr82⟩
    have hc85 := fopC hr82 hr56 hc79
    refine m_y (v := .float .f32 r81) 28 rfl (by kernel_rfl) rfl rfl (fun w' e' => y_assign rfl) ?_
    refine m_done (by kernel_rfl) (fun w86 e87 => ?_)
    replace B := B.ext0 e87
    clear e87
    clear B0_52 R53
    refine W_ret ?_
    refine ret1 (v := .float .f32 r81) rfl rfl rfl ⟨_, rfl, ?_⟩
    have hcc : (true || decide (y < hi - 1)) = true := by first | rfl | (rw [Bool.false_or]; exact decide_eq_true (by omega))
    exact ⟨⟨_, rfl, hc85.trans (by unfold hxF; rw [if_pos hcc])⟩, B.ext⟩
namespace T132
theorem mx : Try.prog.follows .mixedOrders = true := by kernel_rfl
theorem fld_26_0_0 : fldB Try.prog 26 0 0 = true := by kernel_rfl
theorem fld_26_2_2 : fldB Try.prog 26 2 2 = true := by kernel_rfl
theorem fld_29_0_0 : fldB Try.prog 29 0 0 = true := by kernel_rfl
theorem fld_29_2_2 : fldB Try.prog 29 2 2 = true := by kernel_rfl
theorem fn_117 : fnB Try.prog 117 = true := by kernel_rfl
theorem one_2 : oneB Try.prog 2 = true := by kernel_rfl
theorem one_24 : oneB Try.prog 24 = true := by kernel_rfl
theorem one_35 : oneB Try.prog 35 = true := by kernel_rfl
theorem one_4 : oneB Try.prog 4 = true := by kernel_rfl
theorem sl_24_35_1 : slB Try.prog 24 35 1 = true := by kernel_rfl
end T132
set_option maxRecDepth 100000 in
set_option maxHeartbeats 4000000 in
theorem c_s_l03HalfY {b : Nat} {o : Nat} {wd : Int} {hi : Int} {wr : Bool} {asp : Option Addr} {nsp : Nat} {csp : Nat} {als : Option Addr} {nls : Nat} {cls : Nat} {b2 : Nat} {o2 : Nat} {afe : Option Addr} {nfe : Nat} {cfe : Nat} {Xfe : List Nat} {afx : Option Addr} {nfx : Nat} {cfx : Nat} {Xfx : List Nat} {afy : Option Addr} {nfy : Nat} {cfy : Nat} {Xfy : List Nat} {x : Int} {y : Int} {w : World} (Pb : Sl w (some ⟨b, o, none⟩) [.int .i64 wd, .int .i64 hi, .bool wr, .slice asp nsp csp, .slice als nls cls]) (qfe : Rd w kF afe nfe Xfe) (qfx : Rd w kF afx nfx Xfx) (qfy : Rd w kF afy nfy Xfy) (Pb2 : Sl w (some ⟨b2, o2, none⟩) [.slice afe nfe cfe, .slice afx nfx cfx, .slice afy nfy cfy]) (h1 : 3 ≤ wd) (h2 : wd ≤ 16) (h3 : 3 ≤ hi) (h4 : hi ≤ 16) (gfe : (nfe : Int) = wd * hi) (gfx : (nfx : Int) = wd * hi) (gfy : (nfy : Int) = wd * hi) (p1 : 0 ≤ x) (p2 : x < wd) (p3 : 0 ≤ y) (p4 : y < hi) :
    Calls Try.prog 132 #[.pointer (some ⟨b, o, none⟩), .pointer (some ⟨b2, o2, none⟩), .int .i64 x, .int .i64 y] w (Rt fun v w' => (∃ r, v = .float .f32 r ∧ can .f32 r = hyF wd hi wr Xfe Xfy x y) ∧ Ext0 w w') := by
  have hlfe := qfe.len
  have hlfx := qfx.len
  have hlfy := qfy.len
  have B : Bu w no w [.sl (some ⟨b, o, none⟩) [.int .i64 wd, .int .i64 hi, .bool wr, .slice asp nsp csp, .slice als nls cls], .rd kF afe nfe Xfe, .rd kF afx nfx Xfx, .rd kF afy nfy Xfy, .sl (some ⟨b2, o2, none⟩) [.slice afe nfe cfe, .slice afx nfx cfx, .slice afy nfy cfy]] := Bu.ro (All.cons Pb (All.cons qfe (All.cons qfx (All.cons qfy (All.cons Pb2 All.nil))))) rfl
  refine calls_W (n := 63) Try.func132 rfl rfl (Nat.le_of_ble_eq_true rfl) ?_
  refine W_seq ?_
  refine W_region (by kernel_rfl) ?_
  refine s_y (v := .float .f32 0) rfl (y_assign rfl) ?_
  refine s_nil ?_
  refine W_seq ?_
  refine W_region (by kernel_rfl) ?_
  refine s_y (v := .pointer (some ⟨b, o, none⟩)) rfl (y_move rfl) ?_
  refine s_y (v := .int .i64 x) rfl (y_move rfl) ?_
  refine s_y (v := .int .i64 y) rfl (y_move rfl) ?_
  refine s_k rfl (k_call T132.fn_117 (c_s_l03At (B.s 0 rfl) (by omega) (by omega) (by omega) (by omega) (by omega) (by omega) (by omega) (by omega)) rfl ?_)
  rintro _ w1 ⟨rfl, e2⟩
  replace B := B.ext0 e2
  clear e2
  have hat3 := atI_b (wd := wd) (hi := hi) (x := x) (y := y) (by omega) (by omega)
  refine s_y (v := .int .i64 (atI wd hi x y)) rfl (y_assign rfl) ?_
  refine s_nil ?_
  refine W_seq ?_
  refine W_seq ?_
  refine W_region (by kernel_rfl) ?_
  refine s_y (v := .pointer (some ⟨b, o, none⟩)) rfl (y_move rfl) ?_
  refine s_y (v := .pointer (some ⟨b, o, none⟩)) rfl (y_nil rfl) ?_
  refine s_y (v := .pointer (some ⟨b, o + 2, none⟩)) rfl (y_fld (o := o + 0) T132.fld_26_2_2 rfl) ?_
  refine s_y (v := .bool wr) rfl (y_load T132.one_4 rfl ((B.s 0 rfl).cell (j := 2) rfl)) ?_
  refine s_y (v := .bool (!wr)) rfl (y_not rfl rfl) ?_
  refine s_y (v := .bool (!wr)) rfl (y_move rfl) ?_
  cases wr
  · refine s_y (v := .int .i64 x) rfl (y_move rfl) ?_
    refine s_y (v := .pointer (some ⟨b, o, none⟩)) rfl (y_move rfl) ?_
    refine s_y (v := .pointer (some ⟨b, o, none⟩)) rfl (y_nil rfl) ?_
    refine s_y (v := .pointer (some ⟨b, o, none⟩)) rfl (y_fld (o := o + 0) T132.fld_26_0_0 rfl) ?_
    refine s_y (v := .int .i64 wd) rfl (y_load T132.one_2 rfl ((B.s 0 rfl).cell (j := 0) rfl)) ?_
    refine s_y (v := .int .i64 (wd - 1)) rfl (y_sub rfl rfl rfl (by omega)) ?_
    by_cases c4 : x = (wd - 1)
    · refine s_y (v := .bool true) rfl (y_eql rfl rfl (decide_eq_true c4)) ?_
      refine s_y (v := .bool true) rfl (y_pick_t rfl rfl) ?_
      refine s_nil ?_
      refine W_if_t (by decide) rfl ?_
      refine W_seq ?_
      refine W_region (by kernel_rfl) ?_
      refine s_y (v := .pointer (some ⟨b2, o2, none⟩)) rfl (y_move rfl) ?_
      refine s_y (v := .pointer (some ⟨b2, o2, none⟩)) rfl (y_nil rfl) ?_
      refine s_y (v := .pointer (some ⟨b2, o2 + 2, none⟩)) rfl (y_fld (o := o2 + 0) T132.fld_29_2_2 rfl) ?_
      refine s_y (v := .slice afy nfy cfy) rfl (y_load T132.one_24 rfl ((B.s 4 rfl).cell (j := 2) rfl)) ?_
      refine s_y (v := .int .i64 (atI wd hi x y)) rfl (y_move rfl) ?_
      refine s_y (v := .pointer (some (sat afy ((atI wd hi x y).toNat * 1)))) rfl (y_idx T132.sl_24_35_1 rfl rfl ((B.r 3 rfl).addr (by omega)) (by omega) (by omega)) ?_
      obtain ⟨r6, hr7, hR5⟩ := Rd.atF (B.r 3 rfl) (atI wd hi x y) (by omega) (by omega)
      refine s_y (v := .float .f32 r6) rfl (y_load T132.one_35 rfl (hR5.cell (i := 0) rfl)) ?_
      refine s_y (v := .float .f32 r6) rfl (y_assign rfl) ?_
      refine s_nil ?_
      refine W_ret ?_
      refine ret1 (v := .float .f32 r6) rfl rfl rfl ⟨_, rfl, ?_⟩
      have hcc : (false || decide (x < wd - 1)) = false := by first | rfl | (rw [Bool.false_or]; exact decide_eq_false (by omega))
      exact ⟨⟨_, rfl, hr7.trans (hy_no hcc)⟩, B.ext⟩
    · refine s_y (v := .bool false) rfl (y_eql rfl rfl (decide_eq_false c4)) ?_
      refine s_y (v := .bool false) rfl (y_pick_t rfl rfl) ?_
      refine s_nil ?_
      refine W_if_f (by decide) rfl ?_
      refine W_skip ?_
      refine W_seq ?_
      have B0_12 := B
      refine W_draw (no) T132.mx (by kernel_rfl) (fun w10 e11 => ?_)
      have R13 := Ext.refl (no) w1
      replace R13 := R13.trans (Ext0.any e11)
      replace B := B.ext0 e11
      clear e11
      refine m_y (v := .pointer (some ⟨b2, o2, none⟩)) 0 rfl (by kernel_rfl) rfl rfl (fun w' e' => y_move rfl) ?_
      refine m_y (v := .pointer (some ⟨b2, o2, none⟩)) 1 rfl (by kernel_rfl) rfl rfl (fun w' e' => y_nil rfl) ?_
      refine m_y (v := .pointer (some ⟨b2, o2 + 2, none⟩)) 2 rfl (by kernel_rfl) rfl rfl (fun w' e' => y_fld (o := o2 + 0) T132.fld_29_2_2 rfl) ?_
      refine m_y (v := .slice afy nfy cfy) 3 rfl (by kernel_rfl) rfl rfl (fun w' e' => y_load T132.one_24 rfl (((B0_12.s 4 rfl).ext0 e').cell (j := 2) rfl)) ?_
      refine m_y (v := .int .i64 (atI wd hi x y)) 4 rfl (by kernel_rfl) rfl rfl (fun w' e' => y_move rfl) ?_
      refine m_y (v := .pointer (some (sat afy ((atI wd hi x y).toNat * 1)))) 5 rfl (by kernel_rfl) rfl rfl (fun w' e' => y_idx T132.sl_24_35_1 rfl rfl ((B.r 3 rfl).addr (by omega)) (by omega) (by omega)) ?_
      obtain ⟨r15, hr16, hR14⟩ := Rd.atF (B0_12.r 3 rfl) (atI wd hi x y) (by omega) (by omega)
      refine m_y (v := .float .f32 r15) 6 rfl (by kernel_rfl) rfl rfl (fun w' e' => y_load T132.one_35 rfl ((hR14.ext0 e').cell (i := 0) rfl)) ?_
      refine m_y (v := .pointer (some ⟨b2, o2, none⟩)) 7 rfl (by kernel_rfl) rfl rfl (fun w' e' => y_move rfl) ?_
      refine m_y (v := .pointer (some ⟨b2, o2, none⟩)) 8 rfl (by kernel_rfl) rfl rfl (fun w' e' => y_nil rfl) ?_
      refine m_y (v := .pointer (some ⟨b2, o2, none⟩)) 9 rfl (by kernel_rfl) rfl rfl (fun w' e' => y_fld (o := o2 + 0) T132.fld_29_0_0 rfl) ?_
      refine m_y (v := .slice afe nfe cfe) 10 rfl (by kernel_rfl) rfl rfl (fun w' e' => y_load T132.one_24 rfl (((B0_12.s 4 rfl).ext0 e').cell (j := 0) rfl)) ?_
      refine m_y (v := .pointer (some ⟨b, o, none⟩)) 11 rfl (by kernel_rfl) rfl rfl (fun w' e' => y_move rfl) ?_
      refine m_y (v := .int .i64 x) 12 rfl (by kernel_rfl) rfl rfl (fun w' e' => y_move rfl) ?_
      refine m_y (v := .int .i64 (x + 1)) 13 rfl (by kernel_rfl) rfl rfl (fun w' e' => y_add rfl rfl rfl (by omega)) ?_
      refine m_y (v := .int .i64 y) 14 rfl (by kernel_rfl) rfl rfl (fun w' e' => y_move rfl) ?_
      refine m_y (v := .pointer (some ⟨b2, o2, none⟩)) 18 rfl (by kernel_rfl) rfl rfl (fun w' e' => y_move rfl) ?_
      refine m_y (v := .pointer (some ⟨b2, o2, none⟩)) 19 rfl (by kernel_rfl) rfl rfl (fun w' e' => y_nil rfl) ?_
      refine m_y (v := .pointer (some ⟨b2, o2, none⟩)) 20 rfl (by kernel_rfl) rfl rfl (fun w' e' => y_fld (o := o2 + 0) T132.fld_29_0_0 rfl) ?_
      refine m_y (v := .slice afe nfe cfe) 21 rfl (by kernel_rfl) rfl rfl (fun w' e' => y_load T132.one_24 rfl (((B0_12.s 4 rfl).ext0 e').cell (j := 0) rfl)) ?_
      refine m_y (v := .int .i64 (atI wd hi x y)) 22 rfl (by kernel_rfl) rfl rfl (fun w' e' => y_move rfl) ?_
      refine m_y (v := .pointer (some (sat afe ((atI wd hi x y).toNat * 1)))) 23 rfl (by kernel_rfl) rfl rfl (fun w' e' => y_idx T132.sl_24_35_1 rfl rfl ((B.r 1 rfl).addr (by omega)) (by omega) (by omega)) ?_
      obtain ⟨r18, hr19, hR17⟩ := Rd.atF (B0_12.r 1 rfl) (atI wd hi x y) (by omega) (by omega)
      refine m_y (v := .float .f32 r18) 24 rfl (by kernel_rfl) rfl rfl (fun w' e' => y_load T132.one_35 rfl ((hR17.ext0 e').cell (i := 0) rfl)) ?_
      refine m_k 15 [16, 17, 25, 26, 27, 28] rfl (by kernel_rfl) rfl rfl (fun w20 e21 => ?_)
      replace R13 := R13.trans (Ext0.any e21)
      replace B := B.ext0 e21
      clear e21
      refine k_call T132.fn_117 (c_s_l03At (B.s 0 rfl) (by omega) (by omega) (by omega) (by omega) (by omega) (by omega) (by omega) (by omega)) rfl ?_
      rintro _ w22 ⟨rfl, e23⟩
      replace R13 := R13.trans (Ext0.any e23)
      replace B := B.ext0 e23
      clear e23
      refine ⟨fun _ => R13, ?_⟩
      have hat24 := atI_b (wd := wd) (hi := hi) (x := x + 1) (y := y) (by omega) (by omega)
      refine m_y (v := .pointer (some (sat afe ((atI wd hi (x + 1) y).toNat * 1)))) 16 rfl (by kernel_rfl) rfl rfl (fun w' e' => y_idx T132.sl_24_35_1 rfl rfl ((B.r 1 rfl).addr (by omega)) (by omega) (by omega)) ?_
      obtain ⟨r26, hr27, hR25⟩ := Rd.atF (B0_12.r 1 rfl) (atI wd hi (x + 1) y) (by omega) (by omega)
      refine m_y (v := .float .f32 r26) 17 rfl (by kernel_rfl) rfl rfl (fun w' e' => y_load T132.one_35 rfl ((hR25.ext0 e').cell (i := 0) rfl)) ?_
      refine m_n 25 [26, 27, 28] rfl (by kernel_rfl) rfl rfl (fun w' e' => n_arith (by decide) rfl rfl) ?_
      rintro _ ⟨r29, rfl, hr30⟩
      have hc33 := fopC hr30 hr27 hr19
      refine m_n 26 [27, 28] rfl (by kernel_rfl) rfl rfl (fun w' e' => n_arith (by decide) rfl rfl) ?_
      rintro _ ⟨r35, rfl, hr36⟩
      have hc39 := fopC hr36 (show can .f32 1056964608 = 1056964608 by kernel_rfl) hc33
      refine m_n 27 [28] rfl (by kernel_rfl) rfl rfl (fun w' e' => n_arith (by decide) rfl rfl) ?_
      rintro _ ⟨r41, rfl, hr42⟩
      have hc45 := fopC hr42 hr16 hc39
      refine m_y (v := .float .f32 r41) 28 rfl (by kernel_rfl) rfl rfl (fun w' e' => y_assign rfl) ?_
      refine m_done (by kernel_rfl) (fun w46 e47 => ?_)
      replace B := B.ext0 e47
      clear e47
      clear B0_12 R13
      refine W_ret ?_
      refine ret1 (v := .float .f32 r41) rfl rfl rfl ⟨_, rfl, ?_⟩
      have hcc : (false || decide (x < wd - 1)) = true := by first | rfl | (rw [Bool.false_or]; exact decide_eq_true (by omega))
      exact ⟨⟨_, rfl, hc45.trans (by unfold hyF; rw [if_pos hcc])⟩, B.ext⟩
  · refine s_skip rfl ?_
    refine s_skip rfl ?_
    refine s_skip rfl ?_
    refine s_skip rfl ?_
    refine s_skip rfl ?_
    refine s_skip rfl ?_
    refine s_skip rfl ?_
    refine s_y (v := .bool false) rfl (y_pick_f rfl rfl) ?_
    refine s_nil ?_
    refine W_if_f (by decide) rfl ?_
    refine W_skip ?_
    refine W_seq ?_
    have B0_52 := B
    refine W_draw (no) T132.mx (by kernel_rfl) (fun w50 e51 => ?_)
    have R53 := Ext.refl (no) w1
    replace R53 := R53.trans (Ext0.any e51)
    replace B := B.ext0 e51
    clear e51
    refine m_y (v := .pointer (some ⟨b2, o2, none⟩)) 0 rfl (by kernel_rfl) rfl rfl (fun w' e' => y_move rfl) ?_
    refine m_y (v := .pointer (some ⟨b2, o2, none⟩)) 1 rfl (by kernel_rfl) rfl rfl (fun w' e' => y_nil rfl) ?_
    refine m_y (v := .pointer (some ⟨b2, o2 + 2, none⟩)) 2 rfl (by kernel_rfl) rfl rfl (fun w' e' => y_fld (o := o2 + 0) T132.fld_29_2_2 rfl) ?_
    refine m_y (v := .slice afy nfy cfy) 3 rfl (by kernel_rfl) rfl rfl (fun w' e' => y_load T132.one_24 rfl (((B0_52.s 4 rfl).ext0 e').cell (j := 2) rfl)) ?_
    refine m_y (v := .int .i64 (atI wd hi x y)) 4 rfl (by kernel_rfl) rfl rfl (fun w' e' => y_move rfl) ?_
    refine m_y (v := .pointer (some (sat afy ((atI wd hi x y).toNat * 1)))) 5 rfl (by kernel_rfl) rfl rfl (fun w' e' => y_idx T132.sl_24_35_1 rfl rfl ((B.r 3 rfl).addr (by omega)) (by omega) (by omega)) ?_
    obtain ⟨r55, hr56, hR54⟩ := Rd.atF (B0_52.r 3 rfl) (atI wd hi x y) (by omega) (by omega)
    refine m_y (v := .float .f32 r55) 6 rfl (by kernel_rfl) rfl rfl (fun w' e' => y_load T132.one_35 rfl ((hR54.ext0 e').cell (i := 0) rfl)) ?_
    refine m_y (v := .pointer (some ⟨b2, o2, none⟩)) 7 rfl (by kernel_rfl) rfl rfl (fun w' e' => y_move rfl) ?_
    refine m_y (v := .pointer (some ⟨b2, o2, none⟩)) 8 rfl (by kernel_rfl) rfl rfl (fun w' e' => y_nil rfl) ?_
    refine m_y (v := .pointer (some ⟨b2, o2, none⟩)) 9 rfl (by kernel_rfl) rfl rfl (fun w' e' => y_fld (o := o2 + 0) T132.fld_29_0_0 rfl) ?_
    refine m_y (v := .slice afe nfe cfe) 10 rfl (by kernel_rfl) rfl rfl (fun w' e' => y_load T132.one_24 rfl (((B0_52.s 4 rfl).ext0 e').cell (j := 0) rfl)) ?_
    refine m_y (v := .pointer (some ⟨b, o, none⟩)) 11 rfl (by kernel_rfl) rfl rfl (fun w' e' => y_move rfl) ?_
    refine m_y (v := .int .i64 x) 12 rfl (by kernel_rfl) rfl rfl (fun w' e' => y_move rfl) ?_
    refine m_y (v := .int .i64 (x + 1)) 13 rfl (by kernel_rfl) rfl rfl (fun w' e' => y_add rfl rfl rfl (by omega)) ?_
    refine m_y (v := .int .i64 y) 14 rfl (by kernel_rfl) rfl rfl (fun w' e' => y_move rfl) ?_
    refine m_y (v := .pointer (some ⟨b2, o2, none⟩)) 18 rfl (by kernel_rfl) rfl rfl (fun w' e' => y_move rfl) ?_
    refine m_y (v := .pointer (some ⟨b2, o2, none⟩)) 19 rfl (by kernel_rfl) rfl rfl (fun w' e' => y_nil rfl) ?_
    refine m_y (v := .pointer (some ⟨b2, o2, none⟩)) 20 rfl (by kernel_rfl) rfl rfl (fun w' e' => y_fld (o := o2 + 0) T132.fld_29_0_0 rfl) ?_
    refine m_y (v := .slice afe nfe cfe) 21 rfl (by kernel_rfl) rfl rfl (fun w' e' => y_load T132.one_24 rfl (((B0_52.s 4 rfl).ext0 e').cell (j := 0) rfl)) ?_
    refine m_y (v := .int .i64 (atI wd hi x y)) 22 rfl (by kernel_rfl) rfl rfl (fun w' e' => y_move rfl) ?_
    refine m_y (v := .pointer (some (sat afe ((atI wd hi x y).toNat * 1)))) 23 rfl (by kernel_rfl) rfl rfl (fun w' e' => y_idx T132.sl_24_35_1 rfl rfl ((B.r 1 rfl).addr (by omega)) (by omega) (by omega)) ?_
    obtain ⟨r58, hr59, hR57⟩ := Rd.atF (B0_52.r 1 rfl) (atI wd hi x y) (by omega) (by omega)
    refine m_y (v := .float .f32 r58) 24 rfl (by kernel_rfl) rfl rfl (fun w' e' => y_load T132.one_35 rfl ((hR57.ext0 e').cell (i := 0) rfl)) ?_
    refine m_k 15 [16, 17, 25, 26, 27, 28] rfl (by kernel_rfl) rfl rfl (fun w60 e61 => ?_)
    replace R53 := R53.trans (Ext0.any e61)
    replace B := B.ext0 e61
    clear e61
    refine k_call T132.fn_117 (c_s_l03At (B.s 0 rfl) (by omega) (by omega) (by omega) (by omega) (by omega) (by omega) (by omega) (by omega)) rfl ?_
    rintro _ w62 ⟨rfl, e63⟩
    replace R53 := R53.trans (Ext0.any e63)
    replace B := B.ext0 e63
    clear e63
    refine ⟨fun _ => R53, ?_⟩
    have hat64 := atI_b (wd := wd) (hi := hi) (x := x + 1) (y := y) (by omega) (by omega)
    refine m_y (v := .pointer (some (sat afe ((atI wd hi (x + 1) y).toNat * 1)))) 16 rfl (by kernel_rfl) rfl rfl (fun w' e' => y_idx T132.sl_24_35_1 rfl rfl ((B.r 1 rfl).addr (by omega)) (by omega) (by omega)) ?_
    obtain ⟨r66, hr67, hR65⟩ := Rd.atF (B0_52.r 1 rfl) (atI wd hi (x + 1) y) (by omega) (by omega)
    refine m_y (v := .float .f32 r66) 17 rfl (by kernel_rfl) rfl rfl (fun w' e' => y_load T132.one_35 rfl ((hR65.ext0 e').cell (i := 0) rfl)) ?_
    refine m_n 25 [26, 27, 28] rfl (by kernel_rfl) rfl rfl (fun w' e' => n_arith (by decide) rfl rfl) ?_
    rintro _ ⟨r69, rfl, hr70⟩
    have hc73 := fopC hr70 hr67 hr59
    refine m_n 26 [27, 28] rfl (by kernel_rfl) rfl rfl (fun w' e' => n_arith (by decide) rfl rfl) ?_
    rintro _ ⟨r75, rfl, hr76⟩
    have hc79 := fopC hr76 (show can .f32 1056964608 = 1056964608 by kernel_rfl) hc73
    refine m_n 27 [28] rfl (by kernel_rfl) rfl rfl (fun w' e' => n_arith (by decide) rfl rfl) ?_
    rintro _ ⟨r81, rfl, hr82⟩
    have hc85 := fopC hr82 hr56 hc79
    refine m_y (v := .float .f32 r81) 28 rfl (by kernel_rfl) rfl rfl (fun w' e' => y_assign rfl) ?_
    refine m_done (by kernel_rfl) (fun w86 e87 => ?_)
    replace B := B.ext0 e87
    clear e87
    clear B0_52 R53
    refine W_ret ?_
    refine ret1 (v := .float .f32 r81) rfl rfl rfl ⟨_, rfl, ?_⟩
    have hcc : (true || decide (x < wd - 1)) = true := by first | rfl | (rw [Bool.false_or]; exact decide_eq_true (by omega))
    exact ⟨⟨_, rfl, hc85.trans (by unfold hyF; rw [if_pos hcc])⟩, B.ext⟩
namespace T99
theorem mx : Try.prog.follows .mixedOrders = true := by kernel_rfl
theorem agg_29_3 : aggB Try.prog 29 3 = true := by kernel_rfl
theorem fld_26_0_0 : fldB Try.prog 26 0 0 = true := by kernel_rfl
theorem fld_26_1_1 : fldB Try.prog 26 1 1 = true := by kernel_rfl
theorem fld_29_1_1 : fldB Try.prog 29 1 1 = true := by kernel_rfl
theorem fld_29_2_2 : fldB Try.prog 29 2 2 = true := by kernel_rfl
theorem fn_114 : fnB Try.prog 114 = true := by kernel_rfl
theorem fn_117 : fnB Try.prog 117 = true := by kernel_rfl
theorem fn_131 : fnB Try.prog 131 = true := by kernel_rfl
theorem fn_132 : fnB Try.prog 132 = true := by kernel_rfl
theorem one_2 : oneB Try.prog 2 = true := by kernel_rfl
theorem one_24 : oneB Try.prog 24 = true := by kernel_rfl
theorem sl_24_35_1 : slB Try.prog 24 35 1 = true := by kernel_rfl
theorem sz_29_3 : szB Try.prog 29 3 = true := by kernel_rfl
theorem sz_35_1 : szB Try.prog 35 1 = true := by kernel_rfl
theorem zero_29 : zeroB Try.prog 29 (.agg #[.slice none 0 0, .slice none 0 0, .slice none 0 0]) := by unfold zeroB; kernel_rfl
end T99
set_option maxRecDepth 100000 in
set_option maxHeartbeats 4000000 in
theorem c_s_l03Half {b : Nat} {o : Nat} {wd : Int} {hi : Int} {wr : Bool} {asp : Option Addr} {nsp : Nat} {csp : Nat} {als : Option Addr} {nls : Nat} {cls : Nat} {b2 : Nat} {o2 : Nat} {afe : Option Addr} {nfe : Nat} {cfe : Nat} {Xfe : List Nat} {afx : Option Addr} {nfx : Nat} {cfx : Nat} {Xfx : List Nat} {afy : Option Addr} {nfy : Nat} {cfy : Nat} {Xfy : List Nat} {w : World} (Pb : Sl w (some ⟨b, o, none⟩) [.int .i64 wd, .int .i64 hi, .bool wr, .slice asp nsp csp, .slice als nls cls]) (qfe : Rd w kF afe nfe Xfe) (qfx : Rd w kF afx nfx Xfx) (qfy : Rd w kF afy nfy Xfy) (Pb2 : Sl w (some ⟨b2, o2, none⟩) [.slice afe nfe cfe, .slice afx nfx cfx, .slice afy nfy cfy]) (h1 : 3 ≤ wd) (h2 : wd ≤ 16) (h3 : 3 ≤ hi) (h4 : hi ≤ 16) (gfe : (nfe : Int) = wd * hi) (gfx : (nfx : Int) = wd * hi) (gfy : (nfy : Int) = wd * hi) :
    Calls Try.prog 99 #[.pointer (some ⟨b, o, none⟩), .pointer (some ⟨b2, o2, none⟩)] w (Rt fun v w' => ∃ (a1 : Option Addr) (c1 : Nat) (a2 : Option Addr) (c2 : Nat) (a3 : Option Addr) (c3 : Nat), v = .agg #[.slice a1 nfe c1, .slice a2 nfx c2, .slice a3 nfy c3] ∧ New w w' [.ow kF a1 nfe c1 35 Xfe, .ow kF a2 nfx c2 35 (hxL wd hi wr Xfe Xfx), .ow kF a3 nfy c3 35 (hyL wd hi wr Xfe Xfy)]) := by
  have hlfe := qfe.len
  have hlfx := qfx.len
  have hlfy := qfy.len
  have B : Bu w no w [.sl (some ⟨b, o, none⟩) [.int .i64 wd, .int .i64 hi, .bool wr, .slice asp nsp csp, .slice als nls cls], .rd kF afe nfe Xfe, .rd kF afx nfx Xfx, .rd kF afy nfy Xfy, .sl (some ⟨b2, o2, none⟩) [.slice afe nfe cfe, .slice afx nfx cfx, .slice afy nfy cfy]] := Bu.ro (All.cons Pb (All.cons qfe (All.cons qfx (All.cons qfy (All.cons Pb2 All.nil))))) rfl
  have hwh := mul16 (And.intro (And.intro h1 h2) (And.intro h3 h4))
  refine calls_W (n := 50) Try.func99 rfl rfl (Nat.le_of_ble_eq_true rfl) ?_
  refine W_seq ?_
  refine W_region (by kernel_rfl) ?_
  refine s_k rfl (k_allocN (z := (.agg #[.slice none 0 0, .slice none 0 0, .slice none 0 0])) (cs := [.slice none 0 0, .slice none 0 0, .slice none 0 0]) T99.zero_29 rfl (fun b1 w2 hN3 => ?_))
  replace B := B.new1 hN3
  clear hN3
  refine s_nil ?_
  refine W_seq ?_
  refine W_region (by kernel_rfl) ?_
  refine s_y (v := .pointer (some ⟨b2, o2, none⟩)) rfl (y_move rfl) ?_
  refine s_k rfl (k_call T99.fn_114 (c_s_l02Own (B.r 2 rfl) (B.r 3 rfl) (B.r 4 rfl) (B.s 5 rfl) (by omega) (by omega) (by omega)) rfl ?_)
  rintro _ w4 ⟨a5, c6, a7, c8, a9, c10, rfl, hN11⟩
  replace B := B.new3 hN11
  clear hN11
  refine s_k rfl (k_allocN (z := (.agg #[.slice none 0 0, .slice none 0 0, .slice none 0 0])) (cs := [.slice none 0 0, .slice none 0 0, .slice none 0 0]) T99.zero_29 rfl (fun b12 w13 hN14 => ?_))
  replace B := B.new1 hN14
  clear hN14
  refine s_k0 rfl (k_stB (v := .agg #[.slice a5 nfe c6, .slice a7 nfx c8, .slice a9 nfy c10]) (n := 3) (cs' := [.slice a5 nfe c6, .slice a7 nfx c8, .slice a9 nfy c10]) T99.sz_29_3 rfl rfl rfl (B.b 0 rfl) (by simp [Value.cells, Value.oneCell']) (Nat.le_of_ble_eq_true rfl) rfl (fun w15 hU16 => ?_))
  replace B : Bu w no w15 [.blk b12 [.slice a5 nfe c6, .slice a7 nfx c8, .slice a9 nfy c10] 29, .ow kF a5 nfe c6 35 Xfe, .ow kF a7 nfx c8 35 Xfx, .ow kF a9 nfy c10 35 Xfy, .blk b1 [.slice none 0 0, .slice none 0 0, .slice none 0 0] 29, .sl (some ⟨b, o, none⟩) [.int .i64 wd, .int .i64 hi, .bool wr, .slice asp nsp csp, .slice als nls cls], .rd kF afe nfe Xfe, .rd kF afx nfx Xfx, .rd kF afy nfy Xfy, .sl (some ⟨b2, o2, none⟩) [.slice afe nfe cfe, .slice afx nfx cfx, .slice afy nfy cfy]] := B.upd [0] rfl hU16
  clear hU16
  refine s_nil ?_
  refine W_seq ?_
  refine W_seq ?_
  refine W_region (by kernel_rfl) ?_
  refine s_y (v := .int .i64 0) rfl (y_assign rfl) ?_
  refine s_nil ?_
  refine W_block ?_
  refine W_loop (fun ρ' w' => ∃ (ρ1 : Env) (py : Int), ρ' = updL ρ1 [(0, .pointer (some ⟨b, o, none⟩)), (1, .pointer (some ⟨b2, o2, none⟩)), (4, .pointer (some ⟨b1, 0, none⟩)), (5, .pointer (some ⟨b12, 0, none⟩)), (6, .int .i64 py)] ∧ Bu w no w' [.ow kF a7 nfx c8 35 (mix (wd * hi) (wd * py) (fun i => hxF wd hi wr Xfe Xfx (i % wd) (i / wd)) Xfx), .ow kF a9 nfy c10 35 (mix (wd * hi) (wd * py) (fun i => hyF wd hi wr Xfe Xfy (i % wd) (i / wd)) Xfy), .blk b12 [.slice a5 nfe c6, .slice a7 nfx c8, .slice a9 nfy c10] 29, .ow kF a5 nfe c6 35 Xfe, .blk b1 [.slice none 0 0, .slice none 0 0, .slice none 0 0] 29, .sl (some ⟨b, o, none⟩) [.int .i64 wd, .int .i64 hi, .bool wr, .slice asp nsp csp, .slice als nls cls], .rd kF afe nfe Xfe, .rd kF afx nfx Xfx, .rd kF afy nfy Xfy, .sl (some ⟨b2, o2, none⟩) [.slice afe nfe cfe, .slice afx nfx cfx, .slice afy nfy cfy]] ∧ (0 ≤ py) ∧ (py ≤ hi)) (fun ρ' _ => (hi - iv (ρ' 6)).toNat) ?_ ?_
  · replace B : Bu w no w15 [.blk b12 [.slice a5 nfe c6, .slice a7 nfx c8, .slice a9 nfy c10] 29, .ow kF a5 nfe c6 35 Xfe, .ow kF a7 nfx c8 35 (mix (wd * hi) (wd * 0) (fun i => hxF wd hi wr Xfe Xfx (i % wd) (i / wd)) Xfx), .ow kF a9 nfy c10 35 Xfy, .blk b1 [.slice none 0 0, .slice none 0 0, .slice none 0 0] 29, .sl (some ⟨b, o, none⟩) [.int .i64 wd, .int .i64 hi, .bool wr, .slice asp nsp csp, .slice als nls cls], .rd kF afe nfe Xfe, .rd kF afx nfx Xfx, .rd kF afy nfy Xfy, .sl (some ⟨b2, o2, none⟩) [.slice afe nfe cfe, .slice afx nfx cfx, .slice afy nfy cfy]] := B.castX 2 rfl rfl ((mix_zero (by omega)).trans (congrArg (fun q => mix (wd * hi) q (fun i => hxF wd hi wr Xfe Xfx (i % wd) (i / wd)) _) (Int.mul_zero wd).symm))
    replace B : Bu w no w15 [.blk b12 [.slice a5 nfe c6, .slice a7 nfx c8, .slice a9 nfy c10] 29, .ow kF a5 nfe c6 35 Xfe, .ow kF a7 nfx c8 35 (mix (wd * hi) (wd * 0) (fun i => hxF wd hi wr Xfe Xfx (i % wd) (i / wd)) Xfx), .ow kF a9 nfy c10 35 (mix (wd * hi) (wd * 0) (fun i => hyF wd hi wr Xfe Xfy (i % wd) (i / wd)) Xfy), .blk b1 [.slice none 0 0, .slice none 0 0, .slice none 0 0] 29, .sl (some ⟨b, o, none⟩) [.int .i64 wd, .int .i64 hi, .bool wr, .slice asp nsp csp, .slice als nls cls], .rd kF afe nfe Xfe, .rd kF afx nfx Xfx, .rd kF afy nfy Xfy, .sl (some ⟨b2, o2, none⟩) [.slice afe nfe cfe, .slice afx nfx cfx, .slice afy nfy cfy]] := B.castX 3 rfl rfl ((mix_zero (by omega)).trans (congrArg (fun q => mix (wd * hi) q (fun i => hyF wd hi wr Xfe Xfy (i % wd) (i / wd)) _) (Int.mul_zero wd).symm))
    exact ⟨_, 0, Fits.eq ⟨rfl, rfl, rfl, rfl, rfl, trivial⟩, (B.pick [2, 3, 0, 1, 4, 5, 6, 7, 8, 9] rfl rfl), (Int.le_refl _), (by omega)⟩
  · clear B; rintro _ w17 ⟨ρ18, py, rfl, B, h0py, h1py⟩
    refine W_seq ?_
    refine W_seq ?_
    refine W_region (by kernel_rfl) ?_
    refine s_y (v := .int .i64 py) rfl (y_move rfl) ?_
    refine s_y (v := .pointer (some ⟨b, o, none⟩)) rfl (y_move rfl) ?_
    refine s_y (v := .pointer (some ⟨b, o, none⟩)) rfl (y_nil rfl) ?_
    refine s_y (v := .pointer (some ⟨b, o + 1, none⟩)) rfl (y_fld (o := o + 0) T99.fld_26_1_1 rfl) ?_
    refine s_y (v := .int .i64 hi) rfl (y_load T99.one_2 rfl ((B.s 5 rfl).cell (j := 1) rfl)) ?_
    by_cases c19 : py < hi
    · refine s_y (v := .bool true) rfl (y_lss rfl rfl (decide_eq_true c19)) ?_
      refine s_nil ?_
      refine W_if_t (by decide) rfl ?_
      refine W_skip ?_
      refine W_seq ?_
      refine W_block ?_
      refine W_seq ?_
      refine W_region (by kernel_rfl) ?_
      refine s_y (v := .int .i64 0) rfl (y_assign rfl) ?_
      refine s_nil ?_
      refine W_block ?_
      refine W_loop (fun ρ' w' => ∃ (ρ1 : Env) (px : Int), ρ' = updL ρ1 [(0, .pointer (some ⟨b, o, none⟩)), (1, .pointer (some ⟨b2, o2, none⟩)), (4, .pointer (some ⟨b1, 0, none⟩)), (5, .pointer (some ⟨b12, 0, none⟩)), (6, .int .i64 py), (7, .int .i64 px), (11, .int .i64 py), (12, .pointer (some ⟨b, o, none⟩)), (13, .pointer (some ⟨b, o, none⟩)), (14, .pointer (some ⟨b, o + 1, none⟩)), (15, .int .i64 hi), (16, .bool true)] ∧ Bu w no w' [.ow kF a7 nfx c8 35 (mix (wd * hi) (wd * py + px) (fun i => hxF wd hi wr Xfe Xfx (i % wd) (i / wd)) Xfx), .ow kF a9 nfy c10 35 (mix (wd * hi) (wd * py + px) (fun i => hyF wd hi wr Xfe Xfy (i % wd) (i / wd)) Xfy), .blk b12 [.slice a5 nfe c6, .slice a7 nfx c8, .slice a9 nfy c10] 29, .ow kF a5 nfe c6 35 Xfe, .blk b1 [.slice none 0 0, .slice none 0 0, .slice none 0 0] 29, .sl (some ⟨b, o, none⟩) [.int .i64 wd, .int .i64 hi, .bool wr, .slice asp nsp csp, .slice als nls cls], .rd kF afe nfe Xfe, .rd kF afx nfx Xfx, .rd kF afy nfy Xfy, .sl (some ⟨b2, o2, none⟩) [.slice afe nfe cfe, .slice afx nfx cfx, .slice afy nfy cfy]] ∧ (0 ≤ px) ∧ (px ≤ wd)) (fun ρ' _ => (wd - iv (ρ' 7)).toNat) ?_ ?_
      · replace B : Bu w no w17 [.ow kF a7 nfx c8 35 (mix (wd * hi) (wd * py + 0) (fun i => hxF wd hi wr Xfe Xfx (i % wd) (i / wd)) Xfx), .ow kF a9 nfy c10 35 (mix (wd * hi) (wd * py) (fun i => hyF wd hi wr Xfe Xfy (i % wd) (i / wd)) Xfy), .blk b12 [.slice a5 nfe c6, .slice a7 nfx c8, .slice a9 nfy c10] 29, .ow kF a5 nfe c6 35 Xfe, .blk b1 [.slice none 0 0, .slice none 0 0, .slice none 0 0] 29, .sl (some ⟨b, o, none⟩) [.int .i64 wd, .int .i64 hi, .bool wr, .slice asp nsp csp, .slice als nls cls], .rd kF afe nfe Xfe, .rd kF afx nfx Xfx, .rd kF afy nfy Xfy, .sl (some ⟨b2, o2, none⟩) [.slice afe nfe cfe, .slice afx nfx cfx, .slice afy nfy cfy]] := B.castX 0 rfl rfl (congrArg (fun q => mix (wd * hi) q (fun i => hxF wd hi wr Xfe Xfx (i % wd) (i / wd)) _) (Int.add_zero _).symm)
        replace B : Bu w no w17 [.ow kF a7 nfx c8 35 (mix (wd * hi) (wd * py + 0) (fun i => hxF wd hi wr Xfe Xfx (i % wd) (i / wd)) Xfx), .ow kF a9 nfy c10 35 (mix (wd * hi) (wd * py + 0) (fun i => hyF wd hi wr Xfe Xfy (i % wd) (i / wd)) Xfy), .blk b12 [.slice a5 nfe c6, .slice a7 nfx c8, .slice a9 nfy c10] 29, .ow kF a5 nfe c6 35 Xfe, .blk b1 [.slice none 0 0, .slice none 0 0, .slice none 0 0] 29, .sl (some ⟨b, o, none⟩) [.int .i64 wd, .int .i64 hi, .bool wr, .slice asp nsp csp, .slice als nls cls], .rd kF afe nfe Xfe, .rd kF afx nfx Xfx, .rd kF afy nfy Xfy, .sl (some ⟨b2, o2, none⟩) [.slice afe nfe cfe, .slice afx nfx cfx, .slice afy nfy cfy]] := B.castX 1 rfl rfl (congrArg (fun q => mix (wd * hi) q (fun i => hyF wd hi wr Xfe Xfy (i % wd) (i / wd)) _) (Int.add_zero _).symm)
        exact ⟨_, 0, Fits.eq ⟨rfl, rfl, rfl, rfl, rfl, rfl, rfl, rfl, rfl, rfl, rfl, rfl, trivial⟩, B, (Int.le_refl _), (by omega)⟩
      · clear B; rintro _ w20 ⟨ρ21, px, rfl, B, h0px, h1px⟩
        refine W_seq ?_
        refine W_seq ?_
        refine W_region (by kernel_rfl) ?_
        refine s_y (v := .int .i64 px) rfl (y_move rfl) ?_
        refine s_y (v := .pointer (some ⟨b, o, none⟩)) rfl (y_move rfl) ?_
        refine s_y (v := .pointer (some ⟨b, o, none⟩)) rfl (y_nil rfl) ?_
        refine s_y (v := .pointer (some ⟨b, o, none⟩)) rfl (y_fld (o := o + 0) T99.fld_26_0_0 rfl) ?_
        refine s_y (v := .int .i64 wd) rfl (y_load T99.one_2 rfl ((B.s 5 rfl).cell (j := 0) rfl)) ?_
        by_cases c22 : px < wd
        · refine s_y (v := .bool true) rfl (y_lss rfl rfl (decide_eq_true c22)) ?_
          refine s_nil ?_
          refine W_if_t (by decide) rfl ?_
          refine W_skip ?_
          refine W_seq ?_
          refine W_block ?_
          refine W_seq ?_
          refine W_region (by kernel_rfl) ?_
          refine s_y (v := .pointer (some ⟨b, o, none⟩)) rfl (y_move rfl) ?_
          refine s_y (v := .int .i64 px) rfl (y_move rfl) ?_
          refine s_y (v := .int .i64 py) rfl (y_move rfl) ?_
          refine s_k rfl (k_call T99.fn_117 (c_s_l03At (B.s 5 rfl) (by omega) (by omega) (by omega) (by omega) (by omega) (by omega) (by omega) (by omega)) rfl ?_)
          rintro _ w23 ⟨rfl, e24⟩
          replace B := B.ext0 e24
          clear e24
          have hat25 := atI_b (wd := wd) (hi := hi) (x := px) (y := py) (by omega) (by omega)
          refine s_y (v := .int .i64 (atI wd hi px py)) rfl (y_assign rfl) ?_
          refine s_nil ?_
          refine W_seq ?_
          have B0_30 := B
          refine W_draw (no) T99.mx (by kernel_rfl) (fun w28 e29 => ?_)
          have R31 := Ext.refl (no) w23
          replace R31 := R31.trans (Ext0.any e29)
          replace B := B.ext0 e29
          clear e29
          refine m_y (v := .pointer (some ⟨b12, 1, none⟩)) 0 rfl (by kernel_rfl) rfl rfl (fun w' e' => y_fld (o := 0) T99.fld_29_1_1 rfl) ?_
          refine m_y (v := .slice a7 nfx c8) 1 rfl (by kernel_rfl) rfl rfl (fun w' e' => y_load T99.one_24 rfl (((B0_30.b 2 rfl).ext0 e').cell (j := 1) rfl)) ?_
          refine m_y (v := .int .i64 (atI wd hi px py)) 2 rfl (by kernel_rfl) rfl rfl (fun w' e' => y_move rfl) ?_
          refine m_y (v := .pointer (some ⟨b, o, none⟩)) 3 rfl (by kernel_rfl) rfl rfl (fun w' e' => y_move rfl) ?_
          refine m_y (v := .pointer (some ⟨b2, o2, none⟩)) 4 rfl (by kernel_rfl) rfl rfl (fun w' e' => y_move rfl) ?_
          refine m_y (v := .int .i64 px) 5 rfl (by kernel_rfl) rfl rfl (fun w' e' => y_move rfl) ?_
          refine m_y (v := .int .i64 py) 6 rfl (by kernel_rfl) rfl rfl (fun w' e' => y_move rfl) ?_
          refine m_k 7 [8, 9] rfl (by kernel_rfl) rfl rfl (fun w32 e33 => ?_)
          replace R31 := R31.trans (Ext0.any e33)
          replace B := B.ext0 e33
          clear e33
          refine k_call T99.fn_131 (c_s_l03HalfX (B.s 5 rfl) (B.r 6 rfl) (B.r 7 rfl) (B.r 8 rfl) (B.s 9 rfl) (by omega) (by omega) (by omega) (by omega) (by omega) (by omega) (by omega) (by omega) (by omega) (by omega) (by omega)) rfl ?_
          rintro _ w34 ⟨⟨r36, rfl, hr37⟩, e35⟩
          replace R31 := R31.trans (Ext0.any e35)
          replace B := B.ext0 e35
          clear e35
          refine ⟨fun _ => R31, ?_⟩
          refine m_y (v := .pointer (some (sat a7 ((atI wd hi px py).toNat * 1)))) 8 rfl (by kernel_rfl) rfl rfl (fun w' e' => y_idx T99.sl_24_35_1 rfl rfl ((B.o 0 rfl).rd.addr (by omega)) (by omega) (by omega)) ?_
          refine m_kt 9 [] rfl (by kernel_rfl) rfl rfl (by kernel_rfl) (fun w40 e41 => ?_)
          replace R31 := R31.trans (Ext0.any e41)
          replace B := B.ext0 e41
          clear e41
          refine k_stO (k := kF) (i := atI wd hi px py) (j := 0) (x' := hxF wd hi wr Xfe Xfx px py) (new := [.float .f32 r36]) T99.sz_35_1 rfl rfl rfl rfl rfl (by simp [Value.oneCell']) (by decide) (B.o 0 rfl) (by omega) (by omega) (by decide) (by rintro q ⟨_, rfl, _⟩; exact ⟨_, rfl, hr37⟩) (fun w38 hU39 => ?_)
          clear R31
          replace B : Bu w no w38 [.ow kF a7 nfx c8 35 (put (mix (wd * hi) (wd * py + px) (fun i => hxF wd hi wr Xfe Xfx (i % wd) (i / wd)) Xfx) (atI wd hi px py) (hxF wd hi wr Xfe Xfx px py)), .ow kF a9 nfy c10 35 (mix (wd * hi) (wd * py + px) (fun i => hyF wd hi wr Xfe Xfy (i % wd) (i / wd)) Xfy), .blk b12 [.slice a5 nfe c6, .slice a7 nfx c8, .slice a9 nfy c10] 29, .ow kF a5 nfe c6 35 Xfe, .blk b1 [.slice none 0 0, .slice none 0 0, .slice none 0 0] 29, .sl (some ⟨b, o, none⟩) [.int .i64 wd, .int .i64 hi, .bool wr, .slice asp nsp csp, .slice als nls cls], .rd kF afe nfe Xfe, .rd kF afx nfx Xfx, .rd kF afy nfy Xfy, .sl (some ⟨b2, o2, none⟩) [.slice afe nfe cfe, .slice afx nfx cfx, .slice afy nfy cfy]] := B.upd [0] rfl hU39
          clear hU39
          refine m_done (by kernel_rfl) (fun w42 e43 => ?_)
          replace B := B.ext0 e43
          clear e43
          clear B0_30
          have B0_48 := B
          refine W_draw (no) T99.mx (by kernel_rfl) (fun w46 e47 => ?_)
          have R49 := Ext.refl (no) w42
          replace R49 := R49.trans (Ext0.any e47)
          replace B := B.ext0 e47
          clear e47
          refine m_y (v := .pointer (some ⟨b12, 2, none⟩)) 0 rfl (by kernel_rfl) rfl rfl (fun w' e' => y_fld (o := 0) T99.fld_29_2_2 rfl) ?_
          refine m_y (v := .slice a9 nfy c10) 1 rfl (by kernel_rfl) rfl rfl (fun w' e' => y_load T99.one_24 rfl (((B0_48.b 2 rfl).ext0 e').cell (j := 2) rfl)) ?_
          refine m_y (v := .int .i64 (atI wd hi px py)) 2 rfl (by kernel_rfl) rfl rfl (fun w' e' => y_move rfl) ?_
          refine m_y (v := .pointer (some ⟨b, o, none⟩)) 3 rfl (by kernel_rfl) rfl rfl (fun w' e' => y_move rfl) ?_
          refine m_y (v := .pointer (some ⟨b2, o2, none⟩)) 4 rfl (by kernel_rfl) rfl rfl (fun w' e' => y_move rfl) ?_
          refine m_y (v := .int .i64 px) 5 rfl (by kernel_rfl) rfl rfl (fun w' e' => y_move rfl) ?_
          refine m_y (v := .int .i64 py) 6 rfl (by kernel_rfl) rfl rfl (fun w' e' => y_move rfl) ?_
          refine m_k 7 [8, 9] rfl (by kernel_rfl) rfl rfl (fun w50 e51 => ?_)
          replace R49 := R49.trans (Ext0.any e51)
          replace B := B.ext0 e51
          clear e51
          refine k_call T99.fn_132 (c_s_l03HalfY (B.s 5 rfl) (B.r 6 rfl) (B.r 7 rfl) (B.r 8 rfl) (B.s 9 rfl) (by omega) (by omega) (by omega) (by omega) (by omega) (by omega) (by omega) (by omega) (by omega) (by omega) (by omega)) rfl ?_
          rintro _ w52 ⟨⟨r54, rfl, hr55⟩, e53⟩
          replace R49 := R49.trans (Ext0.any e53)
          replace B := B.ext0 e53
          clear e53
          refine ⟨fun _ => R49, ?_⟩
          refine m_y (v := .pointer (some (sat a9 ((atI wd hi px py).toNat * 1)))) 8 rfl (by kernel_rfl) rfl rfl (fun w' e' => y_idx T99.sl_24_35_1 rfl rfl ((B.o 1 rfl).rd.addr (by omega)) (by omega) (by omega)) ?_
          refine m_kt 9 [] rfl (by kernel_rfl) rfl rfl (by kernel_rfl) (fun w58 e59 => ?_)
          replace R49 := R49.trans (Ext0.any e59)
          replace B := B.ext0 e59
          clear e59
          refine k_stO (k := kF) (i := atI wd hi px py) (j := 0) (x' := hyF wd hi wr Xfe Xfy px py) (new := [.float .f32 r54]) T99.sz_35_1 rfl rfl rfl rfl rfl (by simp [Value.oneCell']) (by decide) (B.o 1 rfl) (by omega) (by omega) (by decide) (by rintro q ⟨_, rfl, _⟩; exact ⟨_, rfl, hr55⟩) (fun w56 hU57 => ?_)
          clear R49
          replace B : Bu w no w56 [.ow kF a9 nfy c10 35 (put (mix (wd * hi) (wd * py + px) (fun i => hyF wd hi wr Xfe Xfy (i % wd) (i / wd)) Xfy) (atI wd hi px py) (hyF wd hi wr Xfe Xfy px py)), .ow kF a7 nfx c8 35 (put (mix (wd * hi) (wd * py + px) (fun i => hxF wd hi wr Xfe Xfx (i % wd) (i / wd)) Xfx) (atI wd hi px py) (hxF wd hi wr Xfe Xfx px py)), .blk b12 [.slice a5 nfe c6, .slice a7 nfx c8, .slice a9 nfy c10] 29, .ow kF a5 nfe c6 35 Xfe, .blk b1 [.slice none 0 0, .slice none 0 0, .slice none 0 0] 29, .sl (some ⟨b, o, none⟩) [.int .i64 wd, .int .i64 hi, .bool wr, .slice asp nsp csp, .slice als nls cls], .rd kF afe nfe Xfe, .rd kF afx nfx Xfx, .rd kF afy nfy Xfy, .sl (some ⟨b2, o2, none⟩) [.slice afe nfe cfe, .slice afx nfx cfx, .slice afy nfy cfy]] := B.upd [1] rfl hU57
          clear hU57
          refine m_done (by kernel_rfl) (fun w60 e61 => ?_)
          replace B := B.ext0 e61
          clear e61
          clear B0_48
          refine W_region (by kernel_rfl) ?_
          refine s_y (v := .int .i64 px) rfl (y_move rfl) ?_
          refine s_y (v := .int .i64 (px + 1)) rfl (y_add rfl rfl rfl (by omega)) ?_
          refine s_y (v := .int .i64 (px + 1)) rfl (y_assign rfl) ?_
          refine s_nil ?_
          replace B : Bu w no w60 [.ow kF a9 nfy c10 35 (put (mix (wd * hi) (wd * py + px) (fun i => hyF wd hi wr Xfe Xfy (i % wd) (i / wd)) Xfy) (atI wd hi px py) (hyF wd hi wr Xfe Xfy px py)), .ow kF a7 nfx c8 35 (mix (wd * hi) (wd * py + (px + 1)) (fun i => hxF wd hi wr Xfe Xfx (i % wd) (i / wd)) Xfx), .blk b12 [.slice a5 nfe c6, .slice a7 nfx c8, .slice a9 nfy c10] 29, .ow kF a5 nfe c6 35 Xfe, .blk b1 [.slice none 0 0, .slice none 0 0, .slice none 0 0] 29, .sl (some ⟨b, o, none⟩) [.int .i64 wd, .int .i64 hi, .bool wr, .slice asp nsp csp, .slice als nls cls], .rd kF afe nfe Xfe, .rd kF afx nfx Xfx, .rd kF afy nfy Xfy, .sl (some ⟨b2, o2, none⟩) [.slice afe nfe cfe, .slice afx nfx cfx, .slice afy nfy cfy]] := B.castX 1 rfl rfl (mix_cell (G := hxF wd hi wr Xfe Xfx) rfl (by omega) (by omega) (by omega) (by omega) rfl rfl)
          replace B : Bu w no w60 [.ow kF a9 nfy c10 35 (mix (wd * hi) (wd * py + (px + 1)) (fun i => hyF wd hi wr Xfe Xfy (i % wd) (i / wd)) Xfy), .ow kF a7 nfx c8 35 (mix (wd * hi) (wd * py + (px + 1)) (fun i => hxF wd hi wr Xfe Xfx (i % wd) (i / wd)) Xfx), .blk b12 [.slice a5 nfe c6, .slice a7 nfx c8, .slice a9 nfy c10] 29, .ow kF a5 nfe c6 35 Xfe, .blk b1 [.slice none 0 0, .slice none 0 0, .slice none 0 0] 29, .sl (some ⟨b, o, none⟩) [.int .i64 wd, .int .i64 hi, .bool wr, .slice asp nsp csp, .slice als nls cls], .rd kF afe nfe Xfe, .rd kF afx nfx Xfx, .rd kF afy nfy Xfy, .sl (some ⟨b2, o2, none⟩) [.slice afe nfe cfe, .slice afx nfx cfx, .slice afy nfy cfy]] := B.castX 0 rfl rfl (mix_cell (G := hyF wd hi wr Xfe Xfy) rfl (by omega) (by omega) (by omega) (by omega) rfl rfl)
          refine ⟨⟨_, px + 1, Fits.eq ⟨rfl, rfl, rfl, rfl, rfl, rfl, rfl, rfl, rfl, rfl, rfl, rfl, trivial⟩, (B.pick [1, 0, 2, 3, 4, 5, 6, 7, 8, 9] rfl rfl), (by omega), (by omega)⟩, ?_⟩
          show (wd - (px + 1)).toNat < (wd - px).toNat
          omega
        · refine s_y (v := .bool false) rfl (y_lss rfl rfl (decide_eq_false c22)) ?_
          refine s_nil ?_
          refine W_if_f (by decide) rfl ?_
          refine W_exit ?_
          refine W_region (by kernel_rfl) ?_
          refine s_y (v := .int .i64 py) rfl (y_move rfl) ?_
          refine s_y (v := .int .i64 (py + 1)) rfl (y_add rfl rfl rfl (by omega)) ?_
          refine s_y (v := .int .i64 (py + 1)) rfl (y_assign rfl) ?_
          refine s_nil ?_
          replace B : Bu w no w20 [.ow kF a7 nfx c8 35 (mix (wd * hi) (wd * (py + 1)) (fun i => hxF wd hi wr Xfe Xfx (i % wd) (i / wd)) Xfx), .ow kF a9 nfy c10 35 (mix (wd * hi) (wd * py + px) (fun i => hyF wd hi wr Xfe Xfy (i % wd) (i / wd)) Xfy), .blk b12 [.slice a5 nfe c6, .slice a7 nfx c8, .slice a9 nfy c10] 29, .ow kF a5 nfe c6 35 Xfe, .blk b1 [.slice none 0 0, .slice none 0 0, .slice none 0 0] 29, .sl (some ⟨b, o, none⟩) [.int .i64 wd, .int .i64 hi, .bool wr, .slice asp nsp csp, .slice als nls cls], .rd kF afe nfe Xfe, .rd kF afx nfx Xfx, .rd kF afy nfy Xfy, .sl (some ⟨b2, o2, none⟩) [.slice afe nfe cfe, .slice afx nfx cfx, .slice afy nfy cfy]] := B.castX 0 rfl rfl (congrArg (fun q => mix (wd * hi) q (fun i => hxF wd hi wr Xfe Xfx (i % wd) (i / wd)) _) (show wd * py + px = wd * (py + 1) by rw [Int.mul_add, Int.mul_one]; omega))
          replace B : Bu w no w20 [.ow kF a7 nfx c8 35 (mix (wd * hi) (wd * (py + 1)) (fun i => hxF wd hi wr Xfe Xfx (i % wd) (i / wd)) Xfx), .ow kF a9 nfy c10 35 (mix (wd * hi) (wd * (py + 1)) (fun i => hyF wd hi wr Xfe Xfy (i % wd) (i / wd)) Xfy), .blk b12 [.slice a5 nfe c6, .slice a7 nfx c8, .slice a9 nfy c10] 29, .ow kF a5 nfe c6 35 Xfe, .blk b1 [.slice none 0 0, .slice none 0 0, .slice none 0 0] 29, .sl (some ⟨b, o, none⟩) [.int .i64 wd, .int .i64 hi, .bool wr, .slice asp nsp csp, .slice als nls cls], .rd kF afe nfe Xfe, .rd kF afx nfx Xfx, .rd kF afy nfy Xfy, .sl (some ⟨b2, o2, none⟩) [.slice afe nfe cfe, .slice afx nfx cfx, .slice afy nfy cfy]] := B.castX 1 rfl rfl (congrArg (fun q => mix (wd * hi) q (fun i => hyF wd hi wr Xfe Xfy (i % wd) (i / wd)) _) (show wd * py + px = wd * (py + 1) by rw [Int.mul_add, Int.mul_one]; omega))
          refine ⟨⟨_, py + 1, Fits.eq ⟨rfl, rfl, rfl, rfl, rfl, trivial⟩, B, (by omega), (by omega)⟩, ?_⟩
          show (hi - (py + 1)).toNat < (hi - py).toNat
          omega
    · refine s_y (v := .bool false) rfl (y_lss rfl rfl (decide_eq_false c19)) ?_
      refine s_nil ?_
      refine W_if_f (by decide) rfl ?_
      refine W_exit ?_
      have hye : py = hi := by omega
      subst hye
      replace B : Bu w no w17 [.ow kF a7 nfx c8 35 (tab (wd * py) (fun i => hxF wd py wr Xfe Xfx (i % wd) (i / wd))), .ow kF a9 nfy c10 35 (mix (wd * py) (wd * py) (fun i => hyF wd py wr Xfe Xfy (i % wd) (i / wd)) Xfy), .blk b12 [.slice a5 nfe c6, .slice a7 nfx c8, .slice a9 nfy c10] 29, .ow kF a5 nfe c6 35 Xfe, .blk b1 [.slice none 0 0, .slice none 0 0, .slice none 0 0] 29, .sl (some ⟨b, o, none⟩) [.int .i64 wd, .int .i64 py, .bool wr, .slice asp nsp csp, .slice als nls cls], .rd kF afe nfe Xfe, .rd kF afx nfx Xfx, .rd kF afy nfy Xfy, .sl (some ⟨b2, o2, none⟩) [.slice afe nfe cfe, .slice afx nfx cfx, .slice afy nfy cfy]] := B.castX 0 rfl rfl mix_all
      replace B : Bu w no w17 [.ow kF a7 nfx c8 35 (tab (wd * py) (fun i => hxF wd py wr Xfe Xfx (i % wd) (i / wd))), .ow kF a9 nfy c10 35 (tab (wd * py) (fun i => hyF wd py wr Xfe Xfy (i % wd) (i / wd))), .blk b12 [.slice a5 nfe c6, .slice a7 nfx c8, .slice a9 nfy c10] 29, .ow kF a5 nfe c6 35 Xfe, .blk b1 [.slice none 0 0, .slice none 0 0, .slice none 0 0] 29, .sl (some ⟨b, o, none⟩) [.int .i64 wd, .int .i64 py, .bool wr, .slice asp nsp csp, .slice als nls cls], .rd kF afe nfe Xfe, .rd kF afx nfx Xfx, .rd kF afy nfy Xfy, .sl (some ⟨b2, o2, none⟩) [.slice afe nfe cfe, .slice afx nfx cfx, .slice afy nfy cfy]] := B.castX 1 rfl rfl mix_all
      refine W_seq ?_
      refine W_region (by kernel_rfl) ?_
      refine s_y (v := .agg #[.slice a5 nfe c6, .slice a7 nfx c8, .slice a9 nfy c10]) rfl (y_loadn (b := b12) (o := 0) (vs := [.slice a5 nfe c6, .slice a7 nfx c8, .slice a9 nfy c10]) T99.agg_29_3 rfl rfl ((B.b 2 rfl).cells (o := 0) rfl)) ?_
      refine s_k0 rfl (k_stB (v := .agg #[.slice a5 nfe c6, .slice a7 nfx c8, .slice a9 nfy c10]) (n := 3) (cs' := [.slice a5 nfe c6, .slice a7 nfx c8, .slice a9 nfy c10]) T99.sz_29_3 rfl rfl rfl (B.b 4 rfl) (by simp [Value.cells, Value.oneCell']) (Nat.le_of_ble_eq_true rfl) rfl (fun w62 hU63 => ?_))
      replace B : Bu w no w62 [.blk b1 [.slice a5 nfe c6, .slice a7 nfx c8, .slice a9 nfy c10] 29, .ow kF a7 nfx c8 35 (tab (wd * py) (fun i => hxF wd py wr Xfe Xfx (i % wd) (i / wd))), .ow kF a9 nfy c10 35 (tab (wd * py) (fun i => hyF wd py wr Xfe Xfy (i % wd) (i / wd))), .blk b12 [.slice a5 nfe c6, .slice a7 nfx c8, .slice a9 nfy c10] 29, .ow kF a5 nfe c6 35 Xfe, .sl (some ⟨b, o, none⟩) [.int .i64 wd, .int .i64 py, .bool wr, .slice asp nsp csp, .slice als nls cls], .rd kF afe nfe Xfe, .rd kF afx nfx Xfx, .rd kF afy nfy Xfy, .sl (some ⟨b2, o2, none⟩) [.slice afe nfe cfe, .slice afx nfx cfx, .slice afy nfy cfy]] := B.upd [4] rfl hU63
      clear hU63
      refine s_nil ?_
      refine W_ret ?_
      refine ret1 (v := .agg #[.slice a5 nfe c6, .slice a7 nfx c8, .slice a9 nfy c10]) rfl rfl ⟨_, [.slice a5 nfe c6, .slice a7 nfx c8, .slice a9 nfy c10], _, rfl, (B.b 0 rfl), T99.agg_29_3, rfl⟩ ⟨_, rfl, ?_⟩
      replace B : Bu w no w62 [.blk b1 [.slice a5 nfe c6, .slice a7 nfx c8, .slice a9 nfy c10] 29, .ow kF a7 nfx c8 35 (hxL wd py wr Xfe Xfx), .ow kF a9 nfy c10 35 (tab (wd * py) (fun i => hyF wd py wr Xfe Xfy (i % wd) (i / wd))), .blk b12 [.slice a5 nfe c6, .slice a7 nfx c8, .slice a9 nfy c10] 29, .ow kF a5 nfe c6 35 Xfe, .sl (some ⟨b, o, none⟩) [.int .i64 wd, .int .i64 py, .bool wr, .slice asp nsp csp, .slice als nls cls], .rd kF afe nfe Xfe, .rd kF afx nfx Xfx, .rd kF afy nfy Xfy, .sl (some ⟨b2, o2, none⟩) [.slice afe nfe cfe, .slice afx nfx cfx, .slice afy nfy cfy]] := B.castX 1 rfl rfl rfl
      replace B : Bu w no w62 [.blk b1 [.slice a5 nfe c6, .slice a7 nfx c8, .slice a9 nfy c10] 29, .ow kF a7 nfx c8 35 (hxL wd py wr Xfe Xfx), .ow kF a9 nfy c10 35 (hyL wd py wr Xfe Xfy), .blk b12 [.slice a5 nfe c6, .slice a7 nfx c8, .slice a9 nfy c10] 29, .ow kF a5 nfe c6 35 Xfe, .sl (some ⟨b, o, none⟩) [.int .i64 wd, .int .i64 py, .bool wr, .slice asp nsp csp, .slice als nls cls], .rd kF afe nfe Xfe, .rd kF afx nfx Xfx, .rd kF afy nfy Xfy, .sl (some ⟨b2, o2, none⟩) [.slice afe nfe cfe, .slice afx nfx cfx, .slice afy nfy cfy]] := B.castX 2 rfl rfl rfl
      exact ⟨_, _, _, _, _, _, rfl, B.give [4, 1, 2] rfl rfl rfl⟩
namespace T44
theorem mx : Try.prog.follows .mixedOrders = true := by kernel_rfl
theorem agg_29_3 : aggB Try.prog 29 3 = true := by kernel_rfl
theorem fn_94 : fnB Try.prog 94 = true := by kernel_rfl
theorem fn_99 : fnB Try.prog 99 = true := by kernel_rfl
theorem sz_29_3 : szB Try.prog 29 3 = true := by kernel_rfl
theorem zero_29 : zeroB Try.prog 29 (.agg #[.slice none 0 0, .slice none 0 0, .slice none 0 0]) := by unfold zeroB; kernel_rfl
end T44
set_option maxRecDepth 100000 in
set_option maxHeartbeats 4000000 in
theorem c_s_HalfStep {wd : Int} {hi : Int} {wr : Bool} {asp : Option Addr} {nsp : Nat} {csp : Nat} {Xsp : List Nat} {als : Option Addr} {nls : Nat} {cls : Nat} {Xls : List Nat} {afe : Option Addr} {nfe : Nat} {cfe : Nat} {Xfe : List Nat} {afx : Option Addr} {nfx : Nat} {cfx : Nat} {Xfx : List Nat} {afy : Option Addr} {nfy : Nat} {cfy : Nat} {Xfy : List Nat} {w : World} (qsp : Rd w kF asp nsp Xsp) (qls : Rd w kF als nls Xls) (qfe : Rd w kF afe nfe Xfe) (qfx : Rd w kF afx nfx Xfx) (qfy : Rd w kF afy nfy Xfy) (hbsp : nsp ≤ 9223372036854775806) (hbls : nls ≤ 9223372036854775806) (hbfe : nfe ≤ 9223372036854775806) (hbfx : nfx ≤ 9223372036854775806) (hbfy : nfy ≤ 9223372036854775806) :
    Calls Try.prog 44 #[.agg #[.int .i64 wd, .int .i64 hi, .bool wr, .slice asp nsp csp, .slice als nls cls], .agg #[.slice afe nfe cfe, .slice afx nfx cfx, .slice afy nfy cfy]] w (Rt fun v w' => (fieldB wd hi wr Xsp Xls Xfe Xfx Xfy = true ∧ ∃ (a1 : Option Addr) (c1 : Nat) (a2 : Option Addr) (c2 : Nat) (a3 : Option Addr) (c3 : Nat), v = .tuple #[.agg #[.slice a1 ((wd * hi).toNat) c1, .slice a2 ((wd * hi).toNat) c2, .slice a3 ((wd * hi).toNat) c3], .bool true] ∧ New w w' [.ow kF a1 ((wd * hi).toNat) c1 35 Xfe, .ow kF a2 ((wd * hi).toNat) c2 35 (hxL wd hi wr Xfe Xfx), .ow kF a3 ((wd * hi).toNat) c3 35 (hyL wd hi wr Xfe Xfy)]) ∨ (fieldB wd hi wr Xsp Xls Xfe Xfx Xfy = false ∧ v = .tuple #[.agg #[.slice none 0 0, .slice none 0 0, .slice none 0 0], .bool false] ∧ Ext0 w w')) := by
  have hlsp := qsp.len
  have hlls := qls.len
  have hlfe := qfe.len
  have hlfx := qfx.len
  have hlfy := qfy.len
  have B : Bu w no w [.rd kF asp nsp Xsp, .rd kF als nls Xls, .rd kF afe nfe Xfe, .rd kF afx nfx Xfx, .rd kF afy nfy Xfy] := Bu.ro (All.cons qsp (All.cons qls (All.cons qfe (All.cons qfx (All.cons qfy All.nil))))) rfl
  refine calls_W (n := 10) Try.func44 rfl rfl (Nat.le_of_ble_eq_true rfl) ?_
  refine W_seq ?_
  refine W_region (by kernel_rfl) ?_
  refine s_k rfl (k_boxN (v := .agg #[.int .i64 wd, .int .i64 hi, .bool wr, .slice asp nsp csp, .slice als nls cls]) (cs := [.int .i64 wd, .int .i64 hi, .bool wr, .slice asp nsp csp, .slice als nls cls]) rfl rfl (fun b1 w2 hN3 => ?_))
  replace B := B.new1 hN3
  clear hN3
  refine s_k rfl (k_boxN (v := .agg #[.slice afe nfe cfe, .slice afx nfx cfx, .slice afy nfy cfy]) (cs := [.slice afe nfe cfe, .slice afx nfx cfx, .slice afy nfy cfy]) rfl rfl (fun b4 w5 hN6 => ?_))
  replace B := B.new1 hN6
  clear hN6
  refine s_k rfl (k_allocN (z := (.agg #[.slice none 0 0, .slice none 0 0, .slice none 0 0])) (cs := [.slice none 0 0, .slice none 0 0, .slice none 0 0]) T44.zero_29 rfl (fun b7 w8 hN9 => ?_))
  replace B := B.new1 hN9
  clear hN9
  refine s_y (v := .bool false) rfl (y_assign rfl) ?_
  refine s_nil ?_
  refine W_seq ?_
  refine W_seq ?_
  refine W_region (by kernel_rfl) ?_
  refine s_k rfl (k_call T44.fn_94 (c_s_l03Both (B.r 3 rfl) (B.r 4 rfl) ((B.b 2 rfl).sl) (B.r 5 rfl) (B.r 6 rfl) (B.r 7 rfl) ((B.b 1 rfl).sl) (by omega) (by omega) (by omega) (by omega) (by omega)) rfl ?_)
  rintro v12 w10 ⟨hv13, e11⟩
  replace B := B.ext0 e11
  clear e11
  by_cases c14 : fieldB wd hi wr Xsp Xls Xfe Xfx Xfy = true
  · have hb15 := fieldB_b c14
    obtain rfl : v12 = .bool true := hv13.trans (congrArg Value.bool c14)
    refine s_y (v := .bool false) rfl (y_not rfl rfl) ?_
    refine s_nil ?_
    refine W_if_f (by decide) rfl ?_
    refine W_skip ?_
    refine W_seq ?_
    refine W_region (by kernel_rfl) ?_
    refine s_k rfl (k_call T44.fn_99 (c_s_l03Half ((B.b 2 rfl).sl) (B.r 5 rfl) (B.r 6 rfl) (B.r 7 rfl) ((B.b 1 rfl).sl) (by omega) (by omega) (by omega) (by omega) (by omega) (by omega) (by omega)) rfl ?_)
    rintro _ w16 ⟨a17, c18, a19, c20, a21, c22, rfl, hN23⟩
    replace B := B.new3 hN23
    clear hN23
    refine s_k0 rfl (k_stB (v := .agg #[.slice a17 nfe c18, .slice a19 nfx c20, .slice a21 nfy c22]) (n := 3) (cs' := [.slice a17 nfe c18, .slice a19 nfx c20, .slice a21 nfy c22]) T44.sz_29_3 rfl rfl rfl (B.b 3 rfl) (by simp [Value.cells, Value.oneCell']) (Nat.le_of_ble_eq_true rfl) rfl (fun w24 hU25 => ?_))
    replace B : Bu w no w24 [.blk b7 [.slice a17 nfe c18, .slice a19 nfx c20, .slice a21 nfy c22] 29, .ow kF a17 nfe c18 35 Xfe, .ow kF a19 nfx c20 35 (hxL wd hi wr Xfe Xfx), .ow kF a21 nfy c22 35 (hyL wd hi wr Xfe Xfy), .blk b4 [.slice afe nfe cfe, .slice afx nfx cfx, .slice afy nfy cfy] 29, .blk b1 [.int .i64 wd, .int .i64 hi, .bool wr, .slice asp nsp csp, .slice als nls cls] 26, .rd kF asp nsp Xsp, .rd kF als nls Xls, .rd kF afe nfe Xfe, .rd kF afx nfx Xfx, .rd kF afy nfy Xfy] := B.upd [3] rfl hU25
    clear hU25
    refine s_y (v := .bool true) rfl (y_assign rfl) ?_
    refine s_nil ?_
    refine W_ret ?_
    refine ret2 (v1 := .agg #[.slice a17 nfe c18, .slice a19 nfx c20, .slice a21 nfy c22]) (v2 := .bool true) rfl rfl rfl ⟨_, [.slice a17 nfe c18, .slice a19 nfx c20, .slice a21 nfy c22], _, rfl, (B.b 0 rfl), T44.agg_29_3, rfl⟩ rfl ⟨_, rfl, ?_⟩
    have hcond : fieldB wd hi wr Xsp Xls Xfe Xfx Xfy = true := by simp only [c14, Bool.and_true, Bool.true_and, Bool.and_false, Bool.false_and, Bool.not_true, Bool.not_false, Bool.or_true, Bool.true_or, Bool.or_false, Bool.false_or]
    replace B : Bu w no w24 [.blk b7 [.slice a17 nfe c18, .slice a19 nfx c20, .slice a21 nfy c22] 29, .ow kF a17 ((wd * hi).toNat) c18 35 Xfe, .ow kF a19 nfx c20 35 (hxL wd hi wr Xfe Xfx), .ow kF a21 nfy c22 35 (hyL wd hi wr Xfe Xfy), .blk b4 [.slice afe nfe cfe, .slice afx nfx cfx, .slice afy nfy cfy] 29, .blk b1 [.int .i64 wd, .int .i64 hi, .bool wr, .slice asp nsp csp, .slice als nls cls] 26, .rd kF asp nsp Xsp, .rd kF als nls Xls, .rd kF afe nfe Xfe, .rd kF afx nfx Xfx, .rd kF afy nfy Xfy] := B.castX 1 rfl (by omega) rfl
    replace B : Bu w no w24 [.blk b7 [.slice a17 nfe c18, .slice a19 nfx c20, .slice a21 nfy c22] 29, .ow kF a17 ((wd * hi).toNat) c18 35 Xfe, .ow kF a19 ((wd * hi).toNat) c20 35 (hxL wd hi wr Xfe Xfx), .ow kF a21 nfy c22 35 (hyL wd hi wr Xfe Xfy), .blk b4 [.slice afe nfe cfe, .slice afx nfx cfx, .slice afy nfy cfy] 29, .blk b1 [.int .i64 wd, .int .i64 hi, .bool wr, .slice asp nsp csp, .slice als nls cls] 26, .rd kF asp nsp Xsp, .rd kF als nls Xls, .rd kF afe nfe Xfe, .rd kF afx nfx Xfx, .rd kF afy nfy Xfy] := B.castX 2 rfl (by omega) rfl
    replace B : Bu w no w24 [.blk b7 [.slice a17 nfe c18, .slice a19 nfx c20, .slice a21 nfy c22] 29, .ow kF a17 ((wd * hi).toNat) c18 35 Xfe, .ow kF a19 ((wd * hi).toNat) c20 35 (hxL wd hi wr Xfe Xfx), .ow kF a21 ((wd * hi).toNat) c22 35 (hyL wd hi wr Xfe Xfy), .blk b4 [.slice afe nfe cfe, .slice afx nfx cfx, .slice afy nfy cfy] 29, .blk b1 [.int .i64 wd, .int .i64 hi, .bool wr, .slice asp nsp csp, .slice als nls cls] 26, .rd kF asp nsp Xsp, .rd kF als nls Xls, .rd kF afe nfe Xfe, .rd kF afx nfx Xfx, .rd kF afy nfy Xfy] := B.castX 3 rfl (by omega) rfl
    exact .inl ⟨hcond, ⟨_, _, _, _, _, _, (by rw [(show nfe = (wd * hi).toNat from (by omega)), (show nfx = (wd * hi).toNat from (by omega)), (show nfy = (wd * hi).toNat from (by omega))]), B.give [1, 2, 3] rfl rfl rfl⟩⟩
  · obtain rfl : v12 = .bool false := hv13.trans (congrArg Value.bool (Bool.eq_false_iff.2 c14))
    refine s_y (v := .bool true) rfl (y_not rfl rfl) ?_
    refine s_nil ?_
    refine W_if_t (by decide) rfl ?_
    refine W_seq ?_
    refine W_region (by kernel_rfl) ?_
    refine s_y (v := .agg #[.slice none 0 0, .slice none 0 0, .slice none 0 0]) rfl (y_build (cells := #[.slice none 0 0, .slice none 0 0, .slice none 0 0]) (by kernel_rfl)) ?_
    refine s_k0 rfl (k_stB (v := .agg #[.slice none 0 0, .slice none 0 0, .slice none 0 0]) (n := 3) (cs' := [.slice none 0 0, .slice none 0 0, .slice none 0 0]) T44.sz_29_3 rfl rfl rfl (B.b 0 rfl) (by simp [Value.cells, Value.oneCell']) (Nat.le_of_ble_eq_true rfl) rfl (fun w26 hU27 => ?_))
    replace B : Bu w no w26 [.blk b7 [.slice none 0 0, .slice none 0 0, .slice none 0 0] 29, .blk b4 [.slice afe nfe cfe, .slice afx nfx cfx, .slice afy nfy cfy] 29, .blk b1 [.int .i64 wd, .int .i64 hi, .bool wr, .slice asp nsp csp, .slice als nls cls] 26, .rd kF asp nsp Xsp, .rd kF als nls Xls, .rd kF afe nfe Xfe, .rd kF afx nfx Xfx, .rd kF afy nfy Xfy] := B.upd [0] rfl hU27
    clear hU27
    refine s_y (v := .bool false) rfl (y_assign rfl) ?_
    refine s_nil ?_
    refine W_ret ?_
    refine ret2 (v1 := .agg #[.slice none 0 0, .slice none 0 0, .slice none 0 0]) (v2 := .bool false) rfl rfl rfl ⟨_, [.slice none 0 0, .slice none 0 0, .slice none 0 0], _, rfl, (B.b 0 rfl), T44.agg_29_3, rfl⟩ rfl ⟨_, rfl, ?_⟩
    exact .inr ⟨by simp only [(Bool.eq_false_iff.2 c14), Bool.and_true, Bool.true_and, Bool.and_false, Bool.false_and, Bool.not_true, Bool.not_false, Bool.or_true, Bool.true_or, Bool.or_false, Bool.false_or], rfl, B.ext⟩
namespace T133
theorem mx : Try.prog.follows .mixedOrders = true := by kernel_rfl
theorem slt_24 : SlT Try.prog 24 35 1 4 (.float .f32 0) := ⟨by kernel_rfl, by kernel_rfl, rfl, by decide⟩
end T133
set_option maxRecDepth 100000 in
set_option maxHeartbeats 4000000 in
theorem c_i_copyOf {a : Option Addr} {n : Nat} {c : Nat} {X : List Nat} {w : World} (q : Rd w kF a n X) (hb : n ≤ 1048576) :
    Calls Try.prog 133 #[.slice a n c] w (Rt fun v w' => ∃ (a1 : Option Addr) (c1 : Nat), v = .slice a1 n c1 ∧ New w w' [.ow kF a1 n c1 35 X]) := by
  have hl := q.len
  have B : Bu w no w [.rd kF a n X] := Bu.ro (All.cons q All.nil) rfl
  refine calls_W (n := 6) Try.func133 rfl rfl (Nat.le_of_ble_eq_true rfl) ?_
  refine W_seq ?_
  refine W_region (by kernel_rfl) ?_
  refine s_y (v := .slice none 0 0) rfl (y_assign rfl) ?_
  refine s_nil ?_
  refine W_seq ?_
  refine W_region (by kernel_rfl) ?_
  refine s_k rfl (k_bsliceO (k := kF) (n := 0) (cells := #[]) (X := []) T133.slt_24 (by decide) (by first | rfl | kernel_rfl) (rfl : Reps kF [] []) rfl (fun b1 w2 hN3 => ?_))
  replace B := B.new1 hN3
  clear hN3
  refine s_y (v := .slice a n c) rfl (y_move rfl) ?_
  refine s_k rfl (k_appO (k := kF) T133.slt_24 rfl rfl rfl (B.o 0 rfl) (B.r 1 rfl) (by omega) (by unfold maxLen; omega) (fun a4 c5 w6 hU7 => ?_))
  replace B : Bu w no w6 [.ow kF a4 (0 + n) c5 35 (([] : List Nat) ++ X), .rd kF a n X] := B.upd [0] rfl hU7
  clear hU7
  refine s_y (v := .slice a4 (0 + n) c5) rfl (y_assign rfl) ?_
  refine s_nil ?_
  refine W_ret ?_
  refine ret1 (v := .slice a4 (0 + n) c5) rfl rfl rfl ⟨_, rfl, ?_⟩
  replace B : Bu w no w6 [.ow kF a4 n c5 35 X, .rd kF a n X] := B.castX 0 rfl (by omega) rfl
  exact ⟨_, _, (by rw [(show 0 + n = n from (by omega))]), B.give [0] rfl rfl rfl⟩
namespace T100
theorem mx : Try.prog.follows .mixedOrders = true := by kernel_rfl
theorem agg_29_3 : aggB Try.prog 29 3 = true := by kernel_rfl
theorem fld_29_0_0 : fldB Try.prog 29 0 0 = true := by kernel_rfl
theorem fld_29_1_1 : fldB Try.prog 29 1 1 = true := by kernel_rfl
theorem fld_29_2_2 : fldB Try.prog 29 2 2 = true := by kernel_rfl
theorem fn_133 : fnB Try.prog 133 = true := by kernel_rfl
theorem one_24 : oneB Try.prog 24 = true := by kernel_rfl
theorem sz_29_3 : szB Try.prog 29 3 = true := by kernel_rfl
theorem zero_29 : zeroB Try.prog 29 (.agg #[.slice none 0 0, .slice none 0 0, .slice none 0 0]) := by unfold zeroB; kernel_rfl
end T100
set_option maxRecDepth 100000 in
set_option maxHeartbeats 4000000 in
theorem c_i_copyField {afe : Option Addr} {nfe : Nat} {cfe : Nat} {Xfe : List Nat} {afx : Option Addr} {nfx : Nat} {cfx : Nat} {Xfx : List Nat} {afy : Option Addr} {nfy : Nat} {cfy : Nat} {Xfy : List Nat} {w : World} (qfe : Rd w kF afe nfe Xfe) (qfx : Rd w kF afx nfx Xfx) (qfy : Rd w kF afy nfy Xfy) (b1 : nfe ≤ 1048576) (b2 : nfx ≤ 1048576) (b3 : nfy ≤ 1048576) :
    Calls Try.prog 100 #[.agg #[.slice afe nfe cfe, .slice afx nfx cfx, .slice afy nfy cfy]] w (Rt fun v w' => ∃ (a1 : Option Addr) (c1 : Nat) (a2 : Option Addr) (c2 : Nat) (a3 : Option Addr) (c3 : Nat), v = .agg #[.slice a1 nfe c1, .slice a2 nfx c2, .slice a3 nfy c3] ∧ New w w' [.ow kF a1 nfe c1 35 Xfe, .ow kF a2 nfx c2 35 Xfx, .ow kF a3 nfy c3 35 Xfy]) := by
  have hlfe := qfe.len
  have hlfx := qfx.len
  have hlfy := qfy.len
  have B : Bu w no w [.rd kF afe nfe Xfe, .rd kF afx nfx Xfx, .rd kF afy nfy Xfy] := Bu.ro (All.cons qfe (All.cons qfx (All.cons qfy All.nil))) rfl
  refine calls_W (n := 13) Try.func100 rfl rfl (Nat.le_of_ble_eq_true rfl) ?_
  refine W_seq ?_
  refine W_region (by kernel_rfl) ?_
  refine s_k rfl (k_boxN (v := .agg #[.slice afe nfe cfe, .slice afx nfx cfx, .slice afy nfy cfy]) (cs := [.slice afe nfe cfe, .slice afx nfx cfx, .slice afy nfy cfy]) rfl rfl (fun b1 w2 hN3 => ?_))
  replace B := B.new1 hN3
  clear hN3
  refine s_k rfl (k_allocN (z := (.agg #[.slice none 0 0, .slice none 0 0, .slice none 0 0])) (cs := [.slice none 0 0, .slice none 0 0, .slice none 0 0]) T100.zero_29 rfl (fun b4 w5 hN6 => ?_))
  replace B := B.new1 hN6
  clear hN6
  refine s_nil ?_
  refine W_seq ?_
  have B0_11 := B
  refine W_draw (no) T100.mx (by kernel_rfl) (fun w9 e10 => ?_)
  have R12 := Ext.refl (no) w5
  replace R12 := R12.trans (Ext0.any e10)
  replace B := B.ext0 e10
  clear e10
  refine m_y (v := .pointer (some ⟨b1, 0, none⟩)) 0 rfl (by kernel_rfl) rfl rfl (fun w' e' => y_fld (o := 0) T100.fld_29_0_0 rfl) ?_
  refine m_y (v := .slice afe nfe cfe) 1 rfl (by kernel_rfl) rfl rfl (fun w' e' => y_load T100.one_24 rfl (((B0_11.b 1 rfl).ext0 e').cell (j := 0) rfl)) ?_
  refine m_y (v := .pointer (some ⟨b1, 1, none⟩)) 3 rfl (by kernel_rfl) rfl rfl (fun w' e' => y_fld (o := 0) T100.fld_29_1_1 rfl) ?_
  refine m_y (v := .slice afx nfx cfx) 4 rfl (by kernel_rfl) rfl rfl (fun w' e' => y_load T100.one_24 rfl (((B0_11.b 1 rfl).ext0 e').cell (j := 1) rfl)) ?_
  refine m_y (v := .pointer (some ⟨b1, 2, none⟩)) 6 rfl (by kernel_rfl) rfl rfl (fun w' e' => y_fld (o := 0) T100.fld_29_2_2 rfl) ?_
  refine m_y (v := .slice afy nfy cfy) 7 rfl (by kernel_rfl) rfl rfl (fun w' e' => y_load T100.one_24 rfl (((B0_11.b 1 rfl).ext0 e').cell (j := 2) rfl)) ?_
  refine m_k 2 [5, 8, 9, 10] rfl (by kernel_rfl) rfl rfl (fun w13 e14 => ?_)
  replace R12 := R12.trans (Ext0.any e14)
  replace B := B.ext0 e14
  clear e14
  refine k_call T100.fn_133 (c_i_copyOf (B.r 2 rfl) (by omega)) rfl ?_
  rintro _ w15 ⟨a16, c17, rfl, hN18⟩
  replace R12 := R12.trans (Ext0.any hN18.ext)
  replace B := B.new1 hN18
  clear hN18
  refine ⟨fun _ => R12, ?_⟩
  refine m_k 5 [8, 9, 10] rfl (by kernel_rfl) rfl rfl (fun w19 e20 => ?_)
  replace R12 := R12.trans (Ext0.any e20)
  replace B := B.ext0 e20
  clear e20
  refine k_call T100.fn_133 (c_i_copyOf (B.r 4 rfl) (by omega)) rfl ?_
  rintro _ w21 ⟨a22, c23, rfl, hN24⟩
  replace R12 := R12.trans (Ext0.any hN24.ext)
  replace B := B.new1 hN24
  clear hN24
  refine ⟨fun _ => R12, ?_⟩
  refine m_k 8 [9, 10] rfl (by kernel_rfl) rfl rfl (fun w25 e26 => ?_)
  replace R12 := R12.trans (Ext0.any e26)
  replace B := B.ext0 e26
  clear e26
  refine k_call T100.fn_133 (c_i_copyOf (B.r 6 rfl) (by omega)) rfl ?_
  rintro _ w27 ⟨a28, c29, rfl, hN30⟩
  replace R12 := R12.trans (Ext0.any hN30.ext)
  replace B := B.new1 hN30
  clear hN30
  refine ⟨fun _ => R12, ?_⟩
  refine m_y (v := .agg #[.slice a16 nfe c17, .slice a22 nfx c23, .slice a28 nfy c29]) 9 rfl (by kernel_rfl) rfl rfl (fun w' e' => y_build (cells := #[.slice a16 nfe c17, .slice a22 nfx c23, .slice a28 nfy c29]) (by kernel_rfl)) ?_
  refine m_kt 10 [] rfl (by kernel_rfl) rfl rfl (by kernel_rfl) (fun w33 e34 => ?_)
  replace R12 := R12.trans (Ext0.any e34)
  replace B := B.ext0 e34
  clear e34
  refine k_stB (v := .agg #[.slice a16 nfe c17, .slice a22 nfx c23, .slice a28 nfy c29]) (n := 3) (cs' := [.slice a16 nfe c17, .slice a22 nfx c23, .slice a28 nfy c29]) T100.sz_29_3 rfl rfl rfl (B.b 3 rfl) (by simp [Value.cells, Value.oneCell']) (Nat.le_of_ble_eq_true rfl) rfl (fun w31 hU32 => ?_)
  clear R12
  replace B : Bu w no w31 [.blk b4 [.slice a16 nfe c17, .slice a22 nfx c23, .slice a28 nfy c29] 29, .ow kF a28 nfy c29 35 Xfy, .ow kF a22 nfx c23 35 Xfx, .ow kF a16 nfe c17 35 Xfe, .blk b1 [.slice afe nfe cfe, .slice afx nfx cfx, .slice afy nfy cfy] 29, .rd kF afe nfe Xfe, .rd kF afx nfx Xfx, .rd kF afy nfy Xfy] := B.upd [3] rfl hU32
  clear hU32
  refine m_done (by kernel_rfl) (fun w35 e36 => ?_)
  replace B := B.ext0 e36
  clear e36
  clear B0_11
  refine W_ret ?_
  refine ret1 (v := .agg #[.slice a16 nfe c17, .slice a22 nfx c23, .slice a28 nfy c29]) rfl rfl ⟨_, [.slice a16 nfe c17, .slice a22 nfx c23, .slice a28 nfy c29], _, rfl, (B.b 0 rfl), T100.agg_29_3, rfl⟩ ⟨_, rfl, ?_⟩
  exact ⟨_, _, _, _, _, _, rfl, B.give [3, 2, 1] rfl rfl rfl⟩
namespace T101
theorem mx : Try.prog.follows .mixedOrders = true := by kernel_rfl
theorem agg_26_5 : aggB Try.prog 26 5 = true := by kernel_rfl
theorem fld_26_0_0 : fldB Try.prog 26 0 0 = true := by kernel_rfl
theorem fld_26_1_1 : fldB Try.prog 26 1 1 = true := by kernel_rfl
theorem fld_26_2_2 : fldB Try.prog 26 2 2 = true := by kernel_rfl
theorem fld_29_0_0 : fldB Try.prog 29 0 0 = true := by kernel_rfl
theorem fld_29_1_1 : fldB Try.prog 29 1 1 = true := by kernel_rfl
theorem fld_29_2_2 : fldB Try.prog 29 2 2 = true := by kernel_rfl
theorem fn_98 : fnB Try.prog 98 = true := by kernel_rfl
theorem one_2 : oneB Try.prog 2 = true := by kernel_rfl
theorem one_24 : oneB Try.prog 24 = true := by kernel_rfl
theorem one_35 : oneB Try.prog 35 = true := by kernel_rfl
theorem one_4 : oneB Try.prog 4 = true := by kernel_rfl
theorem sl_24_35_1 : slB Try.prog 24 35 1 = true := by kernel_rfl
theorem sz_35_1 : szB Try.prog 35 1 = true := by kernel_rfl
end T101
set_option maxRecDepth 100000 in
set_option maxHeartbeats 4000000 in
theorem c_i_halfStep {wd : Int} {hi : Int} {wr : Bool} {asp : Option Addr} {nsp : Nat} {csp : Nat} {als : Option Addr} {nls : Nat} {cls : Nat} {b : Nat} {afe : Option Addr} {nfe : Nat} {cfe : Nat} {Xfe : List Nat} {afx : Option Addr} {nfx : Nat} {cfx : Nat} {afy : Option Addr} {nfy : Nat} {cfy : Nat} {Xfx Xfy : List Nat} {w : World} (h1 : 3 ≤ wd) (h2 : wd ≤ 16) (h3 : 3 ≤ hi) (h4 : hi ≤ 16) (gfe : (nfe : Int) = wd * hi) (gfx : (nfx : Int) = wd * hi) (gfy : (nfy : Int) = wd * hi) (HA : All w [.ow kF afx nfx cfx 35 Xfx, .ow kF afy nfy cfy 35 Xfy, .rd kF afe nfe Xfe, .sl (some ⟨b, 0, none⟩) [.slice afe nfe cfe, .slice afx nfx cfx, .slice afy nfy cfy]]) (HP : Pw [.ow kF afx nfx cfx 35 Xfx, .ow kF afy nfy cfy 35 Xfy, .rd kF afe nfe Xfe, .sl (some ⟨b, 0, none⟩) [.slice afe nfe cfe, .slice afx nfx cfx, .slice afy nfy cfy]]) :
    Calls Try.prog 101 #[.agg #[.int .i64 wd, .int .i64 hi, .bool wr, .slice asp nsp csp, .slice als nls cls], .pointer (some ⟨b, 0, none⟩)] w (Rt fun v w' => v = .tuple #[] ∧ Upd w w' [.ow kF afx nfx cfx 35 Xfx, .ow kF afy nfy cfy 35 Xfy] [.ow kF afx nfx cfx 35 (hxL wd hi wr Xfe Xfx), .ow kF afy nfy cfy 35 (hyL wd hi wr Xfe Xfy)]) := by
  have B : Bu w (hasW [.ow kF afx nfx cfx 35 Xfx, .ow kF afy nfy cfy 35 Xfy]) w [.ow kF afx nfx cfx 35 Xfx, .ow kF afy nfy cfy 35 Xfy, .rd kF afe nfe Xfe, .sl (some ⟨b, 0, none⟩) [.slice afe nfe cfe, .slice afx nfx cfx, .slice afy nfy cfy]] := Bu.initW (W := [.ow kF afx nfx cfx 35 Xfx, .ow kF afy nfy cfy 35 Xfy]) (R := [.rd kF afe nfe Xfe, .sl (some ⟨b, 0, none⟩) [.slice afe nfe cfe, .slice afx nfx cfx, .slice afy nfy cfy]]) HA HP rfl
  have hlfx := (B.o 0 rfl).len
  have hlfy := (B.o 1 rfl).len
  have hlfe := (B.r 2 rfl).len
  have hwh := mul16 (And.intro (And.intro h1 h2) (And.intro h3 h4))
  refine calls_W (n := 109) Try.func101 rfl rfl (Nat.le_of_ble_eq_true rfl) ?_
  refine W_seq ?_
  refine W_region (by kernel_rfl) ?_
  refine s_k rfl (k_boxN (v := .agg #[.int .i64 wd, .int .i64 hi, .bool wr, .slice asp nsp csp, .slice als nls cls]) (cs := [.int .i64 wd, .int .i64 hi, .bool wr, .slice asp nsp csp, .slice als nls cls]) rfl rfl (fun b1 w2 hN3 => ?_))
  replace B := B.new1 hN3
  clear hN3
  refine s_nil ?_
  refine W_seq ?_
  refine W_region (by kernel_rfl) ?_
  refine s_y (v := .pointer (some ⟨b1, 1, none⟩)) rfl (y_fld (o := 0) T101.fld_26_1_1 rfl) ?_
  refine s_y (v := .int .i64 hi) rfl (y_load T101.one_2 rfl ((B.b 0 rfl).cell (j := 1) rfl)) ?_
  refine s_y (v := .int .i64 0) rfl (y_move rfl) ?_
  refine s_nil ?_
  refine W_block ?_
  refine W_loop (fun ρ' w' => ∃ (ρ1 : Env) (py : Int), ρ' = updL ρ1 [(1, .pointer (some ⟨b, 0, none⟩)), (2, .pointer (some ⟨b1, 0, none⟩)), (8, .int .i64 hi), (9, .int .i64 py)] ∧ Bu w (hasW [.ow kF afx nfx cfx 35 Xfx, .ow kF afy nfy cfy 35 Xfy]) w' [.ow kF afx nfx cfx 35 (mix (wd * hi) (wd * py) (fun i => hxF wd hi wr Xfe Xfx (i % wd) (i / wd)) Xfx), .ow kF afy nfy cfy 35 (mix (wd * hi) (wd * py) (fun i => hyF wd hi wr Xfe Xfy (i % wd) (i / wd)) Xfy), .blk b1 [.int .i64 wd, .int .i64 hi, .bool wr, .slice asp nsp csp, .slice als nls cls] 26, .rd kF afe nfe Xfe, .sl (some ⟨b, 0, none⟩) [.slice afe nfe cfe, .slice afx nfx cfx, .slice afy nfy cfy]] ∧ (0 ≤ py) ∧ (py ≤ hi)) (fun ρ' _ => (hi - iv (ρ' 9)).toNat) ?_ ?_
  · replace B : Bu w (hasW [.ow kF afx nfx cfx 35 Xfx, .ow kF afy nfy cfy 35 Xfy]) w2 [.blk b1 [.int .i64 wd, .int .i64 hi, .bool wr, .slice asp nsp csp, .slice als nls cls] 26, .ow kF afx nfx cfx 35 (mix (wd * hi) (wd * 0) (fun i => hxF wd hi wr Xfe Xfx (i % wd) (i / wd)) Xfx), .ow kF afy nfy cfy 35 Xfy, .rd kF afe nfe Xfe, .sl (some ⟨b, 0, none⟩) [.slice afe nfe cfe, .slice afx nfx cfx, .slice afy nfy cfy]] := B.castX 1 rfl rfl ((mix_zero (by omega)).trans (congrArg (fun q => mix (wd * hi) q (fun i => hxF wd hi wr Xfe Xfx (i % wd) (i / wd)) _) (Int.mul_zero wd).symm))
    replace B : Bu w (hasW [.ow kF afx nfx cfx 35 Xfx, .ow kF afy nfy cfy 35 Xfy]) w2 [.blk b1 [.int .i64 wd, .int .i64 hi, .bool wr, .slice asp nsp csp, .slice als nls cls] 26, .ow kF afx nfx cfx 35 (mix (wd * hi) (wd * 0) (fun i => hxF wd hi wr Xfe Xfx (i % wd) (i / wd)) Xfx), .ow kF afy nfy cfy 35 (mix (wd * hi) (wd * 0) (fun i => hyF wd hi wr Xfe Xfy (i % wd) (i / wd)) Xfy), .rd kF afe nfe Xfe, .sl (some ⟨b, 0, none⟩) [.slice afe nfe cfe, .slice afx nfx cfx, .slice afy nfy cfy]] := B.castX 2 rfl rfl ((mix_zero (by omega)).trans (congrArg (fun q => mix (wd * hi) q (fun i => hyF wd hi wr Xfe Xfy (i % wd) (i / wd)) _) (Int.mul_zero wd).symm))
    exact ⟨_, 0, Fits.eq ⟨rfl, rfl, rfl, rfl, trivial⟩, (B.pick [1, 2, 0, 3, 4] rfl rfl), (Int.le_refl _), (by omega)⟩
  · clear B; rintro _ w4 ⟨ρ5, py, rfl, B, h0py, h1py⟩
    refine W_seq ?_
    refine W_region (by kernel_rfl) ?_
    by_cases c6 : py < hi
    · refine s_y (v := .bool true) rfl (y_lss rfl rfl (decide_eq_true c6)) ?_
      refine s_nil ?_
      refine W_seq ?_
      refine W_if_t (by decide) rfl ?_
      refine W_skip ?_
      refine W_seq ?_
      refine W_block ?_
      refine W_seq ?_
      refine W_region (by kernel_rfl) ?_
      refine s_y (v := .int .i64 py) rfl (y_move rfl) ?_
      refine s_y (v := .int .i64 py) rfl (y_assign rfl) ?_
      refine s_nil ?_
      refine W_seq ?_
      refine W_region (by kernel_rfl) ?_
      refine s_y (v := .pointer (some ⟨b1, 0, none⟩)) rfl (y_fld (o := 0) T101.fld_26_0_0 rfl) ?_
      refine s_y (v := .int .i64 wd) rfl (y_load T101.one_2 rfl ((B.b 2 rfl).cell (j := 0) rfl)) ?_
      refine s_y (v := .int .i64 0) rfl (y_move rfl) ?_
      refine s_nil ?_
      refine W_block ?_
      refine W_loop (fun ρ' w' => ∃ (ρ1 : Env) (px : Int), ρ' = updL ρ1 [(1, .pointer (some ⟨b, 0, none⟩)), (2, .pointer (some ⟨b1, 0, none⟩)), (4, .int .i64 py), (8, .int .i64 hi), (9, .int .i64 py), (10, .bool true), (11, .int .i64 py), (12, .pointer (some ⟨b1, 0, none⟩)), (13, .int .i64 wd), (14, .int .i64 px)] ∧ Bu w (hasW [.ow kF afx nfx cfx 35 Xfx, .ow kF afy nfy cfy 35 Xfy]) w' [.ow kF afx nfx cfx 35 (mix (wd * hi) (wd * py + px) (fun i => hxF wd hi wr Xfe Xfx (i % wd) (i / wd)) Xfx), .ow kF afy nfy cfy 35 (mix (wd * hi) (wd * py + px) (fun i => hyF wd hi wr Xfe Xfy (i % wd) (i / wd)) Xfy), .blk b1 [.int .i64 wd, .int .i64 hi, .bool wr, .slice asp nsp csp, .slice als nls cls] 26, .rd kF afe nfe Xfe, .sl (some ⟨b, 0, none⟩) [.slice afe nfe cfe, .slice afx nfx cfx, .slice afy nfy cfy]] ∧ (0 ≤ px) ∧ (px ≤ wd)) (fun ρ' _ => (wd - iv (ρ' 14)).toNat) ?_ ?_
      · replace B : Bu w (hasW [.ow kF afx nfx cfx 35 Xfx, .ow kF afy nfy cfy 35 Xfy]) w4 [.ow kF afx nfx cfx 35 (mix (wd * hi) (wd * py + 0) (fun i => hxF wd hi wr Xfe Xfx (i % wd) (i / wd)) Xfx), .ow kF afy nfy cfy 35 (mix (wd * hi) (wd * py) (fun i => hyF wd hi wr Xfe Xfy (i % wd) (i / wd)) Xfy), .blk b1 [.int .i64 wd, .int .i64 hi, .bool wr, .slice asp nsp csp, .slice als nls cls] 26, .rd kF afe nfe Xfe, .sl (some ⟨b, 0, none⟩) [.slice afe nfe cfe, .slice afx nfx cfx, .slice afy nfy cfy]] := B.castX 0 rfl rfl (congrArg (fun q => mix (wd * hi) q (fun i => hxF wd hi wr Xfe Xfx (i % wd) (i / wd)) _) (Int.add_zero _).symm)
        replace B : Bu w (hasW [.ow kF afx nfx cfx 35 Xfx, .ow kF afy nfy cfy 35 Xfy]) w4 [.ow kF afx nfx cfx 35 (mix (wd * hi) (wd * py + 0) (fun i => hxF wd hi wr Xfe Xfx (i % wd) (i / wd)) Xfx), .ow kF afy nfy cfy 35 (mix (wd * hi) (wd * py + 0) (fun i => hyF wd hi wr Xfe Xfy (i % wd) (i / wd)) Xfy), .blk b1 [.int .i64 wd, .int .i64 hi, .bool wr, .slice asp nsp csp, .slice als nls cls] 26, .rd kF afe nfe Xfe, .sl (some ⟨b, 0, none⟩) [.slice afe nfe cfe, .slice afx nfx cfx, .slice afy nfy cfy]] := B.castX 1 rfl rfl (congrArg (fun q => mix (wd * hi) q (fun i => hyF wd hi wr Xfe Xfy (i % wd) (i / wd)) _) (Int.add_zero _).symm)
        exact ⟨_, 0, Fits.eq ⟨rfl, rfl, rfl, rfl, rfl, rfl, rfl, rfl, rfl, rfl, trivial⟩, B, (Int.le_refl _), (by omega)⟩
      · clear B; rintro _ w7 ⟨ρ8, px, rfl, B, h0px, h1px⟩
        refine W_seq ?_
        refine W_region (by kernel_rfl) ?_
        by_cases c9 : px < wd
        · refine s_y (v := .bool true) rfl (y_lss rfl rfl (decide_eq_true c9)) ?_
          refine s_nil ?_
          refine W_seq ?_
          refine W_if_t (by decide) rfl ?_
          refine W_skip ?_
          refine W_seq ?_
          refine W_block ?_
          refine W_seq ?_
          refine W_region (by kernel_rfl) ?_
          refine s_y (v := .int .i64 px) rfl (y_move rfl) ?_
          refine s_y (v := .int .i64 px) rfl (y_assign rfl) ?_
          refine s_nil ?_
          refine W_seq ?_
          refine W_region (by kernel_rfl) ?_
          refine s_y (v := .agg #[.int .i64 wd, .int .i64 hi, .bool wr, .slice asp nsp csp, .slice als nls cls]) rfl (y_loadn (b := b1) (o := 0) (vs := [.int .i64 wd, .int .i64 hi, .bool wr, .slice asp nsp csp, .slice als nls cls]) T101.agg_26_5 rfl rfl ((B.b 2 rfl).cells (o := 0) rfl)) ?_
          refine s_y (v := .int .i64 px) rfl (y_move rfl) ?_
          refine s_y (v := .int .i64 py) rfl (y_move rfl) ?_
          refine s_k rfl (k_call T101.fn_98 (c_i_at (by omega) (by omega) (by omega) (by omega) (by omega) (by omega) (by omega) (by omega)) rfl ?_)
          rintro _ w10 ⟨rfl, e11⟩
          replace B := B.ext0 e11
          clear e11
          have hat12 := atI_b (wd := wd) (hi := hi) (x := px) (y := py) (by omega) (by omega)
          refine s_y (v := .int .i64 (atI wd hi px py)) rfl (y_assign rfl) ?_
          refine s_nil ?_
          refine W_seq ?_
          refine W_seq ?_
          refine W_region (by kernel_rfl) ?_
          refine s_y (v := .pointer (some ⟨b1, 2, none⟩)) rfl (y_fld (o := 0) T101.fld_26_2_2 rfl) ?_
          refine s_y (v := .bool wr) rfl (y_load T101.one_4 rfl ((B.b 2 rfl).cell (j := 2) rfl)) ?_
          refine s_y (v := .bool wr) rfl (y_move rfl) ?_
          cases wr
          · refine s_y (v := .int .i64 py) rfl (y_move rfl) ?_
            refine s_y (v := .pointer (some ⟨b1, 1, none⟩)) rfl (y_fld (o := 0) T101.fld_26_1_1 rfl) ?_
            refine s_y (v := .int .i64 hi) rfl (y_load T101.one_2 rfl ((B.b 2 rfl).cell (j := 1) rfl)) ?_
            refine s_y (v := .int .i64 (hi - 1)) rfl (y_sub rfl rfl rfl (by omega)) ?_
            by_cases c13 : py < (hi - 1)
            · refine s_y (v := .bool true) rfl (y_lss rfl rfl (decide_eq_true c13)) ?_
              refine s_y (v := .bool true) rfl (y_pick_f rfl rfl) ?_
              refine s_nil ?_
              refine W_if_t (by decide) rfl ?_
              have B0_18 := B
              refine W_draw (no) T101.mx (by kernel_rfl) (fun w16 e17 => ?_)
              have R19 := Ext.refl (no) w10
              replace R19 := R19.trans (Ext0.any e17)
              replace B := B.ext0 e17
              clear e17
              refine m_y (v := .pointer (some ⟨b, 0, none⟩)) 0 rfl (by kernel_rfl) rfl rfl (fun w' e' => y_move rfl) ?_
              refine m_y (v := .pointer (some ⟨b, 0, none⟩)) 1 rfl (by kernel_rfl) rfl rfl (fun w' e' => y_nil rfl) ?_
              refine m_y (v := .pointer (some ⟨b, 0 + 1, none⟩)) 2 rfl (by kernel_rfl) rfl rfl (fun w' e' => y_fld (o := 0 + 0) T101.fld_29_1_1 rfl) ?_
              refine m_y (v := .slice afx nfx cfx) 3 rfl (by kernel_rfl) rfl rfl (fun w' e' => y_load T101.one_24 rfl (((B0_18.s 4 rfl).ext0 e').cell (j := 1) rfl)) ?_
              refine m_y (v := .int .i64 (atI wd hi px py)) 4 rfl (by kernel_rfl) rfl rfl (fun w' e' => y_move rfl) ?_
              refine m_y (v := .pointer (some ⟨b, 0, none⟩)) 5 rfl (by kernel_rfl) rfl rfl (fun w' e' => y_move rfl) ?_
              refine m_y (v := .pointer (some ⟨b, 0, none⟩)) 6 rfl (by kernel_rfl) rfl rfl (fun w' e' => y_nil rfl) ?_
              refine m_y (v := .pointer (some ⟨b, 0 + 1, none⟩)) 7 rfl (by kernel_rfl) rfl rfl (fun w' e' => y_fld (o := 0 + 0) T101.fld_29_1_1 rfl) ?_
              refine m_y (v := .slice afx nfx cfx) 8 rfl (by kernel_rfl) rfl rfl (fun w' e' => y_load T101.one_24 rfl (((B0_18.s 4 rfl).ext0 e').cell (j := 1) rfl)) ?_
              refine m_y (v := .int .i64 (atI wd hi px py)) 9 rfl (by kernel_rfl) rfl rfl (fun w' e' => y_move rfl) ?_
              refine m_y (v := .pointer (some (sat afx ((atI wd hi px py).toNat * 1)))) 10 rfl (by kernel_rfl) rfl rfl (fun w' e' => y_idx T101.sl_24_35_1 rfl rfl ((B.o 0 rfl).rd.addr (by omega)) (by omega) (by omega)) ?_
              obtain ⟨r21, hr22, hR20⟩ := Rd.atF (B0_18.o 0 rfl).rd (atI wd hi px py) (by omega) (by omega)
              refine m_y (v := .float .f32 r21) 11 rfl (by kernel_rfl) rfl rfl (fun w' e' => y_load T101.one_35 rfl ((hR20.ext0 e').cell (i := 0) rfl)) ?_
              refine m_y (v := .pointer (some ⟨b, 0, none⟩)) 12 rfl (by kernel_rfl) rfl rfl (fun w' e' => y_move rfl) ?_
              refine m_y (v := .pointer (some ⟨b, 0, none⟩)) 13 rfl (by kernel_rfl) rfl rfl (fun w' e' => y_nil rfl) ?_
              refine m_y (v := .pointer (some ⟨b, 0, none⟩)) 14 rfl (by kernel_rfl) rfl rfl (fun w' e' => y_fld (o := 0 + 0) T101.fld_29_0_0 rfl) ?_
              refine m_y (v := .slice afe nfe cfe) 15 rfl (by kernel_rfl) rfl rfl (fun w' e' => y_load T101.one_24 rfl (((B0_18.s 4 rfl).ext0 e').cell (j := 0) rfl)) ?_
              refine m_y (v := .agg #[.int .i64 wd, .int .i64 hi, .bool false, .slice asp nsp csp, .slice als nls cls]) 16 rfl (by kernel_rfl) rfl rfl (fun w' e' => y_loadn (b := b1) (o := 0) (vs := [.int .i64 wd, .int .i64 hi, .bool false, .slice asp nsp csp, .slice als nls cls]) T101.agg_26_5 rfl rfl (((B0_18.b 2 rfl).ext0 e').cells (o := 0) rfl)) ?_
              refine m_y (v := .int .i64 px) 17 rfl (by kernel_rfl) rfl rfl (fun w' e' => y_move rfl) ?_
              refine m_y (v := .int .i64 py) 18 rfl (by kernel_rfl) rfl rfl (fun w' e' => y_move rfl) ?_
              refine m_y (v := .int .i64 (py + 1)) 19 rfl (by kernel_rfl) rfl rfl (fun w' e' => y_add rfl rfl rfl (by omega)) ?_
              refine m_y (v := .pointer (some ⟨b, 0, none⟩)) 23 rfl (by kernel_rfl) rfl rfl (fun w' e' => y_move rfl) ?_
              refine m_y (v := .pointer (some ⟨b, 0, none⟩)) 24 rfl (by kernel_rfl) rfl rfl (fun w' e' => y_nil rfl) ?_
              refine m_y (v := .pointer (some ⟨b, 0, none⟩)) 25 rfl (by kernel_rfl) rfl rfl (fun w' e' => y_fld (o := 0 + 0) T101.fld_29_0_0 rfl) ?_
              refine m_y (v := .slice afe nfe cfe) 26 rfl (by kernel_rfl) rfl rfl (fun w' e' => y_load T101.one_24 rfl (((B0_18.s 4 rfl).ext0 e').cell (j := 0) rfl)) ?_
              refine m_y (v := .int .i64 (atI wd hi px py)) 27 rfl (by kernel_rfl) rfl rfl (fun w' e' => y_move rfl) ?_
              refine m_y (v := .pointer (some (sat afe ((atI wd hi px py).toNat * 1)))) 28 rfl (by kernel_rfl) rfl rfl (fun w' e' => y_idx T101.sl_24_35_1 rfl rfl ((B.r 3 rfl).addr (by omega)) (by omega) (by omega)) ?_
              obtain ⟨r24, hr25, hR23⟩ := Rd.atF (B0_18.r 3 rfl) (atI wd hi px py) (by omega) (by omega)
              refine m_y (v := .float .f32 r24) 29 rfl (by kernel_rfl) rfl rfl (fun w' e' => y_load T101.one_35 rfl ((hR23.ext0 e').cell (i := 0) rfl)) ?_
              refine m_k 20 [21, 22, 30, 31, 32, 33, 34] rfl (by kernel_rfl) rfl rfl (fun w26 e27 => ?_)
              replace R19 := R19.trans (Ext0.any e27)
              replace B := B.ext0 e27
              clear e27
              refine k_call T101.fn_98 (c_i_at (by omega) (by omega) (by omega) (by omega) (by omega) (by omega) (by omega) (by omega)) rfl ?_
              rintro _ w28 ⟨rfl, e29⟩
              replace R19 := R19.trans (Ext0.any e29)
              replace B := B.ext0 e29
              clear e29
              refine ⟨fun _ => R19, ?_⟩
              have hat30 := atI_b (wd := wd) (hi := hi) (x := px) (y := py + 1) (by omega) (by omega)
              refine m_y (v := .pointer (some (sat afe ((atI wd hi px (py + 1)).toNat * 1)))) 21 rfl (by kernel_rfl) rfl rfl (fun w' e' => y_idx T101.sl_24_35_1 rfl rfl ((B.r 3 rfl).addr (by omega)) (by omega) (by omega)) ?_
              obtain ⟨r32, hr33, hR31⟩ := Rd.atF (B0_18.r 3 rfl) (atI wd hi px (py + 1)) (by omega) (by omega)
              refine m_y (v := .float .f32 r32) 22 rfl (by kernel_rfl) rfl rfl (fun w' e' => y_load T101.one_35 rfl ((hR31.ext0 e').cell (i := 0) rfl)) ?_
              refine m_n 30 [31, 32, 33, 34] rfl (by kernel_rfl) rfl rfl (fun w' e' => n_arith (by decide) rfl rfl) ?_
              rintro _ ⟨r35, rfl, hr36⟩
              have hc39 := fopC hr36 hr33 hr25
              refine m_n 31 [32, 33, 34] rfl (by kernel_rfl) rfl rfl (fun w' e' => n_arith (by decide) rfl rfl) ?_
              rintro _ ⟨r41, rfl, hr42⟩
              have hc45 := fopC hr42 (show can .f32 1056964608 = 1056964608 by kernel_rfl) hc39
              refine m_n 32 [33, 34] rfl (by kernel_rfl) rfl rfl (fun w' e' => n_arith (by decide) rfl rfl) ?_
              rintro _ ⟨r47, rfl, hr48⟩
              have hc51 := fopC hr48 hr22 hc45
              refine m_y (v := .pointer (some (sat afx ((atI wd hi px py).toNat * 1)))) 33 rfl (by kernel_rfl) rfl rfl (fun w' e' => y_idx T101.sl_24_35_1 rfl rfl ((B.o 0 rfl).rd.addr (by omega)) (by omega) (by omega)) ?_
              refine m_kt 34 [] rfl (by kernel_rfl) rfl rfl (by kernel_rfl) (fun w54 e55 => ?_)
              replace R19 := R19.trans (Ext0.any e55)
              replace B := B.ext0 e55
              clear e55
              refine k_stO (k := kF) (i := atI wd hi px py) (j := 0) (x' := fop .sub .f32 (el (mix (wd * hi) (wd * py + px) (fun i => hxF wd hi false Xfe Xfx (i % wd) (i / wd)) Xfx) (atI wd hi px py)) (fop .mul .f32 1056964608 (fop .sub .f32 (el Xfe (atI wd hi px (py + 1))) (el Xfe (atI wd hi px py))))) (new := [.float .f32 r47]) T101.sz_35_1 rfl rfl rfl rfl rfl (by simp [Value.oneCell']) (by decide) (B.o 0 rfl) (by omega) (by omega) (by decide) (by rintro q ⟨_, rfl, _⟩; exact ⟨_, rfl, hc51⟩) (fun w52 hU53 => ?_)
              clear R19
              replace B : Bu w (hasW [.ow kF afx nfx cfx 35 Xfx, .ow kF afy nfy cfy 35 Xfy]) w52 [.ow kF afx nfx cfx 35 (put (mix (wd * hi) (wd * py + px) (fun i => hxF wd hi false Xfe Xfx (i % wd) (i / wd)) Xfx) (atI wd hi px py) (fop .sub .f32 (el (mix (wd * hi) (wd * py + px) (fun i => hxF wd hi false Xfe Xfx (i % wd) (i / wd)) Xfx) (atI wd hi px py)) (fop .mul .f32 1056964608 (fop .sub .f32 (el Xfe (atI wd hi px (py + 1))) (el Xfe (atI wd hi px py)))))), .ow kF afy nfy cfy 35 (mix (wd * hi) (wd * py + px) (fun i => hyF wd hi false Xfe Xfy (i % wd) (i / wd)) Xfy), .blk b1 [.int .i64 wd, .int .i64 hi, .bool false, .slice asp nsp csp, .slice als nls cls] 26, .rd kF afe nfe Xfe, .sl (some ⟨b, 0, none⟩) [.slice afe nfe cfe, .slice afx nfx cfx, .slice afy nfy cfy]] := B.upd [0] rfl hU53
              clear hU53
              refine m_done (by kernel_rfl) (fun w56 e57 => ?_)
              replace B := B.ext0 e57
              clear e57
              clear B0_18
              refine W_seq ?_
              refine W_region (by kernel_rfl) ?_
              refine s_y (v := .pointer (some ⟨b1, 2, none⟩)) rfl (y_fld (o := 0) T101.fld_26_2_2 rfl) ?_
              refine s_y (v := .bool false) rfl (y_load T101.one_4 rfl ((B.b 2 rfl).cell (j := 2) rfl)) ?_
              refine s_y (v := .bool false) rfl (y_move rfl) ?_
              refine s_y (v := .int .i64 px) rfl (y_move rfl) ?_
              refine s_y (v := .pointer (some ⟨b1, 0, none⟩)) rfl (y_fld (o := 0) T101.fld_26_0_0 rfl) ?_
              refine s_y (v := .int .i64 wd) rfl (y_load T101.one_2 rfl ((B.b 2 rfl).cell (j := 0) rfl)) ?_
              refine s_y (v := .int .i64 (wd - 1)) rfl (y_sub rfl rfl rfl (by omega)) ?_
              by_cases c58 : px < (wd - 1)
              · refine s_y (v := .bool true) rfl (y_lss rfl rfl (decide_eq_true c58)) ?_
                refine s_y (v := .bool true) rfl (y_pick_f rfl rfl) ?_
                refine s_nil ?_
                refine W_if_t (by decide) rfl ?_
                have B0_63 := B
                refine W_draw (no) T101.mx (by kernel_rfl) (fun w61 e62 => ?_)
                have R64 := Ext.refl (no) w56
                replace R64 := R64.trans (Ext0.any e62)
                replace B := B.ext0 e62
                clear e62
                refine m_y (v := .pointer (some ⟨b, 0, none⟩)) 0 rfl (by kernel_rfl) rfl rfl (fun w' e' => y_move rfl) ?_
                refine m_y (v := .pointer (some ⟨b, 0, none⟩)) 1 rfl (by kernel_rfl) rfl rfl (fun w' e' => y_nil rfl) ?_
                refine m_y (v := .pointer (some ⟨b, 0 + 2, none⟩)) 2 rfl (by kernel_rfl) rfl rfl (fun w' e' => y_fld (o := 0 + 0) T101.fld_29_2_2 rfl) ?_
                refine m_y (v := .slice afy nfy cfy) 3 rfl (by kernel_rfl) rfl rfl (fun w' e' => y_load T101.one_24 rfl (((B0_63.s 4 rfl).ext0 e').cell (j := 2) rfl)) ?_
                refine m_y (v := .int .i64 (atI wd hi px py)) 4 rfl (by kernel_rfl) rfl rfl (fun w' e' => y_move rfl) ?_
                refine m_y (v := .pointer (some ⟨b, 0, none⟩)) 5 rfl (by kernel_rfl) rfl rfl (fun w' e' => y_move rfl) ?_
                refine m_y (v := .pointer (some ⟨b, 0, none⟩)) 6 rfl (by kernel_rfl) rfl rfl (fun w' e' => y_nil rfl) ?_
                refine m_y (v := .pointer (some ⟨b, 0 + 2, none⟩)) 7 rfl (by kernel_rfl) rfl rfl (fun w' e' => y_fld (o := 0 + 0) T101.fld_29_2_2 rfl) ?_
                refine m_y (v := .slice afy nfy cfy) 8 rfl (by kernel_rfl) rfl rfl (fun w' e' => y_load T101.one_24 rfl (((B0_63.s 4 rfl).ext0 e').cell (j := 2) rfl)) ?_
                refine m_y (v := .int .i64 (atI wd hi px py)) 9 rfl (by kernel_rfl) rfl rfl (fun w' e' => y_move rfl) ?_
                refine m_y (v := .pointer (some (sat afy ((atI wd hi px py).toNat * 1)))) 10 rfl (by kernel_rfl) rfl rfl (fun w' e' => y_idx T101.sl_24_35_1 rfl rfl ((B.o 1 rfl).rd.addr (by omega)) (by omega) (by omega)) ?_
                obtain ⟨r66, hr67, hR65⟩ := Rd.atF (B0_63.o 1 rfl).rd (atI wd hi px py) (by omega) (by omega)
                refine m_y (v := .float .f32 r66) 11 rfl (by kernel_rfl) rfl rfl (fun w' e' => y_load T101.one_35 rfl ((hR65.ext0 e').cell (i := 0) rfl)) ?_
                refine m_y (v := .pointer (some ⟨b, 0, none⟩)) 12 rfl (by kernel_rfl) rfl rfl (fun w' e' => y_move rfl) ?_
                refine m_y (v := .pointer (some ⟨b, 0, none⟩)) 13 rfl (by kernel_rfl) rfl rfl (fun w' e' => y_nil rfl) ?_
                refine m_y (v := .pointer (some ⟨b, 0, none⟩)) 14 rfl (by kernel_rfl) rfl rfl (fun w' e' => y_fld (o := 0 + 0) T101.fld_29_0_0 rfl) ?_
                refine m_y (v := .slice afe nfe cfe) 15 rfl (by kernel_rfl) rfl rfl (fun w' e' => y_load T101.one_24 rfl (((B0_63.s 4 rfl).ext0 e').cell (j := 0) rfl)) ?_
                refine m_y (v := .agg #[.int .i64 wd, .int .i64 hi, .bool false, .slice asp nsp csp, .slice als nls cls]) 16 rfl (by kernel_rfl) rfl rfl (fun w' e' => y_loadn (b := b1) (o := 0) (vs := [.int .i64 wd, .int .i64 hi, .bool false, .slice asp nsp csp, .slice als nls cls]) T101.agg_26_5 rfl rfl (((B0_63.b 2 rfl).ext0 e').cells (o := 0) rfl)) ?_
                refine m_y (v := .int .i64 px) 17 rfl (by kernel_rfl) rfl rfl (fun w' e' => y_move rfl) ?_
                refine m_y (v := .int .i64 (px + 1)) 18 rfl (by kernel_rfl) rfl rfl (fun w' e' => y_add rfl rfl rfl (by omega)) ?_
                refine m_y (v := .int .i64 py) 19 rfl (by kernel_rfl) rfl rfl (fun w' e' => y_move rfl) ?_
                refine m_y (v := .pointer (some ⟨b, 0, none⟩)) 23 rfl (by kernel_rfl) rfl rfl (fun w' e' => y_move rfl) ?_
                refine m_y (v := .pointer (some ⟨b, 0, none⟩)) 24 rfl (by kernel_rfl) rfl rfl (fun w' e' => y_nil rfl) ?_
                refine m_y (v := .pointer (some ⟨b, 0, none⟩)) 25 rfl (by kernel_rfl) rfl rfl (fun w' e' => y_fld (o := 0 + 0) T101.fld_29_0_0 rfl) ?_
                refine m_y (v := .slice afe nfe cfe) 26 rfl (by kernel_rfl) rfl rfl (fun w' e' => y_load T101.one_24 rfl (((B0_63.s 4 rfl).ext0 e').cell (j := 0) rfl)) ?_
                refine m_y (v := .int .i64 (atI wd hi px py)) 27 rfl (by kernel_rfl) rfl rfl (fun w' e' => y_move rfl) ?_
                refine m_y (v := .pointer (some (sat afe ((atI wd hi px py).toNat * 1)))) 28 rfl (by kernel_rfl) rfl rfl (fun w' e' => y_idx T101.sl_24_35_1 rfl rfl ((B.r 3 rfl).addr (by omega)) (by omega) (by omega)) ?_
                obtain ⟨r69, hr70, hR68⟩ := Rd.atF (B0_63.r 3 rfl) (atI wd hi px py) (by omega) (by omega)
                refine m_y (v := .float .f32 r69) 29 rfl (by kernel_rfl) rfl rfl (fun w' e' => y_load T101.one_35 rfl ((hR68.ext0 e').cell (i := 0) rfl)) ?_
                refine m_k 20 [21, 22, 30, 31, 32, 33, 34] rfl (by kernel_rfl) rfl rfl (fun w71 e72 => ?_)
                replace R64 := R64.trans (Ext0.any e72)
                replace B := B.ext0 e72
                clear e72
                refine k_call T101.fn_98 (c_i_at (by omega) (by omega) (by omega) (by omega) (by omega) (by omega) (by omega) (by omega)) rfl ?_
                rintro _ w73 ⟨rfl, e74⟩
                replace R64 := R64.trans (Ext0.any e74)
                replace B := B.ext0 e74
                clear e74
                refine ⟨fun _ => R64, ?_⟩
                have hat75 := atI_b (wd := wd) (hi := hi) (x := px + 1) (y := py) (by omega) (by omega)
                refine m_y (v := .pointer (some (sat afe ((atI wd hi (px + 1) py).toNat * 1)))) 21 rfl (by kernel_rfl) rfl rfl (fun w' e' => y_idx T101.sl_24_35_1 rfl rfl ((B.r 3 rfl).addr (by omega)) (by omega) (by omega)) ?_
                obtain ⟨r77, hr78, hR76⟩ := Rd.atF (B0_63.r 3 rfl) (atI wd hi (px + 1) py) (by omega) (by omega)
                refine m_y (v := .float .f32 r77) 22 rfl (by kernel_rfl) rfl rfl (fun w' e' => y_load T101.one_35 rfl ((hR76.ext0 e').cell (i := 0) rfl)) ?_
                refine m_n 30 [31, 32, 33, 34] rfl (by kernel_rfl) rfl rfl (fun w' e' => n_arith (by decide) rfl rfl) ?_
                rintro _ ⟨r80, rfl, hr81⟩
                have hc84 := fopC hr81 hr78 hr70
                refine m_n 31 [32, 33, 34] rfl (by kernel_rfl) rfl rfl (fun w' e' => n_arith (by decide) rfl rfl) ?_
                rintro _ ⟨r86, rfl, hr87⟩
                have hc90 := fopC hr87 (show can .f32 1056964608 = 1056964608 by kernel_rfl) hc84
                refine m_n 32 [33, 34] rfl (by kernel_rfl) rfl rfl (fun w' e' => n_arith (by decide) rfl rfl) ?_
                rintro _ ⟨r92, rfl, hr93⟩
                have hc96 := fopC hr93 hr67 hc90
                refine m_y (v := .pointer (some (sat afy ((atI wd hi px py).toNat * 1)))) 33 rfl (by kernel_rfl) rfl rfl (fun w' e' => y_idx T101.sl_24_35_1 rfl rfl ((B.o 1 rfl).rd.addr (by omega)) (by omega) (by omega)) ?_
                refine m_kt 34 [] rfl (by kernel_rfl) rfl rfl (by kernel_rfl) (fun w99 e100 => ?_)
                replace R64 := R64.trans (Ext0.any e100)
                replace B := B.ext0 e100
                clear e100
                refine k_stO (k := kF) (i := atI wd hi px py) (j := 0) (x' := fop .add .f32 (el (mix (wd * hi) (wd * py + px) (fun i => hyF wd hi false Xfe Xfy (i % wd) (i / wd)) Xfy) (atI wd hi px py)) (fop .mul .f32 1056964608 (fop .sub .f32 (el Xfe (atI wd hi (px + 1) py)) (el Xfe (atI wd hi px py))))) (new := [.float .f32 r92]) T101.sz_35_1 rfl rfl rfl rfl rfl (by simp [Value.oneCell']) (by decide) (B.o 1 rfl) (by omega) (by omega) (by decide) (by rintro q ⟨_, rfl, _⟩; exact ⟨_, rfl, hc96⟩) (fun w97 hU98 => ?_)
                clear R64
                replace B : Bu w (hasW [.ow kF afx nfx cfx 35 Xfx, .ow kF afy nfy cfy 35 Xfy]) w97 [.ow kF afy nfy cfy 35 (put (mix (wd * hi) (wd * py + px) (fun i => hyF wd hi false Xfe Xfy (i % wd) (i / wd)) Xfy) (atI wd hi px py) (fop .add .f32 (el (mix (wd * hi) (wd * py + px) (fun i => hyF wd hi false Xfe Xfy (i % wd) (i / wd)) Xfy) (atI wd hi px py)) (fop .mul .f32 1056964608 (fop .sub .f32 (el Xfe (atI wd hi (px + 1) py)) (el Xfe (atI wd hi px py)))))), .ow kF afx nfx cfx 35 (put (mix (wd * hi) (wd * py + px) (fun i => hxF wd hi false Xfe Xfx (i % wd) (i / wd)) Xfx) (atI wd hi px py) (fop .sub .f32 (el (mix (wd * hi) (wd * py + px) (fun i => hxF wd hi false Xfe Xfx (i % wd) (i / wd)) Xfx) (atI wd hi px py)) (fop .mul .f32 1056964608 (fop .sub .f32 (el Xfe (atI wd hi px (py + 1))) (el Xfe (atI wd hi px py)))))), .blk b1 [.int .i64 wd, .int .i64 hi, .bool false, .slice asp nsp csp, .slice als nls cls] 26, .rd kF afe nfe Xfe, .sl (some ⟨b, 0, none⟩) [.slice afe nfe cfe, .slice afx nfx cfx, .slice afy nfy cfy]] := B.upd [1] rfl hU98
                clear hU98
                refine m_done (by kernel_rfl) (fun w101 e102 => ?_)
                replace B := B.ext0 e102
                clear e102
                clear B0_63
                refine W_region (by kernel_rfl) ?_
                refine s_y (v := .int .i64 (px + 1)) rfl (y_add rfl rfl rfl (by omega)) ?_
                refine s_y (v := .int .i64 (px + 1)) rfl (y_move rfl) ?_
                refine s_nil ?_
                have hcx : (false || decide (py < hi - 1)) = true := by simp only [(decide_eq_true c6), (decide_eq_true c9), (decide_eq_true c13), (decide_eq_true c58), Bool.and_true, Bool.true_and, Bool.and_false, Bool.false_and, Bool.not_true, Bool.not_false, Bool.or_true, Bool.true_or, Bool.or_false, Bool.false_or]
                replace B : Bu w (hasW [.ow kF afx nfx cfx 35 Xfx, .ow kF afy nfy cfy 35 Xfy]) w101 [.ow kF afy nfy cfy 35 (put (mix (wd * hi) (wd * py + px) (fun i => hyF wd hi false Xfe Xfy (i % wd) (i / wd)) Xfy) (atI wd hi px py) (fop .add .f32 (el (mix (wd * hi) (wd * py + px) (fun i => hyF wd hi false Xfe Xfy (i % wd) (i / wd)) Xfy) (atI wd hi px py)) (fop .mul .f32 1056964608 (fop .sub .f32 (el Xfe (atI wd hi (px + 1) py)) (el Xfe (atI wd hi px py)))))), .ow kF afx nfx cfx 35 (mix (wd * hi) (wd * py + (px + 1)) (fun i => hxF wd hi false Xfe Xfx (i % wd) (i / wd)) Xfx), .blk b1 [.int .i64 wd, .int .i64 hi, .bool false, .slice asp nsp csp, .slice als nls cls] 26, .rd kF afe nfe Xfe, .sl (some ⟨b, 0, none⟩) [.slice afe nfe cfe, .slice afx nfx cfx, .slice afy nfy cfy]] := B.castX 1 rfl rfl (mix_cell (G := hxF wd hi false Xfe Xfx) rfl (by omega) (by omega) (by omega) (by omega) rfl (hx_yes rfl (by omega) (by omega) (by omega) (by omega) hcx))
                have hcy : (false || decide (px < wd - 1)) = true := by simp only [(decide_eq_true c6), (decide_eq_true c9), (decide_eq_true c13), (decide_eq_true c58), Bool.and_true, Bool.true_and, Bool.and_false, Bool.false_and, Bool.not_true, Bool.not_false, Bool.or_true, Bool.true_or, Bool.or_false, Bool.false_or]
                replace B : Bu w (hasW [.ow kF afx nfx cfx 35 Xfx, .ow kF afy nfy cfy 35 Xfy]) w101 [.ow kF afy nfy cfy 35 (mix (wd * hi) (wd * py + (px + 1)) (fun i => hyF wd hi false Xfe Xfy (i % wd) (i / wd)) Xfy), .ow kF afx nfx cfx 35 (mix (wd * hi) (wd * py + (px + 1)) (fun i => hxF wd hi false Xfe Xfx (i % wd) (i / wd)) Xfx), .blk b1 [.int .i64 wd, .int .i64 hi, .bool false, .slice asp nsp csp, .slice als nls cls] 26, .rd kF afe nfe Xfe, .sl (some ⟨b, 0, none⟩) [.slice afe nfe cfe, .slice afx nfx cfx, .slice afy nfy cfy]] := B.castX 0 rfl rfl (mix_cell (G := hyF wd hi false Xfe Xfy) rfl (by omega) (by omega) (by omega) (by omega) rfl (hy_yes rfl (by omega) (by omega) (by omega) (by omega) hcy))
                refine ⟨⟨_, px + 1, Fits.eq ⟨rfl, rfl, rfl, rfl, rfl, rfl, rfl, rfl, rfl, rfl, trivial⟩, (B.pick [1, 0, 2, 3, 4] rfl rfl), (by omega), (by omega)⟩, ?_⟩
                show (wd - (px + 1)).toNat < (wd - px).toNat
                omega
              · refine s_y (v := .bool false) rfl (y_lss rfl rfl (decide_eq_false c58)) ?_
                refine s_y (v := .bool false) rfl (y_pick_f rfl rfl) ?_
                refine s_nil ?_
                refine W_if_f (by decide) rfl ?_
                refine W_skip ?_
                refine W_region (by kernel_rfl) ?_
                refine s_y (v := .int .i64 (px + 1)) rfl (y_add rfl rfl rfl (by omega)) ?_
                refine s_y (v := .int .i64 (px + 1)) rfl (y_move rfl) ?_
                refine s_nil ?_
                have hcx : (false || decide (py < hi - 1)) = true := by simp only [(decide_eq_true c6), (decide_eq_true c9), (decide_eq_true c13), (decide_eq_false c58), Bool.and_true, Bool.true_and, Bool.and_false, Bool.false_and, Bool.not_true, Bool.not_false, Bool.or_true, Bool.true_or, Bool.or_false, Bool.false_or]
                replace B : Bu w (hasW [.ow kF afx nfx cfx 35 Xfx, .ow kF afy nfy cfy 35 Xfy]) w56 [.ow kF afx nfx cfx 35 (mix (wd * hi) (wd * py + (px + 1)) (fun i => hxF wd hi false Xfe Xfx (i % wd) (i / wd)) Xfx), .ow kF afy nfy cfy 35 (mix (wd * hi) (wd * py + px) (fun i => hyF wd hi false Xfe Xfy (i % wd) (i / wd)) Xfy), .blk b1 [.int .i64 wd, .int .i64 hi, .bool false, .slice asp nsp csp, .slice als nls cls] 26, .rd kF afe nfe Xfe, .sl (some ⟨b, 0, none⟩) [.slice afe nfe cfe, .slice afx nfx cfx, .slice afy nfy cfy]] := B.castX 0 rfl rfl (mix_cell (G := hxF wd hi false Xfe Xfx) rfl (by omega) (by omega) (by omega) (by omega) rfl (hx_yes rfl (by omega) (by omega) (by omega) (by omega) hcx))
                have hcy : (false || decide (px < wd - 1)) = false := by simp only [(decide_eq_true c6), (decide_eq_true c9), (decide_eq_true c13), (decide_eq_false c58), Bool.and_true, Bool.true_and, Bool.and_false, Bool.false_and, Bool.not_true, Bool.not_false, Bool.or_true, Bool.true_or, Bool.or_false, Bool.false_or]
                replace B : Bu w (hasW [.ow kF afx nfx cfx 35 Xfx, .ow kF afy nfy cfy 35 Xfy]) w56 [.ow kF afx nfx cfx 35 (mix (wd * hi) (wd * py + (px + 1)) (fun i => hxF wd hi false Xfe Xfx (i % wd) (i / wd)) Xfx), .ow kF afy nfy cfy 35 (mix (wd * hi) (wd * py + (px + 1)) (fun i => hyF wd hi false Xfe Xfy (i % wd) (i / wd)) Xfy), .blk b1 [.int .i64 wd, .int .i64 hi, .bool false, .slice asp nsp csp, .slice als nls cls] 26, .rd kF afe nfe Xfe, .sl (some ⟨b, 0, none⟩) [.slice afe nfe cfe, .slice afx nfx cfx, .slice afy nfy cfy]] := B.castX 1 rfl rfl (mix_same (G := hyF wd hi false Xfe Xfy) (by omega) (by omega) (by omega) (by omega) (hy_no hcy))
                refine ⟨⟨_, px + 1, Fits.eq ⟨rfl, rfl, rfl, rfl, rfl, rfl, rfl, rfl, rfl, rfl, trivial⟩, B, (by omega), (by omega)⟩, ?_⟩
                show (wd - (px + 1)).toNat < (wd - px).toNat
                omega
            · refine s_y (v := .bool false) rfl (y_lss rfl rfl (decide_eq_false c13)) ?_
              refine s_y (v := .bool false) rfl (y_pick_f rfl rfl) ?_
              refine s_nil ?_
              refine W_if_f (by decide) rfl ?_
              refine W_skip ?_
              refine W_seq ?_
              refine W_region (by kernel_rfl) ?_
              refine s_y (v := .pointer (some ⟨b1, 2, none⟩)) rfl (y_fld (o := 0) T101.fld_26_2_2 rfl) ?_
              refine s_y (v := .bool false) rfl (y_load T101.one_4 rfl ((B.b 2 rfl).cell (j := 2) rfl)) ?_
              refine s_y (v := .bool false) rfl (y_move rfl) ?_
              refine s_y (v := .int .i64 px) rfl (y_move rfl) ?_
              refine s_y (v := .pointer (some ⟨b1, 0, none⟩)) rfl (y_fld (o := 0) T101.fld_26_0_0 rfl) ?_
              refine s_y (v := .int .i64 wd) rfl (y_load T101.one_2 rfl ((B.b 2 rfl).cell (j := 0) rfl)) ?_
              refine s_y (v := .int .i64 (wd - 1)) rfl (y_sub rfl rfl rfl (by omega)) ?_
              by_cases c103 : px < (wd - 1)
              · refine s_y (v := .bool true) rfl (y_lss rfl rfl (decide_eq_true c103)) ?_
                refine s_y (v := .bool true) rfl (y_pick_f rfl rfl) ?_
                refine s_nil ?_
                refine W_if_t (by decide) rfl ?_
                have B0_108 := B
                refine W_draw (no) T101.mx (by kernel_rfl) (fun w106 e107 => ?_)
                have R109 := Ext.refl (no) w10
                replace R109 := R109.trans (Ext0.any e107)
                replace B := B.ext0 e107
                clear e107
                refine m_y (v := .pointer (some ⟨b, 0, none⟩)) 0 rfl (by kernel_rfl) rfl rfl (fun w' e' => y_move rfl) ?_
                refine m_y (v := .pointer (some ⟨b, 0, none⟩)) 1 rfl (by kernel_rfl) rfl rfl (fun w' e' => y_nil rfl) ?_
                refine m_y (v := .pointer (some ⟨b, 0 + 2, none⟩)) 2 rfl (by kernel_rfl) rfl rfl (fun w' e' => y_fld (o := 0 + 0) T101.fld_29_2_2 rfl) ?_
                refine m_y (v := .slice afy nfy cfy) 3 rfl (by kernel_rfl) rfl rfl (fun w' e' => y_load T101.one_24 rfl (((B0_108.s 4 rfl).ext0 e').cell (j := 2) rfl)) ?_
                refine m_y (v := .int .i64 (atI wd hi px py)) 4 rfl (by kernel_rfl) rfl rfl (fun w' e' => y_move rfl) ?_
                refine m_y (v := .pointer (some ⟨b, 0, none⟩)) 5 rfl (by kernel_rfl) rfl rfl (fun w' e' => y_move rfl) ?_
                refine m_y (v := .pointer (some ⟨b, 0, none⟩)) 6 rfl (by kernel_rfl) rfl rfl (fun w' e' => y_nil rfl) ?_
                refine m_y (v := .pointer (some ⟨b, 0 + 2, none⟩)) 7 rfl (by kernel_rfl) rfl rfl (fun w' e' => y_fld (o := 0 + 0) T101.fld_29_2_2 rfl) ?_
                refine m_y (v := .slice afy nfy cfy) 8 rfl (by kernel_rfl) rfl rfl (fun w' e' => y_load T101.one_24 rfl (((B0_108.s 4 rfl).ext0 e').cell (j := 2) rfl)) ?_
                refine m_y (v := .int .i64 (atI wd hi px py)) 9 rfl (by kernel_rfl) rfl rfl (fun w' e' => y_move rfl) ?_
                refine m_y (v := .pointer (some (sat afy ((atI wd hi px py).toNat * 1)))) 10 rfl (by kernel_rfl) rfl rfl (fun w' e' => y_idx T101.sl_24_35_1 rfl rfl ((B.o 1 rfl).rd.addr (by omega)) (by omega) (by omega)) ?_
                obtain ⟨r111, hr112, hR110⟩ := Rd.atF (B0_108.o 1 rfl).rd (atI wd hi px py) (by omega) (by omega)
                refine m_y (v := .float .f32 r111) 11 rfl (by kernel_rfl) rfl rfl (fun w' e' => y_load T101.one_35 rfl ((hR110.ext0 e').cell (i := 0) rfl)) ?_
                refine m_y (v := .pointer (some ⟨b, 0, none⟩)) 12 rfl (by kernel_rfl) rfl rfl (fun w' e' => y_move rfl) ?_
                refine m_y (v := .pointer (some ⟨b, 0, none⟩)) 13 rfl (by kernel_rfl) rfl rfl (fun w' e' => y_nil rfl) ?_
                refine m_y (v := .pointer (some ⟨b, 0, none⟩)) 14 rfl (by kernel_rfl) rfl rfl (fun w' e' => y_fld (o := 0 + 0) T101.fld_29_0_0 rfl) ?_
                refine m_y (v := .slice afe nfe cfe) 15 rfl (by kernel_rfl) rfl rfl (fun w' e' => y_load T101.one_24 rfl (((B0_108.s 4 rfl).ext0 e').cell (j := 0) rfl)) ?_
                refine m_y (v := .agg #[.int .i64 wd, .int .i64 hi, .bool false, .slice asp nsp csp, .slice als nls cls]) 16 rfl (by kernel_rfl) rfl rfl (fun w' e' => y_loadn (b := b1) (o := 0) (vs := [.int .i64 wd, .int .i64 hi, .bool false, .slice asp nsp csp, .slice als nls cls]) T101.agg_26_5 rfl rfl (((B0_108.b 2 rfl).ext0 e').cells (o := 0) rfl)) ?_
                refine m_y (v := .int .i64 px) 17 rfl (by kernel_rfl) rfl rfl (fun w' e' => y_move rfl) ?_
                refine m_y (v := .int .i64 (px + 1)) 18 rfl (by kernel_rfl) rfl rfl (fun w' e' => y_add rfl rfl rfl (by omega)) ?_
                refine m_y (v := .int .i64 py) 19 rfl (by kernel_rfl) rfl rfl (fun w' e' => y_move rfl) ?_
                refine m_y (v := .pointer (some ⟨b, 0, none⟩)) 23 rfl (by kernel_rfl) rfl rfl (fun w' e' => y_move rfl) ?_
                refine m_y (v := .pointer (some ⟨b, 0, none⟩)) 24 rfl (by kernel_rfl) rfl rfl (fun w' e' => y_nil rfl) ?_
                refine m_y (v := .pointer (some ⟨b, 0, none⟩)) 25 rfl (by kernel_rfl) rfl rfl (fun w' e' => y_fld (o := 0 + 0) T101.fld_29_0_0 rfl) ?_
                refine m_y (v := .slice afe nfe cfe) 26 rfl (by kernel_rfl) rfl rfl (fun w' e' => y_load T101.one_24 rfl (((B0_108.s 4 rfl).ext0 e').cell (j := 0) rfl)) ?_
                refine m_y (v := .int .i64 (atI wd hi px py)) 27 rfl (by kernel_rfl) rfl rfl (fun w' e' => y_move rfl) ?_
                refine m_y (v := .pointer (some (sat afe ((atI wd hi px py).toNat * 1)))) 28 rfl (by kernel_rfl) rfl rfl (fun w' e' => y_idx T101.sl_24_35_1 rfl rfl ((B.r 3 rfl).addr (by omega)) (by omega) (by omega)) ?_
                obtain ⟨r114, hr115, hR113⟩ := Rd.atF (B0_108.r 3 rfl) (atI wd hi px py) (by omega) (by omega)
                refine m_y (v := .float .f32 r114) 29 rfl (by kernel_rfl) rfl rfl (fun w' e' => y_load T101.one_35 rfl ((hR113.ext0 e').cell (i := 0) rfl)) ?_
                refine m_k 20 [21, 22, 30, 31, 32, 33, 34] rfl (by kernel_rfl) rfl rfl (fun w116 e117 => ?_)
                replace R109 := R109.trans (Ext0.any e117)
                replace B := B.ext0 e117
                clear e117
                refine k_call T101.fn_98 (c_i_at (by omega) (by omega) (by omega) (by omega) (by omega) (by omega) (by omega) (by omega)) rfl ?_
                rintro _ w118 ⟨rfl, e119⟩
                replace R109 := R109.trans (Ext0.any e119)
                replace B := B.ext0 e119
                clear e119
                refine ⟨fun _ => R109, ?_⟩
                have hat120 := atI_b (wd := wd) (hi := hi) (x := px + 1) (y := py) (by omega) (by omega)
                refine m_y (v := .pointer (some (sat afe ((atI wd hi (px + 1) py).toNat * 1)))) 21 rfl (by kernel_rfl) rfl rfl (fun w' e' => y_idx T101.sl_24_35_1 rfl rfl ((B.r 3 rfl).addr (by omega)) (by omega) (by omega)) ?_
                obtain ⟨r122, hr123, hR121⟩ := Rd.atF (B0_108.r 3 rfl) (atI wd hi (px + 1) py) (by omega) (by omega)
                refine m_y (v := .float .f32 r122) 22 rfl (by kernel_rfl) rfl rfl (fun w' e' => y_load T101.one_35 rfl ((hR121.ext0 e').cell (i := 0) rfl)) ?_
                refine m_n 30 [31, 32, 33, 34] rfl (by kernel_rfl) rfl rfl (fun w' e' => n_arith (by decide) rfl rfl) ?_
                rintro _ ⟨r125, rfl, hr126⟩
                have hc129 := fopC hr126 hr123 hr115
                refine m_n 31 [32, 33, 34] rfl (by kernel_rfl) rfl rfl (fun w' e' => n_arith (by decide) rfl rfl) ?_
                rintro _ ⟨r131, rfl, hr132⟩
                have hc135 := fopC hr132 (show can .f32 1056964608 = 1056964608 by kernel_rfl) hc129
                refine m_n 32 [33, 34] rfl (by kernel_rfl) rfl rfl (fun w' e' => n_arith (by decide) rfl rfl) ?_
                rintro _ ⟨r137, rfl, hr138⟩
                have hc141 := fopC hr138 hr112 hc135
                refine m_y (v := .pointer (some (sat afy ((atI wd hi px py).toNat * 1)))) 33 rfl (by kernel_rfl) rfl rfl (fun w' e' => y_idx T101.sl_24_35_1 rfl rfl ((B.o 1 rfl).rd.addr (by omega)) (by omega) (by omega)) ?_
                refine m_kt 34 [] rfl (by kernel_rfl) rfl rfl (by kernel_rfl) (fun w144 e145 => ?_)
                replace R109 := R109.trans (Ext0.any e145)
                replace B := B.ext0 e145
                clear e145
                refine k_stO (k := kF) (i := atI wd hi px py) (j := 0) (x' := fop .add .f32 (el (mix (wd * hi) (wd * py + px) (fun i => hyF wd hi false Xfe Xfy (i % wd) (i / wd)) Xfy) (atI wd hi px py)) (fop .mul .f32 1056964608 (fop .sub .f32 (el Xfe (atI wd hi (px + 1) py)) (el Xfe (atI wd hi px py))))) (new := [.float .f32 r137]) T101.sz_35_1 rfl rfl rfl rfl rfl (by simp [Value.oneCell']) (by decide) (B.o 1 rfl) (by omega) (by omega) (by decide) (by rintro q ⟨_, rfl, _⟩; exact ⟨_, rfl, hc141⟩) (fun w142 hU143 => ?_)
                clear R109
                replace B : Bu w (hasW [.ow kF afx nfx cfx 35 Xfx, .ow kF afy nfy cfy 35 Xfy]) w142 [.ow kF afy nfy cfy 35 (put (mix (wd * hi) (wd * py + px) (fun i => hyF wd hi false Xfe Xfy (i % wd) (i / wd)) Xfy) (atI wd hi px py) (fop .add .f32 (el (mix (wd * hi) (wd * py + px) (fun i => hyF wd hi false Xfe Xfy (i % wd) (i / wd)) Xfy) (atI wd hi px py)) (fop .mul .f32 1056964608 (fop .sub .f32 (el Xfe (atI wd hi (px + 1) py)) (el Xfe (atI wd hi px py)))))), .ow kF afx nfx cfx 35 (mix (wd * hi) (wd * py + px) (fun i => hxF wd hi false Xfe Xfx (i % wd) (i / wd)) Xfx), .blk b1 [.int .i64 wd, .int .i64 hi, .bool false, .slice asp nsp csp, .slice als nls cls] 26, .rd kF afe nfe Xfe, .sl (some ⟨b, 0, none⟩) [.slice afe nfe cfe, .slice afx nfx cfx, .slice afy nfy cfy]] := B.upd [1] rfl hU143
                clear hU143
                refine m_done (by kernel_rfl) (fun w146 e147 => ?_)
                replace B := B.ext0 e147
                clear e147
                clear B0_108
                refine W_region (by kernel_rfl) ?_
                refine s_y (v := .int .i64 (px + 1)) rfl (y_add rfl rfl rfl (by omega)) ?_
                refine s_y (v := .int .i64 (px + 1)) rfl (y_move rfl) ?_
                refine s_nil ?_
                have hcx : (false || decide (py < hi - 1)) = false := by simp only [(decide_eq_true c6), (decide_eq_true c9), (decide_eq_false c13), (decide_eq_true c103), Bool.and_true, Bool.true_and, Bool.and_false, Bool.false_and, Bool.not_true, Bool.not_false, Bool.or_true, Bool.true_or, Bool.or_false, Bool.false_or]
                replace B : Bu w (hasW [.ow kF afx nfx cfx 35 Xfx, .ow kF afy nfy cfy 35 Xfy]) w146 [.ow kF afy nfy cfy 35 (put (mix (wd * hi) (wd * py + px) (fun i => hyF wd hi false Xfe Xfy (i % wd) (i / wd)) Xfy) (atI wd hi px py) (fop .add .f32 (el (mix (wd * hi) (wd * py + px) (fun i => hyF wd hi false Xfe Xfy (i % wd) (i / wd)) Xfy) (atI wd hi px py)) (fop .mul .f32 1056964608 (fop .sub .f32 (el Xfe (atI wd hi (px + 1) py)) (el Xfe (atI wd hi px py)))))), .ow kF afx nfx cfx 35 (mix (wd * hi) (wd * py + (px + 1)) (fun i => hxF wd hi false Xfe Xfx (i % wd) (i / wd)) Xfx), .blk b1 [.int .i64 wd, .int .i64 hi, .bool false, .slice asp nsp csp, .slice als nls cls] 26, .rd kF afe nfe Xfe, .sl (some ⟨b, 0, none⟩) [.slice afe nfe cfe, .slice afx nfx cfx, .slice afy nfy cfy]] := B.castX 1 rfl rfl (mix_same (G := hxF wd hi false Xfe Xfx) (by omega) (by omega) (by omega) (by omega) (hx_no hcx))
                have hcy : (false || decide (px < wd - 1)) = true := by simp only [(decide_eq_true c6), (decide_eq_true c9), (decide_eq_false c13), (decide_eq_true c103), Bool.and_true, Bool.true_and, Bool.and_false, Bool.false_and, Bool.not_true, Bool.not_false, Bool.or_true, Bool.true_or, Bool.or_false, Bool.false_or]
                replace B : Bu w (hasW [.ow kF afx nfx cfx 35 Xfx, .ow kF afy nfy cfy 35 Xfy]) w146 [.ow kF afy nfy cfy 35 (mix (wd * hi) (wd * py + (px + 1)) (fun i => hyF wd hi false Xfe Xfy (i % wd) (i / wd)) Xfy), .ow kF afx nfx cfx 35 (mix (wd * hi) (wd * py + (px + 1)) (fun i => hxF wd hi false Xfe Xfx (i % wd) (i / wd)) Xfx), .blk b1 [.int .i64 wd, .int .i64 hi, .bool false, .slice asp nsp csp, .slice als nls cls] 26, .rd kF afe nfe Xfe, .sl (some ⟨b, 0, none⟩) [.slice afe nfe cfe, .slice afx nfx cfx, .slice afy nfy cfy]] := B.castX 0 rfl rfl (mix_cell (G := hyF wd hi false Xfe Xfy) rfl (by omega) (by omega) (by omega) (by omega) rfl (hy_yes rfl (by omega) (by omega) (by omega) (by omega) hcy))
                refine ⟨⟨_, px + 1, Fits.eq ⟨rfl, rfl, rfl, rfl, rfl, rfl, rfl, rfl, rfl, rfl, trivial⟩, (B.pick [1, 0, 2, 3, 4] rfl rfl), (by omega), (by omega)⟩, ?_⟩
                show (wd - (px + 1)).toNat < (wd - px).toNat
                omega
              · refine s_y (v := .bool false) rfl (y_lss rfl rfl (decide_eq_false c103)) ?_
                refine s_y (v := .bool false) rfl (y_pick_f rfl rfl) ?_
                refine s_nil ?_
                refine W_if_f (by decide) rfl ?_
                refine W_skip ?_
                refine W_region (by kernel_rfl) ?_
                refine s_y (v := .int .i64 (px + 1)) rfl (y_add rfl rfl rfl (by omega)) ?_
                refine s_y (v := .int .i64 (px + 1)) rfl (y_move rfl) ?_
                refine s_nil ?_
                have hcx : (false || decide (py < hi - 1)) = false := by simp only [(decide_eq_true c6), (decide_eq_true c9), (decide_eq_false c13), (decide_eq_false c103), Bool.and_true, Bool.true_and, Bool.and_false, Bool.false_and, Bool.not_true, Bool.not_false, Bool.or_true, Bool.true_or, Bool.or_false, Bool.false_or]
                replace B : Bu w (hasW [.ow kF afx nfx cfx 35 Xfx, .ow kF afy nfy cfy 35 Xfy]) w10 [.ow kF afx nfx cfx 35 (mix (wd * hi) (wd * py + (px + 1)) (fun i => hxF wd hi false Xfe Xfx (i % wd) (i / wd)) Xfx), .ow kF afy nfy cfy 35 (mix (wd * hi) (wd * py + px) (fun i => hyF wd hi false Xfe Xfy (i % wd) (i / wd)) Xfy), .blk b1 [.int .i64 wd, .int .i64 hi, .bool false, .slice asp nsp csp, .slice als nls cls] 26, .rd kF afe nfe Xfe, .sl (some ⟨b, 0, none⟩) [.slice afe nfe cfe, .slice afx nfx cfx, .slice afy nfy cfy]] := B.castX 0 rfl rfl (mix_same (G := hxF wd hi false Xfe Xfx) (by omega) (by omega) (by omega) (by omega) (hx_no hcx))
                have hcy : (false || decide (px < wd - 1)) = false := by simp only [(decide_eq_true c6), (decide_eq_true c9), (decide_eq_false c13), (decide_eq_false c103), Bool.and_true, Bool.true_and, Bool.and_false, Bool.false_and, Bool.not_true, Bool.not_false, Bool.or_true, Bool.true_or, Bool.or_false, Bool.false_or]
                replace B : Bu w (hasW [.ow kF afx nfx cfx 35 Xfx, .ow kF afy nfy cfy 35 Xfy]) w10 [.ow kF afx nfx cfx 35 (mix (wd * hi) (wd * py + (px + 1)) (fun i => hxF wd hi false Xfe Xfx (i % wd) (i / wd)) Xfx), .ow kF afy nfy cfy 35 (mix (wd * hi) (wd * py + (px + 1)) (fun i => hyF wd hi false Xfe Xfy (i % wd) (i / wd)) Xfy), .blk b1 [.int .i64 wd, .int .i64 hi, .bool false, .slice asp nsp csp, .slice als nls cls] 26, .rd kF afe nfe Xfe, .sl (some ⟨b, 0, none⟩) [.slice afe nfe cfe, .slice afx nfx cfx, .slice afy nfy cfy]] := B.castX 1 rfl rfl (mix_same (G := hyF wd hi false Xfe Xfy) (by omega) (by omega) (by omega) (by omega) (hy_no hcy))
                refine ⟨⟨_, px + 1, Fits.eq ⟨rfl, rfl, rfl, rfl, rfl, rfl, rfl, rfl, rfl, rfl, trivial⟩, B, (by omega), (by omega)⟩, ?_⟩
                show (wd - (px + 1)).toNat < (wd - px).toNat
                omega
          · refine s_skip rfl ?_
            refine s_skip rfl ?_
            refine s_skip rfl ?_
            refine s_skip rfl ?_
            refine s_skip rfl ?_
            refine s_y (v := .bool true) rfl (y_pick_t rfl rfl) ?_
            refine s_nil ?_
            refine W_if_t (by decide) rfl ?_
            have B0_152 := B
            refine W_draw (no) T101.mx (by kernel_rfl) (fun w150 e151 => ?_)
            have R153 := Ext.refl (no) w10
            replace R153 := R153.trans (Ext0.any e151)
            replace B := B.ext0 e151
            clear e151
            refine m_y (v := .pointer (some ⟨b, 0, none⟩)) 0 rfl (by kernel_rfl) rfl rfl (fun w' e' => y_move rfl) ?_
            refine m_y (v := .pointer (some ⟨b, 0, none⟩)) 1 rfl (by kernel_rfl) rfl rfl (fun w' e' => y_nil rfl) ?_
            refine m_y (v := .pointer (some ⟨b, 0 + 1, none⟩)) 2 rfl (by kernel_rfl) rfl rfl (fun w' e' => y_fld (o := 0 + 0) T101.fld_29_1_1 rfl) ?_
            refine m_y (v := .slice afx nfx cfx) 3 rfl (by kernel_rfl) rfl rfl (fun w' e' => y_load T101.one_24 rfl (((B0_152.s 4 rfl).ext0 e').cell (j := 1) rfl)) ?_
            refine m_y (v := .int .i64 (atI wd hi px py)) 4 rfl (by kernel_rfl) rfl rfl (fun w' e' => y_move rfl) ?_
            refine m_y (v := .pointer (some ⟨b, 0, none⟩)) 5 rfl (by kernel_rfl) rfl rfl (fun w' e' => y_move rfl) ?_
            refine m_y (v := .pointer (some ⟨b, 0, none⟩)) 6 rfl (by kernel_rfl) rfl rfl (fun w' e' => y_nil rfl) ?_
            refine m_y (v := .pointer (some ⟨b, 0 + 1, none⟩)) 7 rfl (by kernel_rfl) rfl rfl (fun w' e' => y_fld (o := 0 + 0) T101.fld_29_1_1 rfl) ?_
            refine m_y (v := .slice afx nfx cfx) 8 rfl (by kernel_rfl) rfl rfl (fun w' e' => y_load T101.one_24 rfl (((B0_152.s 4 rfl).ext0 e').cell (j := 1) rfl)) ?_
            refine m_y (v := .int .i64 (atI wd hi px py)) 9 rfl (by kernel_rfl) rfl rfl (fun w' e' => y_move rfl) ?_
            refine m_y (v := .pointer (some (sat afx ((atI wd hi px py).toNat * 1)))) 10 rfl (by kernel_rfl) rfl rfl (fun w' e' => y_idx T101.sl_24_35_1 rfl rfl ((B.o 0 rfl).rd.addr (by omega)) (by omega) (by omega)) ?_
            obtain ⟨r155, hr156, hR154⟩ := Rd.atF (B0_152.o 0 rfl).rd (atI wd hi px py) (by omega) (by omega)
            refine m_y (v := .float .f32 r155) 11 rfl (by kernel_rfl) rfl rfl (fun w' e' => y_load T101.one_35 rfl ((hR154.ext0 e').cell (i := 0) rfl)) ?_
            refine m_y (v := .pointer (some ⟨b, 0, none⟩)) 12 rfl (by kernel_rfl) rfl rfl (fun w' e' => y_move rfl) ?_
            refine m_y (v := .pointer (some ⟨b, 0, none⟩)) 13 rfl (by kernel_rfl) rfl rfl (fun w' e' => y_nil rfl) ?_
            refine m_y (v := .pointer (some ⟨b, 0, none⟩)) 14 rfl (by kernel_rfl) rfl rfl (fun w' e' => y_fld (o := 0 + 0) T101.fld_29_0_0 rfl) ?_
            refine m_y (v := .slice afe nfe cfe) 15 rfl (by kernel_rfl) rfl rfl (fun w' e' => y_load T101.one_24 rfl (((B0_152.s 4 rfl).ext0 e').cell (j := 0) rfl)) ?_
            refine m_y (v := .agg #[.int .i64 wd, .int .i64 hi, .bool true, .slice asp nsp csp, .slice als nls cls]) 16 rfl (by kernel_rfl) rfl rfl (fun w' e' => y_loadn (b := b1) (o := 0) (vs := [.int .i64 wd, .int .i64 hi, .bool true, .slice asp nsp csp, .slice als nls cls]) T101.agg_26_5 rfl rfl (((B0_152.b 2 rfl).ext0 e').cells (o := 0) rfl)) ?_
            refine m_y (v := .int .i64 px) 17 rfl (by kernel_rfl) rfl rfl (fun w' e' => y_move rfl) ?_
            refine m_y (v := .int .i64 py) 18 rfl (by kernel_rfl) rfl rfl (fun w' e' => y_move rfl) ?_
            refine m_y (v := .int .i64 (py + 1)) 19 rfl (by kernel_rfl) rfl rfl (fun w' e' => y_add rfl rfl rfl (by omega)) ?_
            refine m_y (v := .pointer (some ⟨b, 0, none⟩)) 23 rfl (by kernel_rfl) rfl rfl (fun w' e' => y_move rfl) ?_
            refine m_y (v := .pointer (some ⟨b, 0, none⟩)) 24 rfl (by kernel_rfl) rfl rfl (fun w' e' => y_nil rfl) ?_
            refine m_y (v := .pointer (some ⟨b, 0, none⟩)) 25 rfl (by kernel_rfl) rfl rfl (fun w' e' => y_fld (o := 0 + 0) T101.fld_29_0_0 rfl) ?_
            refine m_y (v := .slice afe nfe cfe) 26 rfl (by kernel_rfl) rfl rfl (fun w' e' => y_load T101.one_24 rfl (((B0_152.s 4 rfl).ext0 e').cell (j := 0) rfl)) ?_
            refine m_y (v := .int .i64 (atI wd hi px py)) 27 rfl (by kernel_rfl) rfl rfl (fun w' e' => y_move rfl) ?_
            refine m_y (v := .pointer (some (sat afe ((atI wd hi px py).toNat * 1)))) 28 rfl (by kernel_rfl) rfl rfl (fun w' e' => y_idx T101.sl_24_35_1 rfl rfl ((B.r 3 rfl).addr (by omega)) (by omega) (by omega)) ?_
            obtain ⟨r158, hr159, hR157⟩ := Rd.atF (B0_152.r 3 rfl) (atI wd hi px py) (by omega) (by omega)
            refine m_y (v := .float .f32 r158) 29 rfl (by kernel_rfl) rfl rfl (fun w' e' => y_load T101.one_35 rfl ((hR157.ext0 e').cell (i := 0) rfl)) ?_
            refine m_k 20 [21, 22, 30, 31, 32, 33, 34] rfl (by kernel_rfl) rfl rfl (fun w160 e161 => ?_)
            replace R153 := R153.trans (Ext0.any e161)
            replace B := B.ext0 e161
            clear e161
            refine k_call T101.fn_98 (c_i_at (by omega) (by omega) (by omega) (by omega) (by omega) (by omega) (by omega) (by omega)) rfl ?_
            rintro _ w162 ⟨rfl, e163⟩
            replace R153 := R153.trans (Ext0.any e163)
            replace B := B.ext0 e163
            clear e163
            refine ⟨fun _ => R153, ?_⟩
            have hat164 := atI_b (wd := wd) (hi := hi) (x := px) (y := py + 1) (by omega) (by omega)
            refine m_y (v := .pointer (some (sat afe ((atI wd hi px (py + 1)).toNat * 1)))) 21 rfl (by kernel_rfl) rfl rfl (fun w' e' => y_idx T101.sl_24_35_1 rfl rfl ((B.r 3 rfl).addr (by omega)) (by omega) (by omega)) ?_
            obtain ⟨r166, hr167, hR165⟩ := Rd.atF (B0_152.r 3 rfl) (atI wd hi px (py + 1)) (by omega) (by omega)
            refine m_y (v := .float .f32 r166) 22 rfl (by kernel_rfl) rfl rfl (fun w' e' => y_load T101.one_35 rfl ((hR165.ext0 e').cell (i := 0) rfl)) ?_
            refine m_n 30 [31, 32, 33, 34] rfl (by kernel_rfl) rfl rfl (fun w' e' => n_arith (by decide) rfl rfl) ?_
            rintro _ ⟨r169, rfl, hr170⟩
            have hc173 := fopC hr170 hr167 hr159
            refine m_n 31 [32, 33, 34] rfl (by kernel_rfl) rfl rfl (fun w' e' => n_arith (by decide) rfl rfl) ?_
            rintro _ ⟨r175, rfl, hr176⟩
            have hc179 := fopC hr176 (show can .f32 1056964608 = 1056964608 by kernel_rfl) hc173
            refine m_n 32 [33, 34] rfl (by kernel_rfl) rfl rfl (fun w' e' => n_arith (by decide) rfl rfl) ?_
            rintro _ ⟨r181, rfl, hr182⟩
            have hc185 := fopC hr182 hr156 hc179
            refine m_y (v := .pointer (some (sat afx ((atI wd hi px py).toNat * 1)))) 33 rfl (by kernel_rfl) rfl rfl (fun w' e' => y_idx T101.sl_24_35_1 rfl rfl ((B.o 0 rfl).rd.addr (by omega)) (by omega) (by omega)) ?_
            refine m_kt 34 [] rfl (by kernel_rfl) rfl rfl (by kernel_rfl) (fun w188 e189 => ?_)
            replace R153 := R153.trans (Ext0.any e189)
            replace B := B.ext0 e189
            clear e189
            refine k_stO (k := kF) (i := atI wd hi px py) (j := 0) (x' := fop .sub .f32 (el (mix (wd * hi) (wd * py + px) (fun i => hxF wd hi true Xfe Xfx (i % wd) (i / wd)) Xfx) (atI wd hi px py)) (fop .mul .f32 1056964608 (fop .sub .f32 (el Xfe (atI wd hi px (py + 1))) (el Xfe (atI wd hi px py))))) (new := [.float .f32 r181]) T101.sz_35_1 rfl rfl rfl rfl rfl (by simp [Value.oneCell']) (by decide) (B.o 0 rfl) (by omega) (by omega) (by decide) (by rintro q ⟨_, rfl, _⟩; exact ⟨_, rfl, hc185⟩) (fun w186 hU187 => ?_)
            clear R153
            replace B : Bu w (hasW [.ow kF afx nfx cfx 35 Xfx, .ow kF afy nfy cfy 35 Xfy]) w186 [.ow kF afx nfx cfx 35 (put (mix (wd * hi) (wd * py + px) (fun i => hxF wd hi true Xfe Xfx (i % wd) (i / wd)) Xfx) (atI wd hi px py) (fop .sub .f32 (el (mix (wd * hi) (wd * py + px) (fun i => hxF wd hi true Xfe Xfx (i % wd) (i / wd)) Xfx) (atI wd hi px py)) (fop .mul .f32 1056964608 (fop .sub .f32 (el Xfe (atI wd hi px (py + 1))) (el Xfe (atI wd hi px py)))))), .ow kF afy nfy cfy 35 (mix (wd * hi) (wd * py + px) (fun i => hyF wd hi true Xfe Xfy (i % wd) (i / wd)) Xfy), .blk b1 [.int .i64 wd, .int .i64 hi, .bool true, .slice asp nsp csp, .slice als nls cls] 26, .rd kF afe nfe Xfe, .sl (some ⟨b, 0, none⟩) [.slice afe nfe cfe, .slice afx nfx cfx, .slice afy nfy cfy]] := B.upd [0] rfl hU187
            clear hU187
            refine m_done (by kernel_rfl) (fun w190 e191 => ?_)
            replace B := B.ext0 e191
            clear e191
            clear B0_152
            refine W_seq ?_
            refine W_region (by kernel_rfl) ?_
            refine s_y (v := .pointer (some ⟨b1, 2, none⟩)) rfl (y_fld (o := 0) T101.fld_26_2_2 rfl) ?_
            refine s_y (v := .bool true) rfl (y_load T101.one_4 rfl ((B.b 2 rfl).cell (j := 2) rfl)) ?_
            refine s_y (v := .bool true) rfl (y_move rfl) ?_
            refine s_skip rfl ?_
            refine s_skip rfl ?_
            refine s_skip rfl ?_
            refine s_skip rfl ?_
            refine s_skip rfl ?_
            refine s_y (v := .bool true) rfl (y_pick_t rfl rfl) ?_
            refine s_nil ?_
            refine W_if_t (by decide) rfl ?_
            have B0_196 := B
            refine W_draw (no) T101.mx (by kernel_rfl) (fun w194 e195 => ?_)
            have R197 := Ext.refl (no) w190
            replace R197 := R197.trans (Ext0.any e195)
            replace B := B.ext0 e195
            clear e195
            refine m_y (v := .pointer (some ⟨b, 0, none⟩)) 0 rfl (by kernel_rfl) rfl rfl (fun w' e' => y_move rfl) ?_
            refine m_y (v := .pointer (some ⟨b, 0, none⟩)) 1 rfl (by kernel_rfl) rfl rfl (fun w' e' => y_nil rfl) ?_
            refine m_y (v := .pointer (some ⟨b, 0 + 2, none⟩)) 2 rfl (by kernel_rfl) rfl rfl (fun w' e' => y_fld (o := 0 + 0) T101.fld_29_2_2 rfl) ?_
            refine m_y (v := .slice afy nfy cfy) 3 rfl (by kernel_rfl) rfl rfl (fun w' e' => y_load T101.one_24 rfl (((B0_196.s 4 rfl).ext0 e').cell (j := 2) rfl)) ?_
            refine m_y (v := .int .i64 (atI wd hi px py)) 4 rfl (by kernel_rfl) rfl rfl (fun w' e' => y_move rfl) ?_
            refine m_y (v := .pointer (some ⟨b, 0, none⟩)) 5 rfl (by kernel_rfl) rfl rfl (fun w' e' => y_move rfl) ?_
            refine m_y (v := .pointer (some ⟨b, 0, none⟩)) 6 rfl (by kernel_rfl) rfl rfl (fun w' e' => y_nil rfl) ?_
            refine m_y (v := .pointer (some ⟨b, 0 + 2, none⟩)) 7 rfl (by kernel_rfl) rfl rfl (fun w' e' => y_fld (o := 0 + 0) T101.fld_29_2_2 rfl) ?_
            refine m_y (v := .slice afy nfy cfy) 8 rfl (by kernel_rfl) rfl rfl (fun w' e' => y_load T101.one_24 rfl (((B0_196.s 4 rfl).ext0 e').cell (j := 2) rfl)) ?_
            refine m_y (v := .int .i64 (atI wd hi px py)) 9 rfl (by kernel_rfl) rfl rfl (fun w' e' => y_move rfl) ?_
            refine m_y (v := .pointer (some (sat afy ((atI wd hi px py).toNat * 1)))) 10 rfl (by kernel_rfl) rfl rfl (fun w' e' => y_idx T101.sl_24_35_1 rfl rfl ((B.o 1 rfl).rd.addr (by omega)) (by omega) (by omega)) ?_
            obtain ⟨r199, hr200, hR198⟩ := Rd.atF (B0_196.o 1 rfl).rd (atI wd hi px py) (by omega) (by omega)
            refine m_y (v := .float .f32 r199) 11 rfl (by kernel_rfl) rfl rfl (fun w' e' => y_load T101.one_35 rfl ((hR198.ext0 e').cell (i := 0) rfl)) ?_
            refine m_y (v := .pointer (some ⟨b, 0, none⟩)) 12 rfl (by kernel_rfl) rfl rfl (fun w' e' => y_move rfl) ?_
            refine m_y (v := .pointer (some ⟨b, 0, none⟩)) 13 rfl (by kernel_rfl) rfl rfl (fun w' e' => y_nil rfl) ?_
            refine m_y (v := .pointer (some ⟨b, 0, none⟩)) 14 rfl (by kernel_rfl) rfl rfl (fun w' e' => y_fld (o := 0 + 0) T101.fld_29_0_0 rfl) ?_
            refine m_y (v := .slice afe nfe cfe) 15 rfl (by kernel_rfl) rfl rfl (fun w' e' => y_load T101.one_24 rfl (((B0_196.s 4 rfl).ext0 e').cell (j := 0) rfl)) ?_
            refine m_y (v := .agg #[.int .i64 wd, .int .i64 hi, .bool true, .slice asp nsp csp, .slice als nls cls]) 16 rfl (by kernel_rfl) rfl rfl (fun w' e' => y_loadn (b := b1) (o := 0) (vs := [.int .i64 wd, .int .i64 hi, .bool true, .slice asp nsp csp, .slice als nls cls]) T101.agg_26_5 rfl rfl (((B0_196.b 2 rfl).ext0 e').cells (o := 0) rfl)) ?_
            refine m_y (v := .int .i64 px) 17 rfl (by kernel_rfl) rfl rfl (fun w' e' => y_move rfl) ?_
            refine m_y (v := .int .i64 (px + 1)) 18 rfl (by kernel_rfl) rfl rfl (fun w' e' => y_add rfl rfl rfl (by omega)) ?_
            refine m_y (v := .int .i64 py) 19 rfl (by kernel_rfl) rfl rfl (fun w' e' => y_move rfl) ?_
            refine m_y (v := .pointer (some ⟨b, 0, none⟩)) 23 rfl (by kernel_rfl) rfl rfl (fun w' e' => y_move rfl) ?_
            refine m_y (v := .pointer (some ⟨b, 0, none⟩)) 24 rfl (by kernel_rfl) rfl rfl (fun w' e' => y_nil rfl) ?_
            refine m_y (v := .pointer (some ⟨b, 0, none⟩)) 25 rfl (by kernel_rfl) rfl rfl (fun w' e' => y_fld (o := 0 + 0) T101.fld_29_0_0 rfl) ?_
            refine m_y (v := .slice afe nfe cfe) 26 rfl (by kernel_rfl) rfl rfl (fun w' e' => y_load T101.one_24 rfl (((B0_196.s 4 rfl).ext0 e').cell (j := 0) rfl)) ?_
            refine m_y (v := .int .i64 (atI wd hi px py)) 27 rfl (by kernel_rfl) rfl rfl (fun w' e' => y_move rfl) ?_
            refine m_y (v := .pointer (some (sat afe ((atI wd hi px py).toNat * 1)))) 28 rfl (by kernel_rfl) rfl rfl (fun w' e' => y_idx T101.sl_24_35_1 rfl rfl ((B.r 3 rfl).addr (by omega)) (by omega) (by omega)) ?_
            obtain ⟨r202, hr203, hR201⟩ := Rd.atF (B0_196.r 3 rfl) (atI wd hi px py) (by omega) (by omega)
            refine m_y (v := .float .f32 r202) 29 rfl (by kernel_rfl) rfl rfl (fun w' e' => y_load T101.one_35 rfl ((hR201.ext0 e').cell (i := 0) rfl)) ?_
            refine m_k 20 [21, 22, 30, 31, 32, 33, 34] rfl (by kernel_rfl) rfl rfl (fun w204 e205 => ?_)
            replace R197 := R197.trans (Ext0.any e205)
            replace B := B.ext0 e205
            clear e205
            refine k_call T101.fn_98 (c_i_at (by omega) (by omega) (by omega) (by omega) (by omega) (by omega) (by omega) (by omega)) rfl ?_
            rintro _ w206 ⟨rfl, e207⟩
            replace R197 := R197.trans (Ext0.any e207)
            replace B := B.ext0 e207
            clear e207
            refine ⟨fun _ => R197, ?_⟩
            have hat208 := atI_b (wd := wd) (hi := hi) (x := px + 1) (y := py) (by omega) (by omega)
            refine m_y (v := .pointer (some (sat afe ((atI wd hi (px + 1) py).toNat * 1)))) 21 rfl (by kernel_rfl) rfl rfl (fun w' e' => y_idx T101.sl_24_35_1 rfl rfl ((B.r 3 rfl).addr (by omega)) (by omega) (by omega)) ?_
            obtain ⟨r210, hr211, hR209⟩ := Rd.atF (B0_196.r 3 rfl) (atI wd hi (px + 1) py) (by omega) (by omega)
            refine m_y (v := .float .f32 r210) 22 rfl (by kernel_rfl) rfl rfl (fun w' e' => y_load T101.one_35 rfl ((hR209.ext0 e').cell (i := 0) rfl)) ?_
            refine m_n 30 [31, 32, 33, 34] rfl (by kernel_rfl) rfl rfl (fun w' e' => n_arith (by decide) rfl rfl) ?_
            rintro _ ⟨r213, rfl, hr214⟩
            have hc217 := fopC hr214 hr211 hr203
            refine m_n 31 [32, 33, 34] rfl (by kernel_rfl) rfl rfl (fun w' e' => n_arith (by decide) rfl rfl) ?_
            rintro _ ⟨r219, rfl, hr220⟩
            have hc223 := fopC hr220 (show can .f32 1056964608 = 1056964608 by kernel_rfl) hc217
            refine m_n 32 [33, 34] rfl (by kernel_rfl) rfl rfl (fun w' e' => n_arith (by decide) rfl rfl) ?_
            rintro _ ⟨r225, rfl, hr226⟩
            have hc229 := fopC hr226 hr200 hc223
            refine m_y (v := .pointer (some (sat afy ((atI wd hi px py).toNat * 1)))) 33 rfl (by kernel_rfl) rfl rfl (fun w' e' => y_idx T101.sl_24_35_1 rfl rfl ((B.o 1 rfl).rd.addr (by omega)) (by omega) (by omega)) ?_
            refine m_kt 34 [] rfl (by kernel_rfl) rfl rfl (by kernel_rfl) (fun w232 e233 => ?_)
            replace R197 := R197.trans (Ext0.any e233)
            replace B := B.ext0 e233
            clear e233
            refine k_stO (k := kF) (i := atI wd hi px py) (j := 0) (x' := fop .add .f32 (el (mix (wd * hi) (wd * py + px) (fun i => hyF wd hi true Xfe Xfy (i % wd) (i / wd)) Xfy) (atI wd hi px py)) (fop .mul .f32 1056964608 (fop .sub .f32 (el Xfe (atI wd hi (px + 1) py)) (el Xfe (atI wd hi px py))))) (new := [.float .f32 r225]) T101.sz_35_1 rfl rfl rfl rfl rfl (by simp [Value.oneCell']) (by decide) (B.o 1 rfl) (by omega) (by omega) (by decide) (by rintro q ⟨_, rfl, _⟩; exact ⟨_, rfl, hc229⟩) (fun w230 hU231 => ?_)
            clear R197
            replace B : Bu w (hasW [.ow kF afx nfx cfx 35 Xfx, .ow kF afy nfy cfy 35 Xfy]) w230 [.ow kF afy nfy cfy 35 (put (mix (wd * hi) (wd * py + px) (fun i => hyF wd hi true Xfe Xfy (i % wd) (i / wd)) Xfy) (atI wd hi px py) (fop .add .f32 (el (mix (wd * hi) (wd * py + px) (fun i => hyF wd hi true Xfe Xfy (i % wd) (i / wd)) Xfy) (atI wd hi px py)) (fop .mul .f32 1056964608 (fop .sub .f32 (el Xfe (atI wd hi (px + 1) py)) (el Xfe (atI wd hi px py)))))), .ow kF afx nfx cfx 35 (put (mix (wd * hi) (wd * py + px) (fun i => hxF wd hi true Xfe Xfx (i % wd) (i / wd)) Xfx) (atI wd hi px py) (fop .sub .f32 (el (mix (wd * hi) (wd * py + px) (fun i => hxF wd hi true Xfe Xfx (i % wd) (i / wd)) Xfx) (atI wd hi px py)) (fop .mul .f32 1056964608 (fop .sub .f32 (el Xfe (atI wd hi px (py + 1))) (el Xfe (atI wd hi px py)))))), .blk b1 [.int .i64 wd, .int .i64 hi, .bool true, .slice asp nsp csp, .slice als nls cls] 26, .rd kF afe nfe Xfe, .sl (some ⟨b, 0, none⟩) [.slice afe nfe cfe, .slice afx nfx cfx, .slice afy nfy cfy]] := B.upd [1] rfl hU231
            clear hU231
            refine m_done (by kernel_rfl) (fun w234 e235 => ?_)
            replace B := B.ext0 e235
            clear e235
            clear B0_196
            refine W_region (by kernel_rfl) ?_
            refine s_y (v := .int .i64 (px + 1)) rfl (y_add rfl rfl rfl (by omega)) ?_
            refine s_y (v := .int .i64 (px + 1)) rfl (y_move rfl) ?_
            refine s_nil ?_
            have hcx : (true || decide (py < hi - 1)) = true := by simp only [(decide_eq_true c6), (decide_eq_true c9), Bool.and_true, Bool.true_and, Bool.and_false, Bool.false_and, Bool.not_true, Bool.not_false, Bool.or_true, Bool.true_or, Bool.or_false, Bool.false_or]
            replace B : Bu w (hasW [.ow kF afx nfx cfx 35 Xfx, .ow kF afy nfy cfy 35 Xfy]) w234 [.ow kF afy nfy cfy 35 (put (mix (wd * hi) (wd * py + px) (fun i => hyF wd hi true Xfe Xfy (i % wd) (i / wd)) Xfy) (atI wd hi px py) (fop .add .f32 (el (mix (wd * hi) (wd * py + px) (fun i => hyF wd hi true Xfe Xfy (i % wd) (i / wd)) Xfy) (atI wd hi px py)) (fop .mul .f32 1056964608 (fop .sub .f32 (el Xfe (atI wd hi (px + 1) py)) (el Xfe (atI wd hi px py)))))), .ow kF afx nfx cfx 35 (mix (wd * hi) (wd * py + (px + 1)) (fun i => hxF wd hi true Xfe Xfx (i % wd) (i / wd)) Xfx), .blk b1 [.int .i64 wd, .int .i64 hi, .bool true, .slice asp nsp csp, .slice als nls cls] 26, .rd kF afe nfe Xfe, .sl (some ⟨b, 0, none⟩) [.slice afe nfe cfe, .slice afx nfx cfx, .slice afy nfy cfy]] := B.castX 1 rfl rfl (mix_cell (G := hxF wd hi true Xfe Xfx) rfl (by omega) (by omega) (by omega) (by omega) rfl (hx_yes rfl (by omega) (by omega) (by omega) (by omega) hcx))
            have hcy : (true || decide (px < wd - 1)) = true := by simp only [(decide_eq_true c6), (decide_eq_true c9), Bool.and_true, Bool.true_and, Bool.and_false, Bool.false_and, Bool.not_true, Bool.not_false, Bool.or_true, Bool.true_or, Bool.or_false, Bool.false_or]
            replace B : Bu w (hasW [.ow kF afx nfx cfx 35 Xfx, .ow kF afy nfy cfy 35 Xfy]) w234 [.ow kF afy nfy cfy 35 (mix (wd * hi) (wd * py + (px + 1)) (fun i => hyF wd hi true Xfe Xfy (i % wd) (i / wd)) Xfy), .ow kF afx nfx cfx 35 (mix (wd * hi) (wd * py + (px + 1)) (fun i => hxF wd hi true Xfe Xfx (i % wd) (i / wd)) Xfx), .blk b1 [.int .i64 wd, .int .i64 hi, .bool true, .slice asp nsp csp, .slice als nls cls] 26, .rd kF afe nfe Xfe, .sl (some ⟨b, 0, none⟩) [.slice afe nfe cfe, .slice afx nfx cfx, .slice afy nfy cfy]] := B.castX 0 rfl rfl (mix_cell (G := hyF wd hi true Xfe Xfy) rfl (by omega) (by omega) (by omega) (by omega) rfl (hy_yes rfl (by omega) (by omega) (by omega) (by omega) hcy))
            refine ⟨⟨_, px + 1, Fits.eq ⟨rfl, rfl, rfl, rfl, rfl, rfl, rfl, rfl, rfl, rfl, trivial⟩, (B.pick [1, 0, 2, 3, 4] rfl rfl), (by omega), (by omega)⟩, ?_⟩
            show (wd - (px + 1)).toNat < (wd - px).toNat
            omega
        · refine s_y (v := .bool false) rfl (y_lss rfl rfl (decide_eq_false c9)) ?_
          refine s_nil ?_
          refine W_seq ?_
          refine W_if_f (by decide) rfl ?_
          refine W_exit ?_
          refine W_region (by kernel_rfl) ?_
          refine s_y (v := .int .i64 (py + 1)) rfl (y_add rfl rfl rfl (by omega)) ?_
          refine s_y (v := .int .i64 (py + 1)) rfl (y_move rfl) ?_
          refine s_nil ?_
          replace B : Bu w (hasW [.ow kF afx nfx cfx 35 Xfx, .ow kF afy nfy cfy 35 Xfy]) w7 [.ow kF afx nfx cfx 35 (mix (wd * hi) (wd * (py + 1)) (fun i => hxF wd hi wr Xfe Xfx (i % wd) (i / wd)) Xfx), .ow kF afy nfy cfy 35 (mix (wd * hi) (wd * py + px) (fun i => hyF wd hi wr Xfe Xfy (i % wd) (i / wd)) Xfy), .blk b1 [.int .i64 wd, .int .i64 hi, .bool wr, .slice asp nsp csp, .slice als nls cls] 26, .rd kF afe nfe Xfe, .sl (some ⟨b, 0, none⟩) [.slice afe nfe cfe, .slice afx nfx cfx, .slice afy nfy cfy]] := B.castX 0 rfl rfl (congrArg (fun q => mix (wd * hi) q (fun i => hxF wd hi wr Xfe Xfx (i % wd) (i / wd)) _) (show wd * py + px = wd * (py + 1) by rw [Int.mul_add, Int.mul_one]; omega))
          replace B : Bu w (hasW [.ow kF afx nfx cfx 35 Xfx, .ow kF afy nfy cfy 35 Xfy]) w7 [.ow kF afx nfx cfx 35 (mix (wd * hi) (wd * (py + 1)) (fun i => hxF wd hi wr Xfe Xfx (i % wd) (i / wd)) Xfx), .ow kF afy nfy cfy 35 (mix (wd * hi) (wd * (py + 1)) (fun i => hyF wd hi wr Xfe Xfy (i % wd) (i / wd)) Xfy), .blk b1 [.int .i64 wd, .int .i64 hi, .bool wr, .slice asp nsp csp, .slice als nls cls] 26, .rd kF afe nfe Xfe, .sl (some ⟨b, 0, none⟩) [.slice afe nfe cfe, .slice afx nfx cfx, .slice afy nfy cfy]] := B.castX 1 rfl rfl (congrArg (fun q => mix (wd * hi) q (fun i => hyF wd hi wr Xfe Xfy (i % wd) (i / wd)) _) (show wd * py + px = wd * (py + 1) by rw [Int.mul_add, Int.mul_one]; omega))
          refine ⟨⟨_, py + 1, Fits.eq ⟨rfl, rfl, rfl, rfl, trivial⟩, B, (by omega), (by omega)⟩, ?_⟩
          show (hi - (py + 1)).toNat < (hi - py).toNat
          omega
    · refine s_y (v := .bool false) rfl (y_lss rfl rfl (decide_eq_false c6)) ?_
      refine s_nil ?_
      refine W_seq ?_
      refine W_if_f (by decide) rfl ?_
      refine W_exit ?_
      have hye : py = hi := by omega
      subst hye
      replace B : Bu w (hasW [.ow kF afx nfx cfx 35 Xfx, .ow kF afy nfy cfy 35 Xfy]) w4 [.ow kF afx nfx cfx 35 (tab (wd * py) (fun i => hxF wd py wr Xfe Xfx (i % wd) (i / wd))), .ow kF afy nfy cfy 35 (mix (wd * py) (wd * py) (fun i => hyF wd py wr Xfe Xfy (i % wd) (i / wd)) Xfy), .blk b1 [.int .i64 wd, .int .i64 py, .bool wr, .slice asp nsp csp, .slice als nls cls] 26, .rd kF afe nfe Xfe, .sl (some ⟨b, 0, none⟩) [.slice afe nfe cfe, .slice afx nfx cfx, .slice afy nfy cfy]] := B.castX 0 rfl rfl mix_all
      replace B : Bu w (hasW [.ow kF afx nfx cfx 35 Xfx, .ow kF afy nfy cfy 35 Xfy]) w4 [.ow kF afx nfx cfx 35 (tab (wd * py) (fun i => hxF wd py wr Xfe Xfx (i % wd) (i / wd))), .ow kF afy nfy cfy 35 (tab (wd * py) (fun i => hyF wd py wr Xfe Xfy (i % wd) (i / wd))), .blk b1 [.int .i64 wd, .int .i64 py, .bool wr, .slice asp nsp csp, .slice als nls cls] 26, .rd kF afe nfe Xfe, .sl (some ⟨b, 0, none⟩) [.slice afe nfe cfe, .slice afx nfx cfx, .slice afy nfy cfy]] := B.castX 1 rfl rfl mix_all
      refine ret0 rfl ⟨_, rfl, ?_⟩
      replace B : Bu w (hasW [.ow kF afx nfx cfx 35 Xfx, .ow kF afy nfy cfy 35 Xfy]) w4 [.ow kF afx nfx cfx 35 (hxL wd py wr Xfe Xfx), .ow kF afy nfy cfy 35 (tab (wd * py) (fun i => hyF wd py wr Xfe Xfy (i % wd) (i / wd))), .blk b1 [.int .i64 wd, .int .i64 py, .bool wr, .slice asp nsp csp, .slice als nls cls] 26, .rd kF afe nfe Xfe, .sl (some ⟨b, 0, none⟩) [.slice afe nfe cfe, .slice afx nfx cfx, .slice afy nfy cfy]] := B.castX 0 rfl rfl rfl
      replace B : Bu w (hasW [.ow kF afx nfx cfx 35 Xfx, .ow kF afy nfy cfy 35 Xfy]) w4 [.ow kF afx nfx cfx 35 (hxL wd py wr Xfe Xfx), .ow kF afy nfy cfy 35 (hyL wd py wr Xfe Xfy), .blk b1 [.int .i64 wd, .int .i64 py, .bool wr, .slice asp nsp csp, .slice als nls cls] 26, .rd kF afe nfe Xfe, .sl (some ⟨b, 0, none⟩) [.slice afe nfe cfe, .slice afx nfx cfx, .slice afy nfy cfy]] := B.castX 1 rfl rfl rfl
      exact ⟨rfl, B.wrote [0, 1] rfl rfl rfl⟩
end Go.Proofs.Ytmcldploldaceaa
