/- Walks: what the functions under FnExactQuietAfter do (part 3). Printed by a program of this claim's author. -/
import Derived.Test.YtmcldploldaceaaExactQuietAfterW1
set_option linter.unusedSimpArgs false
set_option linter.unusedVariables false
open Go.Wv
namespace Go.Proofs.Ytmcldploldaceaa
open Go.Proofs
namespace T67
theorem mx : Try.prog.follows .mixedOrders = true := by kernel_rfl
theorem agg_26_5 : aggB Try.prog 26 5 = true := by kernel_rfl
theorem agg_29_3 : aggB Try.prog 29 3 = true := by kernel_rfl
theorem fn_123 : fnB Try.prog 123 = true := by kernel_rfl
theorem fn_124 : fnB Try.prog 124 = true := by kernel_rfl
theorem fn_125 : fnB Try.prog 125 = true := by kernel_rfl
theorem fn_28 : fnB Try.prog 28 = true := by kernel_rfl
theorem sz_29_3 : szB Try.prog 29 3 = true := by kernel_rfl
theorem zero_29 : zeroB Try.prog 29 (.agg #[.slice none 0 0, .slice none 0 0, .slice none 0 0]) := by unfold zeroB; kernel_rfl
end T67
set_option maxRecDepth 100000 in
set_option maxHeartbeats 4000000 in
theorem c_i_QuietAfter {wd : Int} {hi : Int} {wr : Bool} {asp : Option Addr} {nsp : Nat} {csp : Nat} {Xsp : List Nat} {als : Option Addr} {nls : Nat} {cls : Nat} {Xls : List Nat} {afe : Option Addr} {nfe : Nat} {cfe : Nat} {Xfe : List Nat} {afx : Option Addr} {nfx : Nat} {cfx : Nat} {Xfx : List Nat} {afy : Option Addr} {nfy : Nat} {cfy : Nat} {Xfy : List Nat} {lv : Nat} {V : Nat} {m : Int} {w : World} (qsp : Rd w kF asp nsp Xsp) (qls : Rd w kF als nls Xls) (qfe : Rd w kF afe nfe Xfe) (qfx : Rd w kF afx nfx Xfx) (qfy : Rd w kF afy nfy Xfy) (hlv : can .f32 lv = V) (hbsp : nsp ≤ 9223372036854775806) (hbls : nls ≤ 9223372036854775806) (hbfe : nfe ≤ 9223372036854775806) (hbfx : nfx ≤ 9223372036854775806) (hbfy : nfy ≤ 9223372036854775806) :
    Calls Try.prog 67 #[.agg #[.int .i64 wd, .int .i64 hi, .bool wr, .slice asp nsp csp, .slice als nls cls], .agg #[.slice afe nfe cfe, .slice afx nfx cfx, .slice afy nfy cfy], .float .f32 lv, .int .i64 m] w (Rt fun v w' => (qtB wd hi wr Xsp Xls Xfe Xfx Xfy V m = true ∧ v = .tuple #[.int .i64 (qtV wd hi wr Xsp Xls (Xfe, Xfx, Xfy) V m), .bool true] ∧ Ext0 w w') ∨ (qtB wd hi wr Xsp Xls Xfe Xfx Xfy V m = false ∧ v = .tuple #[.int .i64 0, .bool false] ∧ Ext0 w w')) := by
  have hlsp := qsp.len
  have hlls := qls.len
  have hlfe := qfe.len
  have hlfx := qfx.len
  have hlfy := qfy.len
  have B : Bu w no w [.rd kF asp nsp Xsp, .rd kF als nls Xls, .rd kF afe nfe Xfe, .rd kF afx nfx Xfx, .rd kF afy nfy Xfy] := Bu.ro (All.cons qsp (All.cons qls (All.cons qfe (All.cons qfx (All.cons qfy All.nil))))) rfl
  refine calls_W (n := 35) Try.func67 rfl rfl (Nat.le_of_ble_eq_true rfl) ?_
  refine W_seq ?_
  refine W_region (by kernel_rfl) ?_
  refine s_k rfl (k_boxN (v := .agg #[.int .i64 wd, .int .i64 hi, .bool wr, .slice asp nsp csp, .slice als nls cls]) (cs := [.int .i64 wd, .int .i64 hi, .bool wr, .slice asp nsp csp, .slice als nls cls]) rfl rfl (fun b1 w2 hN3 => ?_))
  replace B := B.new1 hN3
  clear hN3
  refine s_k rfl (k_boxN (v := .agg #[.slice afe nfe cfe, .slice afx nfx cfx, .slice afy nfy cfy]) (cs := [.slice afe nfe cfe, .slice afx nfx cfx, .slice afy nfy cfy]) rfl rfl (fun b4 w5 hN6 => ?_))
  replace B := B.new1 hN6
  clear hN6
  refine s_y (v := .int .i64 0) rfl (y_assign rfl) ?_
  refine s_y (v := .bool false) rfl (y_assign rfl) ?_
  refine s_nil ?_
  refine W_seq ?_
  refine W_seq ?_
  refine W_region (by kernel_rfl) ?_
  refine s_y (v := .agg #[.int .i64 wd, .int .i64 hi, .bool wr, .slice asp nsp csp, .slice als nls cls]) rfl (y_loadn (b := b1) (o := 0) (vs := [.int .i64 wd, .int .i64 hi, .bool wr, .slice asp nsp csp, .slice als nls cls]) T67.agg_26_5 rfl rfl ((B.b 1 rfl).cells (o := 0) rfl)) ?_
  refine s_y (v := .agg #[.slice afe nfe cfe, .slice afx nfx cfx, .slice afy nfy cfy]) rfl (y_loadn (b := b4) (o := 0) (vs := [.slice afe nfe cfe, .slice afx nfx cfx, .slice afy nfy cfy]) T67.agg_29_3 rfl rfl ((B.b 0 rfl).cells (o := 0) rfl)) ?_
  refine s_k rfl (k_call T67.fn_28 (c_i_IsField (B.r 2 rfl) (B.r 3 rfl) (B.r 4 rfl) (B.r 5 rfl) (B.r 6 rfl) (by omega) (by omega) (by omega) (by omega) (by omega)) rfl ?_)
  rintro v9 w7 ⟨hv10, e8⟩
  replace B := B.ext0 e8
  clear e8
  by_cases c11 : fieldB wd hi wr Xsp Xls Xfe Xfx Xfy = true
  · have hb12 := fieldB_b c11
    obtain rfl : v9 = .bool true := hv10.trans (congrArg Value.bool c11)
    refine s_y (v := .bool false) rfl (y_not rfl rfl) ?_
    refine s_y (v := .bool false) rfl (y_move rfl) ?_
    refine s_y (v := .int .i64 m) rfl (y_move rfl) ?_
    refine s_k rfl (k_call T67.fn_123 (c_i_within) rfl ?_)
    rintro v15 w13 ⟨hv16, e14⟩
    replace B := B.ext0 e14
    clear e14
    by_cases c17 : within m 0 64 = true
    · have hb18 := within_b c17
      obtain rfl : v15 = .bool true := hv16.trans (congrArg Value.bool c17)
      refine s_y (v := .bool false) rfl (y_not rfl rfl) ?_
      refine s_y (v := .bool false) rfl (y_pick_f rfl rfl) ?_
      refine s_nil ?_
      refine W_if_f (by decide) rfl ?_
      refine W_skip ?_
      refine W_seq ?_
      refine W_region (by kernel_rfl) ?_
      refine s_y (v := .agg #[.slice afe nfe cfe, .slice afx nfx cfx, .slice afy nfy cfy]) rfl (y_loadn (b := b4) (o := 0) (vs := [.slice afe nfe cfe, .slice afx nfx cfx, .slice afy nfy cfy]) T67.agg_29_3 rfl rfl ((B.b 0 rfl).cells (o := 0) rfl)) ?_
      refine s_k rfl (k_allocN (z := (.agg #[.slice none 0 0, .slice none 0 0, .slice none 0 0])) (cs := [.slice none 0 0, .slice none 0 0, .slice none 0 0]) T67.zero_29 rfl (fun b19 w20 hN21 => ?_))
      replace B := B.new1 hN21
      clear hN21
      refine s_k0 rfl (k_stB (v := .agg #[.slice afe nfe cfe, .slice afx nfx cfx, .slice afy nfy cfy]) (n := 3) (cs' := [.slice afe nfe cfe, .slice afx nfx cfx, .slice afy nfy cfy]) T67.sz_29_3 rfl rfl rfl (B.b 0 rfl) (by simp [Value.cells, Value.oneCell']) (Nat.le_of_ble_eq_true rfl) rfl (fun w22 hU23 => ?_))
      replace B : Bu w no w22 [.blk b19 [.slice afe nfe cfe, .slice afx nfx cfx, .slice afy nfy cfy] 29, .blk b4 [.slice afe nfe cfe, .slice afx nfx cfx, .slice afy nfy cfy] 29, .blk b1 [.int .i64 wd, .int .i64 hi, .bool wr, .slice asp nsp csp, .slice als nls cls] 26, .rd kF asp nsp Xsp, .rd kF als nls Xls, .rd kF afe nfe Xfe, .rd kF afx nfx Xfx, .rd kF afy nfy Xfy] := B.upd [0] rfl hU23
      clear hU23
      refine s_nil ?_
      refine W_seq ?_
      refine W_seq ?_
      refine W_region (by kernel_rfl) ?_
      refine s_y (v := .int .i64 0) rfl (y_assign rfl) ?_
      refine s_nil ?_
      refine W_block ?_
      refine W_loop (fun ρ' w' => ∃ (ρ1 : Env) (k : Int) (A1 : Option Addr) (A2 : Option Addr) (A3 : Option Addr) (C1 : Nat) (C2 : Nat) (C3 : Nat), ρ' = updL ρ1 [(2, .float .f32 lv), (3, .int .i64 m), (4, .pointer (some ⟨b1, 0, none⟩)), (10, .pointer (some ⟨b19, 0, none⟩)), (11, .int .i64 k)] ∧ Bu w no w' [.rd kF A1 nfe ((rnT wd hi wr Xsp Xls (Xfe, Xfx, Xfy) (Int.toNat k)).1), .rd kF A2 nfx ((rnT wd hi wr Xsp Xls (Xfe, Xfx, Xfy) (Int.toNat k)).2.1), .rd kF A3 nfy ((rnT wd hi wr Xsp Xls (Xfe, Xfx, Xfy) (Int.toNat k)).2.2), .blk b19 [.slice A1 nfe C1, .slice A2 nfx C2, .slice A3 nfy C3] 29, .blk b4 [.slice afe nfe cfe, .slice afx nfx cfx, .slice afy nfy cfy] 29, .blk b1 [.int .i64 wd, .int .i64 hi, .bool wr, .slice asp nsp csp, .slice als nls cls] 26, .rd kF asp nsp Xsp, .rd kF als nls Xls] ∧ (0 ≤ k) ∧ (k ≤ m + 1) ∧ (qtV wd hi wr Xsp Xls (Xfe, Xfx, Xfy) V m = qtI wd hi wr Xsp Xls (Xfe, Xfx, Xfy) V (m + 1 - k).toNat k)) (fun ρ' _ => (m + 1 - iv (ρ' 11)).toNat) ?_ ?_
      · exact ⟨_, 0, afe, afx, afy, cfe, cfx, cfy, Fits.eq ⟨rfl, rfl, rfl, rfl, rfl, trivial⟩, (B.pick [5, 6, 7, 0, 1, 2, 3, 4] rfl rfl), (Int.le_refl _), (by omega), rfl⟩
      · clear B; rintro _ w24 ⟨ρ25, k, A1, A2, A3, C1, C2, C3, rfl, B, h0k, h1k, hM⟩
        have hlr := rnT_len (wd := wd) (hi := hi) (wr := wr) (P := Xsp) (L := Xls) (F := (Xfe, Xfx, Xfy)) (m := nfe) (by omega) (by show Xfx.length = _; omega) (by show Xfy.length = _; omega) (by omega) k.toNat
        refine W_seq ?_
        refine W_seq ?_
        refine W_region (by kernel_rfl) ?_
        refine s_y (v := .int .i64 k) rfl (y_move rfl) ?_
        refine s_y (v := .int .i64 m) rfl (y_move rfl) ?_
        by_cases c26 : k ≤ m
        · refine s_y (v := .bool true) rfl (y_leq rfl rfl (decide_eq_true c26)) ?_
          refine s_nil ?_
          refine W_if_t (by decide) rfl ?_
          refine W_skip ?_
          refine W_seq ?_
          refine W_block ?_
          refine W_seq ?_
          refine W_seq ?_
          refine W_region (by kernel_rfl) ?_
          refine s_y (v := .agg #[.slice A1 nfe C1, .slice A2 nfx C2, .slice A3 nfy C3]) rfl (y_loadn (b := b19) (o := 0) (vs := [.slice A1 nfe C1, .slice A2 nfx C2, .slice A3 nfy C3]) T67.agg_29_3 rfl rfl ((B.b 3 rfl).cells (o := 0) rfl)) ?_
          refine s_k rfl (k_call T67.fn_124 (c_i_peakSize (B.r 0 rfl) (B.r 1 rfl) (B.r 2 rfl) (by omega)) rfl ?_)
          rintro _ w27 ⟨⟨r29, rfl, hr30⟩, e28⟩
          replace B := B.ext0 e28
          clear e28
          refine s_y (v := .float .f32 lv) rfl (y_move rfl) ?_
          by_cases c31 : flt .f32 (pkS ((rnT wd hi wr Xsp Xls (Xfe, Xfx, Xfy) (Int.toNat k)).1)) V = true
          · refine s_y (v := .bool true) rfl (y_flss rfl rfl (fltC hr30 hlv c31)) ?_
            refine s_nil ?_
            refine W_if_t (by decide) rfl ?_
            refine W_seq ?_
            refine W_region (by kernel_rfl) ?_
            refine s_y (v := .int .i64 k) rfl (y_move rfl) ?_
            refine s_y (v := .int .i64 k) rfl (y_assign rfl) ?_
            refine s_y (v := .bool true) rfl (y_assign rfl) ?_
            refine s_nil ?_
            refine W_ret ?_
            refine ret2 (v1 := .int .i64 k) (v2 := .bool true) rfl rfl rfl rfl rfl ⟨_, rfl, ?_⟩
            have hrun : runB wd hi wr Xsp Xls Xfe Xfx Xfy m = true := by simp only [runB, c11, c17, Bool.and_true]
            have hqv := qt_yes (by omega) hM c31
            have hcond : qtB wd hi wr Xsp Xls Xfe Xfx Xfy V m = true := by simp only [qtB, hrun, Bool.true_and, decide_eq_true_eq]; omega
            exact .inl ⟨hcond, ⟨(by rw [hqv]), B.ext⟩⟩
          · refine s_y (v := .bool false) rfl (y_flss rfl rfl (fltC hr30 hlv (Bool.eq_false_iff.2 c31))) ?_
            refine s_nil ?_
            refine W_if_f (by decide) rfl ?_
            refine W_skip ?_
            refine W_region (by kernel_rfl) ?_
            refine s_y (v := .agg #[.int .i64 wd, .int .i64 hi, .bool wr, .slice asp nsp csp, .slice als nls cls]) rfl (y_loadn (b := b1) (o := 0) (vs := [.int .i64 wd, .int .i64 hi, .bool wr, .slice asp nsp csp, .slice als nls cls]) T67.agg_26_5 rfl rfl ((B.b 5 rfl).cells (o := 0) rfl)) ?_
            refine s_y (v := .agg #[.slice A1 nfe C1, .slice A2 nfx C2, .slice A3 nfy C3]) rfl (y_loadn (b := b19) (o := 0) (vs := [.slice A1 nfe C1, .slice A2 nfx C2, .slice A3 nfy C3]) T67.agg_29_3 rfl rfl ((B.b 3 rfl).cells (o := 0) rfl)) ?_
            refine s_k rfl (k_call T67.fn_125 (c_i_stepped (B.r 6 rfl) (B.r 7 rfl) (B.r 0 rfl) (B.r 1 rfl) (B.r 2 rfl) (by omega) (by omega) (by omega) (by omega) (by omega) (by omega) (by omega) (by omega) (by omega)) rfl ?_)
            rintro _ w32 ⟨a33, c34, a35, c36, a37, c38, rfl, hN39⟩
            replace B := B.new3 hN39
            clear hN39
            refine s_k0 rfl (k_stB (v := .agg #[.slice a33 nfe c34, .slice a35 nfx c36, .slice a37 nfy c38]) (n := 3) (cs' := [.slice a33 nfe c34, .slice a35 nfx c36, .slice a37 nfy c38]) T67.sz_29_3 rfl rfl rfl (B.b 6 rfl) (by simp [Value.cells, Value.oneCell']) (Nat.le_of_ble_eq_true rfl) rfl (fun w40 hU41 => ?_))
            replace B : Bu w no w40 [.blk b19 [.slice a33 nfe c34, .slice a35 nfx c36, .slice a37 nfy c38] 29, .ow kF a33 nfe c34 35 (nwL wd hi wr Xsp Xls ((rnT wd hi wr Xsp Xls (Xfe, Xfx, Xfy) (Int.toNat k)).1) (hxL wd hi wr ((rnT wd hi wr Xsp Xls (Xfe, Xfx, Xfy) (Int.toNat k)).1) ((rnT wd hi wr Xsp Xls (Xfe, Xfx, Xfy) (Int.toNat k)).2.1)) (hyL wd hi wr ((rnT wd hi wr Xsp Xls (Xfe, Xfx, Xfy) (Int.toNat k)).1) ((rnT wd hi wr Xsp Xls (Xfe, Xfx, Xfy) (Int.toNat k)).2.2))), .ow kF a35 nfx c36 35 (hxL wd hi wr ((rnT wd hi wr Xsp Xls (Xfe, Xfx, Xfy) (Int.toNat k)).1) ((rnT wd hi wr Xsp Xls (Xfe, Xfx, Xfy) (Int.toNat k)).2.1)), .ow kF a37 nfy c38 35 (hyL wd hi wr ((rnT wd hi wr Xsp Xls (Xfe, Xfx, Xfy) (Int.toNat k)).1) ((rnT wd hi wr Xsp Xls (Xfe, Xfx, Xfy) (Int.toNat k)).2.2)), .rd kF A1 nfe ((rnT wd hi wr Xsp Xls (Xfe, Xfx, Xfy) (Int.toNat k)).1), .rd kF A2 nfx ((rnT wd hi wr Xsp Xls (Xfe, Xfx, Xfy) (Int.toNat k)).2.1), .rd kF A3 nfy ((rnT wd hi wr Xsp Xls (Xfe, Xfx, Xfy) (Int.toNat k)).2.2), .blk b4 [.slice afe nfe cfe, .slice afx nfx cfx, .slice afy nfy cfy] 29, .blk b1 [.int .i64 wd, .int .i64 hi, .bool wr, .slice asp nsp csp, .slice als nls cls] 26, .rd kF asp nsp Xsp, .rd kF als nls Xls] := B.upd [6] rfl hU41
            clear hU41
            refine s_nil ?_
            refine W_region (by kernel_rfl) ?_
            refine s_y (v := .int .i64 k) rfl (y_move rfl) ?_
            refine s_y (v := .int .i64 (k + 1)) rfl (y_add rfl rfl rfl (by omega)) ?_
            refine s_y (v := .int .i64 (k + 1)) rfl (y_assign rfl) ?_
            refine s_nil ?_
            replace B : Bu w no w40 [.blk b19 [.slice a33 nfe c34, .slice a35 nfx c36, .slice a37 nfy c38] 29, .ow kF a33 nfe c34 35 ((rnT wd hi wr Xsp Xls (Xfe, Xfx, Xfy) (Int.toNat (k + 1))).1), .ow kF a35 nfx c36 35 (hxL wd hi wr ((rnT wd hi wr Xsp Xls (Xfe, Xfx, Xfy) (Int.toNat k)).1) ((rnT wd hi wr Xsp Xls (Xfe, Xfx, Xfy) (Int.toNat k)).2.1)), .ow kF a37 nfy c38 35 (hyL wd hi wr ((rnT wd hi wr Xsp Xls (Xfe, Xfx, Xfy) (Int.toNat k)).1) ((rnT wd hi wr Xsp Xls (Xfe, Xfx, Xfy) (Int.toNat k)).2.2)), .rd kF A1 nfe ((rnT wd hi wr Xsp Xls (Xfe, Xfx, Xfy) (Int.toNat k)).1), .rd kF A2 nfx ((rnT wd hi wr Xsp Xls (Xfe, Xfx, Xfy) (Int.toNat k)).2.1), .rd kF A3 nfy ((rnT wd hi wr Xsp Xls (Xfe, Xfx, Xfy) (Int.toNat k)).2.2), .blk b4 [.slice afe nfe cfe, .slice afx nfx cfx, .slice afy nfy cfy] 29, .blk b1 [.int .i64 wd, .int .i64 hi, .bool wr, .slice asp nsp csp, .slice als nls cls] 26, .rd kF asp nsp Xsp, .rd kF als nls Xls] := B.castX 1 rfl rfl (congrArg (fun q : Fld => q.1) (rnT_next (by omega)))
            replace B : Bu w no w40 [.blk b19 [.slice a33 nfe c34, .slice a35 nfx c36, .slice a37 nfy c38] 29, .ow kF a33 nfe c34 35 ((rnT wd hi wr Xsp Xls (Xfe, Xfx, Xfy) (Int.toNat (k + 1))).1), .ow kF a35 nfx c36 35 ((rnT wd hi wr Xsp Xls (Xfe, Xfx, Xfy) (Int.toNat (k + 1))).2.1), .ow kF a37 nfy c38 35 (hyL wd hi wr ((rnT wd hi wr Xsp Xls (Xfe, Xfx, Xfy) (Int.toNat k)).1) ((rnT wd hi wr Xsp Xls (Xfe, Xfx, Xfy) (Int.toNat k)).2.2)), .rd kF A1 nfe ((rnT wd hi wr Xsp Xls (Xfe, Xfx, Xfy) (Int.toNat k)).1), .rd kF A2 nfx ((rnT wd hi wr Xsp Xls (Xfe, Xfx, Xfy) (Int.toNat k)).2.1), .rd kF A3 nfy ((rnT wd hi wr Xsp Xls (Xfe, Xfx, Xfy) (Int.toNat k)).2.2), .blk b4 [.slice afe nfe cfe, .slice afx nfx cfx, .slice afy nfy cfy] 29, .blk b1 [.int .i64 wd, .int .i64 hi, .bool wr, .slice asp nsp csp, .slice als nls cls] 26, .rd kF asp nsp Xsp, .rd kF als nls Xls] := B.castX 2 rfl rfl (congrArg (fun q : Fld => q.2.1) (rnT_next (by omega)))
            replace B : Bu w no w40 [.blk b19 [.slice a33 nfe c34, .slice a35 nfx c36, .slice a37 nfy c38] 29, .ow kF a33 nfe c34 35 ((rnT wd hi wr Xsp Xls (Xfe, Xfx, Xfy) (Int.toNat (k + 1))).1), .ow kF a35 nfx c36 35 ((rnT wd hi wr Xsp Xls (Xfe, Xfx, Xfy) (Int.toNat (k + 1))).2.1), .ow kF a37 nfy c38 35 ((rnT wd hi wr Xsp Xls (Xfe, Xfx, Xfy) (Int.toNat (k + 1))).2.2), .rd kF A1 nfe ((rnT wd hi wr Xsp Xls (Xfe, Xfx, Xfy) (Int.toNat k)).1), .rd kF A2 nfx ((rnT wd hi wr Xsp Xls (Xfe, Xfx, Xfy) (Int.toNat k)).2.1), .rd kF A3 nfy ((rnT wd hi wr Xsp Xls (Xfe, Xfx, Xfy) (Int.toNat k)).2.2), .blk b4 [.slice afe nfe cfe, .slice afx nfx cfx, .slice afy nfy cfy] 29, .blk b1 [.int .i64 wd, .int .i64 hi, .bool wr, .slice asp nsp csp, .slice als nls cls] 26, .rd kF asp nsp Xsp, .rd kF als nls Xls] := B.castX 3 rfl rfl (congrArg (fun q : Fld => q.2.2) (rnT_next (by omega)))
            replace B : Bu w no w40 [.blk b19 [.slice a33 nfe c34, .slice a35 nfx c36, .slice a37 nfy c38] 29, .rd kF a33 nfe ((rnT wd hi wr Xsp Xls (Xfe, Xfx, Xfy) (Int.toNat (k + 1))).1), .ow kF a35 nfx c36 35 ((rnT wd hi wr Xsp Xls (Xfe, Xfx, Xfy) (Int.toNat (k + 1))).2.1), .ow kF a37 nfy c38 35 ((rnT wd hi wr Xsp Xls (Xfe, Xfx, Xfy) (Int.toNat (k + 1))).2.2), .rd kF A1 nfe ((rnT wd hi wr Xsp Xls (Xfe, Xfx, Xfy) (Int.toNat k)).1), .rd kF A2 nfx ((rnT wd hi wr Xsp Xls (Xfe, Xfx, Xfy) (Int.toNat k)).2.1), .rd kF A3 nfy ((rnT wd hi wr Xsp Xls (Xfe, Xfx, Xfy) (Int.toNat k)).2.2), .blk b4 [.slice afe nfe cfe, .slice afx nfx cfx, .slice afy nfy cfy] 29, .blk b1 [.int .i64 wd, .int .i64 hi, .bool wr, .slice asp nsp csp, .slice als nls cls] 26, .rd kF asp nsp Xsp, .rd kF als nls Xls] := B.weakO 1 rfl
            replace B : Bu w no w40 [.blk b19 [.slice a33 nfe c34, .slice a35 nfx c36, .slice a37 nfy c38] 29, .rd kF a33 nfe ((rnT wd hi wr Xsp Xls (Xfe, Xfx, Xfy) (Int.toNat (k + 1))).1), .rd kF a35 nfx ((rnT wd hi wr Xsp Xls (Xfe, Xfx, Xfy) (Int.toNat (k + 1))).2.1), .ow kF a37 nfy c38 35 ((rnT wd hi wr Xsp Xls (Xfe, Xfx, Xfy) (Int.toNat (k + 1))).2.2), .rd kF A1 nfe ((rnT wd hi wr Xsp Xls (Xfe, Xfx, Xfy) (Int.toNat k)).1), .rd kF A2 nfx ((rnT wd hi wr Xsp Xls (Xfe, Xfx, Xfy) (Int.toNat k)).2.1), .rd kF A3 nfy ((rnT wd hi wr Xsp Xls (Xfe, Xfx, Xfy) (Int.toNat k)).2.2), .blk b4 [.slice afe nfe cfe, .slice afx nfx cfx, .slice afy nfy cfy] 29, .blk b1 [.int .i64 wd, .int .i64 hi, .bool wr, .slice asp nsp csp, .slice als nls cls] 26, .rd kF asp nsp Xsp, .rd kF als nls Xls] := B.weakO 2 rfl
            replace B : Bu w no w40 [.blk b19 [.slice a33 nfe c34, .slice a35 nfx c36, .slice a37 nfy c38] 29, .rd kF a33 nfe ((rnT wd hi wr Xsp Xls (Xfe, Xfx, Xfy) (Int.toNat (k + 1))).1), .rd kF a35 nfx ((rnT wd hi wr Xsp Xls (Xfe, Xfx, Xfy) (Int.toNat (k + 1))).2.1), .rd kF a37 nfy ((rnT wd hi wr Xsp Xls (Xfe, Xfx, Xfy) (Int.toNat (k + 1))).2.2), .rd kF A1 nfe ((rnT wd hi wr Xsp Xls (Xfe, Xfx, Xfy) (Int.toNat k)).1), .rd kF A2 nfx ((rnT wd hi wr Xsp Xls (Xfe, Xfx, Xfy) (Int.toNat k)).2.1), .rd kF A3 nfy ((rnT wd hi wr Xsp Xls (Xfe, Xfx, Xfy) (Int.toNat k)).2.2), .blk b4 [.slice afe nfe cfe, .slice afx nfx cfx, .slice afy nfy cfy] 29, .blk b1 [.int .i64 wd, .int .i64 hi, .bool wr, .slice asp nsp csp, .slice als nls cls] 26, .rd kF asp nsp Xsp, .rd kF als nls Xls] := B.weakO 3 rfl
            refine ⟨⟨_, k + 1, a33, a35, a37, c34, c36, c38, Fits.eq ⟨rfl, rfl, rfl, rfl, rfl, trivial⟩, (B.pick [1, 2, 3, 0, 7, 8, 9, 10] rfl rfl), (by omega), (by omega), (qt_next (by omega) hM c31)⟩, ?_⟩
            show (m + 1 - (k + 1)).toNat < (m + 1 - k).toNat
            omega
        · refine s_y (v := .bool false) rfl (y_leq rfl rfl (decide_eq_false c26)) ?_
          refine s_nil ?_
          refine W_if_f (by decide) rfl ?_
          refine W_exit ?_
          refine W_seq ?_
          refine W_region (by kernel_rfl) ?_
          refine s_y (v := .int .i64 0) rfl (y_assign rfl) ?_
          refine s_y (v := .bool false) rfl (y_assign rfl) ?_
          refine s_nil ?_
          refine W_ret ?_
          refine ret2 (v1 := .int .i64 0) (v2 := .bool false) rfl rfl rfl rfl rfl ⟨_, rfl, ?_⟩
          have hrun : runB wd hi wr Xsp Xls Xfe Xfx Xfy m = true := by simp only [runB, c11, c17, Bool.and_true]
          have hqv := hM.trans (qt_end (by omega))
          exact .inr ⟨by simp only [qtB, hrun, Bool.true_and, decide_eq_false_iff_not]; omega, rfl, B.ext⟩
    · obtain rfl : v15 = .bool false := hv16.trans (congrArg Value.bool (Bool.eq_false_iff.2 c17))
      refine s_y (v := .bool true) rfl (y_not rfl rfl) ?_
      refine s_y (v := .bool true) rfl (y_pick_f rfl rfl) ?_
      refine s_nil ?_
      refine W_if_t (by decide) rfl ?_
      refine W_seq ?_
      refine W_region (by kernel_rfl) ?_
      refine s_y (v := .int .i64 0) rfl (y_assign rfl) ?_
      refine s_y (v := .bool false) rfl (y_assign rfl) ?_
      refine s_nil ?_
      refine W_ret ?_
      refine ret2 (v1 := .int .i64 0) (v2 := .bool false) rfl rfl rfl rfl rfl ⟨_, rfl, ?_⟩
      exact .inr ⟨by simp only [qtB, runB, c11, (Bool.eq_false_iff.2 c17), Bool.and_true, Bool.true_and, Bool.and_false, Bool.false_and, Bool.not_true, Bool.not_false, Bool.or_true, Bool.true_or, Bool.or_false, Bool.false_or], rfl, B.ext⟩
  · obtain rfl : v9 = .bool false := hv10.trans (congrArg Value.bool (Bool.eq_false_iff.2 c11))
    refine s_y (v := .bool true) rfl (y_not rfl rfl) ?_
    refine s_y (v := .bool true) rfl (y_move rfl) ?_
    refine s_skip rfl ?_
    refine s_skip rfl ?_
    refine s_skip rfl ?_
    refine s_y (v := .bool true) rfl (y_pick_t rfl rfl) ?_
    refine s_nil ?_
    refine W_if_t (by decide) rfl ?_
    refine W_seq ?_
    refine W_region (by kernel_rfl) ?_
    refine s_y (v := .int .i64 0) rfl (y_assign rfl) ?_
    refine s_y (v := .bool false) rfl (y_assign rfl) ?_
    refine s_nil ?_
    refine W_ret ?_
    refine ret2 (v1 := .int .i64 0) (v2 := .bool false) rfl rfl rfl rfl rfl ⟨_, rfl, ?_⟩
    exact .inr ⟨by simp only [qtB, runB, (Bool.eq_false_iff.2 c11), Bool.and_true, Bool.true_and, Bool.and_false, Bool.false_and, Bool.not_true, Bool.not_false, Bool.or_true, Bool.true_or, Bool.or_false, Bool.false_or], rfl, B.ext⟩
namespace T13
theorem mx : Try.prog.follows .mixedOrders = true := by kernel_rfl
theorem agg_26_5 : aggB Try.prog 26 5 = true := by kernel_rfl
theorem agg_29_3 : aggB Try.prog 29 3 = true := by kernel_rfl
theorem agg_45_5 : aggB Try.prog 45 5 = true := by kernel_rfl
theorem agg_46_3 : aggB Try.prog 46 3 = true := by kernel_rfl
theorem bool_4 : Try.prog.underlying 4 = some .bool := by kernel_rfl
theorem fn_31 : fnB Try.prog 31 = true := by kernel_rfl
theorem fn_32 : fnB Try.prog 32 = true := by kernel_rfl
theorem fn_34 : fnB Try.prog 34 = true := by kernel_rfl
theorem fn_35 : fnB Try.prog 35 = true := by kernel_rfl
theorem fn_38 : fnB Try.prog 38 = true := by kernel_rfl
theorem fn_39 : fnB Try.prog 39 = true := by kernel_rfl
theorem fn_66 : fnB Try.prog 66 = true := by kernel_rfl
theorem fn_67 : fnB Try.prog 67 = true := by kernel_rfl
theorem sz_26_5 : szB Try.prog 26 5 = true := by kernel_rfl
theorem sz_29_3 : szB Try.prog 29 3 = true := by kernel_rfl
theorem zero_26 : zeroB Try.prog 26 (.agg #[.int .i64 0, .int .i64 0, .bool false, .slice none 0 0, .slice none 0 0]) := by unfold zeroB; kernel_rfl
theorem zero_29 : zeroB Try.prog 29 (.agg #[.slice none 0 0, .slice none 0 0, .slice none 0 0]) := by unfold zeroB; kernel_rfl
end T13
set_option maxRecDepth 100000 in
set_option maxHeartbeats 20000000 in
theorem c_FnExactQuietAfter {wd0 : Int} {hi0 : Int} {wr0 : Bool} {asp0 : Option Addr} {nsp0 : Nat} {csp0 : Nat} {Xsp0 : List Nat} {als0 : Option Addr} {nls0 : Nat} {cls0 : Nat} {Xls0 : List Nat} {afe1 : Option Addr} {nfe1 : Nat} {cfe1 : Nat} {Xfe1 : List Nat} {afx1 : Option Addr} {nfx1 : Nat} {cfx1 : Nat} {Xfx1 : List Nat} {afy1 : Option Addr} {nfy1 : Nat} {cfy1 : Nat} {Xfy1 : List Nat} {i2 : Nat} {i3 : Int} {w : World} (qsp0 : Rd w kF asp0 nsp0 Xsp0) (qls0 : Rd w kF als0 nls0 Xls0) (qfe1 : Rd w kF afe1 nfe1 Xfe1) (qfx1 : Rd w kF afx1 nfx1 Xfx1) (qfy1 : Rd w kF afy1 nfy1 Xfy1) (gsp0 : nsp0 ≤ 9223372036854775807) (gls0 : nls0 ≤ 9223372036854775807) (gfe1 : nfe1 ≤ 9223372036854775807) (gfx1 : nfx1 ≤ 9223372036854775807) (gfy1 : nfy1 ≤ 9223372036854775807) :
    Calls Try.prog 13 #[.agg #[.int .i64 wd0, .int .i64 hi0, .bool wr0, .slice asp0 nsp0 csp0, .slice als0 nls0 cls0], .agg #[.slice afe1 nfe1 cfe1, .slice afx1 nfx1 cfx1, .slice afy1 nfy1 cfy1], .float .f32 i2, .int .i64 i3] w (Rt fun v w' => v = .bool true ∧ Ext0 w w') := by
  have hlsp0 := qsp0.len
  have hlls0 := qls0.len
  have hlfe1 := qfe1.len
  have hlfx1 := qfx1.len
  have hlfy1 := qfy1.len
  have B : Bu w no w [.rd kF asp0 nsp0 Xsp0, .rd kF als0 nls0 Xls0, .rd kF afe1 nfe1 Xfe1, .rd kF afx1 nfx1 Xfx1, .rd kF afy1 nfy1 Xfy1] := Bu.ro (All.cons qsp0 (All.cons qls0 (All.cons qfe1 (All.cons qfx1 (All.cons qfy1 All.nil))))) rfl
  refine calls_W (n := 66) Try.func13 rfl rfl (Nat.le_of_ble_eq_true rfl) ?_
  refine W_seq ?_
  refine W_region (by kernel_rfl) ?_
  refine s_k rfl (k_boxN (v := .agg #[.int .i64 wd0, .int .i64 hi0, .bool wr0, .slice asp0 nsp0 csp0, .slice als0 nls0 cls0]) (cs := [.int .i64 wd0, .int .i64 hi0, .bool wr0, .slice asp0 nsp0 csp0, .slice als0 nls0 cls0]) rfl rfl (fun b1 w2 hN3 => ?_))
  replace B := B.new1 hN3
  clear hN3
  refine s_k rfl (k_boxN (v := .agg #[.slice afe1 nfe1 cfe1, .slice afx1 nfx1 cfx1, .slice afy1 nfy1 cfy1]) (cs := [.slice afe1 nfe1 cfe1, .slice afx1 nfx1 cfx1, .slice afy1 nfy1 cfy1]) rfl rfl (fun b4 w5 hN6 => ?_))
  replace B := B.new1 hN6
  clear hN6
  refine s_y (v := .bool false) rfl (y_assign rfl) ?_
  refine s_nil ?_
  refine W_seq ?_
  refine W_region (by kernel_rfl) ?_
  refine s_y (v := .int .i64 1048576) rfl (y_assign rfl) ?_
  refine s_nil ?_
  refine W_seq ?_
  refine W_region (by kernel_rfl) ?_
  refine s_y (v := .agg #[.int .i64 wd0, .int .i64 hi0, .bool wr0, .slice asp0 nsp0 csp0, .slice als0 nls0 cls0]) rfl (y_loadn (b := b1) (o := 0) (vs := [.int .i64 wd0, .int .i64 hi0, .bool wr0, .slice asp0 nsp0 csp0, .slice als0 nls0 cls0]) T13.agg_45_5 rfl rfl ((B.b 1 rfl).cells (o := 0) rfl)) ?_
  refine s_y (v := .int .i64 1048576) rfl (y_move rfl) ?_
  refine s_k rfl (k_call T13.fn_31 (c_l_szSheet (by omega) (by omega) (by omega) (by omega)) rfl ?_)
  rintro v9 w7 ⟨hv10, e8⟩
  replace B := B.ext0 e8
  clear e8
  by_cases c11 : ((nsp0 : Nat) : Int) + ((nls0 : Nat) : Int) ≤ 1048576
  · obtain rfl : v9 = .int .i64 (1048576 - ((nsp0 : Nat) : Int) - ((nls0 : Nat) : Int)) := hv10.trans (congrArg _ (if_pos c11))
    have hk12 : ¬ (1048576 - ((nsp0 : Nat) : Int) - ((nls0 : Nat) : Int)) < 0 := by omega
    refine s_y (v := .int .i64 (1048576 - ((nsp0 : Nat) : Int) - ((nls0 : Nat) : Int))) rfl (y_assign rfl) ?_
    refine s_nil ?_
    refine W_seq ?_
    refine W_seq ?_
    refine W_region (by kernel_rfl) ?_
    refine s_y (v := .int .i64 (1048576 - ((nsp0 : Nat) : Int) - ((nls0 : Nat) : Int))) rfl (y_move rfl) ?_
    refine s_y (v := .bool false) rfl (y_lss rfl rfl (decide_eq_false hk12)) ?_
    refine s_nil ?_
    refine W_if_f (by decide) rfl ?_
    refine W_skip ?_
    refine W_seq ?_
    refine W_region (by kernel_rfl) ?_
    refine s_y (v := .agg #[.slice afe1 nfe1 cfe1, .slice afx1 nfx1 cfx1, .slice afy1 nfy1 cfy1]) rfl (y_loadn (b := b4) (o := 0) (vs := [.slice afe1 nfe1 cfe1, .slice afx1 nfx1 cfx1, .slice afy1 nfy1 cfy1]) T13.agg_46_3 rfl rfl ((B.b 0 rfl).cells (o := 0) rfl)) ?_
    refine s_y (v := .int .i64 (1048576 - ((nsp0 : Nat) : Int) - ((nls0 : Nat) : Int))) rfl (y_move rfl) ?_
    refine s_k rfl (k_call T13.fn_32 (c_l_szField (by omega) (by omega) (by omega) (by omega) (by omega)) rfl ?_)
    rintro v15 w13 ⟨hv16, e14⟩
    replace B := B.ext0 e14
    clear e14
    by_cases c17 : ((nfe1 : Nat) : Int) + ((nfx1 : Nat) : Int) + ((nfy1 : Nat) : Int) ≤ (1048576 - ((nsp0 : Nat) : Int) - ((nls0 : Nat) : Int))
    · obtain rfl : v15 = .int .i64 ((1048576 - ((nsp0 : Nat) : Int) - ((nls0 : Nat) : Int)) - ((nfe1 : Nat) : Int) - ((nfx1 : Nat) : Int) - ((nfy1 : Nat) : Int)) := hv16.trans (congrArg _ (if_pos c17))
      have hk18 : ¬ ((1048576 - ((nsp0 : Nat) : Int) - ((nls0 : Nat) : Int)) - ((nfe1 : Nat) : Int) - ((nfx1 : Nat) : Int) - ((nfy1 : Nat) : Int)) < 0 := by omega
      refine s_y (v := .int .i64 ((1048576 - ((nsp0 : Nat) : Int) - ((nls0 : Nat) : Int)) - ((nfe1 : Nat) : Int) - ((nfx1 : Nat) : Int) - ((nfy1 : Nat) : Int))) rfl (y_assign rfl) ?_
      refine s_nil ?_
      refine W_seq ?_
      refine W_seq ?_
      refine W_region (by kernel_rfl) ?_
      refine s_y (v := .int .i64 ((1048576 - ((nsp0 : Nat) : Int) - ((nls0 : Nat) : Int)) - ((nfe1 : Nat) : Int) - ((nfx1 : Nat) : Int) - ((nfy1 : Nat) : Int))) rfl (y_move rfl) ?_
      refine s_y (v := .bool false) rfl (y_lss rfl rfl (decide_eq_false hk18)) ?_
      refine s_nil ?_
      refine W_if_f (by decide) rfl ?_
      refine W_skip ?_
      refine W_seq ?_
      have B0_23 := B
      refine W_draw (no) T13.mx (by kernel_rfl) (fun w21 e22 => ?_)
      have R24 := Ext.refl (no) w13
      replace R24 := R24.trans (Ext0.any e22)
      replace B := B.ext0 e22
      clear e22
      refine m_y (v := .agg #[.int .i64 wd0, .int .i64 hi0, .bool wr0, .slice asp0 nsp0 csp0, .slice als0 nls0 cls0]) 0 rfl (by kernel_rfl) rfl rfl (fun w' e' => y_loadn (b := b1) (o := 0) (vs := [.int .i64 wd0, .int .i64 hi0, .bool wr0, .slice asp0 nsp0 csp0, .slice als0 nls0 cls0]) T13.agg_45_5 rfl rfl (((B0_23.b 1 rfl).ext0 e').cells (o := 0) rfl)) ?_
      refine m_y (v := .agg #[.slice afe1 nfe1 cfe1, .slice afx1 nfx1 cfx1, .slice afy1 nfy1 cfy1]) 2 rfl (by kernel_rfl) rfl rfl (fun w' e' => y_loadn (b := b4) (o := 0) (vs := [.slice afe1 nfe1 cfe1, .slice afx1 nfx1 cfx1, .slice afy1 nfy1 cfy1]) T13.agg_46_3 rfl rfl (((B0_23.b 0 rfl).ext0 e').cells (o := 0) rfl)) ?_
      refine m_y (v := .float .f32 i2) 4 rfl (by kernel_rfl) rfl rfl (fun w' e' => y_move rfl) ?_
      refine m_y (v := .int .i64 i3) 5 rfl (by kernel_rfl) rfl rfl (fun w' e' => y_move rfl) ?_
      refine m_k 1 [3, 6, 7, 8, 9, 10, 11] rfl (by kernel_rfl) rfl rfl (fun w25 e26 => ?_)
      replace R24 := R24.trans (Ext0.any e26)
      replace B := B.ext0 e26
      clear e26
      refine k_call T13.fn_34 (c_l_toSheet (B.r 2 rfl) (B.r 3 rfl) (by omega) (by omega)) rfl ?_
      rintro _ w27 ⟨a28, c29, a30, c31, rfl, hN32⟩
      replace R24 := R24.trans (Ext0.any hN32.ext)
      replace B := B.new2 hN32
      clear hN32
      refine ⟨fun _ => R24, ?_⟩
      refine m_k 3 [6, 7, 8, 9, 10, 11] rfl (by kernel_rfl) rfl rfl (fun w33 e34 => ?_)
      replace R24 := R24.trans (Ext0.any e34)
      replace B := B.ext0 e34
      clear e34
      refine k_call T13.fn_35 (c_l_toField (B.r 6 rfl) (B.r 7 rfl) (B.r 8 rfl) (by omega) (by omega) (by omega)) rfl ?_
      rintro _ w35 ⟨a36, c37, a38, c39, a40, c41, rfl, hN42⟩
      replace R24 := R24.trans (Ext0.any hN42.ext)
      replace B := B.new3 hN42
      clear hN42
      refine ⟨fun _ => R24, ?_⟩
      refine m_k 6 [7, 8, 9, 10, 11] rfl (by kernel_rfl) rfl rfl (fun w43 e44 => ?_)
      replace R24 := R24.trans (Ext0.any e44)
      replace B := B.ext0 e44
      clear e44
      refine k_call T13.fn_66 (c_s_QuietAfter ((B.o 3 rfl).rd) ((B.o 4 rfl).rd) ((B.o 0 rfl).rd) ((B.o 1 rfl).rd) ((B.o 2 rfl).rd) rfl (by omega) (by omega) (by omega) (by omega) (by omega)) rfl ?_
      rintro v47 w45 hx46
      by_cases c48 : qtB wd0 hi0 wr0 Xsp0 Xls0 Xfe1 Xfx1 Xfy1 (can .f32 i2) i3 = true
      · obtain ⟨rfl, e49⟩ := (hx46.resolve_right (fun hz => by rw [c48] at hz; cases hz.1)).2
        clear hx46
        replace R24 := R24.trans (Ext0.any e49)
        replace B := B.ext0 e49
        clear e49
        refine ⟨fun _ => R24, ?_⟩
        refine m_y (v := .tuple #[.int .i64 (qtV wd0 hi0 wr0 Xsp0 Xls0 (Xfe1, Xfx1, Xfy1) (can .f32 i2) i3), .bool true]) 7 rfl (by kernel_rfl) rfl rfl (fun w' e' => y_move rfl) ?_
        refine m_y (v := .int .i64 (qtV wd0 hi0 wr0 Xsp0 Xls0 (Xfe1, Xfx1, Xfy1) (can .f32 i2) i3)) 8 rfl (by kernel_rfl) rfl rfl (fun w' e' => y_extract rfl rfl) ?_
        refine m_y (v := .bool true) 9 rfl (by kernel_rfl) rfl rfl (fun w' e' => y_extract rfl rfl) ?_
        refine m_y (v := .int .i64 (qtV wd0 hi0 wr0 Xsp0 Xls0 (Xfe1, Xfx1, Xfy1) (can .f32 i2) i3)) 10 rfl (by kernel_rfl) rfl rfl (fun w' e' => y_assign rfl) ?_
        refine m_y (v := .bool true) 11 rfl (by kernel_rfl) rfl rfl (fun w' e' => y_assign rfl) ?_
        refine m_done (by kernel_rfl) (fun w50 e51 => ?_)
        replace B := B.ext0 e51
        clear e51
        clear B0_23 R24
        refine W_seq ?_
        refine W_region (by kernel_rfl) ?_
        refine s_y (v := .agg #[.int .i64 wd0, .int .i64 hi0, .bool wr0, .slice asp0 nsp0 csp0, .slice als0 nls0 cls0]) rfl (y_loadn (b := b1) (o := 0) (vs := [.int .i64 wd0, .int .i64 hi0, .bool wr0, .slice asp0 nsp0 csp0, .slice als0 nls0 cls0]) T13.agg_45_5 rfl rfl ((B.b 6 rfl).cells (o := 0) rfl)) ?_
        refine s_k rfl (k_call T13.fn_34 (c_l_toSheet (B.r 7 rfl) (B.r 8 rfl) (by omega) (by omega)) rfl ?_)
        rintro _ w52 ⟨a53, c54, a55, c56, rfl, hN57⟩
        replace B := B.new2 hN57
        clear hN57
        refine s_k rfl (k_allocN (z := (.agg #[.int .i64 0, .int .i64 0, .bool false, .slice none 0 0, .slice none 0 0])) (cs := [.int .i64 0, .int .i64 0, .bool false, .slice none 0 0, .slice none 0 0]) T13.zero_26 rfl (fun b58 w59 hN60 => ?_))
        replace B := B.new1 hN60
        clear hN60
        refine s_k0 rfl (k_stB (v := .agg #[.int .i64 wd0, .int .i64 hi0, .bool wr0, .slice a53 nsp0 c54, .slice a55 nls0 c56]) (n := 5) (cs' := [.int .i64 wd0, .int .i64 hi0, .bool wr0, .slice a53 nsp0 c54, .slice a55 nls0 c56]) T13.sz_26_5 rfl rfl rfl (B.b 0 rfl) (by simp [Value.cells, Value.oneCell']) (Nat.le_of_ble_eq_true rfl) rfl (fun w61 hU62 => ?_))
        replace B : Bu w no w61 [.blk b58 [.int .i64 wd0, .int .i64 hi0, .bool wr0, .slice a53 nsp0 c54, .slice a55 nls0 c56] 26, .ow kF a53 nsp0 c54 35 Xsp0, .ow kF a55 nls0 c56 35 Xls0, .ow kF a36 nfe1 c37 35 Xfe1, .ow kF a38 nfx1 c39 35 Xfx1, .ow kF a40 nfy1 c41 35 Xfy1, .ow kF a28 nsp0 c29 35 Xsp0, .ow kF a30 nls0 c31 35 Xls0, .blk b4 [.slice afe1 nfe1 cfe1, .slice afx1 nfx1 cfx1, .slice afy1 nfy1 cfy1] 46, .blk b1 [.int .i64 wd0, .int .i64 hi0, .bool wr0, .slice asp0 nsp0 csp0, .slice als0 nls0 cls0] 45, .rd kF asp0 nsp0 Xsp0, .rd kF als0 nls0 Xls0, .rd kF afe1 nfe1 Xfe1, .rd kF afx1 nfx1 Xfx1, .rd kF afy1 nfy1 Xfy1] := B.upd [0] rfl hU62
        clear hU62
        refine s_nil ?_
        refine W_seq ?_
        refine W_region (by kernel_rfl) ?_
        refine s_y (v := .agg #[.slice afe1 nfe1 cfe1, .slice afx1 nfx1 cfx1, .slice afy1 nfy1 cfy1]) rfl (y_loadn (b := b4) (o := 0) (vs := [.slice afe1 nfe1 cfe1, .slice afx1 nfx1 cfx1, .slice afy1 nfy1 cfy1]) T13.agg_46_3 rfl rfl ((B.b 8 rfl).cells (o := 0) rfl)) ?_
        refine s_k rfl (k_call T13.fn_35 (c_l_toField (B.r 12 rfl) (B.r 13 rfl) (B.r 14 rfl) (by omega) (by omega) (by omega)) rfl ?_)
        rintro _ w63 ⟨a64, c65, a66, c67, a68, c69, rfl, hN70⟩
        replace B := B.new3 hN70
        clear hN70
        refine s_k rfl (k_allocN (z := (.agg #[.slice none 0 0, .slice none 0 0, .slice none 0 0])) (cs := [.slice none 0 0, .slice none 0 0, .slice none 0 0]) T13.zero_29 rfl (fun b71 w72 hN73 => ?_))
        replace B := B.new1 hN73
        clear hN73
        refine s_k0 rfl (k_stB (v := .agg #[.slice a64 nfe1 c65, .slice a66 nfx1 c67, .slice a68 nfy1 c69]) (n := 3) (cs' := [.slice a64 nfe1 c65, .slice a66 nfx1 c67, .slice a68 nfy1 c69]) T13.sz_29_3 rfl rfl rfl (B.b 0 rfl) (by simp [Value.cells, Value.oneCell']) (Nat.le_of_ble_eq_true rfl) rfl (fun w74 hU75 => ?_))
        replace B : Bu w no w74 [.blk b71 [.slice a64 nfe1 c65, .slice a66 nfx1 c67, .slice a68 nfy1 c69] 29, .ow kF a64 nfe1 c65 35 Xfe1, .ow kF a66 nfx1 c67 35 Xfx1, .ow kF a68 nfy1 c69 35 Xfy1, .blk b58 [.int .i64 wd0, .int .i64 hi0, .bool wr0, .slice a53 nsp0 c54, .slice a55 nls0 c56] 26, .ow kF a53 nsp0 c54 35 Xsp0, .ow kF a55 nls0 c56 35 Xls0, .ow kF a36 nfe1 c37 35 Xfe1, .ow kF a38 nfx1 c39 35 Xfx1, .ow kF a40 nfy1 c41 35 Xfy1, .ow kF a28 nsp0 c29 35 Xsp0, .ow kF a30 nls0 c31 35 Xls0, .blk b4 [.slice afe1 nfe1 cfe1, .slice afx1 nfx1 cfx1, .slice afy1 nfy1 cfy1] 46, .blk b1 [.int .i64 wd0, .int .i64 hi0, .bool wr0, .slice asp0 nsp0 csp0, .slice als0 nls0 cls0] 45, .rd kF asp0 nsp0 Xsp0, .rd kF als0 nls0 Xls0, .rd kF afe1 nfe1 Xfe1, .rd kF afx1 nfx1 Xfx1, .rd kF afy1 nfy1 Xfy1] := B.upd [0] rfl hU75
        clear hU75
        refine s_nil ?_
        refine W_seq ?_
        refine W_region (by kernel_rfl) ?_
        refine s_y (v := .agg #[.int .i64 wd0, .int .i64 hi0, .bool wr0, .slice a53 nsp0 c54, .slice a55 nls0 c56]) rfl (y_loadn (b := b58) (o := 0) (vs := [.int .i64 wd0, .int .i64 hi0, .bool wr0, .slice a53 nsp0 c54, .slice a55 nls0 c56]) T13.agg_26_5 rfl rfl ((B.b 4 rfl).cells (o := 0) rfl)) ?_
        refine s_y (v := .agg #[.slice a64 nfe1 c65, .slice a66 nfx1 c67, .slice a68 nfy1 c69]) rfl (y_loadn (b := b71) (o := 0) (vs := [.slice a64 nfe1 c65, .slice a66 nfx1 c67, .slice a68 nfy1 c69]) T13.agg_29_3 rfl rfl ((B.b 0 rfl).cells (o := 0) rfl)) ?_
        refine s_y (v := .float .f32 i2) rfl (y_move rfl) ?_
        refine s_y (v := .int .i64 i3) rfl (y_move rfl) ?_
        refine s_k rfl (k_call T13.fn_67 (c_i_QuietAfter ((B.o 5 rfl).rd) ((B.o 6 rfl).rd) ((B.o 1 rfl).rd) ((B.o 2 rfl).rd) ((B.o 3 rfl).rd) rfl (by omega) (by omega) (by omega) (by omega) (by omega)) rfl ?_)
        rintro v78 w76 hx77
        obtain ⟨rfl, e79⟩ := (hx77.resolve_right (fun hz => by rw [c48] at hz; cases hz.1)).2
        clear hx77
        replace B := B.ext0 e79
        clear e79
        refine s_y (v := .tuple #[.int .i64 (qtV wd0 hi0 wr0 Xsp0 Xls0 (Xfe1, Xfx1, Xfy1) (can .f32 i2) i3), .bool true]) rfl (y_move rfl) ?_
        refine s_y (v := .int .i64 (qtV wd0 hi0 wr0 Xsp0 Xls0 (Xfe1, Xfx1, Xfy1) (can .f32 i2) i3)) rfl (y_extract rfl rfl) ?_
        refine s_y (v := .bool true) rfl (y_extract rfl rfl) ?_
        refine s_y (v := .int .i64 (qtV wd0 hi0 wr0 Xsp0 Xls0 (Xfe1, Xfx1, Xfy1) (can .f32 i2) i3)) rfl (y_assign rfl) ?_
        refine s_y (v := .bool true) rfl (y_assign rfl) ?_
        refine s_nil ?_
        refine W_seq ?_
        refine W_seq ?_
        refine W_region (by kernel_rfl) ?_
        refine s_y (v := .int .i64 (qtV wd0 hi0 wr0 Xsp0 Xls0 (Xfe1, Xfx1, Xfy1) (can .f32 i2) i3)) rfl (y_move rfl) ?_
        refine s_y (v := .int .i64 (qtV wd0 hi0 wr0 Xsp0 Xls0 (Xfe1, Xfx1, Xfy1) (can .f32 i2) i3)) rfl (y_move rfl) ?_
        refine s_y (v := .bool false) rfl (y_neq rfl rfl (decide_eq_false (fun hq => hq rfl))) ?_
        refine s_y (v := .bool false) rfl (y_move rfl) ?_
        refine s_y (v := .bool true) rfl (y_move rfl) ?_
        refine s_y (v := .bool true) rfl (y_move rfl) ?_
        refine s_y (v := .bool false) rfl (y_bneq T13.bool_4 rfl rfl rfl) ?_
        refine s_y (v := .bool false) rfl (y_pick_f rfl rfl) ?_
        refine s_nil ?_
        refine W_if_f (by decide) rfl ?_
        refine W_skip ?_
        refine W_seq ?_
        refine W_seq ?_
        have B0_84 := B
        refine W_draw (no) T13.mx (by kernel_rfl) (fun w82 e83 => ?_)
        have R85 := Ext.refl (no) w76
        replace R85 := R85.trans (Ext0.any e83)
        replace B := B.ext0 e83
        clear e83
        refine m_y (v := .agg #[.int .i64 wd0, .int .i64 hi0, .bool wr0, .slice a53 nsp0 c54, .slice a55 nls0 c56]) 0 rfl (by kernel_rfl) rfl rfl (fun w' e' => y_loadn (b := b58) (o := 0) (vs := [.int .i64 wd0, .int .i64 hi0, .bool wr0, .slice a53 nsp0 c54, .slice a55 nls0 c56]) T13.agg_26_5 rfl rfl (((B0_84.b 4 rfl).ext0 e').cells (o := 0) rfl)) ?_
        refine m_y (v := .agg #[.int .i64 wd0, .int .i64 hi0, .bool wr0, .slice asp0 nsp0 csp0, .slice als0 nls0 cls0]) 1 rfl (by kernel_rfl) rfl rfl (fun w' e' => y_loadn (b := b1) (o := 0) (vs := [.int .i64 wd0, .int .i64 hi0, .bool wr0, .slice asp0 nsp0 csp0, .slice als0 nls0 cls0]) T13.agg_45_5 rfl rfl (((B0_84.b 13 rfl).ext0 e').cells (o := 0) rfl)) ?_
        refine m_k 2 [3, 4] rfl (by kernel_rfl) rfl rfl (fun w86 e87 => ?_)
        replace R85 := R85.trans (Ext0.any e87)
        replace B := B.ext0 e87
        clear e87
        refine k_call T13.fn_34 (c_l_toSheet (B.r 14 rfl) (B.r 15 rfl) (by omega) (by omega)) rfl ?_
        rintro _ w88 ⟨a89, c90, a91, c92, rfl, hN93⟩
        replace R85 := R85.trans (Ext0.any hN93.ext)
        replace B := B.new2 hN93
        clear hN93
        refine ⟨fun _ => R85, ?_⟩
        refine m_k 3 [4] rfl (by kernel_rfl) rfl rfl (fun w94 e95 => ?_)
        replace R85 := R85.trans (Ext0.any e95)
        replace B := B.ext0 e95
        clear e95
        refine k_call T13.fn_38 (c_l_eqSheet ((B.o 7 rfl).rd) ((B.o 8 rfl).rd) ((B.o 0 rfl).rd) ((B.o 1 rfl).rd) (by omega) (by omega)) rfl ?_
        rintro _ w96 ⟨rfl, e97⟩
        replace R85 := R85.trans (Ext0.any e97)
        replace B := B.ext0 e97
        clear e97
        refine ⟨fun _ => R85, ?_⟩
        refine m_y (v := .bool false) 4 rfl (by kernel_rfl) rfl rfl (fun w' e' => y_not rfl rfl) ?_
        refine m_done (by kernel_rfl) (fun w98 e99 => ?_)
        replace B := B.ext0 e99
        clear e99
        clear B0_84 R85
        refine W_if_f (by decide) rfl ?_
        refine W_skip ?_
        refine W_seq ?_
        refine W_seq ?_
        have B0_104 := B
        refine W_draw (no) T13.mx (by kernel_rfl) (fun w102 e103 => ?_)
        have R105 := Ext.refl (no) w98
        replace R105 := R105.trans (Ext0.any e103)
        replace B := B.ext0 e103
        clear e103
        refine m_y (v := .agg #[.slice a64 nfe1 c65, .slice a66 nfx1 c67, .slice a68 nfy1 c69]) 0 rfl (by kernel_rfl) rfl rfl (fun w' e' => y_loadn (b := b71) (o := 0) (vs := [.slice a64 nfe1 c65, .slice a66 nfx1 c67, .slice a68 nfy1 c69]) T13.agg_29_3 rfl rfl (((B0_104.b 2 rfl).ext0 e').cells (o := 0) rfl)) ?_
        refine m_y (v := .agg #[.slice afe1 nfe1 cfe1, .slice afx1 nfx1 cfx1, .slice afy1 nfy1 cfy1]) 1 rfl (by kernel_rfl) rfl rfl (fun w' e' => y_loadn (b := b4) (o := 0) (vs := [.slice afe1 nfe1 cfe1, .slice afx1 nfx1 cfx1, .slice afy1 nfy1 cfy1]) T13.agg_46_3 rfl rfl (((B0_104.b 14 rfl).ext0 e').cells (o := 0) rfl)) ?_
        refine m_k 2 [3, 4] rfl (by kernel_rfl) rfl rfl (fun w106 e107 => ?_)
        replace R105 := R105.trans (Ext0.any e107)
        replace B := B.ext0 e107
        clear e107
        refine k_call T13.fn_35 (c_l_toField (B.r 18 rfl) (B.r 19 rfl) (B.r 20 rfl) (by omega) (by omega) (by omega)) rfl ?_
        rintro _ w108 ⟨a109, c110, a111, c112, a113, c114, rfl, hN115⟩
        replace R105 := R105.trans (Ext0.any hN115.ext)
        replace B := B.new3 hN115
        clear hN115
        refine ⟨fun _ => R105, ?_⟩
        refine m_k 3 [4] rfl (by kernel_rfl) rfl rfl (fun w116 e117 => ?_)
        replace R105 := R105.trans (Ext0.any e117)
        replace B := B.ext0 e117
        clear e117
        refine k_call T13.fn_39 (c_l_eqField ((B.o 6 rfl).rd) ((B.o 7 rfl).rd) ((B.o 8 rfl).rd) ((B.o 0 rfl).rd) ((B.o 1 rfl).rd) ((B.o 2 rfl).rd) (by omega) (by omega) (by omega)) rfl ?_
        rintro _ w118 ⟨rfl, e119⟩
        replace R105 := R105.trans (Ext0.any e119)
        replace B := B.ext0 e119
        clear e119
        refine ⟨fun _ => R105, ?_⟩
        refine m_y (v := .bool false) 4 rfl (by kernel_rfl) rfl rfl (fun w' e' => y_not rfl rfl) ?_
        refine m_done (by kernel_rfl) (fun w120 e121 => ?_)
        replace B := B.ext0 e121
        clear e121
        clear B0_104 R105
        refine W_if_f (by decide) rfl ?_
        refine W_skip ?_
        refine W_seq ?_
        refine W_region (by kernel_rfl) ?_
        refine s_y (v := .bool true) rfl (y_assign rfl) ?_
        refine s_nil ?_
        refine W_ret ?_
        refine ret1 (v := .bool true) rfl rfl rfl ⟨_, rfl, ?_⟩
        exact ⟨rfl, B.ext⟩
      · obtain ⟨_, rfl, e122⟩ := hx46.resolve_left (fun hz => c48 hz.1)
        clear hx46
        replace R24 := R24.trans (Ext0.any e122)
        replace B := B.ext0 e122
        clear e122
        refine ⟨fun _ => R24, ?_⟩
        refine m_y (v := .tuple #[.int .i64 0, .bool false]) 7 rfl (by kernel_rfl) rfl rfl (fun w' e' => y_move rfl) ?_
        refine m_y (v := .int .i64 0) 8 rfl (by kernel_rfl) rfl rfl (fun w' e' => y_extract rfl rfl) ?_
        refine m_y (v := .bool false) 9 rfl (by kernel_rfl) rfl rfl (fun w' e' => y_extract rfl rfl) ?_
        refine m_y (v := .int .i64 0) 10 rfl (by kernel_rfl) rfl rfl (fun w' e' => y_assign rfl) ?_
        refine m_y (v := .bool false) 11 rfl (by kernel_rfl) rfl rfl (fun w' e' => y_assign rfl) ?_
        refine m_done (by kernel_rfl) (fun w123 e124 => ?_)
        replace B := B.ext0 e124
        clear e124
        clear B0_23 R24
        refine W_seq ?_
        refine W_region (by kernel_rfl) ?_
        refine s_y (v := .agg #[.int .i64 wd0, .int .i64 hi0, .bool wr0, .slice asp0 nsp0 csp0, .slice als0 nls0 cls0]) rfl (y_loadn (b := b1) (o := 0) (vs := [.int .i64 wd0, .int .i64 hi0, .bool wr0, .slice asp0 nsp0 csp0, .slice als0 nls0 cls0]) T13.agg_45_5 rfl rfl ((B.b 6 rfl).cells (o := 0) rfl)) ?_
        refine s_k rfl (k_call T13.fn_34 (c_l_toSheet (B.r 7 rfl) (B.r 8 rfl) (by omega) (by omega)) rfl ?_)
        rintro _ w125 ⟨a126, c127, a128, c129, rfl, hN130⟩
        replace B := B.new2 hN130
        clear hN130
        refine s_k rfl (k_allocN (z := (.agg #[.int .i64 0, .int .i64 0, .bool false, .slice none 0 0, .slice none 0 0])) (cs := [.int .i64 0, .int .i64 0, .bool false, .slice none 0 0, .slice none 0 0]) T13.zero_26 rfl (fun b131 w132 hN133 => ?_))
        replace B := B.new1 hN133
        clear hN133
        refine s_k0 rfl (k_stB (v := .agg #[.int .i64 wd0, .int .i64 hi0, .bool wr0, .slice a126 nsp0 c127, .slice a128 nls0 c129]) (n := 5) (cs' := [.int .i64 wd0, .int .i64 hi0, .bool wr0, .slice a126 nsp0 c127, .slice a128 nls0 c129]) T13.sz_26_5 rfl rfl rfl (B.b 0 rfl) (by simp [Value.cells, Value.oneCell']) (Nat.le_of_ble_eq_true rfl) rfl (fun w134 hU135 => ?_))
        replace B : Bu w no w134 [.blk b131 [.int .i64 wd0, .int .i64 hi0, .bool wr0, .slice a126 nsp0 c127, .slice a128 nls0 c129] 26, .ow kF a126 nsp0 c127 35 Xsp0, .ow kF a128 nls0 c129 35 Xls0, .ow kF a36 nfe1 c37 35 Xfe1, .ow kF a38 nfx1 c39 35 Xfx1, .ow kF a40 nfy1 c41 35 Xfy1, .ow kF a28 nsp0 c29 35 Xsp0, .ow kF a30 nls0 c31 35 Xls0, .blk b4 [.slice afe1 nfe1 cfe1, .slice afx1 nfx1 cfx1, .slice afy1 nfy1 cfy1] 46, .blk b1 [.int .i64 wd0, .int .i64 hi0, .bool wr0, .slice asp0 nsp0 csp0, .slice als0 nls0 cls0] 45, .rd kF asp0 nsp0 Xsp0, .rd kF als0 nls0 Xls0, .rd kF afe1 nfe1 Xfe1, .rd kF afx1 nfx1 Xfx1, .rd kF afy1 nfy1 Xfy1] := B.upd [0] rfl hU135
        clear hU135
        refine s_nil ?_
        refine W_seq ?_
        refine W_region (by kernel_rfl) ?_
        refine s_y (v := .agg #[.slice afe1 nfe1 cfe1, .slice afx1 nfx1 cfx1, .slice afy1 nfy1 cfy1]) rfl (y_loadn (b := b4) (o := 0) (vs := [.slice afe1 nfe1 cfe1, .slice afx1 nfx1 cfx1, .slice afy1 nfy1 cfy1]) T13.agg_46_3 rfl rfl ((B.b 8 rfl).cells (o := 0) rfl)) ?_
        refine s_k rfl (k_call T13.fn_35 (c_l_toField (B.r 12 rfl) (B.r 13 rfl) (B.r 14 rfl) (by omega) (by omega) (by omega)) rfl ?_)
        rintro _ w136 ⟨a137, c138, a139, c140, a141, c142, rfl, hN143⟩
        replace B := B.new3 hN143
        clear hN143
        refine s_k rfl (k_allocN (z := (.agg #[.slice none 0 0, .slice none 0 0, .slice none 0 0])) (cs := [.slice none 0 0, .slice none 0 0, .slice none 0 0]) T13.zero_29 rfl (fun b144 w145 hN146 => ?_))
        replace B := B.new1 hN146
        clear hN146
        refine s_k0 rfl (k_stB (v := .agg #[.slice a137 nfe1 c138, .slice a139 nfx1 c140, .slice a141 nfy1 c142]) (n := 3) (cs' := [.slice a137 nfe1 c138, .slice a139 nfx1 c140, .slice a141 nfy1 c142]) T13.sz_29_3 rfl rfl rfl (B.b 0 rfl) (by simp [Value.cells, Value.oneCell']) (Nat.le_of_ble_eq_true rfl) rfl (fun w147 hU148 => ?_))
        replace B : Bu w no w147 [.blk b144 [.slice a137 nfe1 c138, .slice a139 nfx1 c140, .slice a141 nfy1 c142] 29, .ow kF a137 nfe1 c138 35 Xfe1, .ow kF a139 nfx1 c140 35 Xfx1, .ow kF a141 nfy1 c142 35 Xfy1, .blk b131 [.int .i64 wd0, .int .i64 hi0, .bool wr0, .slice a126 nsp0 c127, .slice a128 nls0 c129] 26, .ow kF a126 nsp0 c127 35 Xsp0, .ow kF a128 nls0 c129 35 Xls0, .ow kF a36 nfe1 c37 35 Xfe1, .ow kF a38 nfx1 c39 35 Xfx1, .ow kF a40 nfy1 c41 35 Xfy1, .ow kF a28 nsp0 c29 35 Xsp0, .ow kF a30 nls0 c31 35 Xls0, .blk b4 [.slice afe1 nfe1 cfe1, .slice afx1 nfx1 cfx1, .slice afy1 nfy1 cfy1] 46, .blk b1 [.int .i64 wd0, .int .i64 hi0, .bool wr0, .slice asp0 nsp0 csp0, .slice als0 nls0 cls0] 45, .rd kF asp0 nsp0 Xsp0, .rd kF als0 nls0 Xls0, .rd kF afe1 nfe1 Xfe1, .rd kF afx1 nfx1 Xfx1, .rd kF afy1 nfy1 Xfy1] := B.upd [0] rfl hU148
        clear hU148
        refine s_nil ?_
        refine W_seq ?_
        refine W_region (by kernel_rfl) ?_
        refine s_y (v := .agg #[.int .i64 wd0, .int .i64 hi0, .bool wr0, .slice a126 nsp0 c127, .slice a128 nls0 c129]) rfl (y_loadn (b := b131) (o := 0) (vs := [.int .i64 wd0, .int .i64 hi0, .bool wr0, .slice a126 nsp0 c127, .slice a128 nls0 c129]) T13.agg_26_5 rfl rfl ((B.b 4 rfl).cells (o := 0) rfl)) ?_
        refine s_y (v := .agg #[.slice a137 nfe1 c138, .slice a139 nfx1 c140, .slice a141 nfy1 c142]) rfl (y_loadn (b := b144) (o := 0) (vs := [.slice a137 nfe1 c138, .slice a139 nfx1 c140, .slice a141 nfy1 c142]) T13.agg_29_3 rfl rfl ((B.b 0 rfl).cells (o := 0) rfl)) ?_
        refine s_y (v := .float .f32 i2) rfl (y_move rfl) ?_
        refine s_y (v := .int .i64 i3) rfl (y_move rfl) ?_
        refine s_k rfl (k_call T13.fn_67 (c_i_QuietAfter ((B.o 5 rfl).rd) ((B.o 6 rfl).rd) ((B.o 1 rfl).rd) ((B.o 2 rfl).rd) ((B.o 3 rfl).rd) rfl (by omega) (by omega) (by omega) (by omega) (by omega)) rfl ?_)
        rintro v151 w149 hx150
        obtain ⟨_, rfl, e152⟩ := hx150.resolve_left (fun hz => c48 hz.1)
        clear hx150
        replace B := B.ext0 e152
        clear e152
        refine s_y (v := .tuple #[.int .i64 0, .bool false]) rfl (y_move rfl) ?_
        refine s_y (v := .int .i64 0) rfl (y_extract rfl rfl) ?_
        refine s_y (v := .bool false) rfl (y_extract rfl rfl) ?_
        refine s_y (v := .int .i64 0) rfl (y_assign rfl) ?_
        refine s_y (v := .bool false) rfl (y_assign rfl) ?_
        refine s_nil ?_
        refine W_seq ?_
        refine W_seq ?_
        refine W_region (by kernel_rfl) ?_
        refine s_y (v := .int .i64 0) rfl (y_move rfl) ?_
        refine s_y (v := .int .i64 0) rfl (y_move rfl) ?_
        have hk153 : ¬ ((0 : Int) ≠ 0) := (by decide)
        refine s_y (v := .bool false) rfl (y_neq rfl rfl (decide_eq_false hk153)) ?_
        refine s_y (v := .bool false) rfl (y_move rfl) ?_
        refine s_y (v := .bool false) rfl (y_move rfl) ?_
        refine s_y (v := .bool false) rfl (y_move rfl) ?_
        refine s_y (v := .bool false) rfl (y_bneq T13.bool_4 rfl rfl rfl) ?_
        refine s_y (v := .bool false) rfl (y_pick_f rfl rfl) ?_
        refine s_nil ?_
        refine W_if_f (by decide) rfl ?_
        refine W_skip ?_
        refine W_seq ?_
        refine W_seq ?_
        have B0_158 := B
        refine W_draw (no) T13.mx (by kernel_rfl) (fun w156 e157 => ?_)
        have R159 := Ext.refl (no) w149
        replace R159 := R159.trans (Ext0.any e157)
        replace B := B.ext0 e157
        clear e157
        refine m_y (v := .agg #[.int .i64 wd0, .int .i64 hi0, .bool wr0, .slice a126 nsp0 c127, .slice a128 nls0 c129]) 0 rfl (by kernel_rfl) rfl rfl (fun w' e' => y_loadn (b := b131) (o := 0) (vs := [.int .i64 wd0, .int .i64 hi0, .bool wr0, .slice a126 nsp0 c127, .slice a128 nls0 c129]) T13.agg_26_5 rfl rfl (((B0_158.b 4 rfl).ext0 e').cells (o := 0) rfl)) ?_
        refine m_y (v := .agg #[.int .i64 wd0, .int .i64 hi0, .bool wr0, .slice asp0 nsp0 csp0, .slice als0 nls0 cls0]) 1 rfl (by kernel_rfl) rfl rfl (fun w' e' => y_loadn (b := b1) (o := 0) (vs := [.int .i64 wd0, .int .i64 hi0, .bool wr0, .slice asp0 nsp0 csp0, .slice als0 nls0 cls0]) T13.agg_45_5 rfl rfl (((B0_158.b 13 rfl).ext0 e').cells (o := 0) rfl)) ?_
        refine m_k 2 [3, 4] rfl (by kernel_rfl) rfl rfl (fun w160 e161 => ?_)
        replace R159 := R159.trans (Ext0.any e161)
        replace B := B.ext0 e161
        clear e161
        refine k_call T13.fn_34 (c_l_toSheet (B.r 14 rfl) (B.r 15 rfl) (by omega) (by omega)) rfl ?_
        rintro _ w162 ⟨a163, c164, a165, c166, rfl, hN167⟩
        replace R159 := R159.trans (Ext0.any hN167.ext)
        replace B := B.new2 hN167
        clear hN167
        refine ⟨fun _ => R159, ?_⟩
        refine m_k 3 [4] rfl (by kernel_rfl) rfl rfl (fun w168 e169 => ?_)
        replace R159 := R159.trans (Ext0.any e169)
        replace B := B.ext0 e169
        clear e169
        refine k_call T13.fn_38 (c_l_eqSheet ((B.o 7 rfl).rd) ((B.o 8 rfl).rd) ((B.o 0 rfl).rd) ((B.o 1 rfl).rd) (by omega) (by omega)) rfl ?_
        rintro _ w170 ⟨rfl, e171⟩
        replace R159 := R159.trans (Ext0.any e171)
        replace B := B.ext0 e171
        clear e171
        refine ⟨fun _ => R159, ?_⟩
        refine m_y (v := .bool false) 4 rfl (by kernel_rfl) rfl rfl (fun w' e' => y_not rfl rfl) ?_
        refine m_done (by kernel_rfl) (fun w172 e173 => ?_)
        replace B := B.ext0 e173
        clear e173
        clear B0_158 R159
        refine W_if_f (by decide) rfl ?_
        refine W_skip ?_
        refine W_seq ?_
        refine W_seq ?_
        have B0_178 := B
        refine W_draw (no) T13.mx (by kernel_rfl) (fun w176 e177 => ?_)
        have R179 := Ext.refl (no) w172
        replace R179 := R179.trans (Ext0.any e177)
        replace B := B.ext0 e177
        clear e177
        refine m_y (v := .agg #[.slice a137 nfe1 c138, .slice a139 nfx1 c140, .slice a141 nfy1 c142]) 0 rfl (by kernel_rfl) rfl rfl (fun w' e' => y_loadn (b := b144) (o := 0) (vs := [.slice a137 nfe1 c138, .slice a139 nfx1 c140, .slice a141 nfy1 c142]) T13.agg_29_3 rfl rfl (((B0_178.b 2 rfl).ext0 e').cells (o := 0) rfl)) ?_
        refine m_y (v := .agg #[.slice afe1 nfe1 cfe1, .slice afx1 nfx1 cfx1, .slice afy1 nfy1 cfy1]) 1 rfl (by kernel_rfl) rfl rfl (fun w' e' => y_loadn (b := b4) (o := 0) (vs := [.slice afe1 nfe1 cfe1, .slice afx1 nfx1 cfx1, .slice afy1 nfy1 cfy1]) T13.agg_46_3 rfl rfl (((B0_178.b 14 rfl).ext0 e').cells (o := 0) rfl)) ?_
        refine m_k 2 [3, 4] rfl (by kernel_rfl) rfl rfl (fun w180 e181 => ?_)
        replace R179 := R179.trans (Ext0.any e181)
        replace B := B.ext0 e181
        clear e181
        refine k_call T13.fn_35 (c_l_toField (B.r 18 rfl) (B.r 19 rfl) (B.r 20 rfl) (by omega) (by omega) (by omega)) rfl ?_
        rintro _ w182 ⟨a183, c184, a185, c186, a187, c188, rfl, hN189⟩
        replace R179 := R179.trans (Ext0.any hN189.ext)
        replace B := B.new3 hN189
        clear hN189
        refine ⟨fun _ => R179, ?_⟩
        refine m_k 3 [4] rfl (by kernel_rfl) rfl rfl (fun w190 e191 => ?_)
        replace R179 := R179.trans (Ext0.any e191)
        replace B := B.ext0 e191
        clear e191
        refine k_call T13.fn_39 (c_l_eqField ((B.o 6 rfl).rd) ((B.o 7 rfl).rd) ((B.o 8 rfl).rd) ((B.o 0 rfl).rd) ((B.o 1 rfl).rd) ((B.o 2 rfl).rd) (by omega) (by omega) (by omega)) rfl ?_
        rintro _ w192 ⟨rfl, e193⟩
        replace R179 := R179.trans (Ext0.any e193)
        replace B := B.ext0 e193
        clear e193
        refine ⟨fun _ => R179, ?_⟩
        refine m_y (v := .bool false) 4 rfl (by kernel_rfl) rfl rfl (fun w' e' => y_not rfl rfl) ?_
        refine m_done (by kernel_rfl) (fun w194 e195 => ?_)
        replace B := B.ext0 e195
        clear e195
        clear B0_178 R179
        refine W_if_f (by decide) rfl ?_
        refine W_skip ?_
        refine W_seq ?_
        refine W_region (by kernel_rfl) ?_
        refine s_y (v := .bool true) rfl (y_assign rfl) ?_
        refine s_nil ?_
        refine W_ret ?_
        refine ret1 (v := .bool true) rfl rfl rfl ⟨_, rfl, ?_⟩
        exact ⟨rfl, B.ext⟩
    · obtain rfl : v15 = .int .i64 (-1) := hv16.trans (congrArg _ (if_neg c17))
      refine s_y (v := .int .i64 (-1)) rfl (y_assign rfl) ?_
      refine s_nil ?_
      refine W_seq ?_
      refine W_seq ?_
      refine W_region (by kernel_rfl) ?_
      refine s_y (v := .int .i64 (-1)) rfl (y_move rfl) ?_
      have hk196 : (-1 : Int) < 0 := (by decide)
      refine s_y (v := .bool true) rfl (y_lss rfl rfl (decide_eq_true hk196)) ?_
      refine s_nil ?_
      refine W_if_t (by decide) rfl ?_
      refine W_seq ?_
      refine W_region (by kernel_rfl) ?_
      refine s_y (v := .bool true) rfl (y_assign rfl) ?_
      refine s_nil ?_
      refine W_ret ?_
      refine ret1 (v := .bool true) rfl rfl rfl ⟨_, rfl, ?_⟩
      exact ⟨rfl, B.ext⟩
  · obtain rfl : v9 = .int .i64 (-1) := hv10.trans (congrArg _ (if_neg c11))
    refine s_y (v := .int .i64 (-1)) rfl (y_assign rfl) ?_
    refine s_nil ?_
    refine W_seq ?_
    refine W_seq ?_
    refine W_region (by kernel_rfl) ?_
    refine s_y (v := .int .i64 (-1)) rfl (y_move rfl) ?_
    have hk197 : (-1 : Int) < 0 := (by decide)
    refine s_y (v := .bool true) rfl (y_lss rfl rfl (decide_eq_true hk197)) ?_
    refine s_nil ?_
    refine W_if_t (by decide) rfl ?_
    refine W_seq ?_
    refine W_region (by kernel_rfl) ?_
    refine s_y (v := .bool true) rfl (y_assign rfl) ?_
    refine s_nil ?_
    refine W_ret ?_
    refine ret1 (v := .bool true) rfl rfl rfl ⟨_, rfl, ?_⟩
    exact ⟨rfl, B.ext⟩
end Go.Proofs.Ytmcldploldaceaa
