/- Walks: what the functions under FnCones do (part 3). Printed by a program of this claim's author. -/
import Derived.Test.YtgohmocjjmkepaaConesW1
set_option linter.unusedSimpArgs false
set_option linter.unusedVariables false
open Go.Wv
namespace Go.Proofs.Ytgohmocjjmkepaa
open Go.Proofs
namespace T18
theorem mx : Try.prog.follows .mixedOrders = true := by kernel_rfl
theorem agg_26_5 : aggB Try.prog 26 5 = true := by kernel_rfl
theorem fn_73 : fnB Try.prog 73 = true := by kernel_rfl
theorem fn_74 : fnB Try.prog 74 = true := by kernel_rfl
theorem fn_75 : fnB Try.prog 75 = true := by kernel_rfl
theorem fn_76 : fnB Try.prog 76 = true := by kernel_rfl
theorem one_2 : oneB Try.prog 2 = true := by kernel_rfl
end T18
set_option maxRecDepth 100000 in
set_option maxHeartbeats 4000000 in
theorem c_i_ReachOf {wd : Int} {hi : Int} {wr : Bool} {asp : Option Addr} {nsp : Nat} {csp : Nat} {Xsp : List Nat} {als : Option Addr} {nls : Nat} {cls : Nat} {Xls : List Nat} {x : Int} {y : Int} {sp : Int} {w : World} (qsp : Rd w kF asp nsp Xsp) (qls : Rd w kF als nls Xls) (hbsp : nsp ≤ 9223372036854775806) (hbls : nls ≤ 9223372036854775806) :
    Calls Try.prog 18 #[.agg #[.int .i64 wd, .int .i64 hi, .bool wr, .slice asp nsp csp, .slice als nls cls], .int .i64 x, .int .i64 y, .int .i64 sp] w (Rt fun v w' => (reachB wd hi Xsp Xls x y sp = true ∧ ∃ (a1 : Option Addr) (c1 : Nat), v = .tuple #[.slice a1 (List.length (sel (wd * hi) (fun i => reachP wd hi wr x y sp (i % wd) (i / wd)))) c1, .bool true] ∧ New w w' [.ow kI a1 (List.length (sel (wd * hi) (fun i => reachP wd hi wr x y sp (i % wd) (i / wd)))) c1 2 (sel (wd * hi) (fun i => reachP wd hi wr x y sp (i % wd) (i / wd)))]) ∨ (reachB wd hi Xsp Xls x y sp = false ∧ v = .tuple #[.slice none 0 0, .bool false] ∧ Ext0 w w')) := by
  have hlsp := qsp.len
  have hlls := qls.len
  have B : Bu w no w [.rd kF asp nsp Xsp, .rd kF als nls Xls] := Bu.ro (All.cons qsp (All.cons qls All.nil)) rfl
  refine calls_W (n := 23) Try.func18 rfl rfl (Nat.le_of_ble_eq_true rfl) ?_
  refine W_seq ?_
  refine W_region (by kernel_rfl) ?_
  refine s_k rfl (k_boxN (v := .agg #[.int .i64 wd, .int .i64 hi, .bool wr, .slice asp nsp csp, .slice als nls cls]) (cs := [.int .i64 wd, .int .i64 hi, .bool wr, .slice asp nsp csp, .slice als nls cls]) rfl rfl (fun b1 w2 hN3 => ?_))
  replace B := B.new1 hN3
  clear hN3
  refine s_k rfl (k_boxN (v := .int .i64 x) (cs := [.int .i64 x]) rfl rfl (fun b4 w5 hN6 => ?_))
  replace B := B.new1 hN6
  clear hN6
  refine s_k rfl (k_boxN (v := .int .i64 y) (cs := [.int .i64 y]) rfl rfl (fun b7 w8 hN9 => ?_))
  replace B := B.new1 hN9
  clear hN9
  refine s_k rfl (k_boxN (v := .int .i64 sp) (cs := [.int .i64 sp]) rfl rfl (fun b10 w11 hN12 => ?_))
  replace B := B.new1 hN12
  clear hN12
  refine s_y (v := .slice none 0 0) rfl (y_assign rfl) ?_
  refine s_y (v := .bool false) rfl (y_assign rfl) ?_
  refine s_nil ?_
  refine W_seq ?_
  refine W_seq ?_
  refine W_region (by kernel_rfl) ?_
  refine s_y (v := .agg #[.int .i64 wd, .int .i64 hi, .bool wr, .slice asp nsp csp, .slice als nls cls]) rfl (y_loadn (b := b1) (o := 0) (vs := [.int .i64 wd, .int .i64 hi, .bool wr, .slice asp nsp csp, .slice als nls cls]) T18.agg_26_5 rfl rfl ((B.b 3 rfl).cells (o := 0) rfl)) ?_
  refine s_y (v := .int .i64 x) rfl (y_load T18.one_2 rfl ((B.b 2 rfl).cell (j := 0) rfl)) ?_
  refine s_y (v := .int .i64 y) rfl (y_load T18.one_2 rfl ((B.b 1 rfl).cell (j := 0) rfl)) ?_
  refine s_k rfl (k_call T18.fn_73 (c_i_isValidCell (B.r 4 rfl) (B.r 5 rfl) (by omega) (by omega)) rfl ?_)
  rintro v15 w13 ⟨hv16, e14⟩
  replace B := B.ext0 e14
  clear e14
  by_cases c17 : vcellB wd hi Xsp Xls x y = true
  · have hb18 := vcellB_b c17
    obtain rfl : v15 = .bool true := hv16.trans (congrArg Value.bool c17)
    refine s_y (v := .bool false) rfl (y_not rfl rfl) ?_
    refine s_y (v := .bool false) rfl (y_move rfl) ?_
    refine s_y (v := .int .i64 sp) rfl (y_load T18.one_2 rfl ((B.b 0 rfl).cell (j := 0) rfl)) ?_
    refine s_k rfl (k_call T18.fn_74 (c_i_within) rfl ?_)
    rintro v21 w19 ⟨hv22, e20⟩
    replace B := B.ext0 e20
    clear e20
    by_cases c23 : within sp 0 64 = true
    · have hb24 := within_b c23
      obtain rfl : v21 = .bool true := hv22.trans (congrArg Value.bool c23)
      refine s_y (v := .bool false) rfl (y_not rfl rfl) ?_
      refine s_y (v := .bool false) rfl (y_pick_f rfl rfl) ?_
      refine s_nil ?_
      refine W_if_f (by decide) rfl ?_
      refine W_skip ?_
      refine W_seq ?_
      refine W_region (by kernel_rfl) ?_
      refine s_y (v := .agg #[.int .i64 wd, .int .i64 hi, .bool wr, .slice asp nsp csp, .slice als nls cls]) rfl (y_loadn (b := b1) (o := 0) (vs := [.int .i64 wd, .int .i64 hi, .bool wr, .slice asp nsp csp, .slice als nls cls]) T18.agg_26_5 rfl rfl ((B.b 3 rfl).cells (o := 0) rfl)) ?_
      refine s_y (v := .func (.func 76) #[] #[.pointer (some ⟨b1, 0, none⟩), .pointer (some ⟨b4, 0, none⟩), .pointer (some ⟨b7, 0, none⟩), .pointer (some ⟨b10, 0, none⟩)]) rfl (y_func rfl rfl) ?_
      refine s_k rfl (k_call T18.fn_75 (c_i_cellsBy (f := 76) (us := []) (xs := [.pointer (some ⟨b1, 0, none⟩), .pointer (some ⟨b4, 0, none⟩), .pointer (some ⟨b7, 0, none⟩), .pointer (some ⟨b10, 0, none⟩)]) (FP := (fun uq vq => reachP wd hi wr x y sp uq vq)) T18.fn_76 (fun uq vq w1 he h0 h1 h2 h3 => c_i_ReachOf_1 ((B.b 3 rfl).sl.ext0 he) ((B.b 2 rfl).sl.ext0 he) ((B.b 1 rfl).sl.ext0 he) ((B.b 0 rfl).sl.ext0 he) (by omega) (by omega) (by omega) (by omega) (by omega) (by omega) (by omega) (by omega) (by omega) (by omega) (by omega) (by omega)) (by omega) (by omega) (by omega) (by omega)) rfl ?_)
      rintro _ w25 ⟨a26, c27, rfl, hN28⟩
      replace B := B.new1 hN28
      clear hN28
      have hsl29 := sel_len (wd * hi) (fun i => (fun uq vq => reachP wd hi wr x y sp uq vq) (i % wd) (i / wd))
      refine s_y (v := .slice a26 (List.length (sel (wd * hi) (fun i => (fun uq vq => reachP wd hi wr x y sp uq vq) (i % wd) (i / wd)))) c27) rfl (y_assign rfl) ?_
      refine s_y (v := .bool true) rfl (y_assign rfl) ?_
      refine s_nil ?_
      refine W_ret ?_
      refine ret2 (v1 := .slice a26 (List.length (sel (wd * hi) (fun i => (fun uq vq => reachP wd hi wr x y sp uq vq) (i % wd) (i / wd)))) c27) (v2 := .bool true) rfl rfl rfl rfl rfl ⟨_, rfl, ?_⟩
      have hcond : reachB wd hi Xsp Xls x y sp = true := by simp only [reachB, c17, c23, Bool.and_true, Bool.true_and, Bool.and_false, Bool.false_and, Bool.not_true, Bool.not_false, Bool.or_true, Bool.true_or, Bool.or_false, Bool.false_or]
      replace B : Bu w no w25 [.ow kI a26 (List.length (sel (wd * hi) (fun i => reachP wd hi wr x y sp (i % wd) (i / wd)))) c27 2 (sel (wd * hi) (fun i => reachP wd hi wr x y sp (i % wd) (i / wd))), .blk b10 [.int .i64 sp] 2, .blk b7 [.int .i64 y] 2, .blk b4 [.int .i64 x] 2, .blk b1 [.int .i64 wd, .int .i64 hi, .bool wr, .slice asp nsp csp, .slice als nls cls] 26, .rd kF asp nsp Xsp, .rd kF als nls Xls] := B.castX 0 rfl rfl rfl
      exact .inl ⟨hcond, ⟨_, _, (by rw [(show List.length (sel (wd * hi) (fun i => (fun uq vq => reachP wd hi wr x y sp uq vq) (i % wd) (i / wd))) = List.length (sel (wd * hi) (fun i => reachP wd hi wr x y sp (i % wd) (i / wd))) from rfl)]), B.give [0] rfl rfl rfl⟩⟩
    · obtain rfl : v21 = .bool false := hv22.trans (congrArg Value.bool (Bool.eq_false_iff.2 c23))
      refine s_y (v := .bool true) rfl (y_not rfl rfl) ?_
      refine s_y (v := .bool true) rfl (y_pick_f rfl rfl) ?_
      refine s_nil ?_
      refine W_if_t (by decide) rfl ?_
      refine W_seq ?_
      refine W_region (by kernel_rfl) ?_
      refine s_y (v := .slice none 0 0) rfl (y_assign rfl) ?_
      refine s_y (v := .bool false) rfl (y_assign rfl) ?_
      refine s_nil ?_
      refine W_ret ?_
      refine ret2 (v1 := .slice none 0 0) (v2 := .bool false) rfl rfl rfl rfl rfl ⟨_, rfl, ?_⟩
      exact .inr ⟨by simp only [reachB, c17, (Bool.eq_false_iff.2 c23), Bool.and_true, Bool.true_and, Bool.and_false, Bool.false_and, Bool.not_true, Bool.not_false, Bool.or_true, Bool.true_or, Bool.or_false, Bool.false_or], rfl, B.ext⟩
  · obtain rfl : v15 = .bool false := hv16.trans (congrArg Value.bool (Bool.eq_false_iff.2 c17))
    refine s_y (v := .bool true) rfl (y_not rfl rfl) ?_
    refine s_y (v := .bool true) rfl (y_move rfl) ?_
    refine s_skip rfl ?_
    refine s_skip rfl ?_
    refine s_skip rfl ?_
    refine s_y (v := .bool true) rfl (y_pick_t rfl rfl) ?_
    refine s_nil ?_
    refine W_if_t (by decide) rfl ?_
    refine W_seq ?_
    refine W_region (by kernel_rfl) ?_
    refine s_y (v := .slice none 0 0) rfl (y_assign rfl) ?_
    refine s_y (v := .bool false) rfl (y_assign rfl) ?_
    refine s_nil ?_
    refine W_ret ?_
    refine ret2 (v1 := .slice none 0 0) (v2 := .bool false) rfl rfl rfl rfl rfl ⟨_, rfl, ?_⟩
    exact .inr ⟨by simp only [reachB, (Bool.eq_false_iff.2 c17), Bool.and_true, Bool.true_and, Bool.and_false, Bool.false_and, Bool.not_true, Bool.not_false, Bool.or_true, Bool.true_or, Bool.or_false, Bool.false_or], rfl, B.ext⟩
namespace T78
theorem mx : Try.prog.follows .mixedOrders = true := by kernel_rfl
theorem agg_26_5 : aggB Try.prog 26 5 = true := by kernel_rfl
theorem fld_30_0_0 : fldB Try.prog 30 0 0 = true := by kernel_rfl
theorem fld_30_1_1 : fldB Try.prog 30 1 1 = true := by kernel_rfl
theorem fld_30_2_2 : fldB Try.prog 30 2 2 = true := by kernel_rfl
theorem fn_69 : fnB Try.prog 69 = true := by kernel_rfl
theorem one_24 : oneB Try.prog 24 = true := by kernel_rfl
theorem one_34 : oneB Try.prog 34 = true := by kernel_rfl
theorem sl_24_34_1 : slB Try.prog 24 34 1 = true := by kernel_rfl
end T78
set_option maxRecDepth 100000 in
set_option maxHeartbeats 4000000 in
theorem c_i_FarCells_1 {x : Int} {y : Int} {b1 : Nat} {wd : Int} {hi : Int} {wr : Bool} {asp : Option Addr} {nsp : Nat} {csp : Nat} {als : Option Addr} {nls : Nat} {cls : Nat} {b2 : Nat} {afe : Option Addr} {nfe : Nat} {cfe : Nat} {Xfe : List Nat} {afx : Option Addr} {nfx : Nat} {cfx : Nat} {Xfx : List Nat} {afy : Option Addr} {nfy : Nat} {cfy : Nat} {Xfy : List Nat} {w : World} (Pb1 : Sl w (some ⟨b1, 0, none⟩) [.int .i64 wd, .int .i64 hi, .bool wr, .slice asp nsp csp, .slice als nls cls]) (qfe : Rd w kF afe nfe Xfe) (qfx : Rd w kF afx nfx Xfx) (qfy : Rd w kF afy nfy Xfy) (Pb2 : Sl w (some ⟨b2, 0, none⟩) [.slice afe nfe cfe, .slice afx nfx cfx, .slice afy nfy cfy]) (h1 : 3 ≤ wd) (h2 : wd ≤ 16) (h3 : 3 ≤ hi) (h4 : hi ≤ 16) (gfe : (nfe : Int) = wd * hi) (gfx : (nfx : Int) = wd * hi) (gfy : (nfy : Int) = wd * hi) (p1 : 0 ≤ x) (p2 : x < wd) (p3 : 0 ≤ y) (p4 : y < hi) :
    Calls Try.prog 78 #[.int .i64 x, .int .i64 y, .pointer (some ⟨b1, 0, none⟩), .pointer (some ⟨b2, 0, none⟩)] w (Rt fun v w' => v = .bool (farP Xfe Xfx Xfy (atI wd hi x y)) ∧ Ext0 w w') := by
  have hlfe := qfe.len
  have hlfx := qfx.len
  have hlfy := qfy.len
  have B : Bu w no w [.sl (some ⟨b1, 0, none⟩) [.int .i64 wd, .int .i64 hi, .bool wr, .slice asp nsp csp, .slice als nls cls], .rd kF afe nfe Xfe, .rd kF afx nfx Xfx, .rd kF afy nfy Xfy, .sl (some ⟨b2, 0, none⟩) [.slice afe nfe cfe, .slice afx nfx cfx, .slice afy nfy cfy]] := Bu.ro (All.cons Pb1 (All.cons qfe (All.cons qfx (All.cons qfy (All.cons Pb2 All.nil))))) rfl
  refine calls_W (n := 34) Try.func78 rfl rfl (Nat.le_of_ble_eq_true rfl) ?_
  refine W_seq ?_
  refine W_region (by kernel_rfl) ?_
  refine s_y (v := .bool false) rfl (y_assign rfl) ?_
  refine s_nil ?_
  refine W_seq ?_
  refine W_region (by kernel_rfl) ?_
  refine s_y (v := .agg #[.int .i64 wd, .int .i64 hi, .bool wr, .slice asp nsp csp, .slice als nls cls]) rfl (y_loadO (o := 0) (k := 0) (vs := [.int .i64 wd, .int .i64 hi, .bool wr, .slice asp nsp csp, .slice als nls cls]) T78.agg_26_5 rfl rfl (B.s 0 rfl) rfl) ?_
  refine s_y (v := .int .i64 x) rfl (y_move rfl) ?_
  refine s_y (v := .int .i64 y) rfl (y_move rfl) ?_
  refine s_k rfl (k_call T78.fn_69 (c_i_at (by omega) (by omega) (by omega) (by omega) (by omega) (by omega) (by omega) (by omega)) rfl ?_)
  rintro _ w1 ⟨rfl, e2⟩
  replace B := B.ext0 e2
  clear e2
  have hat3 := atI_b (wd := wd) (hi := hi) (x := x) (y := y) (by omega) (by omega)
  refine s_y (v := .int .i64 (atI wd hi x y)) rfl (y_assign rfl) ?_
  refine s_nil ?_
  refine W_seq ?_
  refine W_region (by kernel_rfl) ?_
  refine s_y (v := .pointer (some ⟨b2, 0, none⟩)) rfl (y_fld (o := 0 + 0) T78.fld_30_0_0 rfl) ?_
  refine s_y (v := .slice afe nfe cfe) rfl (y_load T78.one_24 rfl ((B.s 4 rfl).cell (j := 0) rfl)) ?_
  refine s_y (v := .int .i64 (atI wd hi x y)) rfl (y_move rfl) ?_
  refine s_y (v := .pointer (some (sat afe ((atI wd hi x y).toNat * 1)))) rfl (y_idx T78.sl_24_34_1 rfl rfl ((B.r 1 rfl).addr (by omega)) (by omega) (by omega)) ?_
  obtain ⟨r5, hr6, hR4⟩ := Rd.atF (B.r 1 rfl) (atI wd hi x y) (by omega) (by omega)
  refine s_y (v := .float .f32 r5) rfl (y_load T78.one_34 rfl (hR4.cell (i := 0) rfl)) ?_
  by_cases c7 : feq .f32 (el Xfe (atI wd hi x y)) 0 = true
  · refine s_y (v := .bool true) rfl (y_feql rfl rfl (feqC hr6 (cnLit (k := .f32) (t := 0) (by kernel_rfl) (by kernel_rfl)) c7)) ?_
    refine s_y (v := .bool true) rfl (y_move rfl) ?_
    refine s_y (v := .pointer (some ⟨b2, 0 + 1, none⟩)) rfl (y_fld (o := 0 + 0) T78.fld_30_1_1 rfl) ?_
    refine s_y (v := .slice afx nfx cfx) rfl (y_load T78.one_24 rfl ((B.s 4 rfl).cell (j := 1) rfl)) ?_
    refine s_y (v := .int .i64 (atI wd hi x y)) rfl (y_move rfl) ?_
    refine s_y (v := .pointer (some (sat afx ((atI wd hi x y).toNat * 1)))) rfl (y_idx T78.sl_24_34_1 rfl rfl ((B.r 2 rfl).addr (by omega)) (by omega) (by omega)) ?_
    obtain ⟨r9, hr10, hR8⟩ := Rd.atF (B.r 2 rfl) (atI wd hi x y) (by omega) (by omega)
    refine s_y (v := .float .f32 r9) rfl (y_load T78.one_34 rfl (hR8.cell (i := 0) rfl)) ?_
    by_cases c11 : feq .f32 (el Xfx (atI wd hi x y)) 0 = true
    · refine s_y (v := .bool true) rfl (y_feql rfl rfl (feqC hr10 (cnLit (k := .f32) (t := 0) (by kernel_rfl) (by kernel_rfl)) c11)) ?_
      refine s_y (v := .bool true) rfl (y_pick_t rfl rfl) ?_
      refine s_y (v := .bool true) rfl (y_move rfl) ?_
      refine s_y (v := .pointer (some ⟨b2, 0 + 2, none⟩)) rfl (y_fld (o := 0 + 0) T78.fld_30_2_2 rfl) ?_
      refine s_y (v := .slice afy nfy cfy) rfl (y_load T78.one_24 rfl ((B.s 4 rfl).cell (j := 2) rfl)) ?_
      refine s_y (v := .int .i64 (atI wd hi x y)) rfl (y_move rfl) ?_
      refine s_y (v := .pointer (some (sat afy ((atI wd hi x y).toNat * 1)))) rfl (y_idx T78.sl_24_34_1 rfl rfl ((B.r 3 rfl).addr (by omega)) (by omega) (by omega)) ?_
      obtain ⟨r13, hr14, hR12⟩ := Rd.atF (B.r 3 rfl) (atI wd hi x y) (by omega) (by omega)
      refine s_y (v := .float .f32 r13) rfl (y_load T78.one_34 rfl (hR12.cell (i := 0) rfl)) ?_
      by_cases c15 : feq .f32 (el Xfy (atI wd hi x y)) 0 = true
      · refine s_y (v := .bool true) rfl (y_feql rfl rfl (feqC hr14 (cnLit (k := .f32) (t := 0) (by kernel_rfl) (by kernel_rfl)) c15)) ?_
        refine s_y (v := .bool true) rfl (y_pick_t rfl rfl) ?_
        refine s_y (v := .bool true) rfl (y_assign rfl) ?_
        refine s_nil ?_
        refine W_ret ?_
        refine ret1 (v := .bool true) rfl rfl rfl ⟨_, rfl, ?_⟩
        exact ⟨congrArg Value.bool (by simp only [farP, c7, c11, c15, Bool.and_true, Bool.true_and, Bool.and_false, Bool.false_and, Bool.not_true, Bool.not_false, Bool.or_true, Bool.true_or, Bool.or_false, Bool.false_or]), B.ext⟩
      · refine s_y (v := .bool false) rfl (y_feql rfl rfl (feqC hr14 (cnLit (k := .f32) (t := 0) (by kernel_rfl) (by kernel_rfl)) (Bool.eq_false_iff.2 c15))) ?_
        refine s_y (v := .bool false) rfl (y_pick_t rfl rfl) ?_
        refine s_y (v := .bool false) rfl (y_assign rfl) ?_
        refine s_nil ?_
        refine W_ret ?_
        refine ret1 (v := .bool false) rfl rfl rfl ⟨_, rfl, ?_⟩
        exact ⟨congrArg Value.bool (by simp only [farP, c7, c11, (Bool.eq_false_iff.2 c15), Bool.and_true, Bool.true_and, Bool.and_false, Bool.false_and, Bool.not_true, Bool.not_false, Bool.or_true, Bool.true_or, Bool.or_false, Bool.false_or]), B.ext⟩
    · refine s_y (v := .bool false) rfl (y_feql rfl rfl (feqC hr10 (cnLit (k := .f32) (t := 0) (by kernel_rfl) (by kernel_rfl)) (Bool.eq_false_iff.2 c11))) ?_
      refine s_y (v := .bool false) rfl (y_pick_t rfl rfl) ?_
      refine s_y (v := .bool false) rfl (y_move rfl) ?_
      refine s_skip rfl ?_
      refine s_skip rfl ?_
      refine s_skip rfl ?_
      refine s_skip rfl ?_
      refine s_skip rfl ?_
      refine s_skip rfl ?_
      refine s_y (v := .bool false) rfl (y_pick_f rfl rfl) ?_
      refine s_y (v := .bool false) rfl (y_assign rfl) ?_
      refine s_nil ?_
      refine W_ret ?_
      refine ret1 (v := .bool false) rfl rfl rfl ⟨_, rfl, ?_⟩
      exact ⟨congrArg Value.bool (by simp only [farP, c7, (Bool.eq_false_iff.2 c11), Bool.and_true, Bool.true_and, Bool.and_false, Bool.false_and, Bool.not_true, Bool.not_false, Bool.or_true, Bool.true_or, Bool.or_false, Bool.false_or]), B.ext⟩
  · refine s_y (v := .bool false) rfl (y_feql rfl rfl (feqC hr6 (cnLit (k := .f32) (t := 0) (by kernel_rfl) (by kernel_rfl)) (Bool.eq_false_iff.2 c7))) ?_
    refine s_y (v := .bool false) rfl (y_move rfl) ?_
    refine s_skip rfl ?_
    refine s_skip rfl ?_
    refine s_skip rfl ?_
    refine s_skip rfl ?_
    refine s_skip rfl ?_
    refine s_skip rfl ?_
    refine s_y (v := .bool false) rfl (y_pick_f rfl rfl) ?_
    refine s_y (v := .bool false) rfl (y_move rfl) ?_
    refine s_skip rfl ?_
    refine s_skip rfl ?_
    refine s_skip rfl ?_
    refine s_skip rfl ?_
    refine s_skip rfl ?_
    refine s_skip rfl ?_
    refine s_y (v := .bool false) rfl (y_pick_f rfl rfl) ?_
    refine s_y (v := .bool false) rfl (y_assign rfl) ?_
    refine s_nil ?_
    refine W_ret ?_
    refine ret1 (v := .bool false) rfl rfl rfl ⟨_, rfl, ?_⟩
    exact ⟨congrArg Value.bool (by simp only [farP, (Bool.eq_false_iff.2 c7), Bool.and_true, Bool.true_and, Bool.and_false, Bool.false_and, Bool.not_true, Bool.not_false, Bool.or_true, Bool.true_or, Bool.or_false, Bool.false_or]), B.ext⟩
namespace T19
theorem mx : Try.prog.follows .mixedOrders = true := by kernel_rfl
theorem agg_26_5 : aggB Try.prog 26 5 = true := by kernel_rfl
theorem agg_30_3 : aggB Try.prog 30 3 = true := by kernel_rfl
theorem fn_41 : fnB Try.prog 41 = true := by kernel_rfl
theorem fn_75 : fnB Try.prog 75 = true := by kernel_rfl
theorem fn_78 : fnB Try.prog 78 = true := by kernel_rfl
end T19
set_option maxRecDepth 100000 in
set_option maxHeartbeats 4000000 in
theorem c_i_FarCells {wd : Int} {hi : Int} {wr : Bool} {asp : Option Addr} {nsp : Nat} {csp : Nat} {Xsp : List Nat} {als : Option Addr} {nls : Nat} {cls : Nat} {Xls : List Nat} {afe : Option Addr} {nfe : Nat} {cfe : Nat} {Xfe : List Nat} {afx : Option Addr} {nfx : Nat} {cfx : Nat} {Xfx : List Nat} {afy : Option Addr} {nfy : Nat} {cfy : Nat} {Xfy : List Nat} {w : World} (qsp : Rd w kF asp nsp Xsp) (qls : Rd w kF als nls Xls) (qfe : Rd w kF afe nfe Xfe) (qfx : Rd w kF afx nfx Xfx) (qfy : Rd w kF afy nfy Xfy) (hbsp : nsp ≤ 9223372036854775806) (hbls : nls ≤ 9223372036854775806) (hbfe : nfe ≤ 9223372036854775806) (hbfx : nfx ≤ 9223372036854775806) (hbfy : nfy ≤ 9223372036854775806) :
    Calls Try.prog 19 #[.agg #[.int .i64 wd, .int .i64 hi, .bool wr, .slice asp nsp csp, .slice als nls cls], .agg #[.slice afe nfe cfe, .slice afx nfx cfx, .slice afy nfy cfy]] w (Rt fun v w' => (fieldB wd hi wr Xsp Xls Xfe Xfx Xfy = true ∧ ∃ (a1 : Option Addr) (c1 : Nat), v = .tuple #[.slice a1 (List.length (sel (wd * hi) (farP Xfe Xfx Xfy))) c1, .bool true] ∧ New w w' [.ow kI a1 (List.length (sel (wd * hi) (farP Xfe Xfx Xfy))) c1 2 (sel (wd * hi) (farP Xfe Xfx Xfy))]) ∨ (fieldB wd hi wr Xsp Xls Xfe Xfx Xfy = false ∧ v = .tuple #[.slice none 0 0, .bool false] ∧ Ext0 w w')) := by
  have hlsp := qsp.len
  have hlls := qls.len
  have hlfe := qfe.len
  have hlfx := qfx.len
  have hlfy := qfy.len
  have B : Bu w no w [.rd kF asp nsp Xsp, .rd kF als nls Xls, .rd kF afe nfe Xfe, .rd kF afx nfx Xfx, .rd kF afy nfy Xfy] := Bu.ro (All.cons qsp (All.cons qls (All.cons qfe (All.cons qfx (All.cons qfy All.nil))))) rfl
  refine calls_W (n := 13) Try.func19 rfl rfl (Nat.le_of_ble_eq_true rfl) ?_
  refine W_seq ?_
  refine W_region (by kernel_rfl) ?_
  refine s_k rfl (k_boxN (v := .agg #[.int .i64 wd, .int .i64 hi, .bool wr, .slice asp nsp csp, .slice als nls cls]) (cs := [.int .i64 wd, .int .i64 hi, .bool wr, .slice asp nsp csp, .slice als nls cls]) rfl rfl (fun b1 w2 hN3 => ?_))
  replace B := B.new1 hN3
  clear hN3
  refine s_k rfl (k_boxN (v := .agg #[.slice afe nfe cfe, .slice afx nfx cfx, .slice afy nfy cfy]) (cs := [.slice afe nfe cfe, .slice afx nfx cfx, .slice afy nfy cfy]) rfl rfl (fun b4 w5 hN6 => ?_))
  replace B := B.new1 hN6
  clear hN6
  refine s_y (v := .slice none 0 0) rfl (y_assign rfl) ?_
  refine s_y (v := .bool false) rfl (y_assign rfl) ?_
  refine s_nil ?_
  refine W_seq ?_
  refine W_seq ?_
  refine W_region (by kernel_rfl) ?_
  refine s_y (v := .agg #[.int .i64 wd, .int .i64 hi, .bool wr, .slice asp nsp csp, .slice als nls cls]) rfl (y_loadn (b := b1) (o := 0) (vs := [.int .i64 wd, .int .i64 hi, .bool wr, .slice asp nsp csp, .slice als nls cls]) T19.agg_26_5 rfl rfl ((B.b 1 rfl).cells (o := 0) rfl)) ?_
  refine s_y (v := .agg #[.slice afe nfe cfe, .slice afx nfx cfx, .slice afy nfy cfy]) rfl (y_loadn (b := b4) (o := 0) (vs := [.slice afe nfe cfe, .slice afx nfx cfx, .slice afy nfy cfy]) T19.agg_30_3 rfl rfl ((B.b 0 rfl).cells (o := 0) rfl)) ?_
  refine s_k rfl (k_call T19.fn_41 (c_i_IsField (B.r 2 rfl) (B.r 3 rfl) (B.r 4 rfl) (B.r 5 rfl) (B.r 6 rfl) (by omega) (by omega) (by omega) (by omega) (by omega)) rfl ?_)
  rintro v9 w7 ⟨hv10, e8⟩
  replace B := B.ext0 e8
  clear e8
  by_cases c11 : fieldB wd hi wr Xsp Xls Xfe Xfx Xfy = true
  · have hb12 := fieldB_b c11
    obtain rfl : v9 = .bool true := hv10.trans (congrArg Value.bool c11)
    refine s_y (v := .bool false) rfl (y_not rfl rfl) ?_
    refine s_nil ?_
    refine W_if_f (by decide) rfl ?_
    refine W_skip ?_
    refine W_seq ?_
    refine W_region (by kernel_rfl) ?_
    refine s_y (v := .agg #[.int .i64 wd, .int .i64 hi, .bool wr, .slice asp nsp csp, .slice als nls cls]) rfl (y_loadn (b := b1) (o := 0) (vs := [.int .i64 wd, .int .i64 hi, .bool wr, .slice asp nsp csp, .slice als nls cls]) T19.agg_26_5 rfl rfl ((B.b 1 rfl).cells (o := 0) rfl)) ?_
    refine s_y (v := .func (.func 78) #[] #[.pointer (some ⟨b1, 0, none⟩), .pointer (some ⟨b4, 0, none⟩)]) rfl (y_func rfl rfl) ?_
    refine s_k rfl (k_call T19.fn_75 (c_i_cellsBy (f := 78) (us := []) (xs := [.pointer (some ⟨b1, 0, none⟩), .pointer (some ⟨b4, 0, none⟩)]) (FP := (fun xq yq => farP Xfe Xfx Xfy (atI wd hi xq yq))) T19.fn_78 (fun xq yq w1 he h0 h1 h2 h3 => c_i_FarCells_1  ((B.b 1 rfl).sl.ext0 he) ((B.r 4 rfl).ext0 he) ((B.r 5 rfl).ext0 he) ((B.r 6 rfl).ext0 he) ((B.b 0 rfl).sl.ext0 he) (by omega) (by omega) (by omega) (by omega) (by omega) (by omega) (by omega) (by omega) (by omega) (by omega) (by omega)) (by omega) (by omega) (by omega) (by omega)) rfl ?_)
    rintro _ w13 ⟨a14, c15, rfl, hN16⟩
    replace B := B.new1 hN16
    clear hN16
    have hsl17 := sel_len (wd * hi) (fun i => (fun xq yq => farP Xfe Xfx Xfy (atI wd hi xq yq)) (i % wd) (i / wd))
    refine s_y (v := .slice a14 (List.length (sel (wd * hi) (fun i => (fun xq yq => farP Xfe Xfx Xfy (atI wd hi xq yq)) (i % wd) (i / wd)))) c15) rfl (y_assign rfl) ?_
    refine s_y (v := .bool true) rfl (y_assign rfl) ?_
    refine s_nil ?_
    refine W_ret ?_
    refine ret2 (v1 := .slice a14 (List.length (sel (wd * hi) (fun i => (fun xq yq => farP Xfe Xfx Xfy (atI wd hi xq yq)) (i % wd) (i / wd)))) c15) (v2 := .bool true) rfl rfl rfl rfl rfl ⟨_, rfl, ?_⟩
    have hcond : fieldB wd hi wr Xsp Xls Xfe Xfx Xfy = true := by simp only [c11, Bool.and_true, Bool.true_and, Bool.and_false, Bool.false_and, Bool.not_true, Bool.not_false, Bool.or_true, Bool.true_or, Bool.or_false, Bool.false_or]
    have hsel : sel (wd * hi) (fun i => (fun xq yq => farP Xfe Xfx Xfy (atI wd hi xq yq)) (i % wd) (i / wd)) = sel (wd * hi) (farP Xfe Xfx Xfy) := sel_ext fun i h0 h1 => by have hz := row_of (wd := wd) (hi := hi) (i := i) h0 h1 (by omega); simp only [atI_in (wd := wd) (hi := hi) hz.1.1 hz.1.2 hz.2.1.1 hz.2.1.2, hz.2.2]
    replace B : Bu w no w13 [.ow kI a14 (List.length (sel (wd * hi) (farP Xfe Xfx Xfy))) c15 2 (sel (wd * hi) (farP Xfe Xfx Xfy)), .blk b4 [.slice afe nfe cfe, .slice afx nfx cfx, .slice afy nfy cfy] 30, .blk b1 [.int .i64 wd, .int .i64 hi, .bool wr, .slice asp nsp csp, .slice als nls cls] 26, .rd kF asp nsp Xsp, .rd kF als nls Xls, .rd kF afe nfe Xfe, .rd kF afx nfx Xfx, .rd kF afy nfy Xfy] := B.castX 0 rfl (congrArg List.length hsel) hsel
    exact .inl ⟨hcond, ⟨_, _, (by rw [(show List.length (sel (wd * hi) (fun i => (fun xq yq => farP Xfe Xfx Xfy (atI wd hi xq yq)) (i % wd) (i / wd))) = List.length (sel (wd * hi) (farP Xfe Xfx Xfy)) from (congrArg List.length hsel))]), B.give [0] rfl rfl rfl⟩⟩
  · obtain rfl : v9 = .bool false := hv10.trans (congrArg Value.bool (Bool.eq_false_iff.2 c11))
    refine s_y (v := .bool true) rfl (y_not rfl rfl) ?_
    refine s_nil ?_
    refine W_if_t (by decide) rfl ?_
    refine W_seq ?_
    refine W_region (by kernel_rfl) ?_
    refine s_y (v := .slice none 0 0) rfl (y_assign rfl) ?_
    refine s_y (v := .bool false) rfl (y_assign rfl) ?_
    refine s_nil ?_
    refine W_ret ?_
    refine ret2 (v1 := .slice none 0 0) (v2 := .bool false) rfl rfl rfl rfl rfl ⟨_, rfl, ?_⟩
    exact .inr ⟨by simp only [(Bool.eq_false_iff.2 c11), Bool.and_true, Bool.true_and, Bool.and_false, Bool.false_and, Bool.not_true, Bool.not_false, Bool.or_true, Bool.true_or, Bool.or_false, Bool.false_or], rfl, B.ext⟩
namespace T121
theorem mx : Try.prog.follows .mixedOrders = true := by kernel_rfl
end T121
set_option maxRecDepth 100000 in
set_option maxHeartbeats 4000000 in
theorem c_s_l00Min {a : Int} {b : Int} {w : World} :
    Calls Try.prog 121 #[.int .i64 a, .int .i64 b] w (Rt fun v w' => v = .int .i64 (min a b) ∧ Ext0 w w') := by
  have B : Bu w no w [] := Bu.ro All.nil rfl
  refine calls_W (n := 10) Try.func121 rfl rfl (Nat.le_of_ble_eq_true rfl) ?_
  refine W_seq ?_
  refine W_region (by kernel_rfl) ?_
  refine s_y (v := .int .i64 0) rfl (y_assign rfl) ?_
  refine s_nil ?_
  refine W_seq ?_
  refine W_seq ?_
  refine W_region (by kernel_rfl) ?_
  refine s_y (v := .int .i64 a) rfl (y_move rfl) ?_
  refine s_y (v := .int .i64 b) rfl (y_move rfl) ?_
  by_cases c1 : a < b
  · refine s_y (v := .bool true) rfl (y_lss rfl rfl (decide_eq_true c1)) ?_
    refine s_nil ?_
    refine W_if_t (by decide) rfl ?_
    refine W_seq ?_
    refine W_region (by kernel_rfl) ?_
    refine s_y (v := .int .i64 a) rfl (y_move rfl) ?_
    refine s_y (v := .int .i64 a) rfl (y_assign rfl) ?_
    refine s_nil ?_
    refine W_ret ?_
    refine ret1 (v := .int .i64 a) rfl rfl rfl ⟨_, rfl, ?_⟩
    exact ⟨congrArg (Value.int .i64) (by omega), B.ext⟩
  · refine s_y (v := .bool false) rfl (y_lss rfl rfl (decide_eq_false c1)) ?_
    refine s_nil ?_
    refine W_if_f (by decide) rfl ?_
    refine W_skip ?_
    refine W_seq ?_
    refine W_region (by kernel_rfl) ?_
    refine s_y (v := .int .i64 b) rfl (y_move rfl) ?_
    refine s_y (v := .int .i64 b) rfl (y_assign rfl) ?_
    refine s_nil ?_
    refine W_ret ?_
    refine ret1 (v := .int .i64 b) rfl rfl rfl ⟨_, rfl, ?_⟩
    exact ⟨congrArg (Value.int .i64) (by omega), B.ext⟩
namespace T120
theorem mx : Try.prog.follows .mixedOrders = true := by kernel_rfl
end T120
set_option maxRecDepth 100000 in
set_option maxHeartbeats 4000000 in
theorem c_s_l00Max {a : Int} {b : Int} {w : World} :
    Calls Try.prog 120 #[.int .i64 a, .int .i64 b] w (Rt fun v w' => v = .int .i64 (max a b) ∧ Ext0 w w') := by
  have B : Bu w no w [] := Bu.ro All.nil rfl
  refine calls_W (n := 10) Try.func120 rfl rfl (Nat.le_of_ble_eq_true rfl) ?_
  refine W_seq ?_
  refine W_region (by kernel_rfl) ?_
  refine s_y (v := .int .i64 0) rfl (y_assign rfl) ?_
  refine s_nil ?_
  refine W_seq ?_
  refine W_seq ?_
  refine W_region (by kernel_rfl) ?_
  refine s_y (v := .int .i64 a) rfl (y_move rfl) ?_
  refine s_y (v := .int .i64 b) rfl (y_move rfl) ?_
  by_cases c1 : b < a
  · refine s_y (v := .bool true) rfl (y_gtr rfl rfl (decide_eq_true c1)) ?_
    refine s_nil ?_
    refine W_if_t (by decide) rfl ?_
    refine W_seq ?_
    refine W_region (by kernel_rfl) ?_
    refine s_y (v := .int .i64 a) rfl (y_move rfl) ?_
    refine s_y (v := .int .i64 a) rfl (y_assign rfl) ?_
    refine s_nil ?_
    refine W_ret ?_
    refine ret1 (v := .int .i64 a) rfl rfl rfl ⟨_, rfl, ?_⟩
    exact ⟨congrArg (Value.int .i64) (by omega), B.ext⟩
  · refine s_y (v := .bool false) rfl (y_gtr rfl rfl (decide_eq_false c1)) ?_
    refine s_nil ?_
    refine W_if_f (by decide) rfl ?_
    refine W_skip ?_
    refine W_seq ?_
    refine W_region (by kernel_rfl) ?_
    refine s_y (v := .int .i64 b) rfl (y_move rfl) ?_
    refine s_y (v := .int .i64 b) rfl (y_assign rfl) ?_
    refine s_nil ?_
    refine W_ret ?_
    refine ret1 (v := .int .i64 b) rfl rfl rfl ⟨_, rfl, ?_⟩
    exact ⟨congrArg (Value.int .i64) (by omega), B.ext⟩
namespace T92
theorem mx : Try.prog.follows .mixedOrders = true := by kernel_rfl
theorem agg_30_3 : aggB Try.prog 30 3 = true := by kernel_rfl
theorem slt_24 : SlT Try.prog 24 34 1 4 (.float .f32 0) := ⟨by kernel_rfl, by kernel_rfl, rfl, by decide⟩
theorem sz_30_3 : szB Try.prog 30 3 = true := by kernel_rfl
theorem zero_30 : zeroB Try.prog 30 (.agg #[.slice none 0 0, .slice none 0 0, .slice none 0 0]) := by unfold zeroB; kernel_rfl
end T92
set_option maxRecDepth 100000 in
set_option maxHeartbeats 4000000 in
theorem c_s_l02Zero {n : Int} {w : World} (n0 : 0 ≤ n) (n1 : n ≤ 100000) :
    Calls Try.prog 92 #[.int .i64 n] w (Rt fun v w' => ∃ (a1 : Option Addr) (c1 : Nat) (a2 : Option Addr) (c2 : Nat) (a3 : Option Addr) (c3 : Nat), v = .agg #[.slice a1 (Int.toNat n) c1, .slice a2 (Int.toNat n) c2, .slice a3 (Int.toNat n) c3] ∧ New w w' [.ow kF a1 (Int.toNat n) c1 34 (List.replicate (Int.toNat n) 0), .ow kF a2 (Int.toNat n) c2 34 (List.replicate (Int.toNat n) 0), .ow kF a3 (Int.toNat n) c3 34 (List.replicate (Int.toNat n) 0)]) := by
  have B : Bu w no w [] := Bu.ro All.nil rfl
  refine calls_W (n := 10) Try.func92 rfl rfl (Nat.le_of_ble_eq_true rfl) ?_
  refine W_seq ?_
  refine W_region (by kernel_rfl) ?_
  refine s_k rfl (k_allocN (z := (.agg #[.slice none 0 0, .slice none 0 0, .slice none 0 0])) (cs := [.slice none 0 0, .slice none 0 0, .slice none 0 0]) T92.zero_30 rfl (fun b1 w2 hN3 => ?_))
  replace B := B.new1 hN3
  clear hN3
  refine s_nil ?_
  refine W_seq ?_
  have B0_6 := B
  refine W_drawI (no) (fun ρ' w' => (∃ (ρ1 : Env) (b14 : Nat) (b21 : Nat) (b24 : Nat), ρ' = updL ρ1 [(2, .pointer (some ⟨b1, 0, none⟩))] ∧ Bu w no w' [.ow kF (some ⟨b14, 0, none⟩) ((n).toNat) ((n).toNat) 34 (List.replicate (n).toNat 0), .ow kF (some ⟨b21, 0, none⟩) ((n).toNat) ((n).toNat) 34 (List.replicate (n).toNat 0), .ow kF (some ⟨b24, 0, none⟩) ((n).toNat) ((n).toNat) 34 (List.replicate (n).toNat 0), .blk b1 [.slice (some ⟨b14, 0, none⟩) ((n).toNat) ((n).toNat), .slice (some ⟨b21, 0, none⟩) ((n).toNat) ((n).toNat), .slice (some ⟨b24, 0, none⟩) ((n).toNat) ((n).toNat)] 30])) T92.mx (by kernel_rfl) (fun w4 e5 => ?_) ?_
  · have R7 := Ext.refl (no) w2
    replace R7 := R7.trans (Ext0.any e5)
    replace B := B.ext0 e5
    clear e5
    refine m_y (v := .int .i64 n) 0 rfl (by kernel_rfl) rfl rfl (fun w' e' => y_move rfl) ?_
    refine m_y (v := .int .i64 n) 2 rfl (by kernel_rfl) rfl rfl (fun w' e' => y_move rfl) ?_
    refine m_y (v := .int .i64 n) 4 rfl (by kernel_rfl) rfl rfl (fun w' e' => y_move rfl) ?_
    refine m_three 1 3 5 (by kernel_rfl) rfl rfl rfl rfl rfl rfl rfl rfl rfl (fun w8 e9 => ?_) (fun w10 e11 => ?_) (fun w12 e13 => ?_)
    · replace R7 := R7.trans (Ext0.any e9)
      replace B := B.ext0 e9
      clear e9
      refine k_mkO (k := kF) (z0 := 0) T92.slt_24 ⟨0, rfl, cn_zero⟩ rfl rfl (by omega) (by omega) (by omega) (fun b14 w15 hN16 => ?_)
      replace R7 := R7.trans (Ext0.any hN16.ext)
      replace B := B.new1 hN16
      clear hN16
      refine ⟨fun _ => R7, ?_⟩
      refine m_two 3 5 (by kernel_rfl) rfl rfl rfl rfl rfl rfl (fun w17 e18 => ?_) (fun w19 e20 => ?_)
      · replace R7 := R7.trans (Ext0.any e18)
        replace B := B.ext0 e18
        clear e18
        refine k_mkO (k := kF) (z0 := 0) T92.slt_24 ⟨0, rfl, cn_zero⟩ rfl rfl (by omega) (by omega) (by omega) (fun b21 w22 hN23 => ?_)
        replace R7 := R7.trans (Ext0.any hN23.ext)
        replace B := B.new1 hN23
        clear hN23
        refine ⟨fun _ => R7, ?_⟩
        refine m_k 5 [6, 7] rfl (by kernel_rfl) rfl rfl (fun w27 e28 => ?_)
        replace R7 := R7.trans (Ext0.any e28)
        replace B := B.ext0 e28
        clear e28
        refine k_mkO (k := kF) (z0 := 0) T92.slt_24 ⟨0, rfl, cn_zero⟩ rfl rfl (by omega) (by omega) (by omega) (fun b24 w25 hN26 => ?_)
        replace R7 := R7.trans (Ext0.any hN26.ext)
        replace B := B.new1 hN26
        clear hN26
        refine ⟨fun _ => R7, ?_⟩
        refine m_y (v := .agg #[.slice (some ⟨b14, 0, none⟩) ((n).toNat) ((n).toNat), .slice (some ⟨b21, 0, none⟩) ((n).toNat) ((n).toNat), .slice (some ⟨b24, 0, none⟩) ((n).toNat) ((n).toNat)]) 6 rfl (by kernel_rfl) rfl rfl (fun w' e' => y_build (cells := #[.slice (some ⟨b14, 0, none⟩) ((n).toNat) ((n).toNat), .slice (some ⟨b21, 0, none⟩) ((n).toNat) ((n).toNat), .slice (some ⟨b24, 0, none⟩) ((n).toNat) ((n).toNat)]) (by kernel_rfl)) ?_
        refine m_kt 7 [] rfl (by kernel_rfl) rfl rfl (by kernel_rfl) (fun w31 e32 => ?_)
        replace R7 := R7.trans (Ext0.any e32)
        replace B := B.ext0 e32
        clear e32
        refine k_stB (v := .agg #[.slice (some ⟨b14, 0, none⟩) ((n).toNat) ((n).toNat), .slice (some ⟨b21, 0, none⟩) ((n).toNat) ((n).toNat), .slice (some ⟨b24, 0, none⟩) ((n).toNat) ((n).toNat)]) (n := 3) (cs' := [.slice (some ⟨b14, 0, none⟩) ((n).toNat) ((n).toNat), .slice (some ⟨b21, 0, none⟩) ((n).toNat) ((n).toNat), .slice (some ⟨b24, 0, none⟩) ((n).toNat) ((n).toNat)]) T92.sz_30_3 rfl rfl rfl (B.b 3 rfl) (by simp [Value.cells, Value.oneCell']) (Nat.le_of_ble_eq_true rfl) rfl (fun w29 hU30 => ?_)
        clear R7
        replace B : Bu w no w29 [.blk b1 [.slice (some ⟨b14, 0, none⟩) ((n).toNat) ((n).toNat), .slice (some ⟨b21, 0, none⟩) ((n).toNat) ((n).toNat), .slice (some ⟨b24, 0, none⟩) ((n).toNat) ((n).toNat)] 30, .ow kF (some ⟨b24, 0, none⟩) ((n).toNat) ((n).toNat) 34 (List.replicate (n).toNat 0), .ow kF (some ⟨b21, 0, none⟩) ((n).toNat) ((n).toNat) 34 (List.replicate (n).toNat 0), .ow kF (some ⟨b14, 0, none⟩) ((n).toNat) ((n).toNat) 34 (List.replicate (n).toNat 0)] := B.upd [3] rfl hU30
        clear hU30
        refine m_done (by kernel_rfl) (fun w33 e34 => ?_)
        replace B := B.ext0 e34
        clear e34
        clear B0_6
        exact ⟨_, b14, b21, b24, Fits.eq ⟨rfl, trivial⟩, B.pick [3, 2, 1, 0] rfl rfl⟩
      · replace R7 := R7.trans (Ext0.any e20)
        replace B := B.ext0 e20
        clear e20
        refine k_mkO (k := kF) (z0 := 0) T92.slt_24 ⟨0, rfl, cn_zero⟩ rfl rfl (by omega) (by omega) (by omega) (fun b35 w36 hN37 => ?_)
        replace R7 := R7.trans (Ext0.any hN37.ext)
        replace B := B.new1 hN37
        clear hN37
        refine ⟨fun _ => R7, ?_⟩
        refine m_k 3 [6, 7] rfl (by kernel_rfl) rfl rfl (fun w41 e42 => ?_)
        replace R7 := R7.trans (Ext0.any e42)
        replace B := B.ext0 e42
        clear e42
        refine k_mkO (k := kF) (z0 := 0) T92.slt_24 ⟨0, rfl, cn_zero⟩ rfl rfl (by omega) (by omega) (by omega) (fun b38 w39 hN40 => ?_)
        replace R7 := R7.trans (Ext0.any hN40.ext)
        replace B := B.new1 hN40
        clear hN40
        refine ⟨fun _ => R7, ?_⟩
        refine m_y (v := .agg #[.slice (some ⟨b14, 0, none⟩) ((n).toNat) ((n).toNat), .slice (some ⟨b38, 0, none⟩) ((n).toNat) ((n).toNat), .slice (some ⟨b35, 0, none⟩) ((n).toNat) ((n).toNat)]) 6 rfl (by kernel_rfl) rfl rfl (fun w' e' => y_build (cells := #[.slice (some ⟨b14, 0, none⟩) ((n).toNat) ((n).toNat), .slice (some ⟨b38, 0, none⟩) ((n).toNat) ((n).toNat), .slice (some ⟨b35, 0, none⟩) ((n).toNat) ((n).toNat)]) (by kernel_rfl)) ?_
        refine m_kt 7 [] rfl (by kernel_rfl) rfl rfl (by kernel_rfl) (fun w45 e46 => ?_)
        replace R7 := R7.trans (Ext0.any e46)
        replace B := B.ext0 e46
        clear e46
        refine k_stB (v := .agg #[.slice (some ⟨b14, 0, none⟩) ((n).toNat) ((n).toNat), .slice (some ⟨b38, 0, none⟩) ((n).toNat) ((n).toNat), .slice (some ⟨b35, 0, none⟩) ((n).toNat) ((n).toNat)]) (n := 3) (cs' := [.slice (some ⟨b14, 0, none⟩) ((n).toNat) ((n).toNat), .slice (some ⟨b38, 0, none⟩) ((n).toNat) ((n).toNat), .slice (some ⟨b35, 0, none⟩) ((n).toNat) ((n).toNat)]) T92.sz_30_3 rfl rfl rfl (B.b 3 rfl) (by simp [Value.cells, Value.oneCell']) (Nat.le_of_ble_eq_true rfl) rfl (fun w43 hU44 => ?_)
        clear R7
        replace B : Bu w no w43 [.blk b1 [.slice (some ⟨b14, 0, none⟩) ((n).toNat) ((n).toNat), .slice (some ⟨b38, 0, none⟩) ((n).toNat) ((n).toNat), .slice (some ⟨b35, 0, none⟩) ((n).toNat) ((n).toNat)] 30, .ow kF (some ⟨b38, 0, none⟩) ((n).toNat) ((n).toNat) 34 (List.replicate (n).toNat 0), .ow kF (some ⟨b35, 0, none⟩) ((n).toNat) ((n).toNat) 34 (List.replicate (n).toNat 0), .ow kF (some ⟨b14, 0, none⟩) ((n).toNat) ((n).toNat) 34 (List.replicate (n).toNat 0)] := B.upd [3] rfl hU44
        clear hU44
        refine m_done (by kernel_rfl) (fun w47 e48 => ?_)
        replace B := B.ext0 e48
        clear e48
        clear B0_6
        exact ⟨_, b14, b38, b35, Fits.eq ⟨rfl, trivial⟩, B.pick [3, 1, 2, 0] rfl rfl⟩
    · replace R7 := R7.trans (Ext0.any e11)
      replace B := B.ext0 e11
      clear e11
      refine k_mkO (k := kF) (z0 := 0) T92.slt_24 ⟨0, rfl, cn_zero⟩ rfl rfl (by omega) (by omega) (by omega) (fun b49 w50 hN51 => ?_)
      replace R7 := R7.trans (Ext0.any hN51.ext)
      replace B := B.new1 hN51
      clear hN51
      refine ⟨fun _ => R7, ?_⟩
      refine m_two 1 5 (by kernel_rfl) rfl rfl rfl rfl rfl rfl (fun w52 e53 => ?_) (fun w54 e55 => ?_)
      · replace R7 := R7.trans (Ext0.any e53)
        replace B := B.ext0 e53
        clear e53
        refine k_mkO (k := kF) (z0 := 0) T92.slt_24 ⟨0, rfl, cn_zero⟩ rfl rfl (by omega) (by omega) (by omega) (fun b56 w57 hN58 => ?_)
        replace R7 := R7.trans (Ext0.any hN58.ext)
        replace B := B.new1 hN58
        clear hN58
        refine ⟨fun _ => R7, ?_⟩
        refine m_k 5 [6, 7] rfl (by kernel_rfl) rfl rfl (fun w62 e63 => ?_)
        replace R7 := R7.trans (Ext0.any e63)
        replace B := B.ext0 e63
        clear e63
        refine k_mkO (k := kF) (z0 := 0) T92.slt_24 ⟨0, rfl, cn_zero⟩ rfl rfl (by omega) (by omega) (by omega) (fun b59 w60 hN61 => ?_)
        replace R7 := R7.trans (Ext0.any hN61.ext)
        replace B := B.new1 hN61
        clear hN61
        refine ⟨fun _ => R7, ?_⟩
        refine m_y (v := .agg #[.slice (some ⟨b56, 0, none⟩) ((n).toNat) ((n).toNat), .slice (some ⟨b49, 0, none⟩) ((n).toNat) ((n).toNat), .slice (some ⟨b59, 0, none⟩) ((n).toNat) ((n).toNat)]) 6 rfl (by kernel_rfl) rfl rfl (fun w' e' => y_build (cells := #[.slice (some ⟨b56, 0, none⟩) ((n).toNat) ((n).toNat), .slice (some ⟨b49, 0, none⟩) ((n).toNat) ((n).toNat), .slice (some ⟨b59, 0, none⟩) ((n).toNat) ((n).toNat)]) (by kernel_rfl)) ?_
        refine m_kt 7 [] rfl (by kernel_rfl) rfl rfl (by kernel_rfl) (fun w66 e67 => ?_)
        replace R7 := R7.trans (Ext0.any e67)
        replace B := B.ext0 e67
        clear e67
        refine k_stB (v := .agg #[.slice (some ⟨b56, 0, none⟩) ((n).toNat) ((n).toNat), .slice (some ⟨b49, 0, none⟩) ((n).toNat) ((n).toNat), .slice (some ⟨b59, 0, none⟩) ((n).toNat) ((n).toNat)]) (n := 3) (cs' := [.slice (some ⟨b56, 0, none⟩) ((n).toNat) ((n).toNat), .slice (some ⟨b49, 0, none⟩) ((n).toNat) ((n).toNat), .slice (some ⟨b59, 0, none⟩) ((n).toNat) ((n).toNat)]) T92.sz_30_3 rfl rfl rfl (B.b 3 rfl) (by simp [Value.cells, Value.oneCell']) (Nat.le_of_ble_eq_true rfl) rfl (fun w64 hU65 => ?_)
        clear R7
        replace B : Bu w no w64 [.blk b1 [.slice (some ⟨b56, 0, none⟩) ((n).toNat) ((n).toNat), .slice (some ⟨b49, 0, none⟩) ((n).toNat) ((n).toNat), .slice (some ⟨b59, 0, none⟩) ((n).toNat) ((n).toNat)] 30, .ow kF (some ⟨b59, 0, none⟩) ((n).toNat) ((n).toNat) 34 (List.replicate (n).toNat 0), .ow kF (some ⟨b56, 0, none⟩) ((n).toNat) ((n).toNat) 34 (List.replicate (n).toNat 0), .ow kF (some ⟨b49, 0, none⟩) ((n).toNat) ((n).toNat) 34 (List.replicate (n).toNat 0)] := B.upd [3] rfl hU65
        clear hU65
        refine m_done (by kernel_rfl) (fun w68 e69 => ?_)
        replace B := B.ext0 e69
        clear e69
        clear B0_6
        exact ⟨_, b56, b49, b59, Fits.eq ⟨rfl, trivial⟩, B.pick [2, 3, 1, 0] rfl rfl⟩
      · replace R7 := R7.trans (Ext0.any e55)
        replace B := B.ext0 e55
        clear e55
        refine k_mkO (k := kF) (z0 := 0) T92.slt_24 ⟨0, rfl, cn_zero⟩ rfl rfl (by omega) (by omega) (by omega) (fun b70 w71 hN72 => ?_)
        replace R7 := R7.trans (Ext0.any hN72.ext)
        replace B := B.new1 hN72
        clear hN72
        refine ⟨fun _ => R7, ?_⟩
        refine m_k 1 [6, 7] rfl (by kernel_rfl) rfl rfl (fun w76 e77 => ?_)
        replace R7 := R7.trans (Ext0.any e77)
        replace B := B.ext0 e77
        clear e77
        refine k_mkO (k := kF) (z0 := 0) T92.slt_24 ⟨0, rfl, cn_zero⟩ rfl rfl (by omega) (by omega) (by omega) (fun b73 w74 hN75 => ?_)
        replace R7 := R7.trans (Ext0.any hN75.ext)
        replace B := B.new1 hN75
        clear hN75
        refine ⟨fun _ => R7, ?_⟩
        refine m_y (v := .agg #[.slice (some ⟨b73, 0, none⟩) ((n).toNat) ((n).toNat), .slice (some ⟨b49, 0, none⟩) ((n).toNat) ((n).toNat), .slice (some ⟨b70, 0, none⟩) ((n).toNat) ((n).toNat)]) 6 rfl (by kernel_rfl) rfl rfl (fun w' e' => y_build (cells := #[.slice (some ⟨b73, 0, none⟩) ((n).toNat) ((n).toNat), .slice (some ⟨b49, 0, none⟩) ((n).toNat) ((n).toNat), .slice (some ⟨b70, 0, none⟩) ((n).toNat) ((n).toNat)]) (by kernel_rfl)) ?_
        refine m_kt 7 [] rfl (by kernel_rfl) rfl rfl (by kernel_rfl) (fun w80 e81 => ?_)
        replace R7 := R7.trans (Ext0.any e81)
        replace B := B.ext0 e81
        clear e81
        refine k_stB (v := .agg #[.slice (some ⟨b73, 0, none⟩) ((n).toNat) ((n).toNat), .slice (some ⟨b49, 0, none⟩) ((n).toNat) ((n).toNat), .slice (some ⟨b70, 0, none⟩) ((n).toNat) ((n).toNat)]) (n := 3) (cs' := [.slice (some ⟨b73, 0, none⟩) ((n).toNat) ((n).toNat), .slice (some ⟨b49, 0, none⟩) ((n).toNat) ((n).toNat), .slice (some ⟨b70, 0, none⟩) ((n).toNat) ((n).toNat)]) T92.sz_30_3 rfl rfl rfl (B.b 3 rfl) (by simp [Value.cells, Value.oneCell']) (Nat.le_of_ble_eq_true rfl) rfl (fun w78 hU79 => ?_)
        clear R7
        replace B : Bu w no w78 [.blk b1 [.slice (some ⟨b73, 0, none⟩) ((n).toNat) ((n).toNat), .slice (some ⟨b49, 0, none⟩) ((n).toNat) ((n).toNat), .slice (some ⟨b70, 0, none⟩) ((n).toNat) ((n).toNat)] 30, .ow kF (some ⟨b73, 0, none⟩) ((n).toNat) ((n).toNat) 34 (List.replicate (n).toNat 0), .ow kF (some ⟨b70, 0, none⟩) ((n).toNat) ((n).toNat) 34 (List.replicate (n).toNat 0), .ow kF (some ⟨b49, 0, none⟩) ((n).toNat) ((n).toNat) 34 (List.replicate (n).toNat 0)] := B.upd [3] rfl hU79
        clear hU79
        refine m_done (by kernel_rfl) (fun w82 e83 => ?_)
        replace B := B.ext0 e83
        clear e83
        clear B0_6
        exact ⟨_, b73, b49, b70, Fits.eq ⟨rfl, trivial⟩, B.pick [1, 3, 2, 0] rfl rfl⟩
    · replace R7 := R7.trans (Ext0.any e13)
      replace B := B.ext0 e13
      clear e13
      refine k_mkO (k := kF) (z0 := 0) T92.slt_24 ⟨0, rfl, cn_zero⟩ rfl rfl (by omega) (by omega) (by omega) (fun b84 w85 hN86 => ?_)
      replace R7 := R7.trans (Ext0.any hN86.ext)
      replace B := B.new1 hN86
      clear hN86
      refine ⟨fun _ => R7, ?_⟩
      refine m_two 1 3 (by kernel_rfl) rfl rfl rfl rfl rfl rfl (fun w87 e88 => ?_) (fun w89 e90 => ?_)
      · replace R7 := R7.trans (Ext0.any e88)
        replace B := B.ext0 e88
        clear e88
        refine k_mkO (k := kF) (z0 := 0) T92.slt_24 ⟨0, rfl, cn_zero⟩ rfl rfl (by omega) (by omega) (by omega) (fun b91 w92 hN93 => ?_)
        replace R7 := R7.trans (Ext0.any hN93.ext)
        replace B := B.new1 hN93
        clear hN93
        refine ⟨fun _ => R7, ?_⟩
        refine m_k 3 [6, 7] rfl (by kernel_rfl) rfl rfl (fun w97 e98 => ?_)
        replace R7 := R7.trans (Ext0.any e98)
        replace B := B.ext0 e98
        clear e98
        refine k_mkO (k := kF) (z0 := 0) T92.slt_24 ⟨0, rfl, cn_zero⟩ rfl rfl (by omega) (by omega) (by omega) (fun b94 w95 hN96 => ?_)
        replace R7 := R7.trans (Ext0.any hN96.ext)
        replace B := B.new1 hN96
        clear hN96
        refine ⟨fun _ => R7, ?_⟩
        refine m_y (v := .agg #[.slice (some ⟨b91, 0, none⟩) ((n).toNat) ((n).toNat), .slice (some ⟨b94, 0, none⟩) ((n).toNat) ((n).toNat), .slice (some ⟨b84, 0, none⟩) ((n).toNat) ((n).toNat)]) 6 rfl (by kernel_rfl) rfl rfl (fun w' e' => y_build (cells := #[.slice (some ⟨b91, 0, none⟩) ((n).toNat) ((n).toNat), .slice (some ⟨b94, 0, none⟩) ((n).toNat) ((n).toNat), .slice (some ⟨b84, 0, none⟩) ((n).toNat) ((n).toNat)]) (by kernel_rfl)) ?_
        refine m_kt 7 [] rfl (by kernel_rfl) rfl rfl (by kernel_rfl) (fun w101 e102 => ?_)
        replace R7 := R7.trans (Ext0.any e102)
        replace B := B.ext0 e102
        clear e102
        refine k_stB (v := .agg #[.slice (some ⟨b91, 0, none⟩) ((n).toNat) ((n).toNat), .slice (some ⟨b94, 0, none⟩) ((n).toNat) ((n).toNat), .slice (some ⟨b84, 0, none⟩) ((n).toNat) ((n).toNat)]) (n := 3) (cs' := [.slice (some ⟨b91, 0, none⟩) ((n).toNat) ((n).toNat), .slice (some ⟨b94, 0, none⟩) ((n).toNat) ((n).toNat), .slice (some ⟨b84, 0, none⟩) ((n).toNat) ((n).toNat)]) T92.sz_30_3 rfl rfl rfl (B.b 3 rfl) (by simp [Value.cells, Value.oneCell']) (Nat.le_of_ble_eq_true rfl) rfl (fun w99 hU100 => ?_)
        clear R7
        replace B : Bu w no w99 [.blk b1 [.slice (some ⟨b91, 0, none⟩) ((n).toNat) ((n).toNat), .slice (some ⟨b94, 0, none⟩) ((n).toNat) ((n).toNat), .slice (some ⟨b84, 0, none⟩) ((n).toNat) ((n).toNat)] 30, .ow kF (some ⟨b94, 0, none⟩) ((n).toNat) ((n).toNat) 34 (List.replicate (n).toNat 0), .ow kF (some ⟨b91, 0, none⟩) ((n).toNat) ((n).toNat) 34 (List.replicate (n).toNat 0), .ow kF (some ⟨b84, 0, none⟩) ((n).toNat) ((n).toNat) 34 (List.replicate (n).toNat 0)] := B.upd [3] rfl hU100
        clear hU100
        refine m_done (by kernel_rfl) (fun w103 e104 => ?_)
        replace B := B.ext0 e104
        clear e104
        clear B0_6
        exact ⟨_, b91, b94, b84, Fits.eq ⟨rfl, trivial⟩, B.pick [2, 1, 3, 0] rfl rfl⟩
      · replace R7 := R7.trans (Ext0.any e90)
        replace B := B.ext0 e90
        clear e90
        refine k_mkO (k := kF) (z0 := 0) T92.slt_24 ⟨0, rfl, cn_zero⟩ rfl rfl (by omega) (by omega) (by omega) (fun b105 w106 hN107 => ?_)
        replace R7 := R7.trans (Ext0.any hN107.ext)
        replace B := B.new1 hN107
        clear hN107
        refine ⟨fun _ => R7, ?_⟩
        refine m_k 1 [6, 7] rfl (by kernel_rfl) rfl rfl (fun w111 e112 => ?_)
        replace R7 := R7.trans (Ext0.any e112)
        replace B := B.ext0 e112
        clear e112
        refine k_mkO (k := kF) (z0 := 0) T92.slt_24 ⟨0, rfl, cn_zero⟩ rfl rfl (by omega) (by omega) (by omega) (fun b108 w109 hN110 => ?_)
        replace R7 := R7.trans (Ext0.any hN110.ext)
        replace B := B.new1 hN110
        clear hN110
        refine ⟨fun _ => R7, ?_⟩
        refine m_y (v := .agg #[.slice (some ⟨b108, 0, none⟩) ((n).toNat) ((n).toNat), .slice (some ⟨b105, 0, none⟩) ((n).toNat) ((n).toNat), .slice (some ⟨b84, 0, none⟩) ((n).toNat) ((n).toNat)]) 6 rfl (by kernel_rfl) rfl rfl (fun w' e' => y_build (cells := #[.slice (some ⟨b108, 0, none⟩) ((n).toNat) ((n).toNat), .slice (some ⟨b105, 0, none⟩) ((n).toNat) ((n).toNat), .slice (some ⟨b84, 0, none⟩) ((n).toNat) ((n).toNat)]) (by kernel_rfl)) ?_
        refine m_kt 7 [] rfl (by kernel_rfl) rfl rfl (by kernel_rfl) (fun w115 e116 => ?_)
        replace R7 := R7.trans (Ext0.any e116)
        replace B := B.ext0 e116
        clear e116
        refine k_stB (v := .agg #[.slice (some ⟨b108, 0, none⟩) ((n).toNat) ((n).toNat), .slice (some ⟨b105, 0, none⟩) ((n).toNat) ((n).toNat), .slice (some ⟨b84, 0, none⟩) ((n).toNat) ((n).toNat)]) (n := 3) (cs' := [.slice (some ⟨b108, 0, none⟩) ((n).toNat) ((n).toNat), .slice (some ⟨b105, 0, none⟩) ((n).toNat) ((n).toNat), .slice (some ⟨b84, 0, none⟩) ((n).toNat) ((n).toNat)]) T92.sz_30_3 rfl rfl rfl (B.b 3 rfl) (by simp [Value.cells, Value.oneCell']) (Nat.le_of_ble_eq_true rfl) rfl (fun w113 hU114 => ?_)
        clear R7
        replace B : Bu w no w113 [.blk b1 [.slice (some ⟨b108, 0, none⟩) ((n).toNat) ((n).toNat), .slice (some ⟨b105, 0, none⟩) ((n).toNat) ((n).toNat), .slice (some ⟨b84, 0, none⟩) ((n).toNat) ((n).toNat)] 30, .ow kF (some ⟨b108, 0, none⟩) ((n).toNat) ((n).toNat) 34 (List.replicate (n).toNat 0), .ow kF (some ⟨b105, 0, none⟩) ((n).toNat) ((n).toNat) 34 (List.replicate (n).toNat 0), .ow kF (some ⟨b84, 0, none⟩) ((n).toNat) ((n).toNat) 34 (List.replicate (n).toNat 0)] := B.upd [3] rfl hU114
        clear hU114
        refine m_done (by kernel_rfl) (fun w117 e118 => ?_)
        replace B := B.ext0 e118
        clear e118
        clear B0_6
        exact ⟨_, b108, b105, b84, Fits.eq ⟨rfl, trivial⟩, B.pick [1, 2, 3, 0] rfl rfl⟩
  · clear B; rintro _ w119 (⟨ρ120, b14, b21, b24, rfl, B⟩)
    refine W_ret ?_
    refine ret1 (v := .agg #[.slice (some ⟨b14, 0, none⟩) ((n).toNat) ((n).toNat), .slice (some ⟨b21, 0, none⟩) ((n).toNat) ((n).toNat), .slice (some ⟨b24, 0, none⟩) ((n).toNat) ((n).toNat)]) rfl rfl ⟨_, [.slice (some ⟨b14, 0, none⟩) ((n).toNat) ((n).toNat), .slice (some ⟨b21, 0, none⟩) ((n).toNat) ((n).toNat), .slice (some ⟨b24, 0, none⟩) ((n).toNat) ((n).toNat)], _, rfl, (B.b 3 rfl), T92.agg_30_3, rfl⟩ ⟨_, rfl, ?_⟩
    exact ⟨_, _, _, _, _, _, rfl, B.give [0, 1, 2] rfl rfl rfl⟩
namespace T122
theorem mx : Try.prog.follows .mixedOrders = true := by kernel_rfl
theorem flt_34_f32 : Try.prog.underlying 34 = some (.float .f32) := by kernel_rfl
theorem fn_81 : fnB Try.prog 81 = true := by kernel_rfl
theorem fn_99 : fnB Try.prog 99 = true := by kernel_rfl
theorem und_2 : (Try.prog.underlying 2).isSome = true := by kernel_rfl
end T122
set_option maxRecDepth 100000 in
set_option maxHeartbeats 4000000 in
theorem c_s_l01DrawPlain {bs : Nat} {aq : Option Addr} {nq cq : Nat} {Xq : List Nat} {p : Int} {w : World} (hp0 : 0 ≤ p) (hp1 : p ≤ 900000) (HA : All w [.blk bs [.slice aq nq cq, .int .i64 p, .int .u64 (sdY Xq p)] 131, .rd kY aq nq Xq]) (HP : Pw [.blk bs [.slice aq nq cq, .int .i64 p, .int .u64 (sdY Xq p)] 131, .rd kY aq nq Xq]) :
    Calls Try.prog 122 #[.pointer (some ⟨bs, 0, none⟩)] w (Rt fun v w' => ∃ (r : Nat), v = .float .f32 r ∧ r < wid .f32 ∧ Upd w w' [.blk bs [.slice aq nq cq, .int .i64 p, .int .u64 (sdY Xq p)] 131] [.blk bs [.slice aq nq cq, .int .i64 (p + 1 + 1), .int .u64 (sdY Xq (p + 1 + 1))] 131]) := by
  have B : Bu w (hasW [.blk bs [.slice aq nq cq, .int .i64 p, .int .u64 (sdY Xq p)] 131]) w [.blk bs [.slice aq nq cq, .int .i64 p, .int .u64 (sdY Xq p)] 131, .rd kY aq nq Xq] := Bu.initW (W := [.blk bs [.slice aq nq cq, .int .i64 p, .int .u64 (sdY Xq p)] 131]) (R := [.rd kY aq nq Xq]) HA HP rfl
  have hlq := (B.r 1 rfl).len
  refine calls_W (n := 15) Try.func122 rfl rfl (Nat.le_of_ble_eq_true rfl) ?_
  refine W_seq ?_
  refine W_region (by kernel_rfl) ?_
  refine s_y (v := .float .f32 0) rfl (y_assign rfl) ?_
  refine s_nil ?_
  refine W_seq ?_
  refine W_region (by kernel_rfl) ?_
  refine s_y (v := .pointer (some ⟨bs, 0, none⟩)) rfl (y_move rfl) ?_
  refine s_k rfl (k_call T122.fn_81 (c_s_pick (by omega) (by omega) (by omega) (by omega) (B.all.pick [0, 1] rfl) (B.pw.pick [0, 1] rfl rfl)) rfl ?_)
  rintro _ w1 ⟨v3, rfl, hp4, hU2⟩
  replace B : Bu w (hasW [.blk bs [.slice aq nq cq, .int .i64 p, .int .u64 (sdY Xq p)] 131]) w1 [.blk bs [.slice aq nq cq, .int .i64 (p + 1), .int .u64 (sdY Xq (p + 1))] 131, .rd kY aq nq Xq] := B.upd [0] rfl hU2
  clear hU2
  have hb5 := pk_b Xq (n := 129) p (by omega)
  rw [← hp4] at hb5
  refine s_y (v := .int .i64 (v3 - 64)) rfl (y_sub rfl rfl rfl (by omega)) ?_
  refine s_y (v := .int .i64 (v3 - 64)) rfl (y_assign rfl) ?_
  refine s_nil ?_
  refine W_seq ?_
  refine W_seq ?_
  refine W_region (by kernel_rfl) ?_
  refine s_y (v := .pointer (some ⟨bs, 0, none⟩)) rfl (y_move rfl) ?_
  refine s_k rfl (k_call T122.fn_99 (c_s_one (by omega) (by omega) (by omega) (by omega) (B.all.pick [0, 1] rfl) (B.pw.pick [0, 1] rfl rfl)) rfl ?_)
  rintro _ w6 ⟨vb8, rfl, hp9, hU7⟩
  replace B : Bu w (hasW [.blk bs [.slice aq nq cq, .int .i64 p, .int .u64 (sdY Xq p)] 131]) w6 [.blk bs [.slice aq nq cq, .int .i64 ((p + 1) + 1), .int .u64 (sdY Xq ((p + 1) + 1))] 131, .rd kY aq nq Xq] := B.upd [0] rfl hU7
  clear hU7
  refine s_nil ?_
  cases vb8
  · refine W_if_f (by decide) rfl ?_
    refine W_skip ?_
    refine W_seq ?_
    refine W_region (by kernel_rfl) ?_
    refine s_y (v := .int .i64 (v3 - 64)) rfl (y_move rfl) ?_
    refine s_y (v := .float .f32 (FloatKind.nearest .f32 (v3 - 64))) rfl (y_if T122.und_2 T122.flt_34_f32 rfl) ?_
    refine s_n rfl (n_arith (by decide) rfl rfl) ?_
    rintro _ w13 e14 ⟨r11, rfl, hr12⟩
    replace B := B.ext0 e14
    clear e14
    have hc15 := fopC hr12 (cn_nearest .f32 (v3 - 64)) (cnLit (k := .f32) (t := 1098907648) (by kernel_rfl) (by kernel_rfl))
    refine s_y (v := .float .f32 r11) rfl (y_assign rfl) ?_
    refine s_nil ?_
    refine W_ret ?_
    refine ret1 (v := .float .f32 r11) rfl rfl rfl ⟨_, rfl, ?_⟩
    exact ⟨_, rfl, hc15.2, B.wrote [0] rfl rfl rfl⟩
  · refine W_if_t (by decide) rfl ?_
    refine W_seq ?_
    refine W_region (by kernel_rfl) ?_
    refine s_y (v := .int .i64 (v3 - 64)) rfl (y_move rfl) ?_
    refine s_y (v := .float .f32 (FloatKind.nearest .f32 (v3 - 64))) rfl (y_if T122.und_2 T122.flt_34_f32 rfl) ?_
    refine s_n rfl (n_arith (by decide) rfl rfl) ?_
    rintro _ w19 e20 ⟨r17, rfl, hr18⟩
    replace B := B.ext0 e20
    clear e20
    have hc21 := fopC hr18 (cn_nearest .f32 (v3 - 64)) (cnLit (k := .f32) (t := 1088421888) (by kernel_rfl) (by kernel_rfl))
    refine s_y (v := .float .f32 r17) rfl (y_assign rfl) ?_
    refine s_nil ?_
    refine W_ret ?_
    refine ret1 (v := .float .f32 r17) rfl rfl rfl ⟨_, rfl, ?_⟩
    exact ⟨_, rfl, hc21.2, B.wrote [0] rfl rfl rfl⟩
namespace T143
theorem mx : Try.prog.follows .mixedOrders = true := by kernel_rfl
theorem fn_81 : fnB Try.prog 81 = true := by kernel_rfl
theorem one_2 : oneB Try.prog 2 = true := by kernel_rfl
theorem sl_36_2_1 : slB Try.prog 36 2 1 = true := by kernel_rfl
end T143
set_option maxRecDepth 100000 in
set_option maxHeartbeats 4000000 in
theorem c_s_among {bs : Nat} {al : Option Addr} {nl : Nat} {cl : Nat} {Xl : List Int} {aq : Option Addr} {nq cq : Nat} {Xq : List Nat} {p : Int} {w : World} (hp0 : 0 ≤ p) (hp1 : p ≤ 1000000) (hn0 : 2 ≤ nl) (hn1 : nl ≤ 200) (HA : All w [.blk bs [.slice aq nq cq, .int .i64 p, .int .u64 (sdY Xq p)] 131, .rd kI al nl Xl, .rd kY aq nq Xq]) (HP : Pw [.blk bs [.slice aq nq cq, .int .i64 p, .int .u64 (sdY Xq p)] 131, .rd kI al nl Xl, .rd kY aq nq Xq]) :
    Calls Try.prog 143 #[.pointer (some ⟨bs, 0, none⟩), .slice al nl cl] w (Rt fun v w' => ∃ (uv : Int), v = .int .i64 uv ∧ Upd w w' [.blk bs [.slice aq nq cq, .int .i64 p, .int .u64 (sdY Xq p)] 131] [.blk bs [.slice aq nq cq, .int .i64 (p + 1), .int .u64 (sdY Xq (p + 1))] 131]) := by
  have B : Bu w (hasW [.blk bs [.slice aq nq cq, .int .i64 p, .int .u64 (sdY Xq p)] 131]) w [.blk bs [.slice aq nq cq, .int .i64 p, .int .u64 (sdY Xq p)] 131, .rd kI al nl Xl, .rd kY aq nq Xq] := Bu.initW (W := [.blk bs [.slice aq nq cq, .int .i64 p, .int .u64 (sdY Xq p)] 131]) (R := [.rd kI al nl Xl, .rd kY aq nq Xq]) HA HP rfl
  have hll := (B.r 1 rfl).len
  have hlq := (B.r 2 rfl).len
  refine calls_W (n := 12) Try.func143 rfl rfl (Nat.le_of_ble_eq_true rfl) ?_
  refine W_seq ?_
  refine W_region (by kernel_rfl) ?_
  refine s_y (v := .int .i64 0) rfl (y_assign rfl) ?_
  refine s_nil ?_
  refine W_seq ?_
  refine W_region (by kernel_rfl) ?_
  refine s_y (v := .slice al nl cl) rfl (y_move rfl) ?_
  refine s_y (v := .pointer (some ⟨bs, 0, none⟩)) rfl (y_move rfl) ?_
  refine s_y (v := .slice al nl cl) rfl (y_move rfl) ?_
  refine s_y (v := .int .i64 ((nl : Nat) : Int)) rfl (y_len T143.sl_36_2_1 rfl rfl) ?_
  refine s_k rfl (k_call T143.fn_81 (c_s_pick (by omega) (by omega) (by omega) (by omega) (B.all.pick [0, 2] rfl) (B.pw.pick [0, 2] rfl rfl)) rfl ?_)
  rintro _ w1 ⟨v3, rfl, hp4, hU2⟩
  replace B : Bu w (hasW [.blk bs [.slice aq nq cq, .int .i64 p, .int .u64 (sdY Xq p)] 131]) w1 [.blk bs [.slice aq nq cq, .int .i64 (p + 1), .int .u64 (sdY Xq (p + 1))] 131, .rd kI al nl Xl, .rd kY aq nq Xq] := B.upd [0] rfl hU2
  clear hU2
  have hb5 := pk_b Xq (n := ((nl : Nat) : Int)) p (by omega)
  rw [← hp4] at hb5
  refine s_y (v := .pointer (some (sat al ((v3).toNat * 1)))) rfl (y_idx T143.sl_36_2_1 rfl rfl ((B.r 1 rfl).addr (by omega)) (by omega) (by omega)) ?_
  have hR6 := Rd.atI (B.r 1 rfl) v3 (by omega) (by omega)
  refine s_y (v := .int .i64 (gl Xl v3)) rfl (y_load T143.one_2 rfl (hR6.cell (i := 0) rfl)) ?_
  refine s_y (v := .int .i64 (gl Xl v3)) rfl (y_assign rfl) ?_
  refine s_nil ?_
  refine W_ret ?_
  refine ret1 (v := .int .i64 (gl Xl v3)) rfl rfl rfl ⟨_, rfl, ?_⟩
  exact ⟨_, rfl, B.wrote [0] rfl rfl rfl⟩
namespace T142
theorem mx : Try.prog.follows .mixedOrders = true := by kernel_rfl
theorem fb_151 : frombitsB Try.prog 151 := ⟨_, Try.func151, by kernel_rfl, by kernel_rfl, by kernel_rfl, by kernel_rfl⟩
theorem int_147_u32 : Try.prog.underlying 147 = some (.int .u32) := by kernel_rfl
theorem und_2 : (Try.prog.underlying 2).isSome = true := by kernel_rfl
end T142
set_option maxRecDepth 100000 in
set_option maxHeartbeats 4000000 in
theorem c_s_l01From {n : Int} {w : World} :
    Calls Try.prog 142 #[.int .i64 n] w (Rt fun v w' => (∃ r, v = .float .f32 r ∧ Cn .f32 r (can .f32 (Int.toNat (IntKind.u32.wrap n)))) ∧ Ext0 w w') := by
  have B : Bu w no w [] := Bu.ro All.nil rfl
  refine calls_W (n := 6) Try.func142 rfl rfl (Nat.le_of_ble_eq_true rfl) ?_
  refine W_seq ?_
  refine W_region (by kernel_rfl) ?_
  refine s_y (v := .float .f32 0) rfl (y_assign rfl) ?_
  refine s_nil ?_
  refine W_seq ?_
  refine W_region (by kernel_rfl) ?_
  refine s_y (v := .int .i64 n) rfl (y_move rfl) ?_
  refine s_y (v := .int .u32 (IntKind.u32.wrap n)) rfl (y_ii T142.und_2 T142.int_147_u32 rfl rfl) ?_
  refine s_k rfl (k_frombits T142.fb_151 rfl ?_)
  refine s_y (v := .float .f32 (Int.toNat (IntKind.u32.wrap n))) rfl (y_assign rfl) ?_
  refine s_nil ?_
  refine W_ret ?_
  refine ret1 (v := .float .f32 (Int.toNat (IntKind.u32.wrap n))) rfl rfl rfl ⟨_, rfl, ?_⟩
  exact ⟨⟨_, rfl, (cnR (u32_wid _))⟩, B.ext⟩
namespace T123
theorem mx : Try.prog.follows .mixedOrders = true := by kernel_rfl
theorem fn_122 : fnB Try.prog 122 = true := by kernel_rfl
theorem fn_142 : fnB Try.prog 142 = true := by kernel_rfl
theorem fn_143 : fnB Try.prog 143 = true := by kernel_rfl
theorem fn_81 : fnB Try.prog 81 = true := by kernel_rfl
theorem fn_99 : fnB Try.prog 99 = true := by kernel_rfl
theorem slt_36 : SlT Try.prog 36 2 1 8 (.int .i64 0) := ⟨by kernel_rfl, by kernel_rfl, rfl, by decide⟩
end T123
set_option maxRecDepth 100000 in
set_option maxHeartbeats 4000000 in
theorem c_s_l01DrawFloat {bs : Nat} {aq : Option Addr} {nq cq : Nat} {Xq : List Nat} {p : Int} {w : World} (hp0 : 0 ≤ p) (hp1 : p ≤ 800000) (HA : All w [.blk bs [.slice aq nq cq, .int .i64 p, .int .u64 (sdY Xq p)] 131, .rd kY aq nq Xq]) (HP : Pw [.blk bs [.slice aq nq cq, .int .i64 p, .int .u64 (sdY Xq p)] 131, .rd kY aq nq Xq]) :
    Calls Try.prog 123 #[.pointer (some ⟨bs, 0, none⟩)] w (Rt fun v w' => ∃ (r : Nat) (pe : Int), v = .float .f32 r ∧ r < wid .f32 ∧ p ≤ pe ∧ pe ≤ p + 10 ∧ Upd w w' [.blk bs [.slice aq nq cq, .int .i64 p, .int .u64 (sdY Xq p)] 131] [.blk bs [.slice aq nq cq, .int .i64 pe, .int .u64 (sdY Xq pe)] 131]) := by
  have B : Bu w (hasW [.blk bs [.slice aq nq cq, .int .i64 p, .int .u64 (sdY Xq p)] 131]) w [.blk bs [.slice aq nq cq, .int .i64 p, .int .u64 (sdY Xq p)] 131, .rd kY aq nq Xq] := Bu.initW (W := [.blk bs [.slice aq nq cq, .int .i64 p, .int .u64 (sdY Xq p)] 131]) (R := [.rd kY aq nq Xq]) HA HP rfl
  have hlq := (B.r 1 rfl).len
  refine calls_W (n := 40) Try.func123 rfl rfl (Nat.le_of_ble_eq_true rfl) ?_
  refine W_seq ?_
  refine W_region (by kernel_rfl) ?_
  refine s_y (v := .float .f32 0) rfl (y_assign rfl) ?_
  refine s_nil ?_
  refine W_seq ?_
  refine W_seq ?_
  refine W_region (by kernel_rfl) ?_
  refine s_y (v := .pointer (some ⟨bs, 0, none⟩)) rfl (y_move rfl) ?_
  refine s_k rfl (k_call T123.fn_99 (c_s_one (by omega) (by omega) (by omega) (by omega) (B.all.pick [0, 1] rfl) (B.pw.pick [0, 1] rfl rfl)) rfl ?_)
  rintro _ w1 ⟨vb3, rfl, hp4, hU2⟩
  replace B : Bu w (hasW [.blk bs [.slice aq nq cq, .int .i64 p, .int .u64 (sdY Xq p)] 131]) w1 [.blk bs [.slice aq nq cq, .int .i64 (p + 1), .int .u64 (sdY Xq (p + 1))] 131, .rd kY aq nq Xq] := B.upd [0] rfl hU2
  clear hU2
  refine s_y (v := .bool (!vb3)) rfl (y_not rfl rfl) ?_
  refine s_nil ?_
  cases vb3
  · refine W_if_t (by decide) rfl ?_
    refine W_seq ?_
    refine W_region (by kernel_rfl) ?_
    refine s_y (v := .pointer (some ⟨bs, 0, none⟩)) rfl (y_move rfl) ?_
    refine s_k rfl (k_call T123.fn_122 (c_s_l01DrawPlain (by omega) (by omega) (B.all.pick [0, 1] rfl) (B.pw.pick [0, 1] rfl rfl)) rfl ?_)
    rintro _ w5 ⟨c7, rfl, hp8, hU6⟩
    replace B : Bu w (hasW [.blk bs [.slice aq nq cq, .int .i64 p, .int .u64 (sdY Xq p)] 131]) w5 [.blk bs [.slice aq nq cq, .int .i64 ((p + 1) + 1 + 1), .int .u64 (sdY Xq ((p + 1) + 1 + 1))] 131, .rd kY aq nq Xq] := B.upd [0] rfl hU6
    clear hU6
    refine s_y (v := .float .f32 c7) rfl (y_assign rfl) ?_
    refine s_nil ?_
    refine W_ret ?_
    refine ret1 (v := .float .f32 c7) rfl rfl rfl ⟨_, rfl, ?_⟩
    exact ⟨_, _, rfl, (cnR hp8).2, (by omega), (by omega), B.wrote [0] rfl rfl rfl⟩
  · refine W_if_f (by decide) rfl ?_
    refine W_skip ?_
    refine W_seq ?_
    refine W_seq ?_
    refine W_region (by kernel_rfl) ?_
    refine s_y (v := .pointer (some ⟨bs, 0, none⟩)) rfl (y_move rfl) ?_
    refine s_k rfl (k_call T123.fn_81 (c_s_pick (by omega) (by omega) (by omega) (by omega) (B.all.pick [0, 1] rfl) (B.pw.pick [0, 1] rfl rfl)) rfl ?_)
    rintro _ w9 ⟨v11, rfl, hp12, hU10⟩
    replace B : Bu w (hasW [.blk bs [.slice aq nq cq, .int .i64 p, .int .u64 (sdY Xq p)] 131]) w9 [.blk bs [.slice aq nq cq, .int .i64 ((p + 1) + 1), .int .u64 (sdY Xq ((p + 1) + 1))] 131, .rd kY aq nq Xq] := B.upd [0] rfl hU10
    clear hU10
    have hb13 := pk_b Xq (n := 4) (p + 1) (by omega)
    rw [← hp12] at hb13
    refine s_nil ?_
    refine W_block ?_
    refine W_seq ?_
    refine W_region (by kernel_rfl) ?_
    by_cases c14 : v11 = 0
    · refine s_y (v := .bool true) rfl (y_eql rfl rfl (decide_eq_true c14)) ?_
      refine s_y (v := .bool true) rfl (y_assign rfl) ?_
      refine s_nil ?_
      refine W_if_t (by decide) rfl ?_
      refine W_seq ?_
      refine W_region (by kernel_rfl) ?_
      refine s_y (v := .pointer (some ⟨bs, 0, none⟩)) rfl (y_move rfl) ?_
      refine s_k rfl (k_bsliceO (k := kI) (n := 10) (cells := #[.int .i64 0, .int .i64 2147483648, .int .i64 2139095040, .int .i64 4286578688, .int .i64 2143289344, .int .i64 1, .int .i64 2139095039, .int .i64 8388608, .int .i64 8388607, .int .i64 2147483649]) (X := [0, 2147483648, 2139095040, 4286578688, 2143289344, 1, 2139095039, 8388608, 8388607, 2147483649]) T123.slt_36 (by decide) (by first | rfl | kernel_rfl) (reps_cons (c := [.int .i64 0]) rfl (reps_cons (c := [.int .i64 2147483648]) rfl (reps_cons (c := [.int .i64 2139095040]) rfl (reps_cons (c := [.int .i64 4286578688]) rfl (reps_cons (c := [.int .i64 2143289344]) rfl (reps_cons (c := [.int .i64 1]) rfl (reps_cons (c := [.int .i64 2139095039]) rfl (reps_cons (c := [.int .i64 8388608]) rfl (reps_cons (c := [.int .i64 8388607]) rfl (reps_cons (c := [.int .i64 2147483649]) rfl (rfl : Reps kI [] []))))))))))) rfl (fun b15 w16 hN17 => ?_))
      replace B := B.new1 hN17
      clear hN17
      have Bt := B.weakO 0 rfl
      refine s_k rfl (k_call T123.fn_143 (c_s_among (by omega) (by omega) (by omega) (by omega) (Bt.all.pick [1, 0, 2] rfl) (Bt.pw.pick [1, 0, 2] rfl rfl)) rfl ?_)
      rintro _ w18 ⟨v20, rfl, hU19⟩
      replace B : Bu w (hasW [.blk bs [.slice aq nq cq, .int .i64 p, .int .u64 (sdY Xq p)] 131]) w18 [.blk bs [.slice aq nq cq, .int .i64 (((p + 1) + 1) + 1), .int .u64 (sdY Xq (((p + 1) + 1) + 1))] 131, .ow kI (some ⟨b15, 0, none⟩) 10 10 2 ([0, 2147483648, 2139095040, 4286578688, 2143289344, 1, 2139095039, 8388608, 8388607, 2147483649]), .rd kY aq nq Xq] := B.upd [1] rfl hU19
      clear hU19
      refine s_k rfl (k_call T123.fn_142 (c_s_l01From) rfl ?_)
      rintro _ w21 ⟨⟨r23, rfl, hr24⟩, e22⟩
      replace B := B.ext0 e22
      clear e22
      refine s_y (v := .float .f32 r23) rfl (y_assign rfl) ?_
      refine s_nil ?_
      refine W_ret ?_
      refine ret1 (v := .float .f32 r23) rfl rfl rfl ⟨_, rfl, ?_⟩
      exact ⟨_, _, rfl, hr24.2, (by omega), (by omega), B.wrote [0] rfl rfl rfl⟩
    · refine s_y (v := .bool false) rfl (y_eql rfl rfl (decide_eq_false c14)) ?_
      refine s_y (v := .bool false) rfl (y_assign rfl) ?_
      refine s_nil ?_
      refine W_if_f (by decide) rfl ?_
      refine W_seq ?_
      refine W_region (by kernel_rfl) ?_
      by_cases c25 : v11 = 1
      · refine s_y (v := .bool true) rfl (y_eql rfl rfl (decide_eq_true c25)) ?_
        refine s_y (v := .bool true) rfl (y_assign rfl) ?_
        refine s_nil ?_
        refine W_if_t (by decide) rfl ?_
        refine W_seq ?_
        refine W_region (by kernel_rfl) ?_
        refine s_y (v := .pointer (some ⟨bs, 0, none⟩)) rfl (y_move rfl) ?_
        refine s_k rfl (k_call T123.fn_81 (c_s_pick2 (by omega) (by omega) (by omega) (by omega) (B.all.pick [0, 1] rfl) (B.pw.pick [0, 1] rfl rfl)) rfl ?_)
        rintro _ w26 ⟨v28, rfl, hp29, hp30, hU27⟩
        replace B : Bu w (hasW [.blk bs [.slice aq nq cq, .int .i64 p, .int .u64 (sdY Xq p)] 131]) w26 [.blk bs [.slice aq nq cq, .int .i64 (((p + 1) + 1) + 1 + 1), .int .u64 (sdY Xq (((p + 1) + 1) + 1 + 1))] 131, .rd kY aq nq Xq] := B.upd [0] rfl hU27
        clear hU27
        refine s_y (v := .int .i64 (v28 * 65536)) rfl (y_mul rfl rfl rfl (by omega)) ?_
        refine s_y (v := .int .i64 (v28 * 65536)) rfl (y_assign rfl) ?_
        refine s_nil ?_
        refine W_seq ?_
        refine W_region (by kernel_rfl) ?_
        refine s_y (v := .int .i64 (v28 * 65536)) rfl (y_move rfl) ?_
        refine s_y (v := .pointer (some ⟨bs, 0, none⟩)) rfl (y_move rfl) ?_
        refine s_k rfl (k_call T123.fn_81 (c_s_pick2 (by omega) (by omega) (by omega) (by omega) (B.all.pick [0, 1] rfl) (B.pw.pick [0, 1] rfl rfl)) rfl ?_)
        rintro _ w31 ⟨v33, rfl, hp34, hp35, hU32⟩
        replace B : Bu w (hasW [.blk bs [.slice aq nq cq, .int .i64 p, .int .u64 (sdY Xq p)] 131]) w31 [.blk bs [.slice aq nq cq, .int .i64 ((((p + 1) + 1) + 1 + 1) + 1 + 1), .int .u64 (sdY Xq ((((p + 1) + 1) + 1 + 1) + 1 + 1))] 131, .rd kY aq nq Xq] := B.upd [0] rfl hU32
        clear hU32
        refine s_y (v := .int .i64 ((v28 * 65536) + v33)) rfl (y_add rfl rfl rfl (by omega)) ?_
        refine s_k rfl (k_call T123.fn_142 (c_s_l01From) rfl ?_)
        rintro _ w36 ⟨⟨r38, rfl, hr39⟩, e37⟩
        replace B := B.ext0 e37
        clear e37
        refine s_y (v := .float .f32 r38) rfl (y_assign rfl) ?_
        refine s_nil ?_
        refine W_ret ?_
        refine ret1 (v := .float .f32 r38) rfl rfl rfl ⟨_, rfl, ?_⟩
        exact ⟨_, _, rfl, hr39.2, (by omega), (by omega), B.wrote [0] rfl rfl rfl⟩
      · refine s_y (v := .bool false) rfl (y_eql rfl rfl (decide_eq_false c25)) ?_
        refine s_y (v := .bool false) rfl (y_assign rfl) ?_
        refine s_nil ?_
        refine W_if_f (by decide) rfl ?_
        refine W_seq ?_
        refine W_region (by kernel_rfl) ?_
        by_cases c40 : v11 = 2
        · refine s_y (v := .bool true) rfl (y_eql rfl rfl (decide_eq_true c40)) ?_
          refine s_y (v := .bool true) rfl (y_assign rfl) ?_
          refine s_nil ?_
          refine W_if_t (by decide) rfl ?_
          refine W_seq ?_
          refine W_region (by kernel_rfl) ?_
          refine s_y (v := .pointer (some ⟨bs, 0, none⟩)) rfl (y_move rfl) ?_
          refine s_k rfl (k_call T123.fn_81 (c_s_pick2 (by omega) (by omega) (by omega) (by omega) (B.all.pick [0, 1] rfl) (B.pw.pick [0, 1] rfl rfl)) rfl ?_)
          rintro _ w41 ⟨v43, rfl, hp44, hp45, hU42⟩
          replace B : Bu w (hasW [.blk bs [.slice aq nq cq, .int .i64 p, .int .u64 (sdY Xq p)] 131]) w41 [.blk bs [.slice aq nq cq, .int .i64 (((p + 1) + 1) + 1 + 1), .int .u64 (sdY Xq (((p + 1) + 1) + 1 + 1))] 131, .rd kY aq nq Xq] := B.upd [0] rfl hU42
          clear hU42
          refine s_y (v := .int .i64 (v43 * 65536)) rfl (y_mul rfl rfl rfl (by omega)) ?_
          refine s_k rfl (k_call T123.fn_142 (c_s_l01From) rfl ?_)
          rintro _ w46 ⟨⟨r48, rfl, hr49⟩, e47⟩
          replace B := B.ext0 e47
          clear e47
          refine s_y (v := .float .f32 r48) rfl (y_assign rfl) ?_
          refine s_nil ?_
          refine W_ret ?_
          refine ret1 (v := .float .f32 r48) rfl rfl rfl ⟨_, rfl, ?_⟩
          exact ⟨_, _, rfl, hr49.2, (by omega), (by omega), B.wrote [0] rfl rfl rfl⟩
        · refine s_y (v := .bool false) rfl (y_eql rfl rfl (decide_eq_false c40)) ?_
          refine s_y (v := .bool false) rfl (y_assign rfl) ?_
          refine s_nil ?_
          refine W_if_f (by decide) rfl ?_
          refine W_skip ?_
          refine W_seq ?_
          refine W_region (by kernel_rfl) ?_
          refine s_y (v := .pointer (some ⟨bs, 0, none⟩)) rfl (y_move rfl) ?_
          refine s_k rfl (k_call T123.fn_122 (c_s_l01DrawPlain (by omega) (by omega) (B.all.pick [0, 1] rfl) (B.pw.pick [0, 1] rfl rfl)) rfl ?_)
          rintro _ w50 ⟨c52, rfl, hp53, hU51⟩
          replace B : Bu w (hasW [.blk bs [.slice aq nq cq, .int .i64 p, .int .u64 (sdY Xq p)] 131]) w50 [.blk bs [.slice aq nq cq, .int .i64 (((p + 1) + 1) + 1 + 1), .int .u64 (sdY Xq (((p + 1) + 1) + 1 + 1))] 131, .rd kY aq nq Xq] := B.upd [0] rfl hU51
          clear hU51
          refine s_y (v := .pointer (some ⟨bs, 0, none⟩)) rfl (y_move rfl) ?_
          refine s_k rfl (k_bsliceO (k := kI) (n := 4) (cells := #[.int .i64 8388608, .int .i64 2130706432, .int .i64 1610612736, .int .i64 536870912]) (X := [8388608, 2130706432, 1610612736, 536870912]) T123.slt_36 (by decide) (by first | rfl | kernel_rfl) (reps_cons (c := [.int .i64 8388608]) rfl (reps_cons (c := [.int .i64 2130706432]) rfl (reps_cons (c := [.int .i64 1610612736]) rfl (reps_cons (c := [.int .i64 536870912]) rfl (rfl : Reps kI [] []))))) rfl (fun b54 w55 hN56 => ?_))
          replace B := B.new1 hN56
          clear hN56
          have Bt := B.weakO 0 rfl
          refine s_k rfl (k_call T123.fn_143 (c_s_among (by omega) (by omega) (by omega) (by omega) (Bt.all.pick [1, 0, 2] rfl) (Bt.pw.pick [1, 0, 2] rfl rfl)) rfl ?_)
          rintro _ w57 ⟨v59, rfl, hU58⟩
          replace B : Bu w (hasW [.blk bs [.slice aq nq cq, .int .i64 p, .int .u64 (sdY Xq p)] 131]) w57 [.blk bs [.slice aq nq cq, .int .i64 ((((p + 1) + 1) + 1 + 1) + 1), .int .u64 (sdY Xq ((((p + 1) + 1) + 1 + 1) + 1))] 131, .ow kI (some ⟨b54, 0, none⟩) 4 4 2 ([8388608, 2130706432, 1610612736, 536870912]), .rd kY aq nq Xq] := B.upd [1] rfl hU58
          clear hU58
          refine s_k rfl (k_call T123.fn_142 (c_s_l01From) rfl ?_)
          rintro _ w60 ⟨⟨r62, rfl, hr63⟩, e61⟩
          replace B := B.ext0 e61
          clear e61
          refine s_n rfl (n_arith (by decide) rfl rfl) ?_
          rintro _ w67 e68 ⟨r65, rfl, hr66⟩
          replace B := B.ext0 e68
          clear e68
          have hc69 := fopC hr66 (cnR hp53) hr63
          refine s_y (v := .float .f32 r65) rfl (y_assign rfl) ?_
          refine s_nil ?_
          refine W_ret ?_
          refine ret1 (v := .float .f32 r65) rfl rfl rfl ⟨_, rfl, ?_⟩
          exact ⟨_, _, rfl, hc69.2, (by omega), (by omega), B.wrote [0] rfl rfl rfl⟩
end Go.Proofs.Ytgohmocjjmkepaa
