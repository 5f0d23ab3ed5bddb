/- Walks: what the functions under FnMirrors do (part 3). Printed by a program of this claim's author. -/
import Derived.Test.YtgohmocjjmkepaaMirrorsW1
set_option linter.unusedSimpArgs false
set_option linter.unusedVariables false
open Go.Wv
namespace Go.Proofs.Ytgohmocjjmkepaa
open Go.Proofs
namespace T52
theorem mx : Try.prog.follows .mixedOrders = true := by kernel_rfl
theorem agg_26_5 : aggB Try.prog 26 5 = true := by kernel_rfl
theorem agg_30_3 : aggB Try.prog 30 3 = true := by kernel_rfl
theorem fld_26_0_0 : fldB Try.prog 26 0 0 = true := by kernel_rfl
theorem fld_26_1_1 : fldB Try.prog 26 1 1 = true := by kernel_rfl
theorem fld_30_0_0 : fldB Try.prog 30 0 0 = true := by kernel_rfl
theorem fld_30_1_1 : fldB Try.prog 30 1 1 = true := by kernel_rfl
theorem fld_30_2_2 : fldB Try.prog 30 2 2 = true := by kernel_rfl
theorem fn_104 : fnB Try.prog 104 = true := by kernel_rfl
theorem fn_105 : fnB Try.prog 105 = true := by kernel_rfl
theorem fn_106 : fnB Try.prog 106 = true := by kernel_rfl
theorem fn_107 : fnB Try.prog 107 = true := by kernel_rfl
theorem fn_41 : fnB Try.prog 41 = true := by kernel_rfl
theorem one_2 : oneB Try.prog 2 = true := by kernel_rfl
theorem one_24 : oneB Try.prog 24 = true := by kernel_rfl
theorem sz_30_3 : szB Try.prog 30 3 = true := by kernel_rfl
theorem zero_30 : zeroB Try.prog 30 (.agg #[.slice none 0 0, .slice none 0 0, .slice none 0 0]) := by unfold zeroB; kernel_rfl
end T52
set_option maxRecDepth 100000 in
set_option maxHeartbeats 4000000 in
theorem c_i_MirrorField {wd : Int} {hi : Int} {wr : Bool} {asp : Option Addr} {nsp : Nat} {csp : Nat} {Xsp : List Nat} {als : Option Addr} {nls : Nat} {cls : Nat} {Xls : List Nat} {afe : Option Addr} {nfe : Nat} {cfe : Nat} {Xfe : List Nat} {afx : Option Addr} {nfx : Nat} {cfx : Nat} {Xfx : List Nat} {afy : Option Addr} {nfy : Nat} {cfy : Nat} {Xfy : List Nat} {w : World} (qsp : Rd w kF asp nsp Xsp) (qls : Rd w kF als nls Xls) (qfe : Rd w kF afe nfe Xfe) (qfx : Rd w kF afx nfx Xfx) (qfy : Rd w kF afy nfy Xfy) (hbsp : nsp ≤ 9223372036854775806) (hbls : nls ≤ 9223372036854775806) (hbfe : nfe ≤ 9223372036854775806) (hbfx : nfx ≤ 9223372036854775806) (hbfy : nfy ≤ 9223372036854775806) :
    Calls Try.prog 52 #[.agg #[.int .i64 wd, .int .i64 hi, .bool wr, .slice asp nsp csp, .slice als nls cls], .agg #[.slice afe nfe cfe, .slice afx nfx cfx, .slice afy nfy cfy]] w (Rt fun v w' => (fieldB wd hi wr Xsp Xls Xfe Xfx Xfy = true ∧ ∃ (a1 : Option Addr) (c1 : Nat) (a2 : Option Addr) (c2 : Nat) (a3 : Option Addr) (c3 : Nat), v = .tuple #[.agg #[.slice a1 ((wd * hi).toNat) c1, .slice a2 ((wd * hi).toNat) c2, .slice a3 ((wd * hi).toNat) c3], .bool true] ∧ New w w' [.ow kF a1 ((wd * hi).toNat) c1 34 (mirS wd hi Xfe), .ow kF a2 ((wd * hi).toNat) c2 34 (mirS wd hi Xfx), .ow kF a3 ((wd * hi).toNat) c3 34 (mirY wd hi Xfy)]) ∨ (fieldB wd hi wr Xsp Xls Xfe Xfx Xfy = false ∧ v = .tuple #[.agg #[.slice none 0 0, .slice none 0 0, .slice none 0 0], .bool false] ∧ Ext0 w w')) := by
  have hlsp := qsp.len
  have hlls := qls.len
  have hlfe := qfe.len
  have hlfx := qfx.len
  have hlfy := qfy.len
  have B : Bu w no w [.rd kF asp nsp Xsp, .rd kF als nls Xls, .rd kF afe nfe Xfe, .rd kF afx nfx Xfx, .rd kF afy nfy Xfy] := Bu.ro (All.cons qsp (All.cons qls (All.cons qfe (All.cons qfx (All.cons qfy All.nil))))) rfl
  refine calls_W (n := 44) Try.func52 rfl rfl (Nat.le_of_ble_eq_true rfl) ?_
  refine W_seq ?_
  refine W_region (by kernel_rfl) ?_
  refine s_k rfl (k_boxN (v := .agg #[.int .i64 wd, .int .i64 hi, .bool wr, .slice asp nsp csp, .slice als nls cls]) (cs := [.int .i64 wd, .int .i64 hi, .bool wr, .slice asp nsp csp, .slice als nls cls]) rfl rfl (fun b1 w2 hN3 => ?_))
  replace B := B.new1 hN3
  clear hN3
  refine s_k rfl (k_boxN (v := .agg #[.slice afe nfe cfe, .slice afx nfx cfx, .slice afy nfy cfy]) (cs := [.slice afe nfe cfe, .slice afx nfx cfx, .slice afy nfy cfy]) rfl rfl (fun b4 w5 hN6 => ?_))
  replace B := B.new1 hN6
  clear hN6
  refine s_k rfl (k_allocN (z := (.agg #[.slice none 0 0, .slice none 0 0, .slice none 0 0])) (cs := [.slice none 0 0, .slice none 0 0, .slice none 0 0]) T52.zero_30 rfl (fun b7 w8 hN9 => ?_))
  replace B := B.new1 hN9
  clear hN9
  refine s_y (v := .bool false) rfl (y_assign rfl) ?_
  refine s_nil ?_
  refine W_seq ?_
  refine W_seq ?_
  refine W_region (by kernel_rfl) ?_
  refine s_y (v := .agg #[.int .i64 wd, .int .i64 hi, .bool wr, .slice asp nsp csp, .slice als nls cls]) rfl (y_loadn (b := b1) (o := 0) (vs := [.int .i64 wd, .int .i64 hi, .bool wr, .slice asp nsp csp, .slice als nls cls]) T52.agg_26_5 rfl rfl ((B.b 2 rfl).cells (o := 0) rfl)) ?_
  refine s_y (v := .agg #[.slice afe nfe cfe, .slice afx nfx cfx, .slice afy nfy cfy]) rfl (y_loadn (b := b4) (o := 0) (vs := [.slice afe nfe cfe, .slice afx nfx cfx, .slice afy nfy cfy]) T52.agg_30_3 rfl rfl ((B.b 1 rfl).cells (o := 0) rfl)) ?_
  refine s_k rfl (k_call T52.fn_41 (c_i_IsField (B.r 3 rfl) (B.r 4 rfl) (B.r 5 rfl) (B.r 6 rfl) (B.r 7 rfl) (by omega) (by omega) (by omega) (by omega) (by omega)) rfl ?_)
  rintro v12 w10 ⟨hv13, e11⟩
  replace B := B.ext0 e11
  clear e11
  by_cases c14 : fieldB wd hi wr Xsp Xls Xfe Xfx Xfy = true
  · have hb15 := fieldB_b c14
    obtain rfl : v12 = .bool true := hv13.trans (congrArg Value.bool c14)
    refine s_y (v := .bool false) rfl (y_not rfl rfl) ?_
    refine s_nil ?_
    refine W_if_f (by decide) rfl ?_
    refine W_skip ?_
    refine W_seq ?_
    refine W_region (by kernel_rfl) ?_
    refine s_y (v := .func (.func 105) #[] #[.pointer (some ⟨b1, 0, none⟩)]) rfl (y_func rfl rfl) ?_
    refine s_y (v := .func (.func 105) #[] #[.pointer (some ⟨b1, 0, none⟩)]) rfl (y_assign rfl) ?_
    refine s_nil ?_
    refine W_seq ?_
    refine W_region (by kernel_rfl) ?_
    refine s_y (v := .func (.func 106) #[] #[.pointer (some ⟨b1, 0, none⟩)]) rfl (y_func rfl rfl) ?_
    refine s_y (v := .func (.func 106) #[] #[.pointer (some ⟨b1, 0, none⟩)]) rfl (y_assign rfl) ?_
    refine s_nil ?_
    refine W_seq ?_
    have B0_20 := B
    refine W_draw (at1 b7) T52.mx (by kernel_rfl) (fun w18 e19 => ?_)
    have R21 := Ext.refl (at1 b7) w10
    replace R21 := R21.trans (Ext0.any e19)
    replace B := B.ext0 e19
    clear e19
    refine m_y (v := .agg #[.int .i64 wd, .int .i64 hi, .bool wr, .slice asp nsp csp, .slice als nls cls]) 0 rfl (by kernel_rfl) rfl rfl (fun w' e' => y_loadn (b := b1) (o := 0) (vs := [.int .i64 wd, .int .i64 hi, .bool wr, .slice asp nsp csp, .slice als nls cls]) T52.agg_26_5 rfl rfl ((B0_20.bx 2 0 rfl rfl rfl rfl e' (fun _ h => h)).cells (o := 0) rfl)) ?_
    refine m_y (v := .pointer (some ⟨b4, 0, none⟩)) 1 rfl (by kernel_rfl) rfl rfl (fun w' e' => y_fld (o := 0) T52.fld_30_0_0 rfl) ?_
    refine m_y (v := .slice afe nfe cfe) 2 rfl (by kernel_rfl) rfl rfl (fun w' e' => y_load T52.one_24 rfl ((B0_20.bx 1 0 rfl rfl rfl rfl e' (fun _ h => h)).cell (j := 0) rfl)) ?_
    refine m_y (v := .pointer (some ⟨b1, 0, none⟩)) 3 rfl (by kernel_rfl) rfl rfl (fun w' e' => y_fld (o := 0) T52.fld_26_0_0 rfl) ?_
    refine m_y (v := .int .i64 wd) 4 rfl (by kernel_rfl) rfl rfl (fun w' e' => y_load T52.one_2 rfl ((B0_20.bx 2 0 rfl rfl rfl rfl e' (fun _ h => h)).cell (j := 0) rfl)) ?_
    refine m_y (v := .pointer (some ⟨b1, 1, none⟩)) 5 rfl (by kernel_rfl) rfl rfl (fun w' e' => y_fld (o := 0) T52.fld_26_1_1 rfl) ?_
    refine m_y (v := .int .i64 hi) 6 rfl (by kernel_rfl) rfl rfl (fun w' e' => y_load T52.one_2 rfl ((B0_20.bx 2 0 rfl rfl rfl rfl e' (fun _ h => h)).cell (j := 1) rfl)) ?_
    refine m_y (v := .func (.func 105) #[] #[.pointer (some ⟨b1, 0, none⟩)]) 7 rfl (by kernel_rfl) rfl rfl (fun w' e' => y_move rfl) ?_
    refine m_y (v := .agg #[.int .i64 wd, .int .i64 hi, .bool wr, .slice asp nsp csp, .slice als nls cls]) 9 rfl (by kernel_rfl) rfl rfl (fun w' e' => y_loadn (b := b1) (o := 0) (vs := [.int .i64 wd, .int .i64 hi, .bool wr, .slice asp nsp csp, .slice als nls cls]) T52.agg_26_5 rfl rfl ((B0_20.bx 2 0 rfl rfl rfl rfl e' (fun _ h => h)).cells (o := 0) rfl)) ?_
    refine m_y (v := .pointer (some ⟨b4, 1, none⟩)) 10 rfl (by kernel_rfl) rfl rfl (fun w' e' => y_fld (o := 0) T52.fld_30_1_1 rfl) ?_
    refine m_y (v := .slice afx nfx cfx) 11 rfl (by kernel_rfl) rfl rfl (fun w' e' => y_load T52.one_24 rfl ((B0_20.bx 1 0 rfl rfl rfl rfl e' (fun _ h => h)).cell (j := 1) rfl)) ?_
    refine m_y (v := .pointer (some ⟨b1, 0, none⟩)) 12 rfl (by kernel_rfl) rfl rfl (fun w' e' => y_fld (o := 0) T52.fld_26_0_0 rfl) ?_
    refine m_y (v := .int .i64 wd) 13 rfl (by kernel_rfl) rfl rfl (fun w' e' => y_load T52.one_2 rfl ((B0_20.bx 2 0 rfl rfl rfl rfl e' (fun _ h => h)).cell (j := 0) rfl)) ?_
    refine m_y (v := .pointer (some ⟨b1, 1, none⟩)) 14 rfl (by kernel_rfl) rfl rfl (fun w' e' => y_fld (o := 0) T52.fld_26_1_1 rfl) ?_
    refine m_y (v := .int .i64 hi) 15 rfl (by kernel_rfl) rfl rfl (fun w' e' => y_load T52.one_2 rfl ((B0_20.bx 2 0 rfl rfl rfl rfl e' (fun _ h => h)).cell (j := 1) rfl)) ?_
    refine m_y (v := .func (.func 105) #[] #[.pointer (some ⟨b1, 0, none⟩)]) 16 rfl (by kernel_rfl) rfl rfl (fun w' e' => y_move rfl) ?_
    refine m_y (v := .agg #[.int .i64 wd, .int .i64 hi, .bool wr, .slice asp nsp csp, .slice als nls cls]) 18 rfl (by kernel_rfl) rfl rfl (fun w' e' => y_loadn (b := b1) (o := 0) (vs := [.int .i64 wd, .int .i64 hi, .bool wr, .slice asp nsp csp, .slice als nls cls]) T52.agg_26_5 rfl rfl ((B0_20.bx 2 0 rfl rfl rfl rfl e' (fun _ h => h)).cells (o := 0) rfl)) ?_
    refine m_y (v := .pointer (some ⟨b4, 2, none⟩)) 19 rfl (by kernel_rfl) rfl rfl (fun w' e' => y_fld (o := 0) T52.fld_30_2_2 rfl) ?_
    refine m_y (v := .slice afy nfy cfy) 20 rfl (by kernel_rfl) rfl rfl (fun w' e' => y_load T52.one_24 rfl ((B0_20.bx 1 0 rfl rfl rfl rfl e' (fun _ h => h)).cell (j := 2) rfl)) ?_
    refine m_y (v := .pointer (some ⟨b1, 0, none⟩)) 21 rfl (by kernel_rfl) rfl rfl (fun w' e' => y_fld (o := 0) T52.fld_26_0_0 rfl) ?_
    refine m_y (v := .int .i64 wd) 22 rfl (by kernel_rfl) rfl rfl (fun w' e' => y_load T52.one_2 rfl ((B0_20.bx 2 0 rfl rfl rfl rfl e' (fun _ h => h)).cell (j := 0) rfl)) ?_
    refine m_y (v := .pointer (some ⟨b1, 1, none⟩)) 23 rfl (by kernel_rfl) rfl rfl (fun w' e' => y_fld (o := 0) T52.fld_26_1_1 rfl) ?_
    refine m_y (v := .int .i64 hi) 24 rfl (by kernel_rfl) rfl rfl (fun w' e' => y_load T52.one_2 rfl ((B0_20.bx 2 0 rfl rfl rfl rfl e' (fun _ h => h)).cell (j := 1) rfl)) ?_
    refine m_y (v := .func (.func 106) #[] #[.pointer (some ⟨b1, 0, none⟩)]) 25 rfl (by kernel_rfl) rfl rfl (fun w' e' => y_move rfl) ?_
    refine m_k 8 [17, 26, 27, 28, 29, 30] rfl (by kernel_rfl) rfl rfl (fun w22 e23 => ?_)
    replace R21 := R21.trans (Ext0.any e23)
    replace B := B.ext0 e23
    clear e23
    refine k_call T52.fn_104 (c_i_moved (f := 105) (us := []) (xs := [.pointer (some ⟨b1, 0, none⟩)]) (FU := (fun xq _ => wd - 1 - xq)) (FV := (fun _ yq => yq)) (W := wd) (H := hi) (B.r 5 rfl) T52.fn_105 (fun xq yq w1 he h0 h1 h2 h3 => (c_i_MirrorField_1 ((B.b 2 rfl).sl.ext0 he) (by omega) (by omega) (by omega) (by omega))) (fun x y h0 h1 h2 h3 => by first | omega | (simp only []; omega)) (by omega) (by omega) (by omega) (by omega) (by omega) (by omega) (by omega) (by omega) (by omega)) rfl ?_
    rintro _ w24 ⟨a25, c26, rfl, hN27⟩
    replace R21 := R21.trans (Ext0.any hN27.ext)
    replace B := B.new1 hN27
    clear hN27
    refine ⟨fun _ => R21, ?_⟩
    refine m_k 17 [26, 27, 28, 29, 30] rfl (by kernel_rfl) rfl rfl (fun w28 e29 => ?_)
    replace R21 := R21.trans (Ext0.any e29)
    replace B := B.ext0 e29
    clear e29
    refine k_call T52.fn_104 (c_i_moved (f := 105) (us := []) (xs := [.pointer (some ⟨b1, 0, none⟩)]) (FU := (fun xq _ => wd - 1 - xq)) (FV := (fun _ yq => yq)) (W := wd) (H := hi) (B.r 7 rfl) T52.fn_105 (fun xq yq w1 he h0 h1 h2 h3 => (c_i_MirrorField_1 ((B.b 3 rfl).sl.ext0 he) (by omega) (by omega) (by omega) (by omega))) (fun x y h0 h1 h2 h3 => by first | omega | (simp only []; omega)) (by omega) (by omega) (by omega) (by omega) (by omega) (by omega) (by omega) (by omega) (by omega)) rfl ?_
    rintro _ w30 ⟨a31, c32, rfl, hN33⟩
    replace R21 := R21.trans (Ext0.any hN33.ext)
    replace B := B.new1 hN33
    clear hN33
    refine ⟨fun _ => R21, ?_⟩
    refine m_k 26 [27, 28, 29, 30] rfl (by kernel_rfl) rfl rfl (fun w34 e35 => ?_)
    replace R21 := R21.trans (Ext0.any e35)
    replace B := B.ext0 e35
    clear e35
    refine k_call T52.fn_104 (c_i_moved (f := 106) (us := []) (xs := [.pointer (some ⟨b1, 0, none⟩)]) (FU := (fun xq _ => wd - 2 - xq)) (FV := (fun _ yq => yq)) (W := wd) (H := hi) (B.r 9 rfl) T52.fn_106 (fun xq yq w1 he h0 h1 h2 h3 => (c_i_MirrorField_2 ((B.b 4 rfl).sl.ext0 he) (by omega) (by omega) (by omega) (by omega))) (fun x y h0 h1 h2 h3 => by first | omega | (simp only []; omega)) (by omega) (by omega) (by omega) (by omega) (by omega) (by omega) (by omega) (by omega) (by omega)) rfl ?_
    rintro _ w36 ⟨a37, c38, rfl, hN39⟩
    replace R21 := R21.trans (Ext0.any hN39.ext)
    replace B := B.new1 hN39
    clear hN39
    refine ⟨fun _ => R21, ?_⟩
    refine m_k 27 [28, 29, 30] rfl (by kernel_rfl) rfl rfl (fun w40 e41 => ?_)
    replace R21 := R21.trans (Ext0.any e41)
    replace B := B.ext0 e41
    clear e41
    refine k_call T52.fn_107 (c_i_opposites ((B.o 0 rfl).rd) (by omega)) rfl ?_
    rintro _ w42 ⟨a43, c44, rfl, hN45⟩
    replace R21 := R21.trans (Ext0.any hN45.ext)
    replace B := B.new1 hN45
    clear hN45
    refine ⟨fun _ => R21, ?_⟩
    refine m_y (v := .agg #[.slice a25 ((wd * hi).toNat) c26, .slice a31 ((wd * hi).toNat) c32, .slice a43 ((wd * hi).toNat) c44]) 28 rfl (by kernel_rfl) rfl rfl (fun w' e' => y_build (cells := #[.slice a25 ((wd * hi).toNat) c26, .slice a31 ((wd * hi).toNat) c32, .slice a43 ((wd * hi).toNat) c44]) (by kernel_rfl)) ?_
    refine m_k 29 [30] rfl (by kernel_rfl) rfl rfl (fun w48 e49 => ?_)
    replace R21 := R21.trans (Ext0.any e49)
    replace B := B.ext0 e49
    clear e49
    refine k_stB (v := .agg #[.slice a25 ((wd * hi).toNat) c26, .slice a31 ((wd * hi).toNat) c32, .slice a43 ((wd * hi).toNat) c44]) (n := 3) (cs' := [.slice a25 ((wd * hi).toNat) c26, .slice a31 ((wd * hi).toNat) c32, .slice a43 ((wd * hi).toNat) c44]) T52.sz_30_3 rfl rfl rfl (B.b 4 rfl) (by simp [Value.cells, Value.oneCell']) (Nat.le_of_ble_eq_true rfl) rfl (fun w46 hU47 => ?_)
    replace R21 := R21.trans hU47.at1
    replace B : Bu w no w46 [.blk b7 [.slice a25 ((wd * hi).toNat) c26, .slice a31 ((wd * hi).toNat) c32, .slice a43 ((wd * hi).toNat) c44] 30, .ow kF a43 ((wd * hi).toNat) c44 34 (negL ((wd * hi).toNat) (movL wd hi (fun xp yp => atI wd hi ((fun xq _ => wd - 2 - xq) xp yp) ((fun _ yq => yq) xp yp)) Xfy)), .ow kF a37 ((wd * hi).toNat) c38 34 (movL wd hi (fun xp yp => atI wd hi ((fun xq _ => wd - 2 - xq) xp yp) ((fun _ yq => yq) xp yp)) Xfy), .ow kF a31 ((wd * hi).toNat) c32 34 (movL wd hi (fun xp yp => atI wd hi ((fun xq _ => wd - 1 - xq) xp yp) ((fun _ yq => yq) xp yp)) Xfx), .ow kF a25 ((wd * hi).toNat) c26 34 (movL wd hi (fun xp yp => atI wd hi ((fun xq _ => wd - 1 - xq) xp yp) ((fun _ yq => yq) xp yp)) Xfe), .blk b4 [.slice afe nfe cfe, .slice afx nfx cfx, .slice afy nfy cfy] 30, .blk b1 [.int .i64 wd, .int .i64 hi, .bool wr, .slice asp nsp csp, .slice als nls cls] 26, .rd kF asp nsp Xsp, .rd kF als nls Xls, .rd kF afe nfe Xfe, .rd kF afx nfx Xfx, .rd kF afy nfy Xfy] := B.upd [4] rfl hU47
    clear hU47
    refine ⟨fun _ => R21, ?_⟩
    refine m_y (v := .bool true) 30 rfl (by kernel_rfl) rfl rfl (fun w' e' => y_assign rfl) ?_
    refine m_done (by kernel_rfl) (fun w50 e51 => ?_)
    replace B := B.ext0 e51
    clear e51
    clear B0_20 R21
    refine W_ret ?_
    refine ret2 (v1 := .agg #[.slice a25 ((wd * hi).toNat) c26, .slice a31 ((wd * hi).toNat) c32, .slice a43 ((wd * hi).toNat) c44]) (v2 := .bool true) rfl rfl rfl ⟨_, [.slice a25 ((wd * hi).toNat) c26, .slice a31 ((wd * hi).toNat) c32, .slice a43 ((wd * hi).toNat) c44], _, rfl, (B.b 0 rfl), T52.agg_30_3, rfl⟩ rfl ⟨_, rfl, ?_⟩
    have hcond : fieldB wd hi wr Xsp Xls Xfe Xfx Xfy = true := by simp only [c14, Bool.and_true, Bool.true_and, Bool.and_false, Bool.false_and, Bool.not_true, Bool.not_false, Bool.or_true, Bool.true_or, Bool.or_false, Bool.false_or]
    replace B : Bu w no w50 [.blk b7 [.slice a25 ((wd * hi).toNat) c26, .slice a31 ((wd * hi).toNat) c32, .slice a43 ((wd * hi).toNat) c44] 30, .ow kF a43 ((wd * hi).toNat) c44 34 (negL ((wd * hi).toNat) (movL wd hi (fun xp yp => atI wd hi ((fun xq _ => wd - 2 - xq) xp yp) ((fun _ yq => yq) xp yp)) Xfy)), .ow kF a37 ((wd * hi).toNat) c38 34 (movL wd hi (fun xp yp => atI wd hi ((fun xq _ => wd - 2 - xq) xp yp) ((fun _ yq => yq) xp yp)) Xfy), .ow kF a31 ((wd * hi).toNat) c32 34 (movL wd hi (fun xp yp => atI wd hi ((fun xq _ => wd - 1 - xq) xp yp) ((fun _ yq => yq) xp yp)) Xfx), .ow kF a25 ((wd * hi).toNat) c26 34 (mirS wd hi Xfe), .blk b4 [.slice afe nfe cfe, .slice afx nfx cfx, .slice afy nfy cfy] 30, .blk b1 [.int .i64 wd, .int .i64 hi, .bool wr, .slice asp nsp csp, .slice als nls cls] 26, .rd kF asp nsp Xsp, .rd kF als nls Xls, .rd kF afe nfe Xfe, .rd kF afx nfx Xfx, .rd kF afy nfy Xfy] := B.castX 4 rfl rfl (mir_i (by omega))
    replace B : Bu w no w50 [.blk b7 [.slice a25 ((wd * hi).toNat) c26, .slice a31 ((wd * hi).toNat) c32, .slice a43 ((wd * hi).toNat) c44] 30, .ow kF a43 ((wd * hi).toNat) c44 34 (negL ((wd * hi).toNat) (movL wd hi (fun xp yp => atI wd hi ((fun xq _ => wd - 2 - xq) xp yp) ((fun _ yq => yq) xp yp)) Xfy)), .ow kF a37 ((wd * hi).toNat) c38 34 (movL wd hi (fun xp yp => atI wd hi ((fun xq _ => wd - 2 - xq) xp yp) ((fun _ yq => yq) xp yp)) Xfy), .ow kF a31 ((wd * hi).toNat) c32 34 (mirS wd hi Xfx), .ow kF a25 ((wd * hi).toNat) c26 34 (mirS wd hi Xfe), .blk b4 [.slice afe nfe cfe, .slice afx nfx cfx, .slice afy nfy cfy] 30, .blk b1 [.int .i64 wd, .int .i64 hi, .bool wr, .slice asp nsp csp, .slice als nls cls] 26, .rd kF asp nsp Xsp, .rd kF als nls Xls, .rd kF afe nfe Xfe, .rd kF afx nfx Xfx, .rd kF afy nfy Xfy] := B.castX 3 rfl rfl (mir_i (by omega))
    replace B : Bu w no w50 [.blk b7 [.slice a25 ((wd * hi).toNat) c26, .slice a31 ((wd * hi).toNat) c32, .slice a43 ((wd * hi).toNat) c44] 30, .ow kF a43 ((wd * hi).toNat) c44 34 (mirY wd hi Xfy), .ow kF a37 ((wd * hi).toNat) c38 34 (movL wd hi (fun xp yp => atI wd hi ((fun xq _ => wd - 2 - xq) xp yp) ((fun _ yq => yq) xp yp)) Xfy), .ow kF a31 ((wd * hi).toNat) c32 34 (mirS wd hi Xfx), .ow kF a25 ((wd * hi).toNat) c26 34 (mirS wd hi Xfe), .blk b4 [.slice afe nfe cfe, .slice afx nfx cfx, .slice afy nfy cfy] 30, .blk b1 [.int .i64 wd, .int .i64 hi, .bool wr, .slice asp nsp csp, .slice als nls cls] 26, .rd kF asp nsp Xsp, .rd kF als nls Xls, .rd kF afe nfe Xfe, .rd kF afx nfx Xfx, .rd kF afy nfy Xfy] := B.castX 1 rfl rfl (mirY_i (by omega) (by omega))
    exact .inl ⟨hcond, ⟨_, _, _, _, _, _, rfl, B.give [4, 3, 1] rfl rfl rfl⟩⟩
  · obtain rfl : v12 = .bool false := hv13.trans (congrArg Value.bool (Bool.eq_false_iff.2 c14))
    refine s_y (v := .bool true) rfl (y_not rfl rfl) ?_
    refine s_nil ?_
    refine W_if_t (by decide) rfl ?_
    refine W_seq ?_
    refine W_region (by kernel_rfl) ?_
    refine s_y (v := .agg #[.slice none 0 0, .slice none 0 0, .slice none 0 0]) rfl (y_build (cells := #[.slice none 0 0, .slice none 0 0, .slice none 0 0]) (by kernel_rfl)) ?_
    refine s_k0 rfl (k_stB (v := .agg #[.slice none 0 0, .slice none 0 0, .slice none 0 0]) (n := 3) (cs' := [.slice none 0 0, .slice none 0 0, .slice none 0 0]) T52.sz_30_3 rfl rfl rfl (B.b 0 rfl) (by simp [Value.cells, Value.oneCell']) (Nat.le_of_ble_eq_true rfl) rfl (fun w52 hU53 => ?_))
    replace B : Bu w no w52 [.blk b7 [.slice none 0 0, .slice none 0 0, .slice none 0 0] 30, .blk b4 [.slice afe nfe cfe, .slice afx nfx cfx, .slice afy nfy cfy] 30, .blk b1 [.int .i64 wd, .int .i64 hi, .bool wr, .slice asp nsp csp, .slice als nls cls] 26, .rd kF asp nsp Xsp, .rd kF als nls Xls, .rd kF afe nfe Xfe, .rd kF afx nfx Xfx, .rd kF afy nfy Xfy] := B.upd [0] rfl hU53
    clear hU53
    refine s_y (v := .bool false) rfl (y_assign rfl) ?_
    refine s_nil ?_
    refine W_ret ?_
    refine ret2 (v1 := .agg #[.slice none 0 0, .slice none 0 0, .slice none 0 0]) (v2 := .bool false) rfl rfl rfl ⟨_, [.slice none 0 0, .slice none 0 0, .slice none 0 0], _, rfl, (B.b 0 rfl), T52.agg_30_3, rfl⟩ rfl ⟨_, rfl, ?_⟩
    exact .inr ⟨by simp only [(Bool.eq_false_iff.2 c14), Bool.and_true, Bool.true_and, Bool.and_false, Bool.false_and, Bool.not_true, Bool.not_false, Bool.or_true, Bool.true_or, Bool.or_false, Bool.false_or], rfl, B.ext⟩
namespace T108
theorem mx : Try.prog.follows .mixedOrders = true := by kernel_rfl
end T108
set_option maxRecDepth 100000 in
set_option maxHeartbeats 4000000 in
theorem c_i_exchanged {x : Int} {y : Int} {w : World} :
    Calls Try.prog 108 #[.int .i64 x, .int .i64 y] w (Rt fun v w' => v = .tuple #[.int .i64 y, .int .i64 x] ∧ Ext0 w w') := by
  have B : Bu w no w [] := Bu.ro All.nil rfl
  refine calls_W (n := 8) Try.func108 rfl rfl (Nat.le_of_ble_eq_true rfl) ?_
  refine W_seq ?_
  refine W_region (by kernel_rfl) ?_
  refine s_y (v := .int .i64 0) rfl (y_assign rfl) ?_
  refine s_y (v := .int .i64 0) rfl (y_assign rfl) ?_
  refine s_nil ?_
  refine W_seq ?_
  refine W_region (by kernel_rfl) ?_
  refine s_y (v := .int .i64 y) rfl (y_move rfl) ?_
  refine s_y (v := .int .i64 x) rfl (y_move rfl) ?_
  refine s_y (v := .int .i64 y) rfl (y_assign rfl) ?_
  refine s_y (v := .int .i64 x) rfl (y_assign rfl) ?_
  refine s_nil ?_
  refine W_ret ?_
  refine ret2 (v1 := .int .i64 y) (v2 := .int .i64 x) rfl rfl rfl rfl rfl ⟨_, rfl, ?_⟩
  exact ⟨rfl, B.ext⟩
namespace T53
theorem mx : Try.prog.follows .mixedOrders = true := by kernel_rfl
theorem agg_26_5 : aggB Try.prog 26 5 = true := by kernel_rfl
theorem fld_26_0_0 : fldB Try.prog 26 0 0 = true := by kernel_rfl
theorem fld_26_1_1 : fldB Try.prog 26 1 1 = true := by kernel_rfl
theorem fld_26_2_2 : fldB Try.prog 26 2 2 = true := by kernel_rfl
theorem fld_26_3_3 : fldB Try.prog 26 3 3 = true := by kernel_rfl
theorem fld_26_4_4 : fldB Try.prog 26 4 4 = true := by kernel_rfl
theorem fn_104 : fnB Try.prog 104 = true := by kernel_rfl
theorem fn_108 : fnB Try.prog 108 = true := by kernel_rfl
theorem fn_65 : fnB Try.prog 65 = true := by kernel_rfl
theorem one_2 : oneB Try.prog 2 = true := by kernel_rfl
theorem one_24 : oneB Try.prog 24 = true := by kernel_rfl
theorem one_4 : oneB Try.prog 4 = true := by kernel_rfl
theorem sz_26_5 : szB Try.prog 26 5 = true := by kernel_rfl
theorem zero_26 : zeroB Try.prog 26 (.agg #[.int .i64 0, .int .i64 0, .bool false, .slice none 0 0, .slice none 0 0]) := by unfold zeroB; kernel_rfl
end T53
set_option maxRecDepth 100000 in
set_option maxHeartbeats 4000000 in
theorem c_i_SwapSheet {wd : Int} {hi : Int} {wr : Bool} {asp : Option Addr} {nsp : Nat} {csp : Nat} {Xsp : List Nat} {als : Option Addr} {nls : Nat} {cls : Nat} {Xls : List Nat} {w : World} (qsp : Rd w kF asp nsp Xsp) (qls : Rd w kF als nls Xls) (hbsp : nsp ≤ 9223372036854775806) (hbls : nls ≤ 9223372036854775806) :
    Calls Try.prog 53 #[.agg #[.int .i64 wd, .int .i64 hi, .bool wr, .slice asp nsp csp, .slice als nls cls]] w (Rt fun v w' => (validS wd hi Xsp Xls = true ∧ ∃ (a1 : Option Addr) (c1 : Nat) (a2 : Option Addr) (c2 : Nat), v = .tuple #[.agg #[.int .i64 hi, .int .i64 wd, .bool wr, .slice a1 ((wd * hi).toNat) c1, .slice a2 ((wd * hi).toNat) c2], .bool true] ∧ New w w' [.ow kF a1 ((wd * hi).toNat) c1 34 (swpS wd hi Xsp), .ow kF a2 ((wd * hi).toNat) c2 34 (swpS wd hi Xls)]) ∨ (validS wd hi Xsp Xls = false ∧ v = .tuple #[.agg #[.int .i64 0, .int .i64 0, .bool false, .slice none 0 0, .slice none 0 0], .bool false] ∧ Ext0 w w')) := by
  have hlsp := qsp.len
  have hlls := qls.len
  have B : Bu w no w [.rd kF asp nsp Xsp, .rd kF als nls Xls] := Bu.ro (All.cons qsp (All.cons qls All.nil)) rfl
  have hcm0 := Int.mul_comm hi wd
  refine calls_W (n := 31) Try.func53 rfl rfl (Nat.le_of_ble_eq_true rfl) ?_
  refine W_seq ?_
  refine W_region (by kernel_rfl) ?_
  refine s_k rfl (k_boxN (v := .agg #[.int .i64 wd, .int .i64 hi, .bool wr, .slice asp nsp csp, .slice als nls cls]) (cs := [.int .i64 wd, .int .i64 hi, .bool wr, .slice asp nsp csp, .slice als nls cls]) rfl rfl (fun b1 w2 hN3 => ?_))
  replace B := B.new1 hN3
  clear hN3
  refine s_k rfl (k_allocN (z := (.agg #[.int .i64 0, .int .i64 0, .bool false, .slice none 0 0, .slice none 0 0])) (cs := [.int .i64 0, .int .i64 0, .bool false, .slice none 0 0, .slice none 0 0]) T53.zero_26 rfl (fun b4 w5 hN6 => ?_))
  replace B := B.new1 hN6
  clear hN6
  refine s_y (v := .bool false) rfl (y_assign rfl) ?_
  refine s_nil ?_
  refine W_seq ?_
  refine W_seq ?_
  refine W_region (by kernel_rfl) ?_
  refine s_y (v := .agg #[.int .i64 wd, .int .i64 hi, .bool wr, .slice asp nsp csp, .slice als nls cls]) rfl (y_loadn (b := b1) (o := 0) (vs := [.int .i64 wd, .int .i64 hi, .bool wr, .slice asp nsp csp, .slice als nls cls]) T53.agg_26_5 rfl rfl ((B.b 1 rfl).cells (o := 0) rfl)) ?_
  refine s_k rfl (k_call T53.fn_65 (c_i_ValidSheet (B.r 2 rfl) (B.r 3 rfl) (by omega) (by omega)) rfl ?_)
  rintro v9 w7 ⟨hv10, e8⟩
  replace B := B.ext0 e8
  clear e8
  by_cases c11 : validS wd hi Xsp Xls = true
  · have hb12 := validS_b c11
    obtain rfl : v9 = .bool true := hv10.trans (congrArg Value.bool c11)
    refine s_y (v := .bool false) rfl (y_not rfl rfl) ?_
    refine s_nil ?_
    refine W_if_f (by decide) rfl ?_
    refine W_skip ?_
    refine W_seq ?_
    have B0_17 := B
    refine W_draw (at1 b4) T53.mx (by kernel_rfl) (fun w15 e16 => ?_)
    have R18 := Ext.refl (at1 b4) w7
    replace R18 := R18.trans (Ext0.any e16)
    replace B := B.ext0 e16
    clear e16
    refine m_y (v := .pointer (some ⟨b1, 1, none⟩)) 0 rfl (by kernel_rfl) rfl rfl (fun w' e' => y_fld (o := 0) T53.fld_26_1_1 rfl) ?_
    refine m_y (v := .int .i64 hi) 1 rfl (by kernel_rfl) rfl rfl (fun w' e' => y_load T53.one_2 rfl ((B0_17.bx 1 0 rfl rfl rfl rfl e' (fun _ h => h)).cell (j := 1) rfl)) ?_
    refine m_y (v := .pointer (some ⟨b1, 0, none⟩)) 2 rfl (by kernel_rfl) rfl rfl (fun w' e' => y_fld (o := 0) T53.fld_26_0_0 rfl) ?_
    refine m_y (v := .int .i64 wd) 3 rfl (by kernel_rfl) rfl rfl (fun w' e' => y_load T53.one_2 rfl ((B0_17.bx 1 0 rfl rfl rfl rfl e' (fun _ h => h)).cell (j := 0) rfl)) ?_
    refine m_y (v := .pointer (some ⟨b1, 2, none⟩)) 4 rfl (by kernel_rfl) rfl rfl (fun w' e' => y_fld (o := 0) T53.fld_26_2_2 rfl) ?_
    refine m_y (v := .bool wr) 5 rfl (by kernel_rfl) rfl rfl (fun w' e' => y_load T53.one_4 rfl ((B0_17.bx 1 0 rfl rfl rfl rfl e' (fun _ h => h)).cell (j := 2) rfl)) ?_
    refine m_y (v := .agg #[.int .i64 wd, .int .i64 hi, .bool wr, .slice asp nsp csp, .slice als nls cls]) 6 rfl (by kernel_rfl) rfl rfl (fun w' e' => y_loadn (b := b1) (o := 0) (vs := [.int .i64 wd, .int .i64 hi, .bool wr, .slice asp nsp csp, .slice als nls cls]) T53.agg_26_5 rfl rfl ((B0_17.bx 1 0 rfl rfl rfl rfl e' (fun _ h => h)).cells (o := 0) rfl)) ?_
    refine m_y (v := .pointer (some ⟨b1, 3, none⟩)) 7 rfl (by kernel_rfl) rfl rfl (fun w' e' => y_fld (o := 0) T53.fld_26_3_3 rfl) ?_
    refine m_y (v := .slice asp nsp csp) 8 rfl (by kernel_rfl) rfl rfl (fun w' e' => y_load T53.one_24 rfl ((B0_17.bx 1 0 rfl rfl rfl rfl e' (fun _ h => h)).cell (j := 3) rfl)) ?_
    refine m_y (v := .pointer (some ⟨b1, 1, none⟩)) 9 rfl (by kernel_rfl) rfl rfl (fun w' e' => y_fld (o := 0) T53.fld_26_1_1 rfl) ?_
    refine m_y (v := .int .i64 hi) 10 rfl (by kernel_rfl) rfl rfl (fun w' e' => y_load T53.one_2 rfl ((B0_17.bx 1 0 rfl rfl rfl rfl e' (fun _ h => h)).cell (j := 1) rfl)) ?_
    refine m_y (v := .pointer (some ⟨b1, 0, none⟩)) 11 rfl (by kernel_rfl) rfl rfl (fun w' e' => y_fld (o := 0) T53.fld_26_0_0 rfl) ?_
    refine m_y (v := .int .i64 wd) 12 rfl (by kernel_rfl) rfl rfl (fun w' e' => y_load T53.one_2 rfl ((B0_17.bx 1 0 rfl rfl rfl rfl e' (fun _ h => h)).cell (j := 0) rfl)) ?_
    refine m_y (v := .agg #[.int .i64 wd, .int .i64 hi, .bool wr, .slice asp nsp csp, .slice als nls cls]) 14 rfl (by kernel_rfl) rfl rfl (fun w' e' => y_loadn (b := b1) (o := 0) (vs := [.int .i64 wd, .int .i64 hi, .bool wr, .slice asp nsp csp, .slice als nls cls]) T53.agg_26_5 rfl rfl ((B0_17.bx 1 0 rfl rfl rfl rfl e' (fun _ h => h)).cells (o := 0) rfl)) ?_
    refine m_y (v := .pointer (some ⟨b1, 4, none⟩)) 15 rfl (by kernel_rfl) rfl rfl (fun w' e' => y_fld (o := 0) T53.fld_26_4_4 rfl) ?_
    refine m_y (v := .slice als nls cls) 16 rfl (by kernel_rfl) rfl rfl (fun w' e' => y_load T53.one_24 rfl ((B0_17.bx 1 0 rfl rfl rfl rfl e' (fun _ h => h)).cell (j := 4) rfl)) ?_
    refine m_y (v := .pointer (some ⟨b1, 1, none⟩)) 17 rfl (by kernel_rfl) rfl rfl (fun w' e' => y_fld (o := 0) T53.fld_26_1_1 rfl) ?_
    refine m_y (v := .int .i64 hi) 18 rfl (by kernel_rfl) rfl rfl (fun w' e' => y_load T53.one_2 rfl ((B0_17.bx 1 0 rfl rfl rfl rfl e' (fun _ h => h)).cell (j := 1) rfl)) ?_
    refine m_y (v := .pointer (some ⟨b1, 0, none⟩)) 19 rfl (by kernel_rfl) rfl rfl (fun w' e' => y_fld (o := 0) T53.fld_26_0_0 rfl) ?_
    refine m_y (v := .int .i64 wd) 20 rfl (by kernel_rfl) rfl rfl (fun w' e' => y_load T53.one_2 rfl ((B0_17.bx 1 0 rfl rfl rfl rfl e' (fun _ h => h)).cell (j := 0) rfl)) ?_
    refine m_k 13 [21, 22, 23, 24] rfl (by kernel_rfl) rfl rfl (fun w19 e20 => ?_)
    replace R18 := R18.trans (Ext0.any e20)
    replace B := B.ext0 e20
    clear e20
    refine k_call T53.fn_104 (c_i_moved (f := 108) (us := []) (xs := []) (FU := (fun _ y => y)) (FV := (fun x _ => x)) (W := hi) (H := wd) (B.r 2 rfl) T53.fn_108 (fun x y w1 he h0 h1 h2 h3 => c_i_exchanged) (fun x y h0 h1 h2 h3 => by first | omega | (simp only []; omega)) (by omega) (by omega) (by omega) (by omega) (by omega) (by omega) (by omega) (by omega) (by omega)) rfl ?_
    rintro _ w21 ⟨a22, c23, rfl, hN24⟩
    replace R18 := R18.trans (Ext0.any hN24.ext)
    replace B := B.new1 hN24
    clear hN24
    refine ⟨fun _ => R18, ?_⟩
    refine m_k 21 [22, 23, 24] rfl (by kernel_rfl) rfl rfl (fun w25 e26 => ?_)
    replace R18 := R18.trans (Ext0.any e26)
    replace B := B.ext0 e26
    clear e26
    refine k_call T53.fn_104 (c_i_moved (f := 108) (us := []) (xs := []) (FU := (fun _ y => y)) (FV := (fun x _ => x)) (W := hi) (H := wd) (B.r 4 rfl) T53.fn_108 (fun x y w1 he h0 h1 h2 h3 => c_i_exchanged) (fun x y h0 h1 h2 h3 => by first | omega | (simp only []; omega)) (by omega) (by omega) (by omega) (by omega) (by omega) (by omega) (by omega) (by omega) (by omega)) rfl ?_
    rintro _ w27 ⟨a28, c29, rfl, hN30⟩
    replace R18 := R18.trans (Ext0.any hN30.ext)
    replace B := B.new1 hN30
    clear hN30
    refine ⟨fun _ => R18, ?_⟩
    refine m_y (v := .agg #[.int .i64 hi, .int .i64 wd, .bool wr, .slice a22 ((hi * wd).toNat) c23, .slice a28 ((hi * wd).toNat) c29]) 22 rfl (by kernel_rfl) rfl rfl (fun w' e' => y_build (cells := #[.int .i64 hi, .int .i64 wd, .bool wr, .slice a22 ((hi * wd).toNat) c23, .slice a28 ((hi * wd).toNat) c29]) (by kernel_rfl)) ?_
    refine m_k 23 [24] rfl (by kernel_rfl) rfl rfl (fun w33 e34 => ?_)
    replace R18 := R18.trans (Ext0.any e34)
    replace B := B.ext0 e34
    clear e34
    refine k_stB (v := .agg #[.int .i64 hi, .int .i64 wd, .bool wr, .slice a22 ((hi * wd).toNat) c23, .slice a28 ((hi * wd).toNat) c29]) (n := 5) (cs' := [.int .i64 hi, .int .i64 wd, .bool wr, .slice a22 ((hi * wd).toNat) c23, .slice a28 ((hi * wd).toNat) c29]) T53.sz_26_5 rfl rfl rfl (B.b 2 rfl) (by simp [Value.cells, Value.oneCell']) (Nat.le_of_ble_eq_true rfl) rfl (fun w31 hU32 => ?_)
    replace R18 := R18.trans hU32.at1
    replace B : Bu w no w31 [.blk b4 [.int .i64 hi, .int .i64 wd, .bool wr, .slice a22 ((hi * wd).toNat) c23, .slice a28 ((hi * wd).toNat) c29] 26, .ow kF a28 ((hi * wd).toNat) c29 34 (movL hi wd (fun xp yp => atI wd hi ((fun _ y => y) xp yp) ((fun x _ => x) xp yp)) Xls), .ow kF a22 ((hi * wd).toNat) c23 34 (movL hi wd (fun xp yp => atI wd hi ((fun _ y => y) xp yp) ((fun x _ => x) xp yp)) Xsp), .blk b1 [.int .i64 wd, .int .i64 hi, .bool wr, .slice asp nsp csp, .slice als nls cls] 26, .rd kF asp nsp Xsp, .rd kF als nls Xls] := B.upd [2] rfl hU32
    clear hU32
    refine ⟨fun _ => R18, ?_⟩
    refine m_y (v := .bool true) 24 rfl (by kernel_rfl) rfl rfl (fun w' e' => y_assign rfl) ?_
    refine m_done (by kernel_rfl) (fun w35 e36 => ?_)
    replace B := B.ext0 e36
    clear e36
    clear B0_17 R18
    refine W_ret ?_
    refine ret2 (v1 := .agg #[.int .i64 hi, .int .i64 wd, .bool wr, .slice a22 ((hi * wd).toNat) c23, .slice a28 ((hi * wd).toNat) c29]) (v2 := .bool true) rfl rfl rfl ⟨_, [.int .i64 hi, .int .i64 wd, .bool wr, .slice a22 ((hi * wd).toNat) c23, .slice a28 ((hi * wd).toNat) c29], _, rfl, (B.b 0 rfl), T53.agg_26_5, rfl⟩ rfl ⟨_, rfl, ?_⟩
    have hcond : validS wd hi Xsp Xls = true := by simp only [c11, Bool.and_true, Bool.true_and, Bool.and_false, Bool.false_and, Bool.not_true, Bool.not_false, Bool.or_true, Bool.true_or, Bool.or_false, Bool.false_or]
    replace B : Bu w no w35 [.blk b4 [.int .i64 hi, .int .i64 wd, .bool wr, .slice a22 ((hi * wd).toNat) c23, .slice a28 ((hi * wd).toNat) c29] 26, .ow kF a28 ((hi * wd).toNat) c29 34 (movL hi wd (fun xp yp => atI wd hi ((fun _ y => y) xp yp) ((fun x _ => x) xp yp)) Xls), .ow kF a22 ((wd * hi).toNat) c23 34 (swpS wd hi Xsp), .blk b1 [.int .i64 wd, .int .i64 hi, .bool wr, .slice asp nsp csp, .slice als nls cls] 26, .rd kF asp nsp Xsp, .rd kF als nls Xls] := B.castX 2 rfl (by rw [Int.mul_comm]) (swp_i (by omega))
    replace B : Bu w no w35 [.blk b4 [.int .i64 hi, .int .i64 wd, .bool wr, .slice a22 ((hi * wd).toNat) c23, .slice a28 ((hi * wd).toNat) c29] 26, .ow kF a28 ((wd * hi).toNat) c29 34 (swpS wd hi Xls), .ow kF a22 ((wd * hi).toNat) c23 34 (swpS wd hi Xsp), .blk b1 [.int .i64 wd, .int .i64 hi, .bool wr, .slice asp nsp csp, .slice als nls cls] 26, .rd kF asp nsp Xsp, .rd kF als nls Xls] := B.castX 1 rfl (by rw [Int.mul_comm]) (swp_i (by omega))
    exact .inl ⟨hcond, ⟨_, _, _, _, (by rw [(show (hi * wd).toNat = (wd * hi).toNat from (by rw [Int.mul_comm]))]), B.give [2, 1] rfl rfl rfl⟩⟩
  · obtain rfl : v9 = .bool false := hv10.trans (congrArg Value.bool (Bool.eq_false_iff.2 c11))
    refine s_y (v := .bool true) rfl (y_not rfl rfl) ?_
    refine s_nil ?_
    refine W_if_t (by decide) rfl ?_
    refine W_seq ?_
    refine W_region (by kernel_rfl) ?_
    refine s_y (v := .agg #[.int .i64 0, .int .i64 0, .bool false, .slice none 0 0, .slice none 0 0]) rfl (y_build (cells := #[.int .i64 0, .int .i64 0, .bool false, .slice none 0 0, .slice none 0 0]) (by kernel_rfl)) ?_
    refine s_k0 rfl (k_stB (v := .agg #[.int .i64 0, .int .i64 0, .bool false, .slice none 0 0, .slice none 0 0]) (n := 5) (cs' := [.int .i64 0, .int .i64 0, .bool false, .slice none 0 0, .slice none 0 0]) T53.sz_26_5 rfl rfl rfl (B.b 0 rfl) (by simp [Value.cells, Value.oneCell']) (Nat.le_of_ble_eq_true rfl) rfl (fun w37 hU38 => ?_))
    replace B : Bu w no w37 [.blk b4 [.int .i64 0, .int .i64 0, .bool false, .slice none 0 0, .slice none 0 0] 26, .blk b1 [.int .i64 wd, .int .i64 hi, .bool wr, .slice asp nsp csp, .slice als nls cls] 26, .rd kF asp nsp Xsp, .rd kF als nls Xls] := B.upd [0] rfl hU38
    clear hU38
    refine s_y (v := .bool false) rfl (y_assign rfl) ?_
    refine s_nil ?_
    refine W_ret ?_
    refine ret2 (v1 := .agg #[.int .i64 0, .int .i64 0, .bool false, .slice none 0 0, .slice none 0 0]) (v2 := .bool false) rfl rfl rfl ⟨_, [.int .i64 0, .int .i64 0, .bool false, .slice none 0 0, .slice none 0 0], _, rfl, (B.b 0 rfl), T53.agg_26_5, rfl⟩ rfl ⟨_, rfl, ?_⟩
    exact .inr ⟨by simp only [(Bool.eq_false_iff.2 c11), Bool.and_true, Bool.true_and, Bool.and_false, Bool.false_and, Bool.not_true, Bool.not_false, Bool.or_true, Bool.true_or, Bool.or_false, Bool.false_or], rfl, B.ext⟩
namespace T54
theorem mx : Try.prog.follows .mixedOrders = true := by kernel_rfl
theorem agg_26_5 : aggB Try.prog 26 5 = true := by kernel_rfl
theorem agg_30_3 : aggB Try.prog 30 3 = true := by kernel_rfl
theorem fld_26_0_0 : fldB Try.prog 26 0 0 = true := by kernel_rfl
theorem fld_26_1_1 : fldB Try.prog 26 1 1 = true := by kernel_rfl
theorem fld_30_0_0 : fldB Try.prog 30 0 0 = true := by kernel_rfl
theorem fld_30_1_1 : fldB Try.prog 30 1 1 = true := by kernel_rfl
theorem fld_30_2_2 : fldB Try.prog 30 2 2 = true := by kernel_rfl
theorem fn_104 : fnB Try.prog 104 = true := by kernel_rfl
theorem fn_107 : fnB Try.prog 107 = true := by kernel_rfl
theorem fn_108 : fnB Try.prog 108 = true := by kernel_rfl
theorem fn_41 : fnB Try.prog 41 = true := by kernel_rfl
theorem one_2 : oneB Try.prog 2 = true := by kernel_rfl
theorem one_24 : oneB Try.prog 24 = true := by kernel_rfl
theorem sz_30_3 : szB Try.prog 30 3 = true := by kernel_rfl
theorem zero_30 : zeroB Try.prog 30 (.agg #[.slice none 0 0, .slice none 0 0, .slice none 0 0]) := by unfold zeroB; kernel_rfl
end T54
set_option maxRecDepth 100000 in
set_option maxHeartbeats 4000000 in
theorem c_i_SwapField {wd : Int} {hi : Int} {wr : Bool} {asp : Option Addr} {nsp : Nat} {csp : Nat} {Xsp : List Nat} {als : Option Addr} {nls : Nat} {cls : Nat} {Xls : List Nat} {afe : Option Addr} {nfe : Nat} {cfe : Nat} {Xfe : List Nat} {afx : Option Addr} {nfx : Nat} {cfx : Nat} {Xfx : List Nat} {afy : Option Addr} {nfy : Nat} {cfy : Nat} {Xfy : List Nat} {w : World} (qsp : Rd w kF asp nsp Xsp) (qls : Rd w kF als nls Xls) (qfe : Rd w kF afe nfe Xfe) (qfx : Rd w kF afx nfx Xfx) (qfy : Rd w kF afy nfy Xfy) (hbsp : nsp ≤ 9223372036854775806) (hbls : nls ≤ 9223372036854775806) (hbfe : nfe ≤ 9223372036854775806) (hbfx : nfx ≤ 9223372036854775806) (hbfy : nfy ≤ 9223372036854775806) :
    Calls Try.prog 54 #[.agg #[.int .i64 wd, .int .i64 hi, .bool wr, .slice asp nsp csp, .slice als nls cls], .agg #[.slice afe nfe cfe, .slice afx nfx cfx, .slice afy nfy cfy]] w (Rt fun v w' => (fieldB wd hi wr Xsp Xls Xfe Xfx Xfy = true ∧ ∃ (a1 : Option Addr) (c1 : Nat) (a2 : Option Addr) (c2 : Nat) (a3 : Option Addr) (c3 : Nat), v = .tuple #[.agg #[.slice a1 ((wd * hi).toNat) c1, .slice a2 ((wd * hi).toNat) c2, .slice a3 ((wd * hi).toNat) c3], .bool true] ∧ New w w' [.ow kF a1 ((wd * hi).toNat) c1 34 (swpS wd hi Xfe), .ow kF a2 ((wd * hi).toNat) c2 34 (negL (wd * hi) (swpS wd hi Xfy)), .ow kF a3 ((wd * hi).toNat) c3 34 (negL (wd * hi) (swpS wd hi Xfx))]) ∨ (fieldB wd hi wr Xsp Xls Xfe Xfx Xfy = false ∧ v = .tuple #[.agg #[.slice none 0 0, .slice none 0 0, .slice none 0 0], .bool false] ∧ Ext0 w w')) := by
  have hlsp := qsp.len
  have hlls := qls.len
  have hlfe := qfe.len
  have hlfx := qfx.len
  have hlfy := qfy.len
  have B : Bu w no w [.rd kF asp nsp Xsp, .rd kF als nls Xls, .rd kF afe nfe Xfe, .rd kF afx nfx Xfx, .rd kF afy nfy Xfy] := Bu.ro (All.cons qsp (All.cons qls (All.cons qfe (All.cons qfx (All.cons qfy All.nil))))) rfl
  have hcm0 := Int.mul_comm hi wd
  refine calls_W (n := 38) Try.func54 rfl rfl (Nat.le_of_ble_eq_true rfl) ?_
  refine W_seq ?_
  refine W_region (by kernel_rfl) ?_
  refine s_k rfl (k_boxN (v := .agg #[.int .i64 wd, .int .i64 hi, .bool wr, .slice asp nsp csp, .slice als nls cls]) (cs := [.int .i64 wd, .int .i64 hi, .bool wr, .slice asp nsp csp, .slice als nls cls]) rfl rfl (fun b1 w2 hN3 => ?_))
  replace B := B.new1 hN3
  clear hN3
  refine s_k rfl (k_boxN (v := .agg #[.slice afe nfe cfe, .slice afx nfx cfx, .slice afy nfy cfy]) (cs := [.slice afe nfe cfe, .slice afx nfx cfx, .slice afy nfy cfy]) rfl rfl (fun b4 w5 hN6 => ?_))
  replace B := B.new1 hN6
  clear hN6
  refine s_k rfl (k_allocN (z := (.agg #[.slice none 0 0, .slice none 0 0, .slice none 0 0])) (cs := [.slice none 0 0, .slice none 0 0, .slice none 0 0]) T54.zero_30 rfl (fun b7 w8 hN9 => ?_))
  replace B := B.new1 hN9
  clear hN9
  refine s_y (v := .bool false) rfl (y_assign rfl) ?_
  refine s_nil ?_
  refine W_seq ?_
  refine W_seq ?_
  refine W_region (by kernel_rfl) ?_
  refine s_y (v := .agg #[.int .i64 wd, .int .i64 hi, .bool wr, .slice asp nsp csp, .slice als nls cls]) rfl (y_loadn (b := b1) (o := 0) (vs := [.int .i64 wd, .int .i64 hi, .bool wr, .slice asp nsp csp, .slice als nls cls]) T54.agg_26_5 rfl rfl ((B.b 2 rfl).cells (o := 0) rfl)) ?_
  refine s_y (v := .agg #[.slice afe nfe cfe, .slice afx nfx cfx, .slice afy nfy cfy]) rfl (y_loadn (b := b4) (o := 0) (vs := [.slice afe nfe cfe, .slice afx nfx cfx, .slice afy nfy cfy]) T54.agg_30_3 rfl rfl ((B.b 1 rfl).cells (o := 0) rfl)) ?_
  refine s_k rfl (k_call T54.fn_41 (c_i_IsField (B.r 3 rfl) (B.r 4 rfl) (B.r 5 rfl) (B.r 6 rfl) (B.r 7 rfl) (by omega) (by omega) (by omega) (by omega) (by omega)) rfl ?_)
  rintro v12 w10 ⟨hv13, e11⟩
  replace B := B.ext0 e11
  clear e11
  by_cases c14 : fieldB wd hi wr Xsp Xls Xfe Xfx Xfy = true
  · have hb15 := fieldB_b c14
    obtain rfl : v12 = .bool true := hv13.trans (congrArg Value.bool c14)
    refine s_y (v := .bool false) rfl (y_not rfl rfl) ?_
    refine s_nil ?_
    refine W_if_f (by decide) rfl ?_
    refine W_skip ?_
    refine W_seq ?_
    have B0_20 := B
    refine W_draw (at1 b7) T54.mx (by kernel_rfl) (fun w18 e19 => ?_)
    have R21 := Ext.refl (at1 b7) w10
    replace R21 := R21.trans (Ext0.any e19)
    replace B := B.ext0 e19
    clear e19
    refine m_y (v := .agg #[.int .i64 wd, .int .i64 hi, .bool wr, .slice asp nsp csp, .slice als nls cls]) 0 rfl (by kernel_rfl) rfl rfl (fun w' e' => y_loadn (b := b1) (o := 0) (vs := [.int .i64 wd, .int .i64 hi, .bool wr, .slice asp nsp csp, .slice als nls cls]) T54.agg_26_5 rfl rfl ((B0_20.bx 2 0 rfl rfl rfl rfl e' (fun _ h => h)).cells (o := 0) rfl)) ?_
    refine m_y (v := .pointer (some ⟨b4, 0, none⟩)) 1 rfl (by kernel_rfl) rfl rfl (fun w' e' => y_fld (o := 0) T54.fld_30_0_0 rfl) ?_
    refine m_y (v := .slice afe nfe cfe) 2 rfl (by kernel_rfl) rfl rfl (fun w' e' => y_load T54.one_24 rfl ((B0_20.bx 1 0 rfl rfl rfl rfl e' (fun _ h => h)).cell (j := 0) rfl)) ?_
    refine m_y (v := .pointer (some ⟨b1, 1, none⟩)) 3 rfl (by kernel_rfl) rfl rfl (fun w' e' => y_fld (o := 0) T54.fld_26_1_1 rfl) ?_
    refine m_y (v := .int .i64 hi) 4 rfl (by kernel_rfl) rfl rfl (fun w' e' => y_load T54.one_2 rfl ((B0_20.bx 2 0 rfl rfl rfl rfl e' (fun _ h => h)).cell (j := 1) rfl)) ?_
    refine m_y (v := .pointer (some ⟨b1, 0, none⟩)) 5 rfl (by kernel_rfl) rfl rfl (fun w' e' => y_fld (o := 0) T54.fld_26_0_0 rfl) ?_
    refine m_y (v := .int .i64 wd) 6 rfl (by kernel_rfl) rfl rfl (fun w' e' => y_load T54.one_2 rfl ((B0_20.bx 2 0 rfl rfl rfl rfl e' (fun _ h => h)).cell (j := 0) rfl)) ?_
    refine m_y (v := .agg #[.int .i64 wd, .int .i64 hi, .bool wr, .slice asp nsp csp, .slice als nls cls]) 8 rfl (by kernel_rfl) rfl rfl (fun w' e' => y_loadn (b := b1) (o := 0) (vs := [.int .i64 wd, .int .i64 hi, .bool wr, .slice asp nsp csp, .slice als nls cls]) T54.agg_26_5 rfl rfl ((B0_20.bx 2 0 rfl rfl rfl rfl e' (fun _ h => h)).cells (o := 0) rfl)) ?_
    refine m_y (v := .pointer (some ⟨b4, 2, none⟩)) 9 rfl (by kernel_rfl) rfl rfl (fun w' e' => y_fld (o := 0) T54.fld_30_2_2 rfl) ?_
    refine m_y (v := .slice afy nfy cfy) 10 rfl (by kernel_rfl) rfl rfl (fun w' e' => y_load T54.one_24 rfl ((B0_20.bx 1 0 rfl rfl rfl rfl e' (fun _ h => h)).cell (j := 2) rfl)) ?_
    refine m_y (v := .pointer (some ⟨b1, 1, none⟩)) 11 rfl (by kernel_rfl) rfl rfl (fun w' e' => y_fld (o := 0) T54.fld_26_1_1 rfl) ?_
    refine m_y (v := .int .i64 hi) 12 rfl (by kernel_rfl) rfl rfl (fun w' e' => y_load T54.one_2 rfl ((B0_20.bx 2 0 rfl rfl rfl rfl e' (fun _ h => h)).cell (j := 1) rfl)) ?_
    refine m_y (v := .pointer (some ⟨b1, 0, none⟩)) 13 rfl (by kernel_rfl) rfl rfl (fun w' e' => y_fld (o := 0) T54.fld_26_0_0 rfl) ?_
    refine m_y (v := .int .i64 wd) 14 rfl (by kernel_rfl) rfl rfl (fun w' e' => y_load T54.one_2 rfl ((B0_20.bx 2 0 rfl rfl rfl rfl e' (fun _ h => h)).cell (j := 0) rfl)) ?_
    refine m_y (v := .agg #[.int .i64 wd, .int .i64 hi, .bool wr, .slice asp nsp csp, .slice als nls cls]) 17 rfl (by kernel_rfl) rfl rfl (fun w' e' => y_loadn (b := b1) (o := 0) (vs := [.int .i64 wd, .int .i64 hi, .bool wr, .slice asp nsp csp, .slice als nls cls]) T54.agg_26_5 rfl rfl ((B0_20.bx 2 0 rfl rfl rfl rfl e' (fun _ h => h)).cells (o := 0) rfl)) ?_
    refine m_y (v := .pointer (some ⟨b4, 1, none⟩)) 18 rfl (by kernel_rfl) rfl rfl (fun w' e' => y_fld (o := 0) T54.fld_30_1_1 rfl) ?_
    refine m_y (v := .slice afx nfx cfx) 19 rfl (by kernel_rfl) rfl rfl (fun w' e' => y_load T54.one_24 rfl ((B0_20.bx 1 0 rfl rfl rfl rfl e' (fun _ h => h)).cell (j := 1) rfl)) ?_
    refine m_y (v := .pointer (some ⟨b1, 1, none⟩)) 20 rfl (by kernel_rfl) rfl rfl (fun w' e' => y_fld (o := 0) T54.fld_26_1_1 rfl) ?_
    refine m_y (v := .int .i64 hi) 21 rfl (by kernel_rfl) rfl rfl (fun w' e' => y_load T54.one_2 rfl ((B0_20.bx 2 0 rfl rfl rfl rfl e' (fun _ h => h)).cell (j := 1) rfl)) ?_
    refine m_y (v := .pointer (some ⟨b1, 0, none⟩)) 22 rfl (by kernel_rfl) rfl rfl (fun w' e' => y_fld (o := 0) T54.fld_26_0_0 rfl) ?_
    refine m_y (v := .int .i64 wd) 23 rfl (by kernel_rfl) rfl rfl (fun w' e' => y_load T54.one_2 rfl ((B0_20.bx 2 0 rfl rfl rfl rfl e' (fun _ h => h)).cell (j := 0) rfl)) ?_
    refine m_k 7 [15, 16, 24, 25, 26, 27, 28] rfl (by kernel_rfl) rfl rfl (fun w22 e23 => ?_)
    replace R21 := R21.trans (Ext0.any e23)
    replace B := B.ext0 e23
    clear e23
    refine k_call T54.fn_104 (c_i_moved (f := 108) (us := []) (xs := []) (FU := (fun _ y => y)) (FV := (fun x _ => x)) (W := hi) (H := wd) (B.r 5 rfl) T54.fn_108 (fun x y w1 he h0 h1 h2 h3 => c_i_exchanged) (fun x y h0 h1 h2 h3 => by first | omega | (simp only []; omega)) (by omega) (by omega) (by omega) (by omega) (by omega) (by omega) (by omega) (by omega) (by omega)) rfl ?_
    rintro _ w24 ⟨a25, c26, rfl, hN27⟩
    replace R21 := R21.trans (Ext0.any hN27.ext)
    replace B := B.new1 hN27
    clear hN27
    refine ⟨fun _ => R21, ?_⟩
    refine m_k 15 [16, 24, 25, 26, 27, 28] rfl (by kernel_rfl) rfl rfl (fun w28 e29 => ?_)
    replace R21 := R21.trans (Ext0.any e29)
    replace B := B.ext0 e29
    clear e29
    refine k_call T54.fn_104 (c_i_moved (f := 108) (us := []) (xs := []) (FU := (fun _ y => y)) (FV := (fun x _ => x)) (W := hi) (H := wd) (B.r 8 rfl) T54.fn_108 (fun x y w1 he h0 h1 h2 h3 => c_i_exchanged) (fun x y h0 h1 h2 h3 => by first | omega | (simp only []; omega)) (by omega) (by omega) (by omega) (by omega) (by omega) (by omega) (by omega) (by omega) (by omega)) rfl ?_
    rintro _ w30 ⟨a31, c32, rfl, hN33⟩
    replace R21 := R21.trans (Ext0.any hN33.ext)
    replace B := B.new1 hN33
    clear hN33
    refine ⟨fun _ => R21, ?_⟩
    refine m_k 16 [24, 25, 26, 27, 28] rfl (by kernel_rfl) rfl rfl (fun w34 e35 => ?_)
    replace R21 := R21.trans (Ext0.any e35)
    replace B := B.ext0 e35
    clear e35
    refine k_call T54.fn_107 (c_i_opposites ((B.o 0 rfl).rd) (by omega)) rfl ?_
    rintro _ w36 ⟨a37, c38, rfl, hN39⟩
    replace R21 := R21.trans (Ext0.any hN39.ext)
    replace B := B.new1 hN39
    clear hN39
    refine ⟨fun _ => R21, ?_⟩
    refine m_k 24 [25, 26, 27, 28] rfl (by kernel_rfl) rfl rfl (fun w40 e41 => ?_)
    replace R21 := R21.trans (Ext0.any e41)
    replace B := B.ext0 e41
    clear e41
    refine k_call T54.fn_104 (c_i_moved (f := 108) (us := []) (xs := []) (FU := (fun _ y => y)) (FV := (fun x _ => x)) (W := hi) (H := wd) (B.r 9 rfl) T54.fn_108 (fun x y w1 he h0 h1 h2 h3 => c_i_exchanged) (fun x y h0 h1 h2 h3 => by first | omega | (simp only []; omega)) (by omega) (by omega) (by omega) (by omega) (by omega) (by omega) (by omega) (by omega) (by omega)) rfl ?_
    rintro _ w42 ⟨a43, c44, rfl, hN45⟩
    replace R21 := R21.trans (Ext0.any hN45.ext)
    replace B := B.new1 hN45
    clear hN45
    refine ⟨fun _ => R21, ?_⟩
    refine m_k 25 [26, 27, 28] rfl (by kernel_rfl) rfl rfl (fun w46 e47 => ?_)
    replace R21 := R21.trans (Ext0.any e47)
    replace B := B.ext0 e47
    clear e47
    refine k_call T54.fn_107 (c_i_opposites ((B.o 0 rfl).rd) (by omega)) rfl ?_
    rintro _ w48 ⟨a49, c50, rfl, hN51⟩
    replace R21 := R21.trans (Ext0.any hN51.ext)
    replace B := B.new1 hN51
    clear hN51
    refine ⟨fun _ => R21, ?_⟩
    refine m_y (v := .agg #[.slice a25 ((hi * wd).toNat) c26, .slice a37 ((hi * wd).toNat) c38, .slice a49 ((hi * wd).toNat) c50]) 26 rfl (by kernel_rfl) rfl rfl (fun w' e' => y_build (cells := #[.slice a25 ((hi * wd).toNat) c26, .slice a37 ((hi * wd).toNat) c38, .slice a49 ((hi * wd).toNat) c50]) (by kernel_rfl)) ?_
    refine m_k 27 [28] rfl (by kernel_rfl) rfl rfl (fun w54 e55 => ?_)
    replace R21 := R21.trans (Ext0.any e55)
    replace B := B.ext0 e55
    clear e55
    refine k_stB (v := .agg #[.slice a25 ((hi * wd).toNat) c26, .slice a37 ((hi * wd).toNat) c38, .slice a49 ((hi * wd).toNat) c50]) (n := 3) (cs' := [.slice a25 ((hi * wd).toNat) c26, .slice a37 ((hi * wd).toNat) c38, .slice a49 ((hi * wd).toNat) c50]) T54.sz_30_3 rfl rfl rfl (B.b 5 rfl) (by simp [Value.cells, Value.oneCell']) (Nat.le_of_ble_eq_true rfl) rfl (fun w52 hU53 => ?_)
    replace R21 := R21.trans hU53.at1
    replace B : Bu w no w52 [.blk b7 [.slice a25 ((hi * wd).toNat) c26, .slice a37 ((hi * wd).toNat) c38, .slice a49 ((hi * wd).toNat) c50] 30, .ow kF a49 ((hi * wd).toNat) c50 34 (negL ((hi * wd).toNat) (movL hi wd (fun xp yp => atI wd hi ((fun _ y => y) xp yp) ((fun x _ => x) xp yp)) Xfx)), .ow kF a43 ((hi * wd).toNat) c44 34 (movL hi wd (fun xp yp => atI wd hi ((fun _ y => y) xp yp) ((fun x _ => x) xp yp)) Xfx), .ow kF a37 ((hi * wd).toNat) c38 34 (negL ((hi * wd).toNat) (movL hi wd (fun xp yp => atI wd hi ((fun _ y => y) xp yp) ((fun x _ => x) xp yp)) Xfy)), .ow kF a31 ((hi * wd).toNat) c32 34 (movL hi wd (fun xp yp => atI wd hi ((fun _ y => y) xp yp) ((fun x _ => x) xp yp)) Xfy), .ow kF a25 ((hi * wd).toNat) c26 34 (movL hi wd (fun xp yp => atI wd hi ((fun _ y => y) xp yp) ((fun x _ => x) xp yp)) Xfe), .blk b4 [.slice afe nfe cfe, .slice afx nfx cfx, .slice afy nfy cfy] 30, .blk b1 [.int .i64 wd, .int .i64 hi, .bool wr, .slice asp nsp csp, .slice als nls cls] 26, .rd kF asp nsp Xsp, .rd kF als nls Xls, .rd kF afe nfe Xfe, .rd kF afx nfx Xfx, .rd kF afy nfy Xfy] := B.upd [5] rfl hU53
    clear hU53
    refine ⟨fun _ => R21, ?_⟩
    refine m_y (v := .bool true) 28 rfl (by kernel_rfl) rfl rfl (fun w' e' => y_assign rfl) ?_
    refine m_done (by kernel_rfl) (fun w56 e57 => ?_)
    replace B := B.ext0 e57
    clear e57
    clear B0_20 R21
    refine W_ret ?_
    refine ret2 (v1 := .agg #[.slice a25 ((hi * wd).toNat) c26, .slice a37 ((hi * wd).toNat) c38, .slice a49 ((hi * wd).toNat) c50]) (v2 := .bool true) rfl rfl rfl ⟨_, [.slice a25 ((hi * wd).toNat) c26, .slice a37 ((hi * wd).toNat) c38, .slice a49 ((hi * wd).toNat) c50], _, rfl, (B.b 0 rfl), T54.agg_30_3, rfl⟩ rfl ⟨_, rfl, ?_⟩
    have hcond : fieldB wd hi wr Xsp Xls Xfe Xfx Xfy = true := by simp only [c14, Bool.and_true, Bool.true_and, Bool.and_false, Bool.false_and, Bool.not_true, Bool.not_false, Bool.or_true, Bool.true_or, Bool.or_false, Bool.false_or]
    replace B : Bu w no w56 [.blk b7 [.slice a25 ((hi * wd).toNat) c26, .slice a37 ((hi * wd).toNat) c38, .slice a49 ((hi * wd).toNat) c50] 30, .ow kF a49 ((hi * wd).toNat) c50 34 (negL ((hi * wd).toNat) (movL hi wd (fun xp yp => atI wd hi ((fun _ y => y) xp yp) ((fun x _ => x) xp yp)) Xfx)), .ow kF a43 ((hi * wd).toNat) c44 34 (movL hi wd (fun xp yp => atI wd hi ((fun _ y => y) xp yp) ((fun x _ => x) xp yp)) Xfx), .ow kF a37 ((hi * wd).toNat) c38 34 (negL ((hi * wd).toNat) (movL hi wd (fun xp yp => atI wd hi ((fun _ y => y) xp yp) ((fun x _ => x) xp yp)) Xfy)), .ow kF a31 ((hi * wd).toNat) c32 34 (movL hi wd (fun xp yp => atI wd hi ((fun _ y => y) xp yp) ((fun x _ => x) xp yp)) Xfy), .ow kF a25 ((wd * hi).toNat) c26 34 (swpS wd hi Xfe), .blk b4 [.slice afe nfe cfe, .slice afx nfx cfx, .slice afy nfy cfy] 30, .blk b1 [.int .i64 wd, .int .i64 hi, .bool wr, .slice asp nsp csp, .slice als nls cls] 26, .rd kF asp nsp Xsp, .rd kF als nls Xls, .rd kF afe nfe Xfe, .rd kF afx nfx Xfx, .rd kF afy nfy Xfy] := B.castX 5 rfl (by rw [Int.mul_comm]) (swp_i (by omega))
    replace B : Bu w no w56 [.blk b7 [.slice a25 ((hi * wd).toNat) c26, .slice a37 ((hi * wd).toNat) c38, .slice a49 ((hi * wd).toNat) c50] 30, .ow kF a49 ((hi * wd).toNat) c50 34 (negL ((hi * wd).toNat) (movL hi wd (fun xp yp => atI wd hi ((fun _ y => y) xp yp) ((fun x _ => x) xp yp)) Xfx)), .ow kF a43 ((hi * wd).toNat) c44 34 (movL hi wd (fun xp yp => atI wd hi ((fun _ y => y) xp yp) ((fun x _ => x) xp yp)) Xfx), .ow kF a37 ((wd * hi).toNat) c38 34 (negL (wd * hi) (swpS wd hi Xfy)), .ow kF a31 ((hi * wd).toNat) c32 34 (movL hi wd (fun xp yp => atI wd hi ((fun _ y => y) xp yp) ((fun x _ => x) xp yp)) Xfy), .ow kF a25 ((wd * hi).toNat) c26 34 (swpS wd hi Xfe), .blk b4 [.slice afe nfe cfe, .slice afx nfx cfx, .slice afy nfy cfy] 30, .blk b1 [.int .i64 wd, .int .i64 hi, .bool wr, .slice asp nsp csp, .slice als nls cls] 26, .rd kF asp nsp Xsp, .rd kF als nls Xls, .rd kF afe nfe Xfe, .rd kF afx nfx Xfx, .rd kF afy nfy Xfy] := B.castX 3 rfl (by rw [Int.mul_comm]) (swpN_i (by omega) (by omega))
    replace B : Bu w no w56 [.blk b7 [.slice a25 ((hi * wd).toNat) c26, .slice a37 ((hi * wd).toNat) c38, .slice a49 ((hi * wd).toNat) c50] 30, .ow kF a49 ((wd * hi).toNat) c50 34 (negL (wd * hi) (swpS wd hi Xfx)), .ow kF a43 ((hi * wd).toNat) c44 34 (movL hi wd (fun xp yp => atI wd hi ((fun _ y => y) xp yp) ((fun x _ => x) xp yp)) Xfx), .ow kF a37 ((wd * hi).toNat) c38 34 (negL (wd * hi) (swpS wd hi Xfy)), .ow kF a31 ((hi * wd).toNat) c32 34 (movL hi wd (fun xp yp => atI wd hi ((fun _ y => y) xp yp) ((fun x _ => x) xp yp)) Xfy), .ow kF a25 ((wd * hi).toNat) c26 34 (swpS wd hi Xfe), .blk b4 [.slice afe nfe cfe, .slice afx nfx cfx, .slice afy nfy cfy] 30, .blk b1 [.int .i64 wd, .int .i64 hi, .bool wr, .slice asp nsp csp, .slice als nls cls] 26, .rd kF asp nsp Xsp, .rd kF als nls Xls, .rd kF afe nfe Xfe, .rd kF afx nfx Xfx, .rd kF afy nfy Xfy] := B.castX 1 rfl (by rw [Int.mul_comm]) (swpN_i (by omega) (by omega))
    exact .inl ⟨hcond, ⟨_, _, _, _, _, _, (by rw [(show (hi * wd).toNat = (wd * hi).toNat from (by rw [Int.mul_comm]))]), B.give [5, 3, 1] rfl rfl rfl⟩⟩
  · obtain rfl : v12 = .bool false := hv13.trans (congrArg Value.bool (Bool.eq_false_iff.2 c14))
    refine s_y (v := .bool true) rfl (y_not rfl rfl) ?_
    refine s_nil ?_
    refine W_if_t (by decide) rfl ?_
    refine W_seq ?_
    refine W_region (by kernel_rfl) ?_
    refine s_y (v := .agg #[.slice none 0 0, .slice none 0 0, .slice none 0 0]) rfl (y_build (cells := #[.slice none 0 0, .slice none 0 0, .slice none 0 0]) (by kernel_rfl)) ?_
    refine s_k0 rfl (k_stB (v := .agg #[.slice none 0 0, .slice none 0 0, .slice none 0 0]) (n := 3) (cs' := [.slice none 0 0, .slice none 0 0, .slice none 0 0]) T54.sz_30_3 rfl rfl rfl (B.b 0 rfl) (by simp [Value.cells, Value.oneCell']) (Nat.le_of_ble_eq_true rfl) rfl (fun w58 hU59 => ?_))
    replace B : Bu w no w58 [.blk b7 [.slice none 0 0, .slice none 0 0, .slice none 0 0] 30, .blk b4 [.slice afe nfe cfe, .slice afx nfx cfx, .slice afy nfy cfy] 30, .blk b1 [.int .i64 wd, .int .i64 hi, .bool wr, .slice asp nsp csp, .slice als nls cls] 26, .rd kF asp nsp Xsp, .rd kF als nls Xls, .rd kF afe nfe Xfe, .rd kF afx nfx Xfx, .rd kF afy nfy Xfy] := B.upd [0] rfl hU59
    clear hU59
    refine s_y (v := .bool false) rfl (y_assign rfl) ?_
    refine s_nil ?_
    refine W_ret ?_
    refine ret2 (v1 := .agg #[.slice none 0 0, .slice none 0 0, .slice none 0 0]) (v2 := .bool false) rfl rfl rfl ⟨_, [.slice none 0 0, .slice none 0 0, .slice none 0 0], _, rfl, (B.b 0 rfl), T54.agg_30_3, rfl⟩ rfl ⟨_, rfl, ?_⟩
    exact .inr ⟨by simp only [(Bool.eq_false_iff.2 c14), Bool.and_true, Bool.true_and, Bool.and_false, Bool.false_and, Bool.not_true, Bool.not_false, Bool.or_true, Bool.true_or, Bool.or_false, Bool.false_or], rfl, B.ext⟩
namespace T87
theorem mx : Try.prog.follows .mixedOrders = true := by kernel_rfl
theorem f64b_129 : f64bitsB Try.prog 129 := ⟨_, Try.func129, by kernel_rfl, by kernel_rfl, by kernel_rfl, by kernel_rfl⟩
theorem int_2_i64 : Try.prog.underlying 2 = some (.int .i64) := by kernel_rfl
theorem und_129 : (Try.prog.underlying 129).isSome = true := by kernel_rfl
end T87
set_option maxRecDepth 100000 in
set_option maxHeartbeats 4000000 in
theorem c_m_Signbit {x : Nat} {X : Nat} {w : World} (hx : can .f64 x = X) (hn : nanb .f64 X = false) :
    Calls Try.prog 87 #[.float .f64 x] w (Rt fun v w' => v = .bool (sgnB X) ∧ Ext0 w w') := by
  have B : Bu w no w [] := Bu.ro All.nil rfl
  refine calls_W (n := 7) Try.func87 rfl rfl (Nat.le_of_ble_eq_true rfl) ?_
  refine W_seq ?_
  refine W_region (by kernel_rfl) ?_
  refine s_y (v := .bool false) rfl (y_assign rfl) ?_
  refine s_nil ?_
  refine W_seq ?_
  refine W_region (by kernel_rfl) ?_
  refine s_y (v := .float .f64 x) rfl (y_move rfl) ?_
  refine s_k rfl (k_f64bits T87.f64b_129 rfl ?_)
  refine s_y (v := .int .i64 (IntKind.i64.wrap ((x : Nat) : Int))) rfl (y_ii T87.und_129 T87.int_2_i64 rfl rfl) ?_
  by_cases c1 : (IntKind.i64.wrap ((x : Nat) : Int)) < 0
  · refine s_y (v := .bool true) rfl (y_lss rfl rfl (decide_eq_true c1)) ?_
    refine s_y (v := .bool true) rfl (y_assign rfl) ?_
    refine s_nil ?_
    refine W_ret ?_
    refine ret1 (v := .bool true) rfl rfl rfl ⟨_, rfl, ?_⟩
    exact ⟨congrArg Value.bool ((by unfold sgnB; rw [← sgn_can hx hn]; exact (decide_eq_true c1).symm)), B.ext⟩
  · refine s_y (v := .bool false) rfl (y_lss rfl rfl (decide_eq_false c1)) ?_
    refine s_y (v := .bool false) rfl (y_assign rfl) ?_
    refine s_nil ?_
    refine W_ret ?_
    refine ret1 (v := .bool false) rfl rfl rfl ⟨_, rfl, ?_⟩
    exact ⟨congrArg Value.bool ((by unfold sgnB; rw [← sgn_can hx hn]; exact (decide_eq_false c1).symm)), B.ext⟩
namespace T29
theorem mx : Try.prog.follows .mixedOrders = true := by kernel_rfl
theorem bool_4 : Try.prog.underlying 4 = some .bool := by kernel_rfl
theorem flt_53_f64 : Try.prog.underlying 53 = some (.float .f64) := by kernel_rfl
theorem fn_87 : fnB Try.prog 87 = true := by kernel_rfl
theorem und_34 : (Try.prog.underlying 34).isSome = true := by kernel_rfl
end T29
set_option maxRecDepth 100000 in
set_option maxHeartbeats 4000000 in
theorem c_i_SameNumber {x : Nat} {X : Nat} {y : Nat} {Y : Nat} {w : World} (hx : can .f32 x = X) (hy : can .f32 y = Y) :
    Calls Try.prog 29 #[.float .f32 x, .float .f32 y] w (Rt fun v w' => v = .bool (sameN X Y) ∧ Ext0 w w') := by
  have B : Bu w no w [] := Bu.ro All.nil rfl
  refine calls_W (n := 33) Try.func29 rfl rfl (Nat.le_of_ble_eq_true rfl) ?_
  refine W_seq ?_
  refine W_region (by kernel_rfl) ?_
  refine s_y (v := .bool false) rfl (y_assign rfl) ?_
  refine s_nil ?_
  refine W_seq ?_
  refine W_seq ?_
  refine W_region (by kernel_rfl) ?_
  refine s_y (v := .float .f32 x) rfl (y_move rfl) ?_
  refine s_y (v := .float .f32 x) rfl (y_move rfl) ?_
  by_cases c1 : fne .f32 X X = true
  · refine s_y (v := .bool true) rfl (y_fneq rfl rfl (fneC hx hx c1)) ?_
    refine s_y (v := .bool true) rfl (y_move rfl) ?_
    refine s_skip rfl ?_
    refine s_skip rfl ?_
    refine s_skip rfl ?_
    refine s_y (v := .bool true) rfl (y_pick_t rfl rfl) ?_
    refine s_nil ?_
    refine W_if_t (by decide) rfl ?_
    refine W_seq ?_
    refine W_region (by kernel_rfl) ?_
    refine s_y (v := .float .f32 x) rfl (y_move rfl) ?_
    refine s_y (v := .float .f32 x) rfl (y_move rfl) ?_
    refine s_y (v := .bool true) rfl (y_fneq rfl rfl (fneC hx hx c1)) ?_
    refine s_y (v := .bool true) rfl (y_move rfl) ?_
    refine s_y (v := .float .f32 y) rfl (y_move rfl) ?_
    refine s_y (v := .float .f32 y) rfl (y_move rfl) ?_
    by_cases c2 : fne .f32 Y Y = true
    · refine s_y (v := .bool true) rfl (y_fneq rfl rfl (fneC hy hy c2)) ?_
      refine s_y (v := .bool true) rfl (y_pick_t rfl rfl) ?_
      refine s_y (v := .bool true) rfl (y_assign rfl) ?_
      refine s_nil ?_
      refine W_ret ?_
      refine ret1 (v := .bool true) rfl rfl rfl ⟨_, rfl, ?_⟩
      exact ⟨congrArg Value.bool (by simp [sameN, *]), B.ext⟩
    · refine s_y (v := .bool false) rfl (y_fneq rfl rfl (fneC hy hy (Bool.eq_false_iff.2 c2))) ?_
      refine s_y (v := .bool false) rfl (y_pick_t rfl rfl) ?_
      refine s_y (v := .bool false) rfl (y_assign rfl) ?_
      refine s_nil ?_
      refine W_ret ?_
      refine ret1 (v := .bool false) rfl rfl rfl ⟨_, rfl, ?_⟩
      exact ⟨congrArg Value.bool (by simp [sameN, *]), B.ext⟩
  · refine s_y (v := .bool false) rfl (y_fneq rfl rfl (fneC hx hx (Bool.eq_false_iff.2 c1))) ?_
    refine s_y (v := .bool false) rfl (y_move rfl) ?_
    refine s_y (v := .float .f32 y) rfl (y_move rfl) ?_
    refine s_y (v := .float .f32 y) rfl (y_move rfl) ?_
    by_cases c3 : fne .f32 Y Y = true
    · refine s_y (v := .bool true) rfl (y_fneq rfl rfl (fneC hy hy c3)) ?_
      refine s_y (v := .bool true) rfl (y_pick_f rfl rfl) ?_
      refine s_nil ?_
      refine W_if_t (by decide) rfl ?_
      refine W_seq ?_
      refine W_region (by kernel_rfl) ?_
      refine s_y (v := .float .f32 x) rfl (y_move rfl) ?_
      refine s_y (v := .float .f32 x) rfl (y_move rfl) ?_
      refine s_y (v := .bool false) rfl (y_fneq rfl rfl (fneC hx hx (Bool.eq_false_iff.2 c1))) ?_
      refine s_y (v := .bool false) rfl (y_move rfl) ?_
      refine s_skip rfl ?_
      refine s_skip rfl ?_
      refine s_skip rfl ?_
      refine s_y (v := .bool false) rfl (y_pick_f rfl rfl) ?_
      refine s_y (v := .bool false) rfl (y_assign rfl) ?_
      refine s_nil ?_
      refine W_ret ?_
      refine ret1 (v := .bool false) rfl rfl rfl ⟨_, rfl, ?_⟩
      exact ⟨congrArg Value.bool (by simp [sameN, *]), B.ext⟩
    · refine s_y (v := .bool false) rfl (y_fneq rfl rfl (fneC hy hy (Bool.eq_false_iff.2 c3))) ?_
      refine s_y (v := .bool false) rfl (y_pick_f rfl rfl) ?_
      refine s_nil ?_
      refine W_if_f (by decide) rfl ?_
      refine W_skip ?_
      refine W_seq ?_
      refine W_region (by kernel_rfl) ?_
      refine s_y (v := .float .f32 x) rfl (y_move rfl) ?_
      refine s_y (v := .float .f32 y) rfl (y_move rfl) ?_
      by_cases c4 : feq .f32 X Y = true
      · refine s_y (v := .bool true) rfl (y_feql rfl rfl (feqC hx hy c4)) ?_
        refine s_y (v := .bool true) rfl (y_move rfl) ?_
        refine s_y (v := .float .f32 x) rfl (y_move rfl) ?_
        refine s_n rfl (n_wide T29.und_34 T29.flt_53_f64 rfl) ?_
        rintro _ w7 e8 ⟨r5, rfl, hr6⟩
        replace B := B.ext0 e8
        clear e8
        have hc9 := wideC hr6 hx
        refine s_k rfl (k_call T29.fn_87 (c_m_Signbit hc9 (widen_ok c1)) rfl ?_)
        rintro v12 w10 ⟨hv13, e11⟩
        replace B := B.ext0 e11
        clear e11
        by_cases c14 : sgnB (widen X) = true
        · obtain rfl : v12 = .bool true := hv13.trans (congrArg Value.bool c14)
          refine s_y (v := .float .f32 y) rfl (y_move rfl) ?_
          refine s_n rfl (n_wide T29.und_34 T29.flt_53_f64 rfl) ?_
          rintro _ w17 e18 ⟨r15, rfl, hr16⟩
          replace B := B.ext0 e18
          clear e18
          have hc19 := wideC hr16 hy
          refine s_k rfl (k_call T29.fn_87 (c_m_Signbit hc19 (widen_ok c3)) rfl ?_)
          rintro v22 w20 ⟨hv23, e21⟩
          replace B := B.ext0 e21
          clear e21
          by_cases c24 : sgnB (widen Y) = true
          · obtain rfl : v22 = .bool true := hv23.trans (congrArg Value.bool c24)
            refine s_y (v := .bool true) rfl (y_beql T29.bool_4 rfl rfl rfl) ?_
            refine s_y (v := .bool true) rfl (y_pick_t rfl rfl) ?_
            refine s_y (v := .bool true) rfl (y_assign rfl) ?_
            refine s_nil ?_
            refine W_ret ?_
            refine ret1 (v := .bool true) rfl rfl rfl ⟨_, rfl, ?_⟩
            exact ⟨congrArg Value.bool (by simp [sameN, *]), B.ext⟩
          · obtain rfl : v22 = .bool false := hv23.trans (congrArg Value.bool (Bool.eq_false_iff.2 c24))
            refine s_y (v := .bool false) rfl (y_beql T29.bool_4 rfl rfl rfl) ?_
            refine s_y (v := .bool false) rfl (y_pick_t rfl rfl) ?_
            refine s_y (v := .bool false) rfl (y_assign rfl) ?_
            refine s_nil ?_
            refine W_ret ?_
            refine ret1 (v := .bool false) rfl rfl rfl ⟨_, rfl, ?_⟩
            exact ⟨congrArg Value.bool (by simp [sameN, *]), B.ext⟩
        · obtain rfl : v12 = .bool false := hv13.trans (congrArg Value.bool (Bool.eq_false_iff.2 c14))
          refine s_y (v := .float .f32 y) rfl (y_move rfl) ?_
          refine s_n rfl (n_wide T29.und_34 T29.flt_53_f64 rfl) ?_
          rintro _ w27 e28 ⟨r25, rfl, hr26⟩
          replace B := B.ext0 e28
          clear e28
          have hc29 := wideC hr26 hy
          refine s_k rfl (k_call T29.fn_87 (c_m_Signbit hc29 (widen_ok c3)) rfl ?_)
          rintro v32 w30 ⟨hv33, e31⟩
          replace B := B.ext0 e31
          clear e31
          by_cases c34 : sgnB (widen Y) = true
          · obtain rfl : v32 = .bool true := hv33.trans (congrArg Value.bool c34)
            refine s_y (v := .bool false) rfl (y_beql T29.bool_4 rfl rfl rfl) ?_
            refine s_y (v := .bool false) rfl (y_pick_t rfl rfl) ?_
            refine s_y (v := .bool false) rfl (y_assign rfl) ?_
            refine s_nil ?_
            refine W_ret ?_
            refine ret1 (v := .bool false) rfl rfl rfl ⟨_, rfl, ?_⟩
            exact ⟨congrArg Value.bool (by simp [sameN, *]), B.ext⟩
          · obtain rfl : v32 = .bool false := hv33.trans (congrArg Value.bool (Bool.eq_false_iff.2 c34))
            refine s_y (v := .bool true) rfl (y_beql T29.bool_4 rfl rfl rfl) ?_
            refine s_y (v := .bool true) rfl (y_pick_t rfl rfl) ?_
            refine s_y (v := .bool true) rfl (y_assign rfl) ?_
            refine s_nil ?_
            refine W_ret ?_
            refine ret1 (v := .bool true) rfl rfl rfl ⟨_, rfl, ?_⟩
            exact ⟨congrArg Value.bool (by simp [sameN, *]), B.ext⟩
      · refine s_y (v := .bool false) rfl (y_feql rfl rfl (feqC hx hy (Bool.eq_false_iff.2 c4))) ?_
        refine s_y (v := .bool false) rfl (y_move rfl) ?_
        refine s_skip rfl ?_
        refine s_skip rfl ?_
        refine s_skip rfl ?_
        refine s_skip rfl ?_
        refine s_skip rfl ?_
        refine s_skip rfl ?_
        refine s_skip rfl ?_
        refine s_y (v := .bool false) rfl (y_pick_f rfl rfl) ?_
        refine s_y (v := .bool false) rfl (y_assign rfl) ?_
        refine s_nil ?_
        refine W_ret ?_
        refine ret1 (v := .bool false) rfl rfl rfl ⟨_, rfl, ?_⟩
        exact ⟨congrArg Value.bool (by simp [sameN, *]), B.ext⟩
namespace T100
theorem mx : Try.prog.follows .mixedOrders = true := by kernel_rfl
theorem fn_29 : fnB Try.prog 29 = true := by kernel_rfl
theorem one_34 : oneB Try.prog 34 = true := by kernel_rfl
theorem sl_24_34_1 : slB Try.prog 24 34 1 = true := by kernel_rfl
end T100
set_option maxRecDepth 100000 in
set_option maxHeartbeats 4000000 in
theorem c_i_sameNumbers {ap : Option Addr} {np : Nat} {cp : Nat} {Xp : List Nat} {aq : Option Addr} {nq : Nat} {cq : Nat} {Xq : List Nat} {w : World} (qp : Rd w kF ap np Xp) (qq : Rd w kF aq nq Xq) (gp : np ≤ 9223372036854775807) (gq : nq ≤ 9223372036854775807) :
    Calls Try.prog 100 #[.slice ap np cp, .slice aq nq cq] w (Rt fun v w' => v = .bool (sameL Xp Xq) ∧ Ext0 w w') := by
  have hlp := qp.len
  have hlq := qq.len
  have B : Bu w no w [.rd kF ap np Xp, .rd kF aq nq Xq] := Bu.ro (All.cons qp (All.cons qq All.nil)) rfl
  refine calls_W (n := 27) Try.func100 rfl rfl (Nat.le_of_ble_eq_true rfl) ?_
  refine W_seq ?_
  refine W_region (by kernel_rfl) ?_
  refine s_y (v := .bool false) rfl (y_assign rfl) ?_
  refine s_nil ?_
  refine W_seq ?_
  refine W_seq ?_
  refine W_region (by kernel_rfl) ?_
  refine s_y (v := .slice ap np cp) rfl (y_move rfl) ?_
  refine s_y (v := .int .i64 ((np : Nat) : Int)) rfl (y_len T100.sl_24_34_1 rfl rfl) ?_
  refine s_y (v := .slice aq nq cq) rfl (y_move rfl) ?_
  refine s_y (v := .int .i64 ((nq : Nat) : Int)) rfl (y_len T100.sl_24_34_1 rfl rfl) ?_
  by_cases c1 : ((np : Nat) : Int) ≠ ((nq : Nat) : Int)
  · refine s_y (v := .bool true) rfl (y_neq rfl rfl (decide_eq_true c1)) ?_
    refine s_nil ?_
    refine W_if_t (by decide) rfl ?_
    refine W_seq ?_
    refine W_region (by kernel_rfl) ?_
    refine s_y (v := .bool false) rfl (y_assign rfl) ?_
    refine s_nil ?_
    refine W_ret ?_
    refine ret1 (v := .bool false) rfl rfl rfl ⟨_, rfl, ?_⟩
    exact ⟨congrArg Value.bool ((sameL_n (by omega)).symm), B.ext⟩
  · refine s_y (v := .bool false) rfl (y_neq rfl rfl (decide_eq_false c1)) ?_
    refine s_nil ?_
    refine W_if_f (by decide) rfl ?_
    refine W_skip ?_
    refine W_seq ?_
    refine W_seq ?_
    refine W_region (by kernel_rfl) ?_
    refine s_y (v := .slice ap np cp) rfl (y_move rfl) ?_
    refine s_y (v := .int .i64 ((np : Nat) : Int)) rfl (y_len T100.sl_24_34_1 rfl rfl) ?_
    refine s_y (v := .int .i64 0) rfl (y_move rfl) ?_
    refine s_nil ?_
    refine W_block ?_
    refine W_loop (fun ρ' w' => ∃ (ρ1 : Env) (k : Int), ρ' = updL ρ1 [(0, .slice ap np cp), (1, .slice aq nq cq), (12, .int .i64 ((np : Nat) : Int)), (13, .int .i64 k)] ∧ Bu w no w' [.rd kF ap np Xp, .rd kF aq nq Xq] ∧ (0 ≤ k) ∧ (k ≤ (np : Int)) ∧ (∀ i, 0 ≤ i → i < k → sameN (el Xp i) (el Xq i) = true)) (fun ρ' _ => ((np : Int) - iv (ρ' 13)).toNat) ?_ ?_
    · exact ⟨_, 0, Fits.eq ⟨rfl, rfl, rfl, rfl, trivial⟩, B, (Int.le_refl _), (by omega), (by intro i h0 h1; omega)⟩
    · clear B; rintro _ w2 ⟨ρ3, k, rfl, B, h0k, h1k, hq⟩
      refine W_seq ?_
      refine W_region (by kernel_rfl) ?_
      by_cases c4 : k < ((np : Nat) : Int)
      · refine s_y (v := .bool true) rfl (y_lss rfl rfl (decide_eq_true c4)) ?_
        refine s_nil ?_
        refine W_seq ?_
        refine W_if_t (by decide) rfl ?_
        refine W_skip ?_
        refine W_seq ?_
        refine W_block ?_
        refine W_seq ?_
        refine W_region (by kernel_rfl) ?_
        refine s_y (v := .int .i64 k) rfl (y_move rfl) ?_
        refine s_y (v := .int .i64 k) rfl (y_assign rfl) ?_
        refine s_nil ?_
        refine W_seq ?_
        have B0_9 := B
        refine W_draw (no) T100.mx (by kernel_rfl) (fun w7 e8 => ?_)
        have R10 := Ext.refl (no) w2
        replace R10 := R10.trans (Ext0.any e8)
        replace B := B.ext0 e8
        clear e8
        refine m_y (v := .slice ap np cp) 0 rfl (by kernel_rfl) rfl rfl (fun w' e' => y_move rfl) ?_
        refine m_y (v := .int .i64 k) 1 rfl (by kernel_rfl) rfl rfl (fun w' e' => y_move rfl) ?_
        refine m_y (v := .pointer (some (sat ap ((k).toNat * 1)))) 2 rfl (by kernel_rfl) rfl rfl (fun w' e' => y_idx T100.sl_24_34_1 rfl rfl ((B.r 0 rfl).addr (by omega)) (by omega) (by omega)) ?_
        obtain ⟨r12, hr13, hR11⟩ := Rd.atF (B0_9.r 0 rfl) k (by omega) (by omega)
        refine m_y (v := .float .f32 r12) 3 rfl (by kernel_rfl) rfl rfl (fun w' e' => y_load T100.one_34 rfl ((hR11.ext0 e').cell (i := 0) rfl)) ?_
        refine m_y (v := .slice aq nq cq) 4 rfl (by kernel_rfl) rfl rfl (fun w' e' => y_move rfl) ?_
        refine m_y (v := .int .i64 k) 5 rfl (by kernel_rfl) rfl rfl (fun w' e' => y_move rfl) ?_
        refine m_y (v := .pointer (some (sat aq ((k).toNat * 1)))) 6 rfl (by kernel_rfl) rfl rfl (fun w' e' => y_idx T100.sl_24_34_1 rfl rfl ((B.r 1 rfl).addr (by omega)) (by omega) (by omega)) ?_
        obtain ⟨r15, hr16, hR14⟩ := Rd.atF (B0_9.r 1 rfl) k (by omega) (by omega)
        refine m_y (v := .float .f32 r15) 7 rfl (by kernel_rfl) rfl rfl (fun w' e' => y_load T100.one_34 rfl ((hR14.ext0 e').cell (i := 0) rfl)) ?_
        refine m_k 8 [9] rfl (by kernel_rfl) rfl rfl (fun w17 e18 => ?_)
        replace R10 := R10.trans (Ext0.any e18)
        replace B := B.ext0 e18
        clear e18
        refine k_call T100.fn_29 (c_i_SameNumber hr13 hr16) rfl ?_
        rintro v21 w19 ⟨hv22, e20⟩
        replace R10 := R10.trans (Ext0.any e20)
        replace B := B.ext0 e20
        clear e20
        refine ⟨fun _ => R10, ?_⟩
        by_cases c23 : sameN (el Xp k) (el Xq k) = true
        · obtain rfl : v21 = .bool true := hv22.trans (congrArg Value.bool c23)
          refine m_y (v := .bool false) 9 rfl (by kernel_rfl) rfl rfl (fun w' e' => y_not rfl rfl) ?_
          refine m_done (by kernel_rfl) (fun w24 e25 => ?_)
          replace B := B.ext0 e25
          clear e25
          clear B0_9 R10
          refine W_if_f (by decide) rfl ?_
          refine W_skip ?_
          refine W_region (by kernel_rfl) ?_
          refine s_y (v := .int .i64 (k + 1)) rfl (y_add rfl rfl rfl (by omega)) ?_
          refine s_y (v := .int .i64 (k + 1)) rfl (y_move rfl) ?_
          refine s_nil ?_
          refine ⟨⟨_, k + 1, Fits.eq ⟨rfl, rfl, rfl, rfl, trivial⟩, B, (by omega), (by omega), (allI_more (p := fun i => sameN (el Xp i) (el Xq i)) hq (by assumption))⟩, ?_⟩
          show ((np : Int) - (k + 1)).toNat < ((np : Int) - k).toNat
          omega
        · obtain rfl : v21 = .bool false := hv22.trans (congrArg Value.bool (Bool.eq_false_iff.2 c23))
          refine m_y (v := .bool true) 9 rfl (by kernel_rfl) rfl rfl (fun w' e' => y_not rfl rfl) ?_
          refine m_done (by kernel_rfl) (fun w26 e27 => ?_)
          replace B := B.ext0 e27
          clear e27
          clear B0_9 R10
          refine W_if_t (by decide) rfl ?_
          refine W_seq ?_
          refine W_region (by kernel_rfl) ?_
          refine s_y (v := .bool false) rfl (y_assign rfl) ?_
          refine s_nil ?_
          refine W_ret ?_
          refine ret1 (v := .bool false) rfl rfl rfl ⟨_, rfl, ?_⟩
          exact ⟨congrArg Value.bool ((sameL_no (i := k) (by omega) (by omega) (by assumption)).symm), B.ext⟩
      · refine s_y (v := .bool false) rfl (y_lss rfl rfl (decide_eq_false c4)) ?_
        refine s_nil ?_
        refine W_seq ?_
        refine W_if_f (by decide) rfl ?_
        refine W_exit ?_
        refine W_seq ?_
        refine W_region (by kernel_rfl) ?_
        refine s_y (v := .bool true) rfl (y_assign rfl) ?_
        refine s_nil ?_
        refine W_ret ?_
        refine ret1 (v := .bool true) rfl rfl rfl ⟨_, rfl, ?_⟩
        exact ⟨congrArg Value.bool ((sameL_yes (by omega) (fun i h0 h1 => hq i h0 (by omega))).symm), B.ext⟩
namespace T57
theorem mx : Try.prog.follows .mixedOrders = true := by kernel_rfl
theorem bool_4 : Try.prog.underlying 4 = some .bool := by kernel_rfl
theorem fld_26_0_0 : fldB Try.prog 26 0 0 = true := by kernel_rfl
theorem fld_26_1_1 : fldB Try.prog 26 1 1 = true := by kernel_rfl
theorem fld_26_2_2 : fldB Try.prog 26 2 2 = true := by kernel_rfl
theorem fld_26_3_3 : fldB Try.prog 26 3 3 = true := by kernel_rfl
theorem fld_26_4_4 : fldB Try.prog 26 4 4 = true := by kernel_rfl
theorem fn_100 : fnB Try.prog 100 = true := by kernel_rfl
theorem one_2 : oneB Try.prog 2 = true := by kernel_rfl
theorem one_24 : oneB Try.prog 24 = true := by kernel_rfl
theorem one_4 : oneB Try.prog 4 = true := by kernel_rfl
end T57
set_option maxRecDepth 100000 in
set_option maxHeartbeats 4000000 in
theorem c_i_SameSheet {wd1 : Int} {hi1 : Int} {wr1 : Bool} {asp1 : Option Addr} {nsp1 : Nat} {csp1 : Nat} {Xsp1 : List Nat} {als1 : Option Addr} {nls1 : Nat} {cls1 : Nat} {Xls1 : List Nat} {wd2 : Int} {hi2 : Int} {wr2 : Bool} {asp2 : Option Addr} {nsp2 : Nat} {csp2 : Nat} {Xsp2 : List Nat} {als2 : Option Addr} {nls2 : Nat} {cls2 : Nat} {Xls2 : List Nat} {w : World} (qsp1 : Rd w kF asp1 nsp1 Xsp1) (qls1 : Rd w kF als1 nls1 Xls1) (qsp2 : Rd w kF asp2 nsp2 Xsp2) (qls2 : Rd w kF als2 nls2 Xls2) (gsp1 : nsp1 ≤ 9223372036854775807) (gls1 : nls1 ≤ 9223372036854775807) (gsp2 : nsp2 ≤ 9223372036854775807) (gls2 : nls2 ≤ 9223372036854775807) :
    Calls Try.prog 57 #[.agg #[.int .i64 wd1, .int .i64 hi1, .bool wr1, .slice asp1 nsp1 csp1, .slice als1 nls1 cls1], .agg #[.int .i64 wd2, .int .i64 hi2, .bool wr2, .slice asp2 nsp2 csp2, .slice als2 nls2 cls2]] w (Rt fun v w' => v = .bool ((decide (wd1 = wd2) && decide (hi1 = hi2) && (wr1 == wr2) && sameL Xsp1 Xsp2 && sameL Xls1 Xls2)) ∧ Ext0 w w') := by
  have hlsp1 := qsp1.len
  have hlls1 := qls1.len
  have hlsp2 := qsp2.len
  have hlls2 := qls2.len
  have B : Bu w no w [.rd kF asp1 nsp1 Xsp1, .rd kF als1 nls1 Xls1, .rd kF asp2 nsp2 Xsp2, .rd kF als2 nls2 Xls2] := Bu.ro (All.cons qsp1 (All.cons qls1 (All.cons qsp2 (All.cons qls2 All.nil)))) rfl
  refine calls_W (n := 38) Try.func57 rfl rfl (Nat.le_of_ble_eq_true rfl) ?_
  refine W_seq ?_
  refine W_region (by kernel_rfl) ?_
  refine s_k rfl (k_boxN (v := .agg #[.int .i64 wd1, .int .i64 hi1, .bool wr1, .slice asp1 nsp1 csp1, .slice als1 nls1 cls1]) (cs := [.int .i64 wd1, .int .i64 hi1, .bool wr1, .slice asp1 nsp1 csp1, .slice als1 nls1 cls1]) rfl rfl (fun b1 w2 hN3 => ?_))
  replace B := B.new1 hN3
  clear hN3
  refine s_k rfl (k_boxN (v := .agg #[.int .i64 wd2, .int .i64 hi2, .bool wr2, .slice asp2 nsp2 csp2, .slice als2 nls2 cls2]) (cs := [.int .i64 wd2, .int .i64 hi2, .bool wr2, .slice asp2 nsp2 csp2, .slice als2 nls2 cls2]) rfl rfl (fun b4 w5 hN6 => ?_))
  replace B := B.new1 hN6
  clear hN6
  refine s_y (v := .bool false) rfl (y_assign rfl) ?_
  refine s_nil ?_
  refine W_seq ?_
  refine W_region (by kernel_rfl) ?_
  refine s_y (v := .pointer (some ⟨b1, 0, none⟩)) rfl (y_fld (o := 0) T57.fld_26_0_0 rfl) ?_
  refine s_y (v := .int .i64 wd1) rfl (y_load T57.one_2 rfl ((B.b 1 rfl).cell (j := 0) rfl)) ?_
  refine s_y (v := .pointer (some ⟨b4, 0, none⟩)) rfl (y_fld (o := 0) T57.fld_26_0_0 rfl) ?_
  refine s_y (v := .int .i64 wd2) rfl (y_load T57.one_2 rfl ((B.b 0 rfl).cell (j := 0) rfl)) ?_
  by_cases c7 : wd1 = wd2
  · refine s_y (v := .bool true) rfl (y_eql rfl rfl (decide_eq_true c7)) ?_
    refine s_y (v := .bool true) rfl (y_move rfl) ?_
    refine s_y (v := .pointer (some ⟨b1, 1, none⟩)) rfl (y_fld (o := 0) T57.fld_26_1_1 rfl) ?_
    refine s_y (v := .int .i64 hi1) rfl (y_load T57.one_2 rfl ((B.b 1 rfl).cell (j := 1) rfl)) ?_
    refine s_y (v := .pointer (some ⟨b4, 1, none⟩)) rfl (y_fld (o := 0) T57.fld_26_1_1 rfl) ?_
    refine s_y (v := .int .i64 hi2) rfl (y_load T57.one_2 rfl ((B.b 0 rfl).cell (j := 1) rfl)) ?_
    by_cases c8 : hi1 = hi2
    · refine s_y (v := .bool true) rfl (y_eql rfl rfl (decide_eq_true c8)) ?_
      refine s_y (v := .bool true) rfl (y_pick_t rfl rfl) ?_
      refine s_y (v := .bool true) rfl (y_move rfl) ?_
      refine s_y (v := .pointer (some ⟨b1, 2, none⟩)) rfl (y_fld (o := 0) T57.fld_26_2_2 rfl) ?_
      refine s_y (v := .bool wr1) rfl (y_load T57.one_4 rfl ((B.b 1 rfl).cell (j := 2) rfl)) ?_
      refine s_y (v := .pointer (some ⟨b4, 2, none⟩)) rfl (y_fld (o := 0) T57.fld_26_2_2 rfl) ?_
      refine s_y (v := .bool wr2) rfl (y_load T57.one_4 rfl ((B.b 0 rfl).cell (j := 2) rfl)) ?_
      cases wr1
      · cases wr2
        · refine s_y (v := .bool true) rfl (y_beql T57.bool_4 rfl rfl rfl) ?_
          refine s_y (v := .bool true) rfl (y_pick_t rfl rfl) ?_
          refine s_y (v := .bool true) rfl (y_move rfl) ?_
          refine s_y (v := .pointer (some ⟨b1, 3, none⟩)) rfl (y_fld (o := 0) T57.fld_26_3_3 rfl) ?_
          refine s_y (v := .slice asp1 nsp1 csp1) rfl (y_load T57.one_24 rfl ((B.b 1 rfl).cell (j := 3) rfl)) ?_
          refine s_y (v := .pointer (some ⟨b4, 3, none⟩)) rfl (y_fld (o := 0) T57.fld_26_3_3 rfl) ?_
          refine s_y (v := .slice asp2 nsp2 csp2) rfl (y_load T57.one_24 rfl ((B.b 0 rfl).cell (j := 3) rfl)) ?_
          refine s_k rfl (k_call T57.fn_100 (c_i_sameNumbers (B.r 2 rfl) (B.r 4 rfl) (by omega) (by omega)) rfl ?_)
          rintro v11 w9 ⟨hv12, e10⟩
          replace B := B.ext0 e10
          clear e10
          by_cases c13 : sameL Xsp1 Xsp2 = true
          · obtain rfl : v11 = .bool true := hv12.trans (congrArg Value.bool c13)
            refine s_y (v := .bool true) rfl (y_pick_t rfl rfl) ?_
            refine s_y (v := .bool true) rfl (y_move rfl) ?_
            refine s_y (v := .pointer (some ⟨b1, 4, none⟩)) rfl (y_fld (o := 0) T57.fld_26_4_4 rfl) ?_
            refine s_y (v := .slice als1 nls1 cls1) rfl (y_load T57.one_24 rfl ((B.b 1 rfl).cell (j := 4) rfl)) ?_
            refine s_y (v := .pointer (some ⟨b4, 4, none⟩)) rfl (y_fld (o := 0) T57.fld_26_4_4 rfl) ?_
            refine s_y (v := .slice als2 nls2 cls2) rfl (y_load T57.one_24 rfl ((B.b 0 rfl).cell (j := 4) rfl)) ?_
            refine s_k rfl (k_call T57.fn_100 (c_i_sameNumbers (B.r 3 rfl) (B.r 5 rfl) (by omega) (by omega)) rfl ?_)
            rintro v16 w14 ⟨hv17, e15⟩
            replace B := B.ext0 e15
            clear e15
            by_cases c18 : sameL Xls1 Xls2 = true
            · obtain rfl : v16 = .bool true := hv17.trans (congrArg Value.bool c18)
              refine s_y (v := .bool true) rfl (y_pick_t rfl rfl) ?_
              refine s_y (v := .bool true) rfl (y_assign rfl) ?_
              refine s_nil ?_
              refine W_ret ?_
              refine ret1 (v := .bool true) rfl rfl rfl ⟨_, rfl, ?_⟩
              exact ⟨congrArg Value.bool (by first | (simp only [(decide_eq_true c7), (decide_eq_true c8), c13, c18, Bool.and_true, Bool.true_and, Bool.and_false, Bool.false_and, Bool.not_true, Bool.not_false, Bool.or_true, Bool.true_or, Bool.or_false, Bool.false_or]; done) | (simp only [(decide_eq_true c7), (decide_eq_true c8), c13, c18, Bool.and_true, Bool.true_and, Bool.and_false, Bool.false_and, Bool.not_true, Bool.not_false, Bool.or_true, Bool.true_or, Bool.or_false, Bool.false_or]; rfl)), B.ext⟩
            · obtain rfl : v16 = .bool false := hv17.trans (congrArg Value.bool (Bool.eq_false_iff.2 c18))
              refine s_y (v := .bool false) rfl (y_pick_t rfl rfl) ?_
              refine s_y (v := .bool false) rfl (y_assign rfl) ?_
              refine s_nil ?_
              refine W_ret ?_
              refine ret1 (v := .bool false) rfl rfl rfl ⟨_, rfl, ?_⟩
              exact ⟨congrArg Value.bool (by first | (simp only [(decide_eq_true c7), (decide_eq_true c8), c13, (Bool.eq_false_iff.2 c18), Bool.and_true, Bool.true_and, Bool.and_false, Bool.false_and, Bool.not_true, Bool.not_false, Bool.or_true, Bool.true_or, Bool.or_false, Bool.false_or]; done) | (simp only [(decide_eq_true c7), (decide_eq_true c8), c13, (Bool.eq_false_iff.2 c18), Bool.and_true, Bool.true_and, Bool.and_false, Bool.false_and, Bool.not_true, Bool.not_false, Bool.or_true, Bool.true_or, Bool.or_false, Bool.false_or]; rfl)), B.ext⟩
          · obtain rfl : v11 = .bool false := hv12.trans (congrArg Value.bool (Bool.eq_false_iff.2 c13))
            refine s_y (v := .bool false) rfl (y_pick_t rfl rfl) ?_
            refine s_y (v := .bool false) rfl (y_move rfl) ?_
            refine s_skip rfl ?_
            refine s_skip rfl ?_
            refine s_skip rfl ?_
            refine s_skip rfl ?_
            refine s_skip rfl ?_
            refine s_y (v := .bool false) rfl (y_pick_f rfl rfl) ?_
            refine s_y (v := .bool false) rfl (y_assign rfl) ?_
            refine s_nil ?_
            refine W_ret ?_
            refine ret1 (v := .bool false) rfl rfl rfl ⟨_, rfl, ?_⟩
            exact ⟨congrArg Value.bool (by first | (simp only [(decide_eq_true c7), (decide_eq_true c8), (Bool.eq_false_iff.2 c13), Bool.and_true, Bool.true_and, Bool.and_false, Bool.false_and, Bool.not_true, Bool.not_false, Bool.or_true, Bool.true_or, Bool.or_false, Bool.false_or]; done) | (simp only [(decide_eq_true c7), (decide_eq_true c8), (Bool.eq_false_iff.2 c13), Bool.and_true, Bool.true_and, Bool.and_false, Bool.false_and, Bool.not_true, Bool.not_false, Bool.or_true, Bool.true_or, Bool.or_false, Bool.false_or]; rfl)), B.ext⟩
        · refine s_y (v := .bool false) rfl (y_beql T57.bool_4 rfl rfl rfl) ?_
          refine s_y (v := .bool false) rfl (y_pick_t rfl rfl) ?_
          refine s_y (v := .bool false) rfl (y_move rfl) ?_
          refine s_skip rfl ?_
          refine s_skip rfl ?_
          refine s_skip rfl ?_
          refine s_skip rfl ?_
          refine s_skip rfl ?_
          refine s_y (v := .bool false) rfl (y_pick_f rfl rfl) ?_
          refine s_y (v := .bool false) rfl (y_move rfl) ?_
          refine s_skip rfl ?_
          refine s_skip rfl ?_
          refine s_skip rfl ?_
          refine s_skip rfl ?_
          refine s_skip rfl ?_
          refine s_y (v := .bool false) rfl (y_pick_f rfl rfl) ?_
          refine s_y (v := .bool false) rfl (y_assign rfl) ?_
          refine s_nil ?_
          refine W_ret ?_
          refine ret1 (v := .bool false) rfl rfl rfl ⟨_, rfl, ?_⟩
          exact ⟨congrArg Value.bool (by first | (simp only [(decide_eq_true c7), (decide_eq_true c8), Bool.and_true, Bool.true_and, Bool.and_false, Bool.false_and, Bool.not_true, Bool.not_false, Bool.or_true, Bool.true_or, Bool.or_false, Bool.false_or]; done) | (simp only [(decide_eq_true c7), (decide_eq_true c8), Bool.and_true, Bool.true_and, Bool.and_false, Bool.false_and, Bool.not_true, Bool.not_false, Bool.or_true, Bool.true_or, Bool.or_false, Bool.false_or]; rfl)), B.ext⟩
      · cases wr2
        · refine s_y (v := .bool false) rfl (y_beql T57.bool_4 rfl rfl rfl) ?_
          refine s_y (v := .bool false) rfl (y_pick_t rfl rfl) ?_
          refine s_y (v := .bool false) rfl (y_move rfl) ?_
          refine s_skip rfl ?_
          refine s_skip rfl ?_
          refine s_skip rfl ?_
          refine s_skip rfl ?_
          refine s_skip rfl ?_
          refine s_y (v := .bool false) rfl (y_pick_f rfl rfl) ?_
          refine s_y (v := .bool false) rfl (y_move rfl) ?_
          refine s_skip rfl ?_
          refine s_skip rfl ?_
          refine s_skip rfl ?_
          refine s_skip rfl ?_
          refine s_skip rfl ?_
          refine s_y (v := .bool false) rfl (y_pick_f rfl rfl) ?_
          refine s_y (v := .bool false) rfl (y_assign rfl) ?_
          refine s_nil ?_
          refine W_ret ?_
          refine ret1 (v := .bool false) rfl rfl rfl ⟨_, rfl, ?_⟩
          exact ⟨congrArg Value.bool (by first | (simp only [(decide_eq_true c7), (decide_eq_true c8), Bool.and_true, Bool.true_and, Bool.and_false, Bool.false_and, Bool.not_true, Bool.not_false, Bool.or_true, Bool.true_or, Bool.or_false, Bool.false_or]; done) | (simp only [(decide_eq_true c7), (decide_eq_true c8), Bool.and_true, Bool.true_and, Bool.and_false, Bool.false_and, Bool.not_true, Bool.not_false, Bool.or_true, Bool.true_or, Bool.or_false, Bool.false_or]; rfl)), B.ext⟩
        · refine s_y (v := .bool true) rfl (y_beql T57.bool_4 rfl rfl rfl) ?_
          refine s_y (v := .bool true) rfl (y_pick_t rfl rfl) ?_
          refine s_y (v := .bool true) rfl (y_move rfl) ?_
          refine s_y (v := .pointer (some ⟨b1, 3, none⟩)) rfl (y_fld (o := 0) T57.fld_26_3_3 rfl) ?_
          refine s_y (v := .slice asp1 nsp1 csp1) rfl (y_load T57.one_24 rfl ((B.b 1 rfl).cell (j := 3) rfl)) ?_
          refine s_y (v := .pointer (some ⟨b4, 3, none⟩)) rfl (y_fld (o := 0) T57.fld_26_3_3 rfl) ?_
          refine s_y (v := .slice asp2 nsp2 csp2) rfl (y_load T57.one_24 rfl ((B.b 0 rfl).cell (j := 3) rfl)) ?_
          refine s_k rfl (k_call T57.fn_100 (c_i_sameNumbers (B.r 2 rfl) (B.r 4 rfl) (by omega) (by omega)) rfl ?_)
          rintro v21 w19 ⟨hv22, e20⟩
          replace B := B.ext0 e20
          clear e20
          by_cases c23 : sameL Xsp1 Xsp2 = true
          · obtain rfl : v21 = .bool true := hv22.trans (congrArg Value.bool c23)
            refine s_y (v := .bool true) rfl (y_pick_t rfl rfl) ?_
            refine s_y (v := .bool true) rfl (y_move rfl) ?_
            refine s_y (v := .pointer (some ⟨b1, 4, none⟩)) rfl (y_fld (o := 0) T57.fld_26_4_4 rfl) ?_
            refine s_y (v := .slice als1 nls1 cls1) rfl (y_load T57.one_24 rfl ((B.b 1 rfl).cell (j := 4) rfl)) ?_
            refine s_y (v := .pointer (some ⟨b4, 4, none⟩)) rfl (y_fld (o := 0) T57.fld_26_4_4 rfl) ?_
            refine s_y (v := .slice als2 nls2 cls2) rfl (y_load T57.one_24 rfl ((B.b 0 rfl).cell (j := 4) rfl)) ?_
            refine s_k rfl (k_call T57.fn_100 (c_i_sameNumbers (B.r 3 rfl) (B.r 5 rfl) (by omega) (by omega)) rfl ?_)
            rintro v26 w24 ⟨hv27, e25⟩
            replace B := B.ext0 e25
            clear e25
            by_cases c28 : sameL Xls1 Xls2 = true
            · obtain rfl : v26 = .bool true := hv27.trans (congrArg Value.bool c28)
              refine s_y (v := .bool true) rfl (y_pick_t rfl rfl) ?_
              refine s_y (v := .bool true) rfl (y_assign rfl) ?_
              refine s_nil ?_
              refine W_ret ?_
              refine ret1 (v := .bool true) rfl rfl rfl ⟨_, rfl, ?_⟩
              exact ⟨congrArg Value.bool (by first | (simp only [(decide_eq_true c7), (decide_eq_true c8), c23, c28, Bool.and_true, Bool.true_and, Bool.and_false, Bool.false_and, Bool.not_true, Bool.not_false, Bool.or_true, Bool.true_or, Bool.or_false, Bool.false_or]; done) | (simp only [(decide_eq_true c7), (decide_eq_true c8), c23, c28, Bool.and_true, Bool.true_and, Bool.and_false, Bool.false_and, Bool.not_true, Bool.not_false, Bool.or_true, Bool.true_or, Bool.or_false, Bool.false_or]; rfl)), B.ext⟩
            · obtain rfl : v26 = .bool false := hv27.trans (congrArg Value.bool (Bool.eq_false_iff.2 c28))
              refine s_y (v := .bool false) rfl (y_pick_t rfl rfl) ?_
              refine s_y (v := .bool false) rfl (y_assign rfl) ?_
              refine s_nil ?_
              refine W_ret ?_
              refine ret1 (v := .bool false) rfl rfl rfl ⟨_, rfl, ?_⟩
              exact ⟨congrArg Value.bool (by first | (simp only [(decide_eq_true c7), (decide_eq_true c8), c23, (Bool.eq_false_iff.2 c28), Bool.and_true, Bool.true_and, Bool.and_false, Bool.false_and, Bool.not_true, Bool.not_false, Bool.or_true, Bool.true_or, Bool.or_false, Bool.false_or]; done) | (simp only [(decide_eq_true c7), (decide_eq_true c8), c23, (Bool.eq_false_iff.2 c28), Bool.and_true, Bool.true_and, Bool.and_false, Bool.false_and, Bool.not_true, Bool.not_false, Bool.or_true, Bool.true_or, Bool.or_false, Bool.false_or]; rfl)), B.ext⟩
          · obtain rfl : v21 = .bool false := hv22.trans (congrArg Value.bool (Bool.eq_false_iff.2 c23))
            refine s_y (v := .bool false) rfl (y_pick_t rfl rfl) ?_
            refine s_y (v := .bool false) rfl (y_move rfl) ?_
            refine s_skip rfl ?_
            refine s_skip rfl ?_
            refine s_skip rfl ?_
            refine s_skip rfl ?_
            refine s_skip rfl ?_
            refine s_y (v := .bool false) rfl (y_pick_f rfl rfl) ?_
            refine s_y (v := .bool false) rfl (y_assign rfl) ?_
            refine s_nil ?_
            refine W_ret ?_
            refine ret1 (v := .bool false) rfl rfl rfl ⟨_, rfl, ?_⟩
            exact ⟨congrArg Value.bool (by first | (simp only [(decide_eq_true c7), (decide_eq_true c8), (Bool.eq_false_iff.2 c23), Bool.and_true, Bool.true_and, Bool.and_false, Bool.false_and, Bool.not_true, Bool.not_false, Bool.or_true, Bool.true_or, Bool.or_false, Bool.false_or]; done) | (simp only [(decide_eq_true c7), (decide_eq_true c8), (Bool.eq_false_iff.2 c23), Bool.and_true, Bool.true_and, Bool.and_false, Bool.false_and, Bool.not_true, Bool.not_false, Bool.or_true, Bool.true_or, Bool.or_false, Bool.false_or]; rfl)), B.ext⟩
    · refine s_y (v := .bool false) rfl (y_eql rfl rfl (decide_eq_false c8)) ?_
      refine s_y (v := .bool false) rfl (y_pick_t rfl rfl) ?_
      refine s_y (v := .bool false) rfl (y_move rfl) ?_
      refine s_skip rfl ?_
      refine s_skip rfl ?_
      refine s_skip rfl ?_
      refine s_skip rfl ?_
      refine s_skip rfl ?_
      refine s_y (v := .bool false) rfl (y_pick_f rfl rfl) ?_
      refine s_y (v := .bool false) rfl (y_move rfl) ?_
      refine s_skip rfl ?_
      refine s_skip rfl ?_
      refine s_skip rfl ?_
      refine s_skip rfl ?_
      refine s_skip rfl ?_
      refine s_y (v := .bool false) rfl (y_pick_f rfl rfl) ?_
      refine s_y (v := .bool false) rfl (y_move rfl) ?_
      refine s_skip rfl ?_
      refine s_skip rfl ?_
      refine s_skip rfl ?_
      refine s_skip rfl ?_
      refine s_skip rfl ?_
      refine s_y (v := .bool false) rfl (y_pick_f rfl rfl) ?_
      refine s_y (v := .bool false) rfl (y_assign rfl) ?_
      refine s_nil ?_
      refine W_ret ?_
      refine ret1 (v := .bool false) rfl rfl rfl ⟨_, rfl, ?_⟩
      exact ⟨congrArg Value.bool (by first | (simp only [(decide_eq_true c7), (decide_eq_false c8), Bool.and_true, Bool.true_and, Bool.and_false, Bool.false_and, Bool.not_true, Bool.not_false, Bool.or_true, Bool.true_or, Bool.or_false, Bool.false_or]; done) | (simp only [(decide_eq_true c7), (decide_eq_false c8), Bool.and_true, Bool.true_and, Bool.and_false, Bool.false_and, Bool.not_true, Bool.not_false, Bool.or_true, Bool.true_or, Bool.or_false, Bool.false_or]; rfl)), B.ext⟩
  · refine s_y (v := .bool false) rfl (y_eql rfl rfl (decide_eq_false c7)) ?_
    refine s_y (v := .bool false) rfl (y_move rfl) ?_
    refine s_skip rfl ?_
    refine s_skip rfl ?_
    refine s_skip rfl ?_
    refine s_skip rfl ?_
    refine s_skip rfl ?_
    refine s_y (v := .bool false) rfl (y_pick_f rfl rfl) ?_
    refine s_y (v := .bool false) rfl (y_move rfl) ?_
    refine s_skip rfl ?_
    refine s_skip rfl ?_
    refine s_skip rfl ?_
    refine s_skip rfl ?_
    refine s_skip rfl ?_
    refine s_y (v := .bool false) rfl (y_pick_f rfl rfl) ?_
    refine s_y (v := .bool false) rfl (y_move rfl) ?_
    refine s_skip rfl ?_
    refine s_skip rfl ?_
    refine s_skip rfl ?_
    refine s_skip rfl ?_
    refine s_skip rfl ?_
    refine s_y (v := .bool false) rfl (y_pick_f rfl rfl) ?_
    refine s_y (v := .bool false) rfl (y_move rfl) ?_
    refine s_skip rfl ?_
    refine s_skip rfl ?_
    refine s_skip rfl ?_
    refine s_skip rfl ?_
    refine s_skip rfl ?_
    refine s_y (v := .bool false) rfl (y_pick_f rfl rfl) ?_
    refine s_y (v := .bool false) rfl (y_assign rfl) ?_
    refine s_nil ?_
    refine W_ret ?_
    refine ret1 (v := .bool false) rfl rfl rfl ⟨_, rfl, ?_⟩
    exact ⟨congrArg Value.bool (by first | (simp only [(decide_eq_false c7), Bool.and_true, Bool.true_and, Bool.and_false, Bool.false_and, Bool.not_true, Bool.not_false, Bool.or_true, Bool.true_or, Bool.or_false, Bool.false_or]; done) | (simp only [(decide_eq_false c7), Bool.and_true, Bool.true_and, Bool.and_false, Bool.false_and, Bool.not_true, Bool.not_false, Bool.or_true, Bool.true_or, Bool.or_false, Bool.false_or]; rfl)), B.ext⟩
namespace T47
theorem mx : Try.prog.follows .mixedOrders = true := by kernel_rfl
theorem fld_30_0_0 : fldB Try.prog 30 0 0 = true := by kernel_rfl
theorem fld_30_1_1 : fldB Try.prog 30 1 1 = true := by kernel_rfl
theorem fld_30_2_2 : fldB Try.prog 30 2 2 = true := by kernel_rfl
theorem fn_100 : fnB Try.prog 100 = true := by kernel_rfl
theorem one_24 : oneB Try.prog 24 = true := by kernel_rfl
end T47
set_option maxRecDepth 100000 in
set_option maxHeartbeats 4000000 in
theorem c_i_SameField {afe1 : Option Addr} {nfe1 : Nat} {cfe1 : Nat} {Xfe1 : List Nat} {afx1 : Option Addr} {nfx1 : Nat} {cfx1 : Nat} {Xfx1 : List Nat} {afy1 : Option Addr} {nfy1 : Nat} {cfy1 : Nat} {Xfy1 : List Nat} {afe2 : Option Addr} {nfe2 : Nat} {cfe2 : Nat} {Xfe2 : List Nat} {afx2 : Option Addr} {nfx2 : Nat} {cfx2 : Nat} {Xfx2 : List Nat} {afy2 : Option Addr} {nfy2 : Nat} {cfy2 : Nat} {Xfy2 : List Nat} {w : World} (qfe1 : Rd w kF afe1 nfe1 Xfe1) (qfx1 : Rd w kF afx1 nfx1 Xfx1) (qfy1 : Rd w kF afy1 nfy1 Xfy1) (qfe2 : Rd w kF afe2 nfe2 Xfe2) (qfx2 : Rd w kF afx2 nfx2 Xfx2) (qfy2 : Rd w kF afy2 nfy2 Xfy2) (gfe1 : nfe1 ≤ 9223372036854775807) (gfx1 : nfx1 ≤ 9223372036854775807) (gfy1 : nfy1 ≤ 9223372036854775807) (gfe2 : nfe2 ≤ 9223372036854775807) (gfx2 : nfx2 ≤ 9223372036854775807) (gfy2 : nfy2 ≤ 9223372036854775807) :
    Calls Try.prog 47 #[.agg #[.slice afe1 nfe1 cfe1, .slice afx1 nfx1 cfx1, .slice afy1 nfy1 cfy1], .agg #[.slice afe2 nfe2 cfe2, .slice afx2 nfx2 cfx2, .slice afy2 nfy2 cfy2]] w (Rt fun v w' => v = .bool ((sameL Xfe1 Xfe2 && sameL Xfx1 Xfx2 && sameL Xfy1 Xfy2)) ∧ Ext0 w w') := by
  have hlfe1 := qfe1.len
  have hlfx1 := qfx1.len
  have hlfy1 := qfy1.len
  have hlfe2 := qfe2.len
  have hlfx2 := qfx2.len
  have hlfy2 := qfy2.len
  have B : Bu w no w [.rd kF afe1 nfe1 Xfe1, .rd kF afx1 nfx1 Xfx1, .rd kF afy1 nfy1 Xfy1, .rd kF afe2 nfe2 Xfe2, .rd kF afx2 nfx2 Xfx2, .rd kF afy2 nfy2 Xfy2] := Bu.ro (All.cons qfe1 (All.cons qfx1 (All.cons qfy1 (All.cons qfe2 (All.cons qfx2 (All.cons qfy2 All.nil)))))) rfl
  refine calls_W (n := 24) Try.func47 rfl rfl (Nat.le_of_ble_eq_true rfl) ?_
  refine W_seq ?_
  refine W_region (by kernel_rfl) ?_
  refine s_k rfl (k_boxN (v := .agg #[.slice afe1 nfe1 cfe1, .slice afx1 nfx1 cfx1, .slice afy1 nfy1 cfy1]) (cs := [.slice afe1 nfe1 cfe1, .slice afx1 nfx1 cfx1, .slice afy1 nfy1 cfy1]) rfl rfl (fun b1 w2 hN3 => ?_))
  replace B := B.new1 hN3
  clear hN3
  refine s_k rfl (k_boxN (v := .agg #[.slice afe2 nfe2 cfe2, .slice afx2 nfx2 cfx2, .slice afy2 nfy2 cfy2]) (cs := [.slice afe2 nfe2 cfe2, .slice afx2 nfx2 cfx2, .slice afy2 nfy2 cfy2]) rfl rfl (fun b4 w5 hN6 => ?_))
  replace B := B.new1 hN6
  clear hN6
  refine s_y (v := .bool false) rfl (y_assign rfl) ?_
  refine s_nil ?_
  refine W_seq ?_
  refine W_region (by kernel_rfl) ?_
  refine s_y (v := .pointer (some ⟨b1, 0, none⟩)) rfl (y_fld (o := 0) T47.fld_30_0_0 rfl) ?_
  refine s_y (v := .slice afe1 nfe1 cfe1) rfl (y_load T47.one_24 rfl ((B.b 1 rfl).cell (j := 0) rfl)) ?_
  refine s_y (v := .pointer (some ⟨b4, 0, none⟩)) rfl (y_fld (o := 0) T47.fld_30_0_0 rfl) ?_
  refine s_y (v := .slice afe2 nfe2 cfe2) rfl (y_load T47.one_24 rfl ((B.b 0 rfl).cell (j := 0) rfl)) ?_
  refine s_k rfl (k_call T47.fn_100 (c_i_sameNumbers (B.r 2 rfl) (B.r 5 rfl) (by omega) (by omega)) rfl ?_)
  rintro v9 w7 ⟨hv10, e8⟩
  replace B := B.ext0 e8
  clear e8
  by_cases c11 : sameL Xfe1 Xfe2 = true
  · obtain rfl : v9 = .bool true := hv10.trans (congrArg Value.bool c11)
    refine s_y (v := .bool true) rfl (y_move rfl) ?_
    refine s_y (v := .pointer (some ⟨b1, 1, none⟩)) rfl (y_fld (o := 0) T47.fld_30_1_1 rfl) ?_
    refine s_y (v := .slice afx1 nfx1 cfx1) rfl (y_load T47.one_24 rfl ((B.b 1 rfl).cell (j := 1) rfl)) ?_
    refine s_y (v := .pointer (some ⟨b4, 1, none⟩)) rfl (y_fld (o := 0) T47.fld_30_1_1 rfl) ?_
    refine s_y (v := .slice afx2 nfx2 cfx2) rfl (y_load T47.one_24 rfl ((B.b 0 rfl).cell (j := 1) rfl)) ?_
    refine s_k rfl (k_call T47.fn_100 (c_i_sameNumbers (B.r 3 rfl) (B.r 6 rfl) (by omega) (by omega)) rfl ?_)
    rintro v14 w12 ⟨hv15, e13⟩
    replace B := B.ext0 e13
    clear e13
    by_cases c16 : sameL Xfx1 Xfx2 = true
    · obtain rfl : v14 = .bool true := hv15.trans (congrArg Value.bool c16)
      refine s_y (v := .bool true) rfl (y_pick_t rfl rfl) ?_
      refine s_y (v := .bool true) rfl (y_move rfl) ?_
      refine s_y (v := .pointer (some ⟨b1, 2, none⟩)) rfl (y_fld (o := 0) T47.fld_30_2_2 rfl) ?_
      refine s_y (v := .slice afy1 nfy1 cfy1) rfl (y_load T47.one_24 rfl ((B.b 1 rfl).cell (j := 2) rfl)) ?_
      refine s_y (v := .pointer (some ⟨b4, 2, none⟩)) rfl (y_fld (o := 0) T47.fld_30_2_2 rfl) ?_
      refine s_y (v := .slice afy2 nfy2 cfy2) rfl (y_load T47.one_24 rfl ((B.b 0 rfl).cell (j := 2) rfl)) ?_
      refine s_k rfl (k_call T47.fn_100 (c_i_sameNumbers (B.r 4 rfl) (B.r 7 rfl) (by omega) (by omega)) rfl ?_)
      rintro v19 w17 ⟨hv20, e18⟩
      replace B := B.ext0 e18
      clear e18
      by_cases c21 : sameL Xfy1 Xfy2 = true
      · obtain rfl : v19 = .bool true := hv20.trans (congrArg Value.bool c21)
        refine s_y (v := .bool true) rfl (y_pick_t rfl rfl) ?_
        refine s_y (v := .bool true) rfl (y_assign rfl) ?_
        refine s_nil ?_
        refine W_ret ?_
        refine ret1 (v := .bool true) rfl rfl rfl ⟨_, rfl, ?_⟩
        exact ⟨congrArg Value.bool (by simp only [c11, c16, c21, Bool.and_true, Bool.true_and, Bool.and_false, Bool.false_and, Bool.not_true, Bool.not_false, Bool.or_true, Bool.true_or, Bool.or_false, Bool.false_or]), B.ext⟩
      · obtain rfl : v19 = .bool false := hv20.trans (congrArg Value.bool (Bool.eq_false_iff.2 c21))
        refine s_y (v := .bool false) rfl (y_pick_t rfl rfl) ?_
        refine s_y (v := .bool false) rfl (y_assign rfl) ?_
        refine s_nil ?_
        refine W_ret ?_
        refine ret1 (v := .bool false) rfl rfl rfl ⟨_, rfl, ?_⟩
        exact ⟨congrArg Value.bool (by simp only [c11, c16, (Bool.eq_false_iff.2 c21), Bool.and_true, Bool.true_and, Bool.and_false, Bool.false_and, Bool.not_true, Bool.not_false, Bool.or_true, Bool.true_or, Bool.or_false, Bool.false_or]), B.ext⟩
    · obtain rfl : v14 = .bool false := hv15.trans (congrArg Value.bool (Bool.eq_false_iff.2 c16))
      refine s_y (v := .bool false) rfl (y_pick_t rfl rfl) ?_
      refine s_y (v := .bool false) rfl (y_move rfl) ?_
      refine s_skip rfl ?_
      refine s_skip rfl ?_
      refine s_skip rfl ?_
      refine s_skip rfl ?_
      refine s_skip rfl ?_
      refine s_y (v := .bool false) rfl (y_pick_f rfl rfl) ?_
      refine s_y (v := .bool false) rfl (y_assign rfl) ?_
      refine s_nil ?_
      refine W_ret ?_
      refine ret1 (v := .bool false) rfl rfl rfl ⟨_, rfl, ?_⟩
      exact ⟨congrArg Value.bool (by simp only [c11, (Bool.eq_false_iff.2 c16), Bool.and_true, Bool.true_and, Bool.and_false, Bool.false_and, Bool.not_true, Bool.not_false, Bool.or_true, Bool.true_or, Bool.or_false, Bool.false_or]), B.ext⟩
  · obtain rfl : v9 = .bool false := hv10.trans (congrArg Value.bool (Bool.eq_false_iff.2 c11))
    refine s_y (v := .bool false) rfl (y_move rfl) ?_
    refine s_skip rfl ?_
    refine s_skip rfl ?_
    refine s_skip rfl ?_
    refine s_skip rfl ?_
    refine s_skip rfl ?_
    refine s_y (v := .bool false) rfl (y_pick_f rfl rfl) ?_
    refine s_y (v := .bool false) rfl (y_move rfl) ?_
    refine s_skip rfl ?_
    refine s_skip rfl ?_
    refine s_skip rfl ?_
    refine s_skip rfl ?_
    refine s_skip rfl ?_
    refine s_y (v := .bool false) rfl (y_pick_f rfl rfl) ?_
    refine s_y (v := .bool false) rfl (y_assign rfl) ?_
    refine s_nil ?_
    refine W_ret ?_
    refine ret1 (v := .bool false) rfl rfl rfl ⟨_, rfl, ?_⟩
    exact ⟨congrArg Value.bool (by simp only [(Bool.eq_false_iff.2 c11), Bool.and_true, Bool.true_and, Bool.and_false, Bool.false_and, Bool.not_true, Bool.not_false, Bool.or_true, Bool.true_or, Bool.or_false, Bool.false_or]), B.ext⟩
namespace T24
theorem mx : Try.prog.follows .mixedOrders = true := by kernel_rfl
theorem int_2_i64 : Try.prog.underlying 2 = some (.int .i64) := by kernel_rfl
theorem one_5 : oneB Try.prog 5 = true := by kernel_rfl
theorem sl_22_5_1 : slB Try.prog 22 5 1 = true := by kernel_rfl
theorem und_5 : (Try.prog.underlying 5).isSome = true := by kernel_rfl
end T24
set_option maxRecDepth 100000 in
set_option maxHeartbeats 4000000 in
theorem c_l_r8At {aq : Option Addr} {nq : Nat} {cq : Nat} {Xq : List Nat} {k : Int} {n : Int} {w : World} (qq : Rd w kY aq nq Xq) (k0 : 0 ≤ k) (n0 : 1 ≤ n) (gq : nq ≤ 9223372036854775807) :
    Calls Try.prog 24 #[.slice aq nq cq, .int .i64 k, .int .i64 n] w (Rt fun v w' => ∃ uv : Int, v = .int .i64 uv ∧ uv = r8A Xq k n ∧ Ext0 w w') := by
  have hlq := qq.len
  have B : Bu w no w [.rd kY aq nq Xq] := Bu.ro (All.cons qq All.nil) rfl
  refine calls_W (n := 22) Try.func24 rfl rfl (Nat.le_of_ble_eq_true rfl) ?_
  refine W_seq ?_
  refine W_region (by kernel_rfl) ?_
  refine s_y (v := .int .i64 0) rfl (y_assign rfl) ?_
  refine s_nil ?_
  refine W_seq ?_
  refine W_seq ?_
  refine W_region (by kernel_rfl) ?_
  refine s_y (v := .int .i64 n) rfl (y_move rfl) ?_
  by_cases c1 : n ≤ 1
  · refine s_y (v := .bool true) rfl (y_leq rfl rfl (decide_eq_true c1)) ?_
    refine s_y (v := .bool true) rfl (y_move rfl) ?_
    refine s_skip rfl ?_
    refine s_skip rfl ?_
    refine s_skip rfl ?_
    refine s_skip rfl ?_
    refine s_y (v := .bool true) rfl (y_pick_t rfl rfl) ?_
    refine s_nil ?_
    refine W_if_t (by decide) rfl ?_
    refine W_seq ?_
    refine W_region (by kernel_rfl) ?_
    refine s_y (v := .int .i64 0) rfl (y_assign rfl) ?_
    refine s_nil ?_
    refine W_ret ?_
    refine ret1 (v := .int .i64 0) rfl rfl rfl ⟨_, rfl, ?_⟩
    exact ⟨_, rfl, (r8A_zero hlq (by omega)).symm, B.ext⟩
  · refine s_y (v := .bool false) rfl (y_leq rfl rfl (decide_eq_false c1)) ?_
    refine s_y (v := .bool false) rfl (y_move rfl) ?_
    refine s_y (v := .int .i64 k) rfl (y_move rfl) ?_
    refine s_y (v := .slice aq nq cq) rfl (y_move rfl) ?_
    refine s_y (v := .int .i64 ((nq : Nat) : Int)) rfl (y_len T24.sl_22_5_1 rfl rfl) ?_
    by_cases c2 : ((nq : Nat) : Int) ≤ k
    · refine s_y (v := .bool true) rfl (y_geq rfl rfl (decide_eq_true c2)) ?_
      refine s_y (v := .bool true) rfl (y_pick_f rfl rfl) ?_
      refine s_nil ?_
      refine W_if_t (by decide) rfl ?_
      refine W_seq ?_
      refine W_region (by kernel_rfl) ?_
      refine s_y (v := .int .i64 0) rfl (y_assign rfl) ?_
      refine s_nil ?_
      refine W_ret ?_
      refine ret1 (v := .int .i64 0) rfl rfl rfl ⟨_, rfl, ?_⟩
      exact ⟨_, rfl, (r8A_zero hlq (by omega)).symm, B.ext⟩
    · refine s_y (v := .bool false) rfl (y_geq rfl rfl (decide_eq_false c2)) ?_
      refine s_y (v := .bool false) rfl (y_pick_f rfl rfl) ?_
      refine s_nil ?_
      refine W_if_f (by decide) rfl ?_
      refine W_skip ?_
      refine W_seq ?_
      refine W_region (by kernel_rfl) ?_
      refine s_y (v := .slice aq nq cq) rfl (y_move rfl) ?_
      refine s_y (v := .int .i64 k) rfl (y_move rfl) ?_
      refine s_y (v := .pointer (some (sat aq ((k).toNat * 1)))) rfl (y_idx T24.sl_22_5_1 rfl rfl ((B.r 0 rfl).addr (by omega)) (by omega) (by omega)) ?_
      obtain ⟨hb4, hR3⟩ := Rd.atY (B.r 0 rfl) k (by omega) (by omega)
      refine s_y (v := .int .u8 (byt Xq k)) rfl (y_load T24.one_5 rfl (hR3.cell (i := 0) rfl)) ?_
      refine s_y (v := .int .i64 (byt Xq k)) rfl (y_ii T24.und_5 T24.int_2_i64 rfl (IntWalk.i64_in _ (by omega))) ?_
      refine s_y (v := .int .i64 n) rfl (y_move rfl) ?_
      have hm5 := rem_b (x := byt Xq k) (m := n) (by omega) (by omega)
      refine s_y (v := .int .i64 ((byt Xq k) % n)) rfl (y_rem rfl rfl (by omega) (by omega) rfl) ?_
      refine s_y (v := .int .i64 ((byt Xq k) % n)) rfl (y_assign rfl) ?_
      refine s_nil ?_
      refine W_ret ?_
      refine ret1 (v := .int .i64 ((byt Xq k) % n)) rfl rfl rfl ⟨_, rfl, ?_⟩
      exact ⟨_, rfl, (r8A_at hlq (by omega) (by omega)).symm, B.ext⟩
namespace T109
theorem mx : Try.prog.follows .mixedOrders = true := by kernel_rfl
theorem agg_26_5 : aggB Try.prog 26 5 = true := by kernel_rfl
theorem fld_26_2_2 : fldB Try.prog 26 2 2 = true := by kernel_rfl
theorem fn_65 : fnB Try.prog 65 = true := by kernel_rfl
theorem fn_74 : fnB Try.prog 74 = true := by kernel_rfl
theorem one_4 : oneB Try.prog 4 = true := by kernel_rfl
end T109
set_option maxRecDepth 100000 in
set_option maxHeartbeats 4000000 in
theorem c_i_isShift {wd : Int} {hi : Int} {wr : Bool} {asp : Option Addr} {nsp : Nat} {csp : Nat} {Xsp : List Nat} {als : Option Addr} {nls : Nat} {cls : Nat} {Xls : List Nat} {x : Int} {y : Int} {w : World} (qsp : Rd w kF asp nsp Xsp) (qls : Rd w kF als nls Xls) (hbsp : nsp ≤ 9223372036854775806) (hbls : nls ≤ 9223372036854775806) :
    Calls Try.prog 109 #[.agg #[.int .i64 wd, .int .i64 hi, .bool wr, .slice asp nsp csp, .slice als nls cls], .int .i64 x, .int .i64 y] w (Rt fun v w' => v = .bool (shB wd hi wr Xsp Xls x y) ∧ Ext0 w w') := by
  have hlsp := qsp.len
  have hlls := qls.len
  have B : Bu w no w [.rd kF asp nsp Xsp, .rd kF als nls Xls] := Bu.ro (All.cons qsp (All.cons qls All.nil)) rfl
  refine calls_W (n := 21) Try.func109 rfl rfl (Nat.le_of_ble_eq_true rfl) ?_
  refine W_seq ?_
  refine W_region (by kernel_rfl) ?_
  refine s_k rfl (k_boxN (v := .agg #[.int .i64 wd, .int .i64 hi, .bool wr, .slice asp nsp csp, .slice als nls cls]) (cs := [.int .i64 wd, .int .i64 hi, .bool wr, .slice asp nsp csp, .slice als nls cls]) rfl rfl (fun b1 w2 hN3 => ?_))
  replace B := B.new1 hN3
  clear hN3
  refine s_y (v := .bool false) rfl (y_assign rfl) ?_
  refine s_nil ?_
  refine W_seq ?_
  refine W_region (by kernel_rfl) ?_
  refine s_y (v := .agg #[.int .i64 wd, .int .i64 hi, .bool wr, .slice asp nsp csp, .slice als nls cls]) rfl (y_loadn (b := b1) (o := 0) (vs := [.int .i64 wd, .int .i64 hi, .bool wr, .slice asp nsp csp, .slice als nls cls]) T109.agg_26_5 rfl rfl ((B.b 0 rfl).cells (o := 0) rfl)) ?_
  refine s_k rfl (k_call T109.fn_65 (c_i_ValidSheet (B.r 1 rfl) (B.r 2 rfl) (by omega) (by omega)) rfl ?_)
  rintro v6 w4 ⟨hv7, e5⟩
  replace B := B.ext0 e5
  clear e5
  by_cases c8 : validS wd hi Xsp Xls = true
  · have hb9 := validS_b c8
    obtain rfl : v6 = .bool true := hv7.trans (congrArg Value.bool c8)
    refine s_y (v := .bool true) rfl (y_move rfl) ?_
    refine s_y (v := .pointer (some ⟨b1, 2, none⟩)) rfl (y_fld (o := 0) T109.fld_26_2_2 rfl) ?_
    refine s_y (v := .bool wr) rfl (y_load T109.one_4 rfl ((B.b 0 rfl).cell (j := 2) rfl)) ?_
    refine s_y (v := .bool wr) rfl (y_pick_t rfl rfl) ?_
    refine s_y (v := .bool wr) rfl (y_move rfl) ?_
    cases wr
    · refine s_skip rfl ?_
      refine s_skip rfl ?_
      refine s_y (v := .bool false) rfl (y_pick_f rfl rfl) ?_
      refine s_y (v := .bool false) rfl (y_move rfl) ?_
      refine s_skip rfl ?_
      refine s_skip rfl ?_
      refine s_y (v := .bool false) rfl (y_pick_f rfl rfl) ?_
      refine s_y (v := .bool false) rfl (y_assign rfl) ?_
      refine s_nil ?_
      refine W_ret ?_
      refine ret1 (v := .bool false) rfl rfl rfl ⟨_, rfl, ?_⟩
      exact ⟨congrArg Value.bool (by simp only [shB, c8, Bool.and_true, Bool.true_and, Bool.and_false, Bool.false_and, Bool.not_true, Bool.not_false, Bool.or_true, Bool.true_or, Bool.or_false, Bool.false_or]), B.ext⟩
    · refine s_y (v := .int .i64 x) rfl (y_move rfl) ?_
      refine s_k rfl (k_call T109.fn_74 (c_i_within) rfl ?_)
      rintro v12 w10 ⟨hv13, e11⟩
      replace B := B.ext0 e11
      clear e11
      by_cases c14 : within x (-16) 16 = true
      · have hb15 := within_b c14
        obtain rfl : v12 = .bool true := hv13.trans (congrArg Value.bool c14)
        refine s_y (v := .bool true) rfl (y_pick_t rfl rfl) ?_
        refine s_y (v := .bool true) rfl (y_move rfl) ?_
        refine s_y (v := .int .i64 y) rfl (y_move rfl) ?_
        refine s_k rfl (k_call T109.fn_74 (c_i_within) rfl ?_)
        rintro v18 w16 ⟨hv19, e17⟩
        replace B := B.ext0 e17
        clear e17
        by_cases c20 : within y (-16) 16 = true
        · have hb21 := within_b c20
          obtain rfl : v18 = .bool true := hv19.trans (congrArg Value.bool c20)
          refine s_y (v := .bool true) rfl (y_pick_t rfl rfl) ?_
          refine s_y (v := .bool true) rfl (y_assign rfl) ?_
          refine s_nil ?_
          refine W_ret ?_
          refine ret1 (v := .bool true) rfl rfl rfl ⟨_, rfl, ?_⟩
          exact ⟨congrArg Value.bool (by simp only [shB, c8, c14, c20, Bool.and_true, Bool.true_and, Bool.and_false, Bool.false_and, Bool.not_true, Bool.not_false, Bool.or_true, Bool.true_or, Bool.or_false, Bool.false_or]), B.ext⟩
        · obtain rfl : v18 = .bool false := hv19.trans (congrArg Value.bool (Bool.eq_false_iff.2 c20))
          refine s_y (v := .bool false) rfl (y_pick_t rfl rfl) ?_
          refine s_y (v := .bool false) rfl (y_assign rfl) ?_
          refine s_nil ?_
          refine W_ret ?_
          refine ret1 (v := .bool false) rfl rfl rfl ⟨_, rfl, ?_⟩
          exact ⟨congrArg Value.bool (by simp only [shB, c8, c14, (Bool.eq_false_iff.2 c20), Bool.and_true, Bool.true_and, Bool.and_false, Bool.false_and, Bool.not_true, Bool.not_false, Bool.or_true, Bool.true_or, Bool.or_false, Bool.false_or]), B.ext⟩
      · obtain rfl : v12 = .bool false := hv13.trans (congrArg Value.bool (Bool.eq_false_iff.2 c14))
        refine s_y (v := .bool false) rfl (y_pick_t rfl rfl) ?_
        refine s_y (v := .bool false) rfl (y_move rfl) ?_
        refine s_skip rfl ?_
        refine s_skip rfl ?_
        refine s_y (v := .bool false) rfl (y_pick_f rfl rfl) ?_
        refine s_y (v := .bool false) rfl (y_assign rfl) ?_
        refine s_nil ?_
        refine W_ret ?_
        refine ret1 (v := .bool false) rfl rfl rfl ⟨_, rfl, ?_⟩
        exact ⟨congrArg Value.bool (by simp only [shB, c8, (Bool.eq_false_iff.2 c14), Bool.and_true, Bool.true_and, Bool.and_false, Bool.false_and, Bool.not_true, Bool.not_false, Bool.or_true, Bool.true_or, Bool.or_false, Bool.false_or]), B.ext⟩
  · obtain rfl : v6 = .bool false := hv7.trans (congrArg Value.bool (Bool.eq_false_iff.2 c8))
    refine s_y (v := .bool false) rfl (y_move rfl) ?_
    refine s_skip rfl ?_
    refine s_skip rfl ?_
    refine s_y (v := .bool false) rfl (y_pick_f rfl rfl) ?_
    refine s_y (v := .bool false) rfl (y_move rfl) ?_
    refine s_skip rfl ?_
    refine s_skip rfl ?_
    refine s_y (v := .bool false) rfl (y_pick_f rfl rfl) ?_
    refine s_y (v := .bool false) rfl (y_move rfl) ?_
    refine s_skip rfl ?_
    refine s_skip rfl ?_
    refine s_y (v := .bool false) rfl (y_pick_f rfl rfl) ?_
    refine s_y (v := .bool false) rfl (y_assign rfl) ?_
    refine s_nil ?_
    refine W_ret ?_
    refine ret1 (v := .bool false) rfl rfl rfl ⟨_, rfl, ?_⟩
    exact ⟨congrArg Value.bool (by simp only [shB, (Bool.eq_false_iff.2 c8), Bool.and_true, Bool.true_and, Bool.and_false, Bool.false_and, Bool.not_true, Bool.not_false, Bool.or_true, Bool.true_or, Bool.or_false, Bool.false_or]), B.ext⟩
namespace T134
theorem mx : Try.prog.follows .mixedOrders = true := by kernel_rfl
theorem fld_26_0_0 : fldB Try.prog 26 0 0 = true := by kernel_rfl
theorem fld_26_1_1 : fldB Try.prog 26 1 1 = true := by kernel_rfl
theorem one_2 : oneB Try.prog 2 = true := by kernel_rfl
end T134
set_option maxRecDepth 100000 in
set_option maxHeartbeats 4000000 in
theorem c_i_backBy_1 {u1 : Int} {u2 : Int} {b1 : Nat} {x : Int} {b2 : Nat} {wd : Int} {hi : Int} {wr : Bool} {asp : Option Addr} {nsp : Nat} {csp : Nat} {als : Option Addr} {nls : Nat} {cls : Nat} {b3 : Nat} {y : Int} {w : World} (Pb1 : Sl w (some ⟨b1, 0, none⟩) [.int .i64 x]) (Pb2 : Sl w (some ⟨b2, 0, none⟩) [.int .i64 wd, .int .i64 hi, .bool wr, .slice asp nsp csp, .slice als nls cls]) (Pb3 : Sl w (some ⟨b3, 0, none⟩) [.int .i64 y]) (h1 : 3 ≤ wd) (h2 : wd ≤ 16) (h3 : 3 ≤ hi) (h4 : hi ≤ 16) (g1 : -16 ≤ x) (g2 : x ≤ 16) (g3 : -16 ≤ y) (g4 : y ≤ 16) (g5 : 0 ≤ u1) (g6 : u1 < wd) (g7 : 0 ≤ u2) (g8 : u2 < hi) :
    Calls Try.prog 134 #[.int .i64 u1, .int .i64 u2, .pointer (some ⟨b1, 0, none⟩), .pointer (some ⟨b2, 0, none⟩), .pointer (some ⟨b3, 0, none⟩)] w (Rt fun v w' => v = .tuple #[.int .i64 ((u1 - x + 16 * wd) % wd), .int .i64 ((u2 - y + 16 * hi) % hi)] ∧ Ext0 w w') := by
  have B : Bu w no w [.sl (some ⟨b1, 0, none⟩) [.int .i64 x], .sl (some ⟨b2, 0, none⟩) [.int .i64 wd, .int .i64 hi, .bool wr, .slice asp nsp csp, .slice als nls cls], .sl (some ⟨b3, 0, none⟩) [.int .i64 y]] := Bu.ro (All.cons Pb1 (All.cons Pb2 (All.cons Pb3 All.nil))) rfl
  refine calls_W (n := 29) Try.func134 rfl rfl (Nat.le_of_ble_eq_true rfl) ?_
  refine W_seq ?_
  refine W_region (by kernel_rfl) ?_
  refine s_y (v := .int .i64 0) rfl (y_assign rfl) ?_
  refine s_y (v := .int .i64 0) rfl (y_assign rfl) ?_
  refine s_nil ?_
  refine W_seq ?_
  have B0_5 := B
  refine W_draw (no) T134.mx (by kernel_rfl) (fun w3 e4 => ?_)
  have R6 := Ext.refl (no) w
  replace R6 := R6.trans (Ext0.any e4)
  replace B := B.ext0 e4
  clear e4
  refine m_y (v := .int .i64 u1) 0 rfl (by kernel_rfl) rfl rfl (fun w' e' => y_move rfl) ?_
  refine m_y (v := .int .i64 x) 1 rfl (by kernel_rfl) rfl rfl (fun w' e' => y_load T134.one_2 rfl (((B0_5.s 0 rfl).ext0 e').cell (j := 0) rfl)) ?_
  refine m_y (v := .int .i64 (u1 - x)) 2 rfl (by kernel_rfl) rfl rfl (fun w' e' => y_sub rfl rfl rfl (by omega)) ?_
  refine m_y (v := .pointer (some ⟨b2, 0, none⟩)) 3 rfl (by kernel_rfl) rfl rfl (fun w' e' => y_fld (o := 0 + 0) T134.fld_26_0_0 rfl) ?_
  refine m_y (v := .int .i64 wd) 4 rfl (by kernel_rfl) rfl rfl (fun w' e' => y_load T134.one_2 rfl (((B0_5.s 1 rfl).ext0 e').cell (j := 0) rfl)) ?_
  refine m_y (v := .int .i64 (16 * wd)) 5 rfl (by kernel_rfl) rfl rfl (fun w' e' => y_mul rfl rfl rfl (by omega)) ?_
  refine m_y (v := .int .i64 ((u1 - x) + (16 * wd))) 6 rfl (by kernel_rfl) rfl rfl (fun w' e' => y_add rfl rfl rfl (by omega)) ?_
  refine m_y (v := .pointer (some ⟨b2, 0, none⟩)) 7 rfl (by kernel_rfl) rfl rfl (fun w' e' => y_fld (o := 0 + 0) T134.fld_26_0_0 rfl) ?_
  refine m_y (v := .int .i64 wd) 8 rfl (by kernel_rfl) rfl rfl (fun w' e' => y_load T134.one_2 rfl (((B0_5.s 1 rfl).ext0 e').cell (j := 0) rfl)) ?_
  have hm7 := rem_b (x := (u1 - x) + (16 * wd)) (m := wd) (by omega) (by omega)
  refine m_y (v := .int .i64 (((u1 - x) + (16 * wd)) % wd)) 9 rfl (by kernel_rfl) rfl rfl (fun w' e' => y_rem rfl rfl (by omega) (by omega) rfl) ?_
  refine m_y (v := .int .i64 u2) 10 rfl (by kernel_rfl) rfl rfl (fun w' e' => y_move rfl) ?_
  refine m_y (v := .int .i64 y) 11 rfl (by kernel_rfl) rfl rfl (fun w' e' => y_load T134.one_2 rfl (((B0_5.s 2 rfl).ext0 e').cell (j := 0) rfl)) ?_
  refine m_y (v := .int .i64 (u2 - y)) 12 rfl (by kernel_rfl) rfl rfl (fun w' e' => y_sub rfl rfl rfl (by omega)) ?_
  refine m_y (v := .pointer (some ⟨b2, 0 + 1, none⟩)) 13 rfl (by kernel_rfl) rfl rfl (fun w' e' => y_fld (o := 0 + 0) T134.fld_26_1_1 rfl) ?_
  refine m_y (v := .int .i64 hi) 14 rfl (by kernel_rfl) rfl rfl (fun w' e' => y_load T134.one_2 rfl (((B0_5.s 1 rfl).ext0 e').cell (j := 1) rfl)) ?_
  refine m_y (v := .int .i64 (16 * hi)) 15 rfl (by kernel_rfl) rfl rfl (fun w' e' => y_mul rfl rfl rfl (by omega)) ?_
  refine m_y (v := .int .i64 ((u2 - y) + (16 * hi))) 16 rfl (by kernel_rfl) rfl rfl (fun w' e' => y_add rfl rfl rfl (by omega)) ?_
  refine m_y (v := .pointer (some ⟨b2, 0 + 1, none⟩)) 17 rfl (by kernel_rfl) rfl rfl (fun w' e' => y_fld (o := 0 + 0) T134.fld_26_1_1 rfl) ?_
  refine m_y (v := .int .i64 hi) 18 rfl (by kernel_rfl) rfl rfl (fun w' e' => y_load T134.one_2 rfl (((B0_5.s 1 rfl).ext0 e').cell (j := 1) rfl)) ?_
  have hm8 := rem_b (x := (u2 - y) + (16 * hi)) (m := hi) (by omega) (by omega)
  refine m_y (v := .int .i64 (((u2 - y) + (16 * hi)) % hi)) 19 rfl (by kernel_rfl) rfl rfl (fun w' e' => y_rem rfl rfl (by omega) (by omega) rfl) ?_
  refine m_y (v := .int .i64 (((u1 - x) + (16 * wd)) % wd)) 20 rfl (by kernel_rfl) rfl rfl (fun w' e' => y_assign rfl) ?_
  refine m_y (v := .int .i64 (((u2 - y) + (16 * hi)) % hi)) 21 rfl (by kernel_rfl) rfl rfl (fun w' e' => y_assign rfl) ?_
  refine m_done (by kernel_rfl) (fun w9 e10 => ?_)
  replace B := B.ext0 e10
  clear e10
  clear B0_5 R6
  refine W_ret ?_
  refine ret2 (v1 := .int .i64 (((u1 - x) + (16 * wd)) % wd)) (v2 := .int .i64 (((u2 - y) + (16 * hi)) % hi)) rfl rfl rfl rfl rfl ⟨_, rfl, ?_⟩
  exact ⟨rfl, B.ext⟩
namespace T110
theorem mx : Try.prog.follows .mixedOrders = true := by kernel_rfl
end T110
set_option maxRecDepth 100000 in
set_option maxHeartbeats 4000000 in
theorem c_i_backBy {wd : Int} {hi : Int} {wr : Bool} {asp : Option Addr} {nsp : Nat} {csp : Nat} {als : Option Addr} {nls : Nat} {cls : Nat} {x : Int} {y : Int} {w : World} :
    Calls Try.prog 110 #[.agg #[.int .i64 wd, .int .i64 hi, .bool wr, .slice asp nsp csp, .slice als nls cls], .int .i64 x, .int .i64 y] w (Rt fun v w' => (∃ b1 b2 b3 : Nat, v = .func (.func 134) #[] #[.pointer (some ⟨b1, 0, none⟩), .pointer (some ⟨b2, 0, none⟩), .pointer (some ⟨b3, 0, none⟩)] ∧ New w w' [.blk b1 [.int .i64 x] 2, .blk b2 [.int .i64 wd, .int .i64 hi, .bool wr, .slice asp nsp csp, .slice als nls cls] 26, .blk b3 [.int .i64 y] 2])) := by
  have B : Bu w no w [] := Bu.ro All.nil rfl
  refine calls_W (n := 8) Try.func110 rfl rfl (Nat.le_of_ble_eq_true rfl) ?_
  refine W_seq ?_
  refine W_region (by kernel_rfl) ?_
  refine s_k rfl (k_boxN (v := .agg #[.int .i64 wd, .int .i64 hi, .bool wr, .slice asp nsp csp, .slice als nls cls]) (cs := [.int .i64 wd, .int .i64 hi, .bool wr, .slice asp nsp csp, .slice als nls cls]) rfl rfl (fun b1 w2 hN3 => ?_))
  replace B := B.new1 hN3
  clear hN3
  refine s_k rfl (k_boxN (v := .int .i64 x) (cs := [.int .i64 x]) rfl rfl (fun b4 w5 hN6 => ?_))
  replace B := B.new1 hN6
  clear hN6
  refine s_k rfl (k_boxN (v := .int .i64 y) (cs := [.int .i64 y]) rfl rfl (fun b7 w8 hN9 => ?_))
  replace B := B.new1 hN9
  clear hN9
  refine s_y (v := .nilFunc) rfl (y_assign rfl) ?_
  refine s_nil ?_
  refine W_seq ?_
  refine W_region (by kernel_rfl) ?_
  refine s_y (v := .func (.func 134) #[] #[.pointer (some ⟨b4, 0, none⟩), .pointer (some ⟨b1, 0, none⟩), .pointer (some ⟨b7, 0, none⟩)]) rfl (y_func rfl rfl) ?_
  refine s_y (v := .func (.func 134) #[] #[.pointer (some ⟨b4, 0, none⟩), .pointer (some ⟨b1, 0, none⟩), .pointer (some ⟨b7, 0, none⟩)]) rfl (y_assign rfl) ?_
  refine s_nil ?_
  refine W_ret ?_
  refine ret1 (v := .func (.func 134) #[] #[.pointer (some ⟨b4, 0, none⟩), .pointer (some ⟨b1, 0, none⟩), .pointer (some ⟨b7, 0, none⟩)]) rfl rfl rfl ⟨_, rfl, ?_⟩
  exact ⟨_, _, _, rfl, B.give [1, 2, 0] rfl rfl rfl⟩
namespace T55
theorem mx : Try.prog.follows .mixedOrders = true := by kernel_rfl
theorem agg_26_5 : aggB Try.prog 26 5 = true := by kernel_rfl
theorem fld_26_0_0 : fldB Try.prog 26 0 0 = true := by kernel_rfl
theorem fld_26_1_1 : fldB Try.prog 26 1 1 = true := by kernel_rfl
theorem fld_26_2_2 : fldB Try.prog 26 2 2 = true := by kernel_rfl
theorem fld_26_3_3 : fldB Try.prog 26 3 3 = true := by kernel_rfl
theorem fld_26_4_4 : fldB Try.prog 26 4 4 = true := by kernel_rfl
theorem fn_104 : fnB Try.prog 104 = true := by kernel_rfl
theorem fn_109 : fnB Try.prog 109 = true := by kernel_rfl
theorem fn_110 : fnB Try.prog 110 = true := by kernel_rfl
theorem fn_134 : fnB Try.prog 134 = true := by kernel_rfl
theorem one_2 : oneB Try.prog 2 = true := by kernel_rfl
theorem one_24 : oneB Try.prog 24 = true := by kernel_rfl
theorem one_4 : oneB Try.prog 4 = true := by kernel_rfl
theorem sz_26_5 : szB Try.prog 26 5 = true := by kernel_rfl
theorem zero_26 : zeroB Try.prog 26 (.agg #[.int .i64 0, .int .i64 0, .bool false, .slice none 0 0, .slice none 0 0]) := by unfold zeroB; kernel_rfl
end T55
set_option maxRecDepth 100000 in
set_option maxHeartbeats 4000000 in
theorem c_i_ShiftSheet {wd : Int} {hi : Int} {wr : Bool} {asp : Option Addr} {nsp : Nat} {csp : Nat} {Xsp : List Nat} {als : Option Addr} {nls : Nat} {cls : Nat} {Xls : List Nat} {x : Int} {y : Int} {w : World} (qsp : Rd w kF asp nsp Xsp) (qls : Rd w kF als nls Xls) (hbsp : nsp ≤ 9223372036854775806) (hbls : nls ≤ 9223372036854775806) :
    Calls Try.prog 55 #[.agg #[.int .i64 wd, .int .i64 hi, .bool wr, .slice asp nsp csp, .slice als nls cls], .int .i64 x, .int .i64 y] w (Rt fun v w' => (shB wd hi wr Xsp Xls x y = true ∧ ∃ (a1 : Option Addr) (c1 : Nat) (a2 : Option Addr) (c2 : Nat), v = .tuple #[.agg #[.int .i64 wd, .int .i64 hi, .bool wr, .slice a1 ((wd * hi).toNat) c1, .slice a2 ((wd * hi).toNat) c2], .bool true] ∧ New w w' [.ow kF a1 ((wd * hi).toNat) c1 34 (shfS wd hi x y Xsp), .ow kF a2 ((wd * hi).toNat) c2 34 (shfS wd hi x y Xls)]) ∨ (shB wd hi wr Xsp Xls x y = false ∧ v = .tuple #[.agg #[.int .i64 0, .int .i64 0, .bool false, .slice none 0 0, .slice none 0 0], .bool false] ∧ Ext0 w w')) := by
  have hlsp := qsp.len
  have hlls := qls.len
  have B : Bu w no w [.rd kF asp nsp Xsp, .rd kF als nls Xls] := Bu.ro (All.cons qsp (All.cons qls All.nil)) rfl
  refine calls_W (n := 44) Try.func55 rfl rfl (Nat.le_of_ble_eq_true rfl) ?_
  refine W_seq ?_
  refine W_region (by kernel_rfl) ?_
  refine s_k rfl (k_boxN (v := .agg #[.int .i64 wd, .int .i64 hi, .bool wr, .slice asp nsp csp, .slice als nls cls]) (cs := [.int .i64 wd, .int .i64 hi, .bool wr, .slice asp nsp csp, .slice als nls cls]) rfl rfl (fun b1 w2 hN3 => ?_))
  replace B := B.new1 hN3
  clear hN3
  refine s_k rfl (k_allocN (z := (.agg #[.int .i64 0, .int .i64 0, .bool false, .slice none 0 0, .slice none 0 0])) (cs := [.int .i64 0, .int .i64 0, .bool false, .slice none 0 0, .slice none 0 0]) T55.zero_26 rfl (fun b4 w5 hN6 => ?_))
  replace B := B.new1 hN6
  clear hN6
  refine s_y (v := .bool false) rfl (y_assign rfl) ?_
  refine s_nil ?_
  refine W_seq ?_
  refine W_seq ?_
  refine W_region (by kernel_rfl) ?_
  refine s_y (v := .agg #[.int .i64 wd, .int .i64 hi, .bool wr, .slice asp nsp csp, .slice als nls cls]) rfl (y_loadn (b := b1) (o := 0) (vs := [.int .i64 wd, .int .i64 hi, .bool wr, .slice asp nsp csp, .slice als nls cls]) T55.agg_26_5 rfl rfl ((B.b 1 rfl).cells (o := 0) rfl)) ?_
  refine s_y (v := .int .i64 x) rfl (y_move rfl) ?_
  refine s_y (v := .int .i64 y) rfl (y_move rfl) ?_
  refine s_k rfl (k_call T55.fn_109 (c_i_isShift (B.r 2 rfl) (B.r 3 rfl) (by omega) (by omega)) rfl ?_)
  rintro v9 w7 ⟨hv10, e8⟩
  replace B := B.ext0 e8
  clear e8
  by_cases c11 : shB wd hi wr Xsp Xls x y = true
  · have hb12 := shB_b c11
    obtain rfl : v9 = .bool true := hv10.trans (congrArg Value.bool c11)
    refine s_y (v := .bool false) rfl (y_not rfl rfl) ?_
    refine s_nil ?_
    refine W_if_f (by decide) rfl ?_
    refine W_skip ?_
    refine W_seq ?_
    refine W_region (by kernel_rfl) ?_
    refine s_y (v := .agg #[.int .i64 wd, .int .i64 hi, .bool wr, .slice asp nsp csp, .slice als nls cls]) rfl (y_loadn (b := b1) (o := 0) (vs := [.int .i64 wd, .int .i64 hi, .bool wr, .slice asp nsp csp, .slice als nls cls]) T55.agg_26_5 rfl rfl ((B.b 1 rfl).cells (o := 0) rfl)) ?_
    refine s_y (v := .int .i64 x) rfl (y_move rfl) ?_
    refine s_y (v := .int .i64 y) rfl (y_move rfl) ?_
    refine s_k rfl (k_call T55.fn_110 (c_i_backBy) rfl ?_)
    rintro _ w13 ⟨b15, b16, b17, rfl, hN14⟩
    replace B := B.new3 hN14
    clear hN14
    refine s_y (v := .func (.func 134) #[] #[.pointer (some ⟨b15, 0, none⟩), .pointer (some ⟨b16, 0, none⟩), .pointer (some ⟨b17, 0, none⟩)]) rfl (y_assign rfl) ?_
    refine s_nil ?_
    refine W_seq ?_
    have B0_22 := B
    refine W_draw (at1 b4) T55.mx (by kernel_rfl) (fun w20 e21 => ?_)
    have R23 := Ext.refl (at1 b4) w13
    replace R23 := R23.trans (Ext0.any e21)
    replace B := B.ext0 e21
    clear e21
    refine m_y (v := .pointer (some ⟨b1, 0, none⟩)) 0 rfl (by kernel_rfl) rfl rfl (fun w' e' => y_fld (o := 0) T55.fld_26_0_0 rfl) ?_
    refine m_y (v := .int .i64 wd) 1 rfl (by kernel_rfl) rfl rfl (fun w' e' => y_load T55.one_2 rfl ((B0_22.bx 4 3 rfl rfl rfl rfl e' (fun _ h => h)).cell (j := 0) rfl)) ?_
    refine m_y (v := .pointer (some ⟨b1, 1, none⟩)) 2 rfl (by kernel_rfl) rfl rfl (fun w' e' => y_fld (o := 0) T55.fld_26_1_1 rfl) ?_
    refine m_y (v := .int .i64 hi) 3 rfl (by kernel_rfl) rfl rfl (fun w' e' => y_load T55.one_2 rfl ((B0_22.bx 4 3 rfl rfl rfl rfl e' (fun _ h => h)).cell (j := 1) rfl)) ?_
    refine m_y (v := .pointer (some ⟨b1, 2, none⟩)) 4 rfl (by kernel_rfl) rfl rfl (fun w' e' => y_fld (o := 0) T55.fld_26_2_2 rfl) ?_
    refine m_y (v := .bool wr) 5 rfl (by kernel_rfl) rfl rfl (fun w' e' => y_load T55.one_4 rfl ((B0_22.bx 4 3 rfl rfl rfl rfl e' (fun _ h => h)).cell (j := 2) rfl)) ?_
    refine m_y (v := .agg #[.int .i64 wd, .int .i64 hi, .bool wr, .slice asp nsp csp, .slice als nls cls]) 6 rfl (by kernel_rfl) rfl rfl (fun w' e' => y_loadn (b := b1) (o := 0) (vs := [.int .i64 wd, .int .i64 hi, .bool wr, .slice asp nsp csp, .slice als nls cls]) T55.agg_26_5 rfl rfl ((B0_22.bx 4 3 rfl rfl rfl rfl e' (fun _ h => h)).cells (o := 0) rfl)) ?_
    refine m_y (v := .pointer (some ⟨b1, 3, none⟩)) 7 rfl (by kernel_rfl) rfl rfl (fun w' e' => y_fld (o := 0) T55.fld_26_3_3 rfl) ?_
    refine m_y (v := .slice asp nsp csp) 8 rfl (by kernel_rfl) rfl rfl (fun w' e' => y_load T55.one_24 rfl ((B0_22.bx 4 3 rfl rfl rfl rfl e' (fun _ h => h)).cell (j := 3) rfl)) ?_
    refine m_y (v := .pointer (some ⟨b1, 0, none⟩)) 9 rfl (by kernel_rfl) rfl rfl (fun w' e' => y_fld (o := 0) T55.fld_26_0_0 rfl) ?_
    refine m_y (v := .int .i64 wd) 10 rfl (by kernel_rfl) rfl rfl (fun w' e' => y_load T55.one_2 rfl ((B0_22.bx 4 3 rfl rfl rfl rfl e' (fun _ h => h)).cell (j := 0) rfl)) ?_
    refine m_y (v := .pointer (some ⟨b1, 1, none⟩)) 11 rfl (by kernel_rfl) rfl rfl (fun w' e' => y_fld (o := 0) T55.fld_26_1_1 rfl) ?_
    refine m_y (v := .int .i64 hi) 12 rfl (by kernel_rfl) rfl rfl (fun w' e' => y_load T55.one_2 rfl ((B0_22.bx 4 3 rfl rfl rfl rfl e' (fun _ h => h)).cell (j := 1) rfl)) ?_
    refine m_y (v := .func (.func 134) #[] #[.pointer (some ⟨b15, 0, none⟩), .pointer (some ⟨b16, 0, none⟩), .pointer (some ⟨b17, 0, none⟩)]) 13 rfl (by kernel_rfl) rfl rfl (fun w' e' => y_move rfl) ?_
    refine m_y (v := .agg #[.int .i64 wd, .int .i64 hi, .bool wr, .slice asp nsp csp, .slice als nls cls]) 15 rfl (by kernel_rfl) rfl rfl (fun w' e' => y_loadn (b := b1) (o := 0) (vs := [.int .i64 wd, .int .i64 hi, .bool wr, .slice asp nsp csp, .slice als nls cls]) T55.agg_26_5 rfl rfl ((B0_22.bx 4 3 rfl rfl rfl rfl e' (fun _ h => h)).cells (o := 0) rfl)) ?_
    refine m_y (v := .pointer (some ⟨b1, 4, none⟩)) 16 rfl (by kernel_rfl) rfl rfl (fun w' e' => y_fld (o := 0) T55.fld_26_4_4 rfl) ?_
    refine m_y (v := .slice als nls cls) 17 rfl (by kernel_rfl) rfl rfl (fun w' e' => y_load T55.one_24 rfl ((B0_22.bx 4 3 rfl rfl rfl rfl e' (fun _ h => h)).cell (j := 4) rfl)) ?_
    refine m_y (v := .pointer (some ⟨b1, 0, none⟩)) 18 rfl (by kernel_rfl) rfl rfl (fun w' e' => y_fld (o := 0) T55.fld_26_0_0 rfl) ?_
    refine m_y (v := .int .i64 wd) 19 rfl (by kernel_rfl) rfl rfl (fun w' e' => y_load T55.one_2 rfl ((B0_22.bx 4 3 rfl rfl rfl rfl e' (fun _ h => h)).cell (j := 0) rfl)) ?_
    refine m_y (v := .pointer (some ⟨b1, 1, none⟩)) 20 rfl (by kernel_rfl) rfl rfl (fun w' e' => y_fld (o := 0) T55.fld_26_1_1 rfl) ?_
    refine m_y (v := .int .i64 hi) 21 rfl (by kernel_rfl) rfl rfl (fun w' e' => y_load T55.one_2 rfl ((B0_22.bx 4 3 rfl rfl rfl rfl e' (fun _ h => h)).cell (j := 1) rfl)) ?_
    refine m_y (v := .func (.func 134) #[] #[.pointer (some ⟨b15, 0, none⟩), .pointer (some ⟨b16, 0, none⟩), .pointer (some ⟨b17, 0, none⟩)]) 22 rfl (by kernel_rfl) rfl rfl (fun w' e' => y_move rfl) ?_
    refine m_k 14 [23, 24, 25, 26] rfl (by kernel_rfl) rfl rfl (fun w24 e25 => ?_)
    replace R23 := R23.trans (Ext0.any e25)
    replace B := B.ext0 e25
    clear e25
    refine k_call T55.fn_104 (c_i_moved (f := 134) (us := []) (xs := [.pointer (some ⟨b15, 0, none⟩), .pointer (some ⟨b16, 0, none⟩), .pointer (some ⟨b17, 0, none⟩)]) (FU := (fun xq _ => (xq - x + 16 * wd) % wd)) (FV := (fun _ yq => (yq - y + 16 * hi) % hi)) (W := wd) (H := hi) (B.r 5 rfl) T55.fn_134 (fun xq yq w1 he h0 h1 h2 h3 => (c_i_backBy_1 ((B.b 0 rfl).sl.ext0 he) ((B.b 1 rfl).sl.ext0 he) ((B.b 2 rfl).sl.ext0 he) (by omega) (by omega) (by omega) (by omega) (by omega) (by omega) (by omega) (by omega) (by omega) (by omega) (by omega) (by omega))) (fun xq yq h0 h1 h2 h3 => by have p1 := rem_b (x := xq - x + 16 * wd) (m := wd) (by omega) (by omega); have p2 := rem_b (x := yq - y + 16 * hi) (m := hi) (by omega) (by omega); first | omega | (simp only []; omega)) (by omega) (by omega) (by omega) (by omega) (by omega) (by omega) (by omega) (by omega) (by omega)) rfl ?_
    rintro _ w26 ⟨a27, c28, rfl, hN29⟩
    replace R23 := R23.trans (Ext0.any hN29.ext)
    replace B := B.new1 hN29
    clear hN29
    refine ⟨fun _ => R23, ?_⟩
    refine m_k 23 [24, 25, 26] rfl (by kernel_rfl) rfl rfl (fun w30 e31 => ?_)
    replace R23 := R23.trans (Ext0.any e31)
    replace B := B.ext0 e31
    clear e31
    refine k_call T55.fn_104 (c_i_moved (f := 134) (us := []) (xs := [.pointer (some ⟨b15, 0, none⟩), .pointer (some ⟨b16, 0, none⟩), .pointer (some ⟨b17, 0, none⟩)]) (FU := (fun xq _ => (xq - x + 16 * wd) % wd)) (FV := (fun _ yq => (yq - y + 16 * hi) % hi)) (W := wd) (H := hi) (B.r 7 rfl) T55.fn_134 (fun xq yq w1 he h0 h1 h2 h3 => (c_i_backBy_1 ((B.b 1 rfl).sl.ext0 he) ((B.b 2 rfl).sl.ext0 he) ((B.b 3 rfl).sl.ext0 he) (by omega) (by omega) (by omega) (by omega) (by omega) (by omega) (by omega) (by omega) (by omega) (by omega) (by omega) (by omega))) (fun xq yq h0 h1 h2 h3 => by have p1 := rem_b (x := xq - x + 16 * wd) (m := wd) (by omega) (by omega); have p2 := rem_b (x := yq - y + 16 * hi) (m := hi) (by omega) (by omega); first | omega | (simp only []; omega)) (by omega) (by omega) (by omega) (by omega) (by omega) (by omega) (by omega) (by omega) (by omega)) rfl ?_
    rintro _ w32 ⟨a33, c34, rfl, hN35⟩
    replace R23 := R23.trans (Ext0.any hN35.ext)
    replace B := B.new1 hN35
    clear hN35
    refine ⟨fun _ => R23, ?_⟩
    refine m_y (v := .agg #[.int .i64 wd, .int .i64 hi, .bool wr, .slice a27 ((wd * hi).toNat) c28, .slice a33 ((wd * hi).toNat) c34]) 24 rfl (by kernel_rfl) rfl rfl (fun w' e' => y_build (cells := #[.int .i64 wd, .int .i64 hi, .bool wr, .slice a27 ((wd * hi).toNat) c28, .slice a33 ((wd * hi).toNat) c34]) (by kernel_rfl)) ?_
    refine m_k 25 [26] rfl (by kernel_rfl) rfl rfl (fun w38 e39 => ?_)
    replace R23 := R23.trans (Ext0.any e39)
    replace B := B.ext0 e39
    clear e39
    refine k_stB (v := .agg #[.int .i64 wd, .int .i64 hi, .bool wr, .slice a27 ((wd * hi).toNat) c28, .slice a33 ((wd * hi).toNat) c34]) (n := 5) (cs' := [.int .i64 wd, .int .i64 hi, .bool wr, .slice a27 ((wd * hi).toNat) c28, .slice a33 ((wd * hi).toNat) c34]) T55.sz_26_5 rfl rfl rfl (B.b 5 rfl) (by simp [Value.cells, Value.oneCell']) (Nat.le_of_ble_eq_true rfl) rfl (fun w36 hU37 => ?_)
    replace R23 := R23.trans hU37.at1
    replace B : Bu w no w36 [.blk b4 [.int .i64 wd, .int .i64 hi, .bool wr, .slice a27 ((wd * hi).toNat) c28, .slice a33 ((wd * hi).toNat) c34] 26, .ow kF a33 ((wd * hi).toNat) c34 34 (movL wd hi (fun xp yp => atI wd hi ((fun xq _ => (xq - x + 16 * wd) % wd) xp yp) ((fun _ yq => (yq - y + 16 * hi) % hi) xp yp)) Xls), .ow kF a27 ((wd * hi).toNat) c28 34 (movL wd hi (fun xp yp => atI wd hi ((fun xq _ => (xq - x + 16 * wd) % wd) xp yp) ((fun _ yq => (yq - y + 16 * hi) % hi) xp yp)) Xsp), .blk b15 [.int .i64 x] 2, .blk b16 [.int .i64 wd, .int .i64 hi, .bool wr, .slice asp nsp csp, .slice als nls cls] 26, .blk b17 [.int .i64 y] 2, .blk b1 [.int .i64 wd, .int .i64 hi, .bool wr, .slice asp nsp csp, .slice als nls cls] 26, .rd kF asp nsp Xsp, .rd kF als nls Xls] := B.upd [5] rfl hU37
    clear hU37
    refine ⟨fun _ => R23, ?_⟩
    refine m_y (v := .bool true) 26 rfl (by kernel_rfl) rfl rfl (fun w' e' => y_assign rfl) ?_
    refine m_done (by kernel_rfl) (fun w40 e41 => ?_)
    replace B := B.ext0 e41
    clear e41
    clear B0_22 R23
    refine W_ret ?_
    refine ret2 (v1 := .agg #[.int .i64 wd, .int .i64 hi, .bool wr, .slice a27 ((wd * hi).toNat) c28, .slice a33 ((wd * hi).toNat) c34]) (v2 := .bool true) rfl rfl rfl ⟨_, [.int .i64 wd, .int .i64 hi, .bool wr, .slice a27 ((wd * hi).toNat) c28, .slice a33 ((wd * hi).toNat) c34], _, rfl, (B.b 0 rfl), T55.agg_26_5, rfl⟩ rfl ⟨_, rfl, ?_⟩
    have hcond : shB wd hi wr Xsp Xls x y = true := by simp only [c11, Bool.and_true, Bool.true_and, Bool.and_false, Bool.false_and, Bool.not_true, Bool.not_false, Bool.or_true, Bool.true_or, Bool.or_false, Bool.false_or]
    replace B : Bu w no w40 [.blk b4 [.int .i64 wd, .int .i64 hi, .bool wr, .slice a27 ((wd * hi).toNat) c28, .slice a33 ((wd * hi).toNat) c34] 26, .ow kF a33 ((wd * hi).toNat) c34 34 (movL wd hi (fun xp yp => atI wd hi ((fun xq _ => (xq - x + 16 * wd) % wd) xp yp) ((fun _ yq => (yq - y + 16 * hi) % hi) xp yp)) Xls), .ow kF a27 ((wd * hi).toNat) c28 34 (shfS wd hi x y Xsp), .blk b15 [.int .i64 x] 2, .blk b16 [.int .i64 wd, .int .i64 hi, .bool wr, .slice asp nsp csp, .slice als nls cls] 26, .blk b17 [.int .i64 y] 2, .blk b1 [.int .i64 wd, .int .i64 hi, .bool wr, .slice asp nsp csp, .slice als nls cls] 26, .rd kF asp nsp Xsp, .rd kF als nls Xls] := B.castX 2 rfl rfl (shf_i (by omega) (by omega))
    replace B : Bu w no w40 [.blk b4 [.int .i64 wd, .int .i64 hi, .bool wr, .slice a27 ((wd * hi).toNat) c28, .slice a33 ((wd * hi).toNat) c34] 26, .ow kF a33 ((wd * hi).toNat) c34 34 (shfS wd hi x y Xls), .ow kF a27 ((wd * hi).toNat) c28 34 (shfS wd hi x y Xsp), .blk b15 [.int .i64 x] 2, .blk b16 [.int .i64 wd, .int .i64 hi, .bool wr, .slice asp nsp csp, .slice als nls cls] 26, .blk b17 [.int .i64 y] 2, .blk b1 [.int .i64 wd, .int .i64 hi, .bool wr, .slice asp nsp csp, .slice als nls cls] 26, .rd kF asp nsp Xsp, .rd kF als nls Xls] := B.castX 1 rfl rfl (shf_i (by omega) (by omega))
    exact .inl ⟨hcond, ⟨_, _, _, _, rfl, B.give [2, 1] rfl rfl rfl⟩⟩
  · obtain rfl : v9 = .bool false := hv10.trans (congrArg Value.bool (Bool.eq_false_iff.2 c11))
    refine s_y (v := .bool true) rfl (y_not rfl rfl) ?_
    refine s_nil ?_
    refine W_if_t (by decide) rfl ?_
    refine W_seq ?_
    refine W_region (by kernel_rfl) ?_
    refine s_y (v := .agg #[.int .i64 0, .int .i64 0, .bool false, .slice none 0 0, .slice none 0 0]) rfl (y_build (cells := #[.int .i64 0, .int .i64 0, .bool false, .slice none 0 0, .slice none 0 0]) (by kernel_rfl)) ?_
    refine s_k0 rfl (k_stB (v := .agg #[.int .i64 0, .int .i64 0, .bool false, .slice none 0 0, .slice none 0 0]) (n := 5) (cs' := [.int .i64 0, .int .i64 0, .bool false, .slice none 0 0, .slice none 0 0]) T55.sz_26_5 rfl rfl rfl (B.b 0 rfl) (by simp [Value.cells, Value.oneCell']) (Nat.le_of_ble_eq_true rfl) rfl (fun w42 hU43 => ?_))
    replace B : Bu w no w42 [.blk b4 [.int .i64 0, .int .i64 0, .bool false, .slice none 0 0, .slice none 0 0] 26, .blk b1 [.int .i64 wd, .int .i64 hi, .bool wr, .slice asp nsp csp, .slice als nls cls] 26, .rd kF asp nsp Xsp, .rd kF als nls Xls] := B.upd [0] rfl hU43
    clear hU43
    refine s_y (v := .bool false) rfl (y_assign rfl) ?_
    refine s_nil ?_
    refine W_ret ?_
    refine ret2 (v1 := .agg #[.int .i64 0, .int .i64 0, .bool false, .slice none 0 0, .slice none 0 0]) (v2 := .bool false) rfl rfl rfl ⟨_, [.int .i64 0, .int .i64 0, .bool false, .slice none 0 0, .slice none 0 0], _, rfl, (B.b 0 rfl), T55.agg_26_5, rfl⟩ rfl ⟨_, rfl, ?_⟩
    exact .inr ⟨by simp only [(Bool.eq_false_iff.2 c11), Bool.and_true, Bool.true_and, Bool.and_false, Bool.false_and, Bool.not_true, Bool.not_false, Bool.or_true, Bool.true_or, Bool.or_false, Bool.false_or], rfl, B.ext⟩
namespace T56
theorem mx : Try.prog.follows .mixedOrders = true := by kernel_rfl
theorem agg_26_5 : aggB Try.prog 26 5 = true := by kernel_rfl
theorem agg_30_3 : aggB Try.prog 30 3 = true := by kernel_rfl
theorem fld_26_0_0 : fldB Try.prog 26 0 0 = true := by kernel_rfl
theorem fld_26_1_1 : fldB Try.prog 26 1 1 = true := by kernel_rfl
theorem fld_30_0_0 : fldB Try.prog 30 0 0 = true := by kernel_rfl
theorem fld_30_1_1 : fldB Try.prog 30 1 1 = true := by kernel_rfl
theorem fld_30_2_2 : fldB Try.prog 30 2 2 = true := by kernel_rfl
theorem fn_104 : fnB Try.prog 104 = true := by kernel_rfl
theorem fn_109 : fnB Try.prog 109 = true := by kernel_rfl
theorem fn_110 : fnB Try.prog 110 = true := by kernel_rfl
theorem fn_134 : fnB Try.prog 134 = true := by kernel_rfl
theorem fn_41 : fnB Try.prog 41 = true := by kernel_rfl
theorem one_2 : oneB Try.prog 2 = true := by kernel_rfl
theorem one_24 : oneB Try.prog 24 = true := by kernel_rfl
theorem sz_30_3 : szB Try.prog 30 3 = true := by kernel_rfl
theorem zero_30 : zeroB Try.prog 30 (.agg #[.slice none 0 0, .slice none 0 0, .slice none 0 0]) := by unfold zeroB; kernel_rfl
end T56
set_option maxRecDepth 100000 in
set_option maxHeartbeats 4000000 in
theorem c_i_ShiftField {wd : Int} {hi : Int} {wr : Bool} {asp : Option Addr} {nsp : Nat} {csp : Nat} {Xsp : List Nat} {als : Option Addr} {nls : Nat} {cls : Nat} {Xls : List Nat} {afe : Option Addr} {nfe : Nat} {cfe : Nat} {Xfe : List Nat} {afx : Option Addr} {nfx : Nat} {cfx : Nat} {Xfx : List Nat} {afy : Option Addr} {nfy : Nat} {cfy : Nat} {Xfy : List Nat} {x : Int} {y : Int} {w : World} (qsp : Rd w kF asp nsp Xsp) (qls : Rd w kF als nls Xls) (qfe : Rd w kF afe nfe Xfe) (qfx : Rd w kF afx nfx Xfx) (qfy : Rd w kF afy nfy Xfy) (hbsp : nsp ≤ 9223372036854775806) (hbls : nls ≤ 9223372036854775806) (hbfe : nfe ≤ 9223372036854775806) (hbfx : nfx ≤ 9223372036854775806) (hbfy : nfy ≤ 9223372036854775806) :
    Calls Try.prog 56 #[.agg #[.int .i64 wd, .int .i64 hi, .bool wr, .slice asp nsp csp, .slice als nls cls], .agg #[.slice afe nfe cfe, .slice afx nfx cfx, .slice afy nfy cfy], .int .i64 x, .int .i64 y] w (Rt fun v w' => (shfB wd hi wr Xsp Xls Xfe Xfx Xfy x y = true ∧ ∃ (a1 : Option Addr) (c1 : Nat) (a2 : Option Addr) (c2 : Nat) (a3 : Option Addr) (c3 : Nat), v = .tuple #[.agg #[.slice a1 ((wd * hi).toNat) c1, .slice a2 ((wd * hi).toNat) c2, .slice a3 ((wd * hi).toNat) c3], .bool true] ∧ New w w' [.ow kF a1 ((wd * hi).toNat) c1 34 (shfS wd hi x y Xfe), .ow kF a2 ((wd * hi).toNat) c2 34 (shfS wd hi x y Xfx), .ow kF a3 ((wd * hi).toNat) c3 34 (shfS wd hi x y Xfy)]) ∨ (shfB wd hi wr Xsp Xls Xfe Xfx Xfy x y = false ∧ v = .tuple #[.agg #[.slice none 0 0, .slice none 0 0, .slice none 0 0], .bool false] ∧ Ext0 w w')) := by
  have hlsp := qsp.len
  have hlls := qls.len
  have hlfe := qfe.len
  have hlfx := qfx.len
  have hlfy := qfy.len
  have B : Bu w no w [.rd kF asp nsp Xsp, .rd kF als nls Xls, .rd kF afe nfe Xfe, .rd kF afx nfx Xfx, .rd kF afy nfy Xfy] := Bu.ro (All.cons qsp (All.cons qls (All.cons qfe (All.cons qfx (All.cons qfy All.nil))))) rfl
  refine calls_W (n := 55) Try.func56 rfl rfl (Nat.le_of_ble_eq_true rfl) ?_
  refine W_seq ?_
  refine W_region (by kernel_rfl) ?_
  refine s_k rfl (k_boxN (v := .agg #[.int .i64 wd, .int .i64 hi, .bool wr, .slice asp nsp csp, .slice als nls cls]) (cs := [.int .i64 wd, .int .i64 hi, .bool wr, .slice asp nsp csp, .slice als nls cls]) rfl rfl (fun b1 w2 hN3 => ?_))
  replace B := B.new1 hN3
  clear hN3
  refine s_k rfl (k_boxN (v := .agg #[.slice afe nfe cfe, .slice afx nfx cfx, .slice afy nfy cfy]) (cs := [.slice afe nfe cfe, .slice afx nfx cfx, .slice afy nfy cfy]) rfl rfl (fun b4 w5 hN6 => ?_))
  replace B := B.new1 hN6
  clear hN6
  refine s_k rfl (k_allocN (z := (.agg #[.slice none 0 0, .slice none 0 0, .slice none 0 0])) (cs := [.slice none 0 0, .slice none 0 0, .slice none 0 0]) T56.zero_30 rfl (fun b7 w8 hN9 => ?_))
  replace B := B.new1 hN9
  clear hN9
  refine s_y (v := .bool false) rfl (y_assign rfl) ?_
  refine s_nil ?_
  refine W_seq ?_
  refine W_seq ?_
  refine W_region (by kernel_rfl) ?_
  refine s_y (v := .agg #[.int .i64 wd, .int .i64 hi, .bool wr, .slice asp nsp csp, .slice als nls cls]) rfl (y_loadn (b := b1) (o := 0) (vs := [.int .i64 wd, .int .i64 hi, .bool wr, .slice asp nsp csp, .slice als nls cls]) T56.agg_26_5 rfl rfl ((B.b 2 rfl).cells (o := 0) rfl)) ?_
  refine s_y (v := .int .i64 x) rfl (y_move rfl) ?_
  refine s_y (v := .int .i64 y) rfl (y_move rfl) ?_
  refine s_k rfl (k_call T56.fn_109 (c_i_isShift (B.r 3 rfl) (B.r 4 rfl) (by omega) (by omega)) rfl ?_)
  rintro v12 w10 ⟨hv13, e11⟩
  replace B := B.ext0 e11
  clear e11
  by_cases c14 : shB wd hi wr Xsp Xls x y = true
  · have hb15 := shB_b c14
    obtain rfl : v12 = .bool true := hv13.trans (congrArg Value.bool c14)
    refine s_y (v := .bool false) rfl (y_not rfl rfl) ?_
    refine s_y (v := .bool false) rfl (y_move rfl) ?_
    refine s_y (v := .agg #[.int .i64 wd, .int .i64 hi, .bool wr, .slice asp nsp csp, .slice als nls cls]) rfl (y_loadn (b := b1) (o := 0) (vs := [.int .i64 wd, .int .i64 hi, .bool wr, .slice asp nsp csp, .slice als nls cls]) T56.agg_26_5 rfl rfl ((B.b 2 rfl).cells (o := 0) rfl)) ?_
    refine s_y (v := .agg #[.slice afe nfe cfe, .slice afx nfx cfx, .slice afy nfy cfy]) rfl (y_loadn (b := b4) (o := 0) (vs := [.slice afe nfe cfe, .slice afx nfx cfx, .slice afy nfy cfy]) T56.agg_30_3 rfl rfl ((B.b 1 rfl).cells (o := 0) rfl)) ?_
    refine s_k rfl (k_call T56.fn_41 (c_i_IsField (B.r 3 rfl) (B.r 4 rfl) (B.r 5 rfl) (B.r 6 rfl) (B.r 7 rfl) (by omega) (by omega) (by omega) (by omega) (by omega)) rfl ?_)
    rintro v18 w16 ⟨hv19, e17⟩
    replace B := B.ext0 e17
    clear e17
    by_cases c20 : fieldB wd hi wr Xsp Xls Xfe Xfx Xfy = true
    · have hb21 := fieldB_b c20
      obtain rfl : v18 = .bool true := hv19.trans (congrArg Value.bool c20)
      refine s_y (v := .bool false) rfl (y_not rfl rfl) ?_
      refine s_y (v := .bool false) rfl (y_pick_f rfl rfl) ?_
      refine s_nil ?_
      refine W_if_f (by decide) rfl ?_
      refine W_skip ?_
      refine W_seq ?_
      refine W_region (by kernel_rfl) ?_
      refine s_y (v := .agg #[.int .i64 wd, .int .i64 hi, .bool wr, .slice asp nsp csp, .slice als nls cls]) rfl (y_loadn (b := b1) (o := 0) (vs := [.int .i64 wd, .int .i64 hi, .bool wr, .slice asp nsp csp, .slice als nls cls]) T56.agg_26_5 rfl rfl ((B.b 2 rfl).cells (o := 0) rfl)) ?_
      refine s_y (v := .int .i64 x) rfl (y_move rfl) ?_
      refine s_y (v := .int .i64 y) rfl (y_move rfl) ?_
      refine s_k rfl (k_call T56.fn_110 (c_i_backBy) rfl ?_)
      rintro _ w22 ⟨b24, b25, b26, rfl, hN23⟩
      replace B := B.new3 hN23
      clear hN23
      refine s_y (v := .func (.func 134) #[] #[.pointer (some ⟨b24, 0, none⟩), .pointer (some ⟨b25, 0, none⟩), .pointer (some ⟨b26, 0, none⟩)]) rfl (y_assign rfl) ?_
      refine s_nil ?_
      refine W_seq ?_
      have B0_31 := B
      refine W_draw (at1 b7) T56.mx (by kernel_rfl) (fun w29 e30 => ?_)
      have R32 := Ext.refl (at1 b7) w22
      replace R32 := R32.trans (Ext0.any e30)
      replace B := B.ext0 e30
      clear e30
      refine m_y (v := .agg #[.int .i64 wd, .int .i64 hi, .bool wr, .slice asp nsp csp, .slice als nls cls]) 0 rfl (by kernel_rfl) rfl rfl (fun w' e' => y_loadn (b := b1) (o := 0) (vs := [.int .i64 wd, .int .i64 hi, .bool wr, .slice asp nsp csp, .slice als nls cls]) T56.agg_26_5 rfl rfl ((B0_31.bx 5 3 rfl rfl rfl rfl e' (fun _ h => h)).cells (o := 0) rfl)) ?_
      refine m_y (v := .pointer (some ⟨b4, 0, none⟩)) 1 rfl (by kernel_rfl) rfl rfl (fun w' e' => y_fld (o := 0) T56.fld_30_0_0 rfl) ?_
      refine m_y (v := .slice afe nfe cfe) 2 rfl (by kernel_rfl) rfl rfl (fun w' e' => y_load T56.one_24 rfl ((B0_31.bx 4 3 rfl rfl rfl rfl e' (fun _ h => h)).cell (j := 0) rfl)) ?_
      refine m_y (v := .pointer (some ⟨b1, 0, none⟩)) 3 rfl (by kernel_rfl) rfl rfl (fun w' e' => y_fld (o := 0) T56.fld_26_0_0 rfl) ?_
      refine m_y (v := .int .i64 wd) 4 rfl (by kernel_rfl) rfl rfl (fun w' e' => y_load T56.one_2 rfl ((B0_31.bx 5 3 rfl rfl rfl rfl e' (fun _ h => h)).cell (j := 0) rfl)) ?_
      refine m_y (v := .pointer (some ⟨b1, 1, none⟩)) 5 rfl (by kernel_rfl) rfl rfl (fun w' e' => y_fld (o := 0) T56.fld_26_1_1 rfl) ?_
      refine m_y (v := .int .i64 hi) 6 rfl (by kernel_rfl) rfl rfl (fun w' e' => y_load T56.one_2 rfl ((B0_31.bx 5 3 rfl rfl rfl rfl e' (fun _ h => h)).cell (j := 1) rfl)) ?_
      refine m_y (v := .func (.func 134) #[] #[.pointer (some ⟨b24, 0, none⟩), .pointer (some ⟨b25, 0, none⟩), .pointer (some ⟨b26, 0, none⟩)]) 7 rfl (by kernel_rfl) rfl rfl (fun w' e' => y_move rfl) ?_
      refine m_y (v := .agg #[.int .i64 wd, .int .i64 hi, .bool wr, .slice asp nsp csp, .slice als nls cls]) 9 rfl (by kernel_rfl) rfl rfl (fun w' e' => y_loadn (b := b1) (o := 0) (vs := [.int .i64 wd, .int .i64 hi, .bool wr, .slice asp nsp csp, .slice als nls cls]) T56.agg_26_5 rfl rfl ((B0_31.bx 5 3 rfl rfl rfl rfl e' (fun _ h => h)).cells (o := 0) rfl)) ?_
      refine m_y (v := .pointer (some ⟨b4, 1, none⟩)) 10 rfl (by kernel_rfl) rfl rfl (fun w' e' => y_fld (o := 0) T56.fld_30_1_1 rfl) ?_
      refine m_y (v := .slice afx nfx cfx) 11 rfl (by kernel_rfl) rfl rfl (fun w' e' => y_load T56.one_24 rfl ((B0_31.bx 4 3 rfl rfl rfl rfl e' (fun _ h => h)).cell (j := 1) rfl)) ?_
      refine m_y (v := .pointer (some ⟨b1, 0, none⟩)) 12 rfl (by kernel_rfl) rfl rfl (fun w' e' => y_fld (o := 0) T56.fld_26_0_0 rfl) ?_
      refine m_y (v := .int .i64 wd) 13 rfl (by kernel_rfl) rfl rfl (fun w' e' => y_load T56.one_2 rfl ((B0_31.bx 5 3 rfl rfl rfl rfl e' (fun _ h => h)).cell (j := 0) rfl)) ?_
      refine m_y (v := .pointer (some ⟨b1, 1, none⟩)) 14 rfl (by kernel_rfl) rfl rfl (fun w' e' => y_fld (o := 0) T56.fld_26_1_1 rfl) ?_
      refine m_y (v := .int .i64 hi) 15 rfl (by kernel_rfl) rfl rfl (fun w' e' => y_load T56.one_2 rfl ((B0_31.bx 5 3 rfl rfl rfl rfl e' (fun _ h => h)).cell (j := 1) rfl)) ?_
      refine m_y (v := .func (.func 134) #[] #[.pointer (some ⟨b24, 0, none⟩), .pointer (some ⟨b25, 0, none⟩), .pointer (some ⟨b26, 0, none⟩)]) 16 rfl (by kernel_rfl) rfl rfl (fun w' e' => y_move rfl) ?_
      refine m_y (v := .agg #[.int .i64 wd, .int .i64 hi, .bool wr, .slice asp nsp csp, .slice als nls cls]) 18 rfl (by kernel_rfl) rfl rfl (fun w' e' => y_loadn (b := b1) (o := 0) (vs := [.int .i64 wd, .int .i64 hi, .bool wr, .slice asp nsp csp, .slice als nls cls]) T56.agg_26_5 rfl rfl ((B0_31.bx 5 3 rfl rfl rfl rfl e' (fun _ h => h)).cells (o := 0) rfl)) ?_
      refine m_y (v := .pointer (some ⟨b4, 2, none⟩)) 19 rfl (by kernel_rfl) rfl rfl (fun w' e' => y_fld (o := 0) T56.fld_30_2_2 rfl) ?_
      refine m_y (v := .slice afy nfy cfy) 20 rfl (by kernel_rfl) rfl rfl (fun w' e' => y_load T56.one_24 rfl ((B0_31.bx 4 3 rfl rfl rfl rfl e' (fun _ h => h)).cell (j := 2) rfl)) ?_
      refine m_y (v := .pointer (some ⟨b1, 0, none⟩)) 21 rfl (by kernel_rfl) rfl rfl (fun w' e' => y_fld (o := 0) T56.fld_26_0_0 rfl) ?_
      refine m_y (v := .int .i64 wd) 22 rfl (by kernel_rfl) rfl rfl (fun w' e' => y_load T56.one_2 rfl ((B0_31.bx 5 3 rfl rfl rfl rfl e' (fun _ h => h)).cell (j := 0) rfl)) ?_
      refine m_y (v := .pointer (some ⟨b1, 1, none⟩)) 23 rfl (by kernel_rfl) rfl rfl (fun w' e' => y_fld (o := 0) T56.fld_26_1_1 rfl) ?_
      refine m_y (v := .int .i64 hi) 24 rfl (by kernel_rfl) rfl rfl (fun w' e' => y_load T56.one_2 rfl ((B0_31.bx 5 3 rfl rfl rfl rfl e' (fun _ h => h)).cell (j := 1) rfl)) ?_
      refine m_y (v := .func (.func 134) #[] #[.pointer (some ⟨b24, 0, none⟩), .pointer (some ⟨b25, 0, none⟩), .pointer (some ⟨b26, 0, none⟩)]) 25 rfl (by kernel_rfl) rfl rfl (fun w' e' => y_move rfl) ?_
      refine m_k 8 [17, 26, 27, 28, 29] rfl (by kernel_rfl) rfl rfl (fun w33 e34 => ?_)
      replace R32 := R32.trans (Ext0.any e34)
      replace B := B.ext0 e34
      clear e34
      refine k_call T56.fn_104 (c_i_moved (f := 134) (us := []) (xs := [.pointer (some ⟨b24, 0, none⟩), .pointer (some ⟨b25, 0, none⟩), .pointer (some ⟨b26, 0, none⟩)]) (FU := (fun xq _ => (xq - x + 16 * wd) % wd)) (FV := (fun _ yq => (yq - y + 16 * hi) % hi)) (W := wd) (H := hi) (B.r 8 rfl) T56.fn_134 (fun xq yq w1 he h0 h1 h2 h3 => (c_i_backBy_1 ((B.b 0 rfl).sl.ext0 he) ((B.b 1 rfl).sl.ext0 he) ((B.b 2 rfl).sl.ext0 he) (by omega) (by omega) (by omega) (by omega) (by omega) (by omega) (by omega) (by omega) (by omega) (by omega) (by omega) (by omega))) (fun xq yq h0 h1 h2 h3 => by have p1 := rem_b (x := xq - x + 16 * wd) (m := wd) (by omega) (by omega); have p2 := rem_b (x := yq - y + 16 * hi) (m := hi) (by omega) (by omega); first | omega | (simp only []; omega)) (by omega) (by omega) (by omega) (by omega) (by omega) (by omega) (by omega) (by omega) (by omega)) rfl ?_
      rintro _ w35 ⟨a36, c37, rfl, hN38⟩
      replace R32 := R32.trans (Ext0.any hN38.ext)
      replace B := B.new1 hN38
      clear hN38
      refine ⟨fun _ => R32, ?_⟩
      refine m_k 17 [26, 27, 28, 29] rfl (by kernel_rfl) rfl rfl (fun w39 e40 => ?_)
      replace R32 := R32.trans (Ext0.any e40)
      replace B := B.ext0 e40
      clear e40
      refine k_call T56.fn_104 (c_i_moved (f := 134) (us := []) (xs := [.pointer (some ⟨b24, 0, none⟩), .pointer (some ⟨b25, 0, none⟩), .pointer (some ⟨b26, 0, none⟩)]) (FU := (fun xq _ => (xq - x + 16 * wd) % wd)) (FV := (fun _ yq => (yq - y + 16 * hi) % hi)) (W := wd) (H := hi) (B.r 10 rfl) T56.fn_134 (fun xq yq w1 he h0 h1 h2 h3 => (c_i_backBy_1 ((B.b 1 rfl).sl.ext0 he) ((B.b 2 rfl).sl.ext0 he) ((B.b 3 rfl).sl.ext0 he) (by omega) (by omega) (by omega) (by omega) (by omega) (by omega) (by omega) (by omega) (by omega) (by omega) (by omega) (by omega))) (fun xq yq h0 h1 h2 h3 => by have p1 := rem_b (x := xq - x + 16 * wd) (m := wd) (by omega) (by omega); have p2 := rem_b (x := yq - y + 16 * hi) (m := hi) (by omega) (by omega); first | omega | (simp only []; omega)) (by omega) (by omega) (by omega) (by omega) (by omega) (by omega) (by omega) (by omega) (by omega)) rfl ?_
      rintro _ w41 ⟨a42, c43, rfl, hN44⟩
      replace R32 := R32.trans (Ext0.any hN44.ext)
      replace B := B.new1 hN44
      clear hN44
      refine ⟨fun _ => R32, ?_⟩
      refine m_k 26 [27, 28, 29] rfl (by kernel_rfl) rfl rfl (fun w45 e46 => ?_)
      replace R32 := R32.trans (Ext0.any e46)
      replace B := B.ext0 e46
      clear e46
      refine k_call T56.fn_104 (c_i_moved (f := 134) (us := []) (xs := [.pointer (some ⟨b24, 0, none⟩), .pointer (some ⟨b25, 0, none⟩), .pointer (some ⟨b26, 0, none⟩)]) (FU := (fun xq _ => (xq - x + 16 * wd) % wd)) (FV := (fun _ yq => (yq - y + 16 * hi) % hi)) (W := wd) (H := hi) (B.r 12 rfl) T56.fn_134 (fun xq yq w1 he h0 h1 h2 h3 => (c_i_backBy_1 ((B.b 2 rfl).sl.ext0 he) ((B.b 3 rfl).sl.ext0 he) ((B.b 4 rfl).sl.ext0 he) (by omega) (by omega) (by omega) (by omega) (by omega) (by omega) (by omega) (by omega) (by omega) (by omega) (by omega) (by omega))) (fun xq yq h0 h1 h2 h3 => by have p1 := rem_b (x := xq - x + 16 * wd) (m := wd) (by omega) (by omega); have p2 := rem_b (x := yq - y + 16 * hi) (m := hi) (by omega) (by omega); first | omega | (simp only []; omega)) (by omega) (by omega) (by omega) (by omega) (by omega) (by omega) (by omega) (by omega) (by omega)) rfl ?_
      rintro _ w47 ⟨a48, c49, rfl, hN50⟩
      replace R32 := R32.trans (Ext0.any hN50.ext)
      replace B := B.new1 hN50
      clear hN50
      refine ⟨fun _ => R32, ?_⟩
      refine m_y (v := .agg #[.slice a36 ((wd * hi).toNat) c37, .slice a42 ((wd * hi).toNat) c43, .slice a48 ((wd * hi).toNat) c49]) 27 rfl (by kernel_rfl) rfl rfl (fun w' e' => y_build (cells := #[.slice a36 ((wd * hi).toNat) c37, .slice a42 ((wd * hi).toNat) c43, .slice a48 ((wd * hi).toNat) c49]) (by kernel_rfl)) ?_
      refine m_k 28 [29] rfl (by kernel_rfl) rfl rfl (fun w53 e54 => ?_)
      replace R32 := R32.trans (Ext0.any e54)
      replace B := B.ext0 e54
      clear e54
      refine k_stB (v := .agg #[.slice a36 ((wd * hi).toNat) c37, .slice a42 ((wd * hi).toNat) c43, .slice a48 ((wd * hi).toNat) c49]) (n := 3) (cs' := [.slice a36 ((wd * hi).toNat) c37, .slice a42 ((wd * hi).toNat) c43, .slice a48 ((wd * hi).toNat) c49]) T56.sz_30_3 rfl rfl rfl (B.b 6 rfl) (by simp [Value.cells, Value.oneCell']) (Nat.le_of_ble_eq_true rfl) rfl (fun w51 hU52 => ?_)
      replace R32 := R32.trans hU52.at1
      replace B : Bu w no w51 [.blk b7 [.slice a36 ((wd * hi).toNat) c37, .slice a42 ((wd * hi).toNat) c43, .slice a48 ((wd * hi).toNat) c49] 30, .ow kF a48 ((wd * hi).toNat) c49 34 (movL wd hi (fun xp yp => atI wd hi ((fun xq _ => (xq - x + 16 * wd) % wd) xp yp) ((fun _ yq => (yq - y + 16 * hi) % hi) xp yp)) Xfy), .ow kF a42 ((wd * hi).toNat) c43 34 (movL wd hi (fun xp yp => atI wd hi ((fun xq _ => (xq - x + 16 * wd) % wd) xp yp) ((fun _ yq => (yq - y + 16 * hi) % hi) xp yp)) Xfx), .ow kF a36 ((wd * hi).toNat) c37 34 (movL wd hi (fun xp yp => atI wd hi ((fun xq _ => (xq - x + 16 * wd) % wd) xp yp) ((fun _ yq => (yq - y + 16 * hi) % hi) xp yp)) Xfe), .blk b24 [.int .i64 x] 2, .blk b25 [.int .i64 wd, .int .i64 hi, .bool wr, .slice asp nsp csp, .slice als nls cls] 26, .blk b26 [.int .i64 y] 2, .blk b4 [.slice afe nfe cfe, .slice afx nfx cfx, .slice afy nfy cfy] 30, .blk b1 [.int .i64 wd, .int .i64 hi, .bool wr, .slice asp nsp csp, .slice als nls cls] 26, .rd kF asp nsp Xsp, .rd kF als nls Xls, .rd kF afe nfe Xfe, .rd kF afx nfx Xfx, .rd kF afy nfy Xfy] := B.upd [6] rfl hU52
      clear hU52
      refine ⟨fun _ => R32, ?_⟩
      refine m_y (v := .bool true) 29 rfl (by kernel_rfl) rfl rfl (fun w' e' => y_assign rfl) ?_
      refine m_done (by kernel_rfl) (fun w55 e56 => ?_)
      replace B := B.ext0 e56
      clear e56
      clear B0_31 R32
      refine W_ret ?_
      refine ret2 (v1 := .agg #[.slice a36 ((wd * hi).toNat) c37, .slice a42 ((wd * hi).toNat) c43, .slice a48 ((wd * hi).toNat) c49]) (v2 := .bool true) rfl rfl rfl ⟨_, [.slice a36 ((wd * hi).toNat) c37, .slice a42 ((wd * hi).toNat) c43, .slice a48 ((wd * hi).toNat) c49], _, rfl, (B.b 0 rfl), T56.agg_30_3, rfl⟩ rfl ⟨_, rfl, ?_⟩
      have hcond : shfB wd hi wr Xsp Xls Xfe Xfx Xfy x y = true := by simp only [shfB, c14, c20, Bool.and_true, Bool.true_and, Bool.and_false, Bool.false_and, Bool.not_true, Bool.not_false, Bool.or_true, Bool.true_or, Bool.or_false, Bool.false_or]
      replace B : Bu w no w55 [.blk b7 [.slice a36 ((wd * hi).toNat) c37, .slice a42 ((wd * hi).toNat) c43, .slice a48 ((wd * hi).toNat) c49] 30, .ow kF a48 ((wd * hi).toNat) c49 34 (movL wd hi (fun xp yp => atI wd hi ((fun xq _ => (xq - x + 16 * wd) % wd) xp yp) ((fun _ yq => (yq - y + 16 * hi) % hi) xp yp)) Xfy), .ow kF a42 ((wd * hi).toNat) c43 34 (movL wd hi (fun xp yp => atI wd hi ((fun xq _ => (xq - x + 16 * wd) % wd) xp yp) ((fun _ yq => (yq - y + 16 * hi) % hi) xp yp)) Xfx), .ow kF a36 ((wd * hi).toNat) c37 34 (shfS wd hi x y Xfe), .blk b24 [.int .i64 x] 2, .blk b25 [.int .i64 wd, .int .i64 hi, .bool wr, .slice asp nsp csp, .slice als nls cls] 26, .blk b26 [.int .i64 y] 2, .blk b4 [.slice afe nfe cfe, .slice afx nfx cfx, .slice afy nfy cfy] 30, .blk b1 [.int .i64 wd, .int .i64 hi, .bool wr, .slice asp nsp csp, .slice als nls cls] 26, .rd kF asp nsp Xsp, .rd kF als nls Xls, .rd kF afe nfe Xfe, .rd kF afx nfx Xfx, .rd kF afy nfy Xfy] := B.castX 3 rfl rfl (shf_i (by omega) (by omega))
      replace B : Bu w no w55 [.blk b7 [.slice a36 ((wd * hi).toNat) c37, .slice a42 ((wd * hi).toNat) c43, .slice a48 ((wd * hi).toNat) c49] 30, .ow kF a48 ((wd * hi).toNat) c49 34 (movL wd hi (fun xp yp => atI wd hi ((fun xq _ => (xq - x + 16 * wd) % wd) xp yp) ((fun _ yq => (yq - y + 16 * hi) % hi) xp yp)) Xfy), .ow kF a42 ((wd * hi).toNat) c43 34 (shfS wd hi x y Xfx), .ow kF a36 ((wd * hi).toNat) c37 34 (shfS wd hi x y Xfe), .blk b24 [.int .i64 x] 2, .blk b25 [.int .i64 wd, .int .i64 hi, .bool wr, .slice asp nsp csp, .slice als nls cls] 26, .blk b26 [.int .i64 y] 2, .blk b4 [.slice afe nfe cfe, .slice afx nfx cfx, .slice afy nfy cfy] 30, .blk b1 [.int .i64 wd, .int .i64 hi, .bool wr, .slice asp nsp csp, .slice als nls cls] 26, .rd kF asp nsp Xsp, .rd kF als nls Xls, .rd kF afe nfe Xfe, .rd kF afx nfx Xfx, .rd kF afy nfy Xfy] := B.castX 2 rfl rfl (shf_i (by omega) (by omega))
      replace B : Bu w no w55 [.blk b7 [.slice a36 ((wd * hi).toNat) c37, .slice a42 ((wd * hi).toNat) c43, .slice a48 ((wd * hi).toNat) c49] 30, .ow kF a48 ((wd * hi).toNat) c49 34 (shfS wd hi x y Xfy), .ow kF a42 ((wd * hi).toNat) c43 34 (shfS wd hi x y Xfx), .ow kF a36 ((wd * hi).toNat) c37 34 (shfS wd hi x y Xfe), .blk b24 [.int .i64 x] 2, .blk b25 [.int .i64 wd, .int .i64 hi, .bool wr, .slice asp nsp csp, .slice als nls cls] 26, .blk b26 [.int .i64 y] 2, .blk b4 [.slice afe nfe cfe, .slice afx nfx cfx, .slice afy nfy cfy] 30, .blk b1 [.int .i64 wd, .int .i64 hi, .bool wr, .slice asp nsp csp, .slice als nls cls] 26, .rd kF asp nsp Xsp, .rd kF als nls Xls, .rd kF afe nfe Xfe, .rd kF afx nfx Xfx, .rd kF afy nfy Xfy] := B.castX 1 rfl rfl (shf_i (by omega) (by omega))
      exact .inl ⟨hcond, ⟨_, _, _, _, _, _, rfl, B.give [3, 2, 1] rfl rfl rfl⟩⟩
    · obtain rfl : v18 = .bool false := hv19.trans (congrArg Value.bool (Bool.eq_false_iff.2 c20))
      refine s_y (v := .bool true) rfl (y_not rfl rfl) ?_
      refine s_y (v := .bool true) rfl (y_pick_f rfl rfl) ?_
      refine s_nil ?_
      refine W_if_t (by decide) rfl ?_
      refine W_seq ?_
      refine W_region (by kernel_rfl) ?_
      refine s_y (v := .agg #[.slice none 0 0, .slice none 0 0, .slice none 0 0]) rfl (y_build (cells := #[.slice none 0 0, .slice none 0 0, .slice none 0 0]) (by kernel_rfl)) ?_
      refine s_k0 rfl (k_stB (v := .agg #[.slice none 0 0, .slice none 0 0, .slice none 0 0]) (n := 3) (cs' := [.slice none 0 0, .slice none 0 0, .slice none 0 0]) T56.sz_30_3 rfl rfl rfl (B.b 0 rfl) (by simp [Value.cells, Value.oneCell']) (Nat.le_of_ble_eq_true rfl) rfl (fun w57 hU58 => ?_))
      replace B : Bu w no w57 [.blk b7 [.slice none 0 0, .slice none 0 0, .slice none 0 0] 30, .blk b4 [.slice afe nfe cfe, .slice afx nfx cfx, .slice afy nfy cfy] 30, .blk b1 [.int .i64 wd, .int .i64 hi, .bool wr, .slice asp nsp csp, .slice als nls cls] 26, .rd kF asp nsp Xsp, .rd kF als nls Xls, .rd kF afe nfe Xfe, .rd kF afx nfx Xfx, .rd kF afy nfy Xfy] := B.upd [0] rfl hU58
      clear hU58
      refine s_y (v := .bool false) rfl (y_assign rfl) ?_
      refine s_nil ?_
      refine W_ret ?_
      refine ret2 (v1 := .agg #[.slice none 0 0, .slice none 0 0, .slice none 0 0]) (v2 := .bool false) rfl rfl rfl ⟨_, [.slice none 0 0, .slice none 0 0, .slice none 0 0], _, rfl, (B.b 0 rfl), T56.agg_30_3, rfl⟩ rfl ⟨_, rfl, ?_⟩
      exact .inr ⟨by simp only [shfB, c14, (Bool.eq_false_iff.2 c20), Bool.and_true, Bool.true_and, Bool.and_false, Bool.false_and, Bool.not_true, Bool.not_false, Bool.or_true, Bool.true_or, Bool.or_false, Bool.false_or], rfl, B.ext⟩
  · obtain rfl : v12 = .bool false := hv13.trans (congrArg Value.bool (Bool.eq_false_iff.2 c14))
    refine s_y (v := .bool true) rfl (y_not rfl rfl) ?_
    refine s_y (v := .bool true) rfl (y_move rfl) ?_
    refine s_skip rfl ?_
    refine s_skip rfl ?_
    refine s_skip rfl ?_
    refine s_skip rfl ?_
    refine s_y (v := .bool true) rfl (y_pick_t rfl rfl) ?_
    refine s_nil ?_
    refine W_if_t (by decide) rfl ?_
    refine W_seq ?_
    refine W_region (by kernel_rfl) ?_
    refine s_y (v := .agg #[.slice none 0 0, .slice none 0 0, .slice none 0 0]) rfl (y_build (cells := #[.slice none 0 0, .slice none 0 0, .slice none 0 0]) (by kernel_rfl)) ?_
    refine s_k0 rfl (k_stB (v := .agg #[.slice none 0 0, .slice none 0 0, .slice none 0 0]) (n := 3) (cs' := [.slice none 0 0, .slice none 0 0, .slice none 0 0]) T56.sz_30_3 rfl rfl rfl (B.b 0 rfl) (by simp [Value.cells, Value.oneCell']) (Nat.le_of_ble_eq_true rfl) rfl (fun w59 hU60 => ?_))
    replace B : Bu w no w59 [.blk b7 [.slice none 0 0, .slice none 0 0, .slice none 0 0] 30, .blk b4 [.slice afe nfe cfe, .slice afx nfx cfx, .slice afy nfy cfy] 30, .blk b1 [.int .i64 wd, .int .i64 hi, .bool wr, .slice asp nsp csp, .slice als nls cls] 26, .rd kF asp nsp Xsp, .rd kF als nls Xls, .rd kF afe nfe Xfe, .rd kF afx nfx Xfx, .rd kF afy nfy Xfy] := B.upd [0] rfl hU60
    clear hU60
    refine s_y (v := .bool false) rfl (y_assign rfl) ?_
    refine s_nil ?_
    refine W_ret ?_
    refine ret2 (v1 := .agg #[.slice none 0 0, .slice none 0 0, .slice none 0 0]) (v2 := .bool false) rfl rfl rfl ⟨_, [.slice none 0 0, .slice none 0 0, .slice none 0 0], _, rfl, (B.b 0 rfl), T56.agg_30_3, rfl⟩ rfl ⟨_, rfl, ?_⟩
    exact .inr ⟨by simp only [shfB, (Bool.eq_false_iff.2 c14), Bool.and_true, Bool.true_and, Bool.and_false, Bool.false_and, Bool.not_true, Bool.not_false, Bool.or_true, Bool.true_or, Bool.or_false, Bool.false_or], rfl, B.ext⟩
end Go.Proofs.Ytgohmocjjmkepaa
