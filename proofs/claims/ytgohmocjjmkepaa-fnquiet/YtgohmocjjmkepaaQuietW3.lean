/- Walks: what the functions under FnQuiet do (part 4). Printed by a program of this claim's author. -/
import Derived.Test.YtgohmocjjmkepaaQuietW2
set_option linter.unusedSimpArgs false
set_option linter.unusedVariables false
open Go.Wv
namespace Go.Proofs.Ytgohmocjjmkepaa
open Go.Proofs
namespace T149
theorem mx : Try.prog.follows .mixedOrders = true := by kernel_rfl
theorem fld_26_1_1 : fldB Try.prog 26 1 1 = true := by kernel_rfl
theorem fld_26_2_2 : fldB Try.prog 26 2 2 = true := by kernel_rfl
theorem fld_30_0_0 : fldB Try.prog 30 0 0 = true := by kernel_rfl
theorem fld_30_1_1 : fldB Try.prog 30 1 1 = true := by kernel_rfl
theorem fn_140 : fnB Try.prog 140 = true := by kernel_rfl
theorem one_2 : oneB Try.prog 2 = true := by kernel_rfl
theorem one_24 : oneB Try.prog 24 = true := by kernel_rfl
theorem one_34 : oneB Try.prog 34 = true := by kernel_rfl
theorem one_4 : oneB Try.prog 4 = true := by kernel_rfl
theorem sl_24_34_1 : slB Try.prog 24 34 1 = true := by kernel_rfl
end T149
set_option maxRecDepth 100000 in
set_option maxHeartbeats 4000000 in
theorem c_s_l03HalfX {b : Nat} {o : Nat} {wd : Int} {hi : Int} {wr : Bool} {asp : Option Addr} {nsp : Nat} {csp : Nat} {als : Option Addr} {nls : Nat} {cls : Nat} {b2 : Nat} {o2 : Nat} {afe : Option Addr} {nfe : Nat} {cfe : Nat} {Xfe : List Nat} {afx : Option Addr} {nfx : Nat} {cfx : Nat} {Xfx : List Nat} {afy : Option Addr} {nfy : Nat} {cfy : Nat} {Xfy : List Nat} {x : Int} {y : Int} {w : World} (Pb : Sl w (some ⟨b, o, none⟩) [.int .i64 wd, .int .i64 hi, .bool wr, .slice asp nsp csp, .slice als nls cls]) (qfe : Rd w kF afe nfe Xfe) (qfx : Rd w kF afx nfx Xfx) (qfy : Rd w kF afy nfy Xfy) (Pb2 : Sl w (some ⟨b2, o2, none⟩) [.slice afe nfe cfe, .slice afx nfx cfx, .slice afy nfy cfy]) (h1 : 3 ≤ wd) (h2 : wd ≤ 16) (h3 : 3 ≤ hi) (h4 : hi ≤ 16) (gfe : (nfe : Int) = wd * hi) (gfx : (nfx : Int) = wd * hi) (gfy : (nfy : Int) = wd * hi) (p1 : 0 ≤ x) (p2 : x < wd) (p3 : 0 ≤ y) (p4 : y < hi) :
    Calls Try.prog 149 #[.pointer (some ⟨b, o, none⟩), .pointer (some ⟨b2, o2, none⟩), .int .i64 x, .int .i64 y] w (Rt fun v w' => (∃ r, v = .float .f32 r ∧ Cn .f32 r (hxF wd hi wr Xfe Xfx x y)) ∧ Ext0 w w') := by
  have hlfe := qfe.len
  have hlfx := qfx.len
  have hlfy := qfy.len
  have B : Bu w no w [.sl (some ⟨b, o, none⟩) [.int .i64 wd, .int .i64 hi, .bool wr, .slice asp nsp csp, .slice als nls cls], .rd kF afe nfe Xfe, .rd kF afx nfx Xfx, .rd kF afy nfy Xfy, .sl (some ⟨b2, o2, none⟩) [.slice afe nfe cfe, .slice afx nfx cfx, .slice afy nfy cfy]] := Bu.ro (All.cons Pb (All.cons qfe (All.cons qfx (All.cons qfy (All.cons Pb2 All.nil))))) rfl
  refine calls_W (n := 63) Try.func149 rfl rfl (Nat.le_of_ble_eq_true rfl) ?_
  refine W_seq ?_
  refine W_region (by kernel_rfl) ?_
  refine s_y (v := .float .f32 0) rfl (y_assign rfl) ?_
  refine s_nil ?_
  refine W_seq ?_
  refine W_region (by kernel_rfl) ?_
  refine s_y (v := .pointer (some ⟨b, o, none⟩)) rfl (y_move rfl) ?_
  refine s_y (v := .int .i64 x) rfl (y_move rfl) ?_
  refine s_y (v := .int .i64 y) rfl (y_move rfl) ?_
  refine s_k rfl (k_call T149.fn_140 (c_s_l03At (B.s 0 rfl) (by omega) (by omega) (by omega) (by omega) (by omega) (by omega) (by omega) (by omega)) rfl ?_)
  rintro _ w1 ⟨rfl, e2⟩
  replace B := B.ext0 e2
  clear e2
  have hat3 := atI_b (wd := wd) (hi := hi) (x := x) (y := y) (by omega) (by omega)
  refine s_y (v := .int .i64 (atI wd hi x y)) rfl (y_assign rfl) ?_
  refine s_nil ?_
  refine W_seq ?_
  refine W_seq ?_
  refine W_region (by kernel_rfl) ?_
  refine s_y (v := .pointer (some ⟨b, o, none⟩)) rfl (y_move rfl) ?_
  refine s_y (v := .pointer (some ⟨b, o, none⟩)) rfl (y_nil rfl) ?_
  refine s_y (v := .pointer (some ⟨b, o + 2, none⟩)) rfl (y_fld (o := o + 0) T149.fld_26_2_2 rfl) ?_
  refine s_y (v := .bool wr) rfl (y_load T149.one_4 rfl ((B.s 0 rfl).cell (j := 2) rfl)) ?_
  refine s_y (v := .bool (!wr)) rfl (y_not rfl rfl) ?_
  refine s_y (v := .bool (!wr)) rfl (y_move rfl) ?_
  cases wr
  · refine s_y (v := .int .i64 y) rfl (y_move rfl) ?_
    refine s_y (v := .pointer (some ⟨b, o, none⟩)) rfl (y_move rfl) ?_
    refine s_y (v := .pointer (some ⟨b, o, none⟩)) rfl (y_nil rfl) ?_
    refine s_y (v := .pointer (some ⟨b, o + 1, none⟩)) rfl (y_fld (o := o + 0) T149.fld_26_1_1 rfl) ?_
    refine s_y (v := .int .i64 hi) rfl (y_load T149.one_2 rfl ((B.s 0 rfl).cell (j := 1) rfl)) ?_
    refine s_y (v := .int .i64 (hi - 1)) rfl (y_sub rfl rfl rfl (by omega)) ?_
    by_cases c4 : y = (hi - 1)
    · refine s_y (v := .bool true) rfl (y_eql rfl rfl (decide_eq_true c4)) ?_
      refine s_y (v := .bool true) rfl (y_pick_t rfl rfl) ?_
      refine s_nil ?_
      refine W_if_t (by decide) rfl ?_
      refine W_seq ?_
      refine W_region (by kernel_rfl) ?_
      refine s_y (v := .pointer (some ⟨b2, o2, none⟩)) rfl (y_move rfl) ?_
      refine s_y (v := .pointer (some ⟨b2, o2, none⟩)) rfl (y_nil rfl) ?_
      refine s_y (v := .pointer (some ⟨b2, o2 + 1, none⟩)) rfl (y_fld (o := o2 + 0) T149.fld_30_1_1 rfl) ?_
      refine s_y (v := .slice afx nfx cfx) rfl (y_load T149.one_24 rfl ((B.s 4 rfl).cell (j := 1) rfl)) ?_
      refine s_y (v := .int .i64 (atI wd hi x y)) rfl (y_move rfl) ?_
      refine s_y (v := .pointer (some (sat afx ((atI wd hi x y).toNat * 1)))) rfl (y_idx T149.sl_24_34_1 rfl rfl ((B.r 2 rfl).addr (by omega)) (by omega) (by omega)) ?_
      obtain ⟨r6, hr7, hR5⟩ := Rd.atF (B.r 2 rfl) (atI wd hi x y) (by omega) (by omega)
      refine s_y (v := .float .f32 r6) rfl (y_load T149.one_34 rfl (hR5.cell (i := 0) rfl)) ?_
      refine s_y (v := .float .f32 r6) rfl (y_assign rfl) ?_
      refine s_nil ?_
      refine W_ret ?_
      refine ret1 (v := .float .f32 r6) rfl rfl rfl ⟨_, rfl, ?_⟩
      have hcc : (false || decide (y < hi - 1)) = false := by first | rfl | (rw [Bool.false_or]; exact decide_eq_false (by omega))
      exact ⟨⟨_, rfl, cnT hr7 (hx_no hcc)⟩, B.ext⟩
    · refine s_y (v := .bool false) rfl (y_eql rfl rfl (decide_eq_false c4)) ?_
      refine s_y (v := .bool false) rfl (y_pick_t rfl rfl) ?_
      refine s_nil ?_
      refine W_if_f (by decide) rfl ?_
      refine W_skip ?_
      refine W_seq ?_
      have B0_12 := B
      refine W_draw (no) T149.mx (by kernel_rfl) (fun w10 e11 => ?_)
      have R13 := Ext.refl (no) w1
      replace R13 := R13.trans (Ext0.any e11)
      replace B := B.ext0 e11
      clear e11
      refine m_y (v := .pointer (some ⟨b2, o2, none⟩)) 0 rfl (by kernel_rfl) rfl rfl (fun w' e' => y_move rfl) ?_
      refine m_y (v := .pointer (some ⟨b2, o2, none⟩)) 1 rfl (by kernel_rfl) rfl rfl (fun w' e' => y_nil rfl) ?_
      refine m_y (v := .pointer (some ⟨b2, o2 + 1, none⟩)) 2 rfl (by kernel_rfl) rfl rfl (fun w' e' => y_fld (o := o2 + 0) T149.fld_30_1_1 rfl) ?_
      refine m_y (v := .slice afx nfx cfx) 3 rfl (by kernel_rfl) rfl rfl (fun w' e' => y_load T149.one_24 rfl (((B0_12.s 4 rfl).ext0 e').cell (j := 1) rfl)) ?_
      refine m_y (v := .int .i64 (atI wd hi x y)) 4 rfl (by kernel_rfl) rfl rfl (fun w' e' => y_move rfl) ?_
      refine m_y (v := .pointer (some (sat afx ((atI wd hi x y).toNat * 1)))) 5 rfl (by kernel_rfl) rfl rfl (fun w' e' => y_idx T149.sl_24_34_1 rfl rfl ((B.r 2 rfl).addr (by omega)) (by omega) (by omega)) ?_
      obtain ⟨r15, hr16, hR14⟩ := Rd.atF (B0_12.r 2 rfl) (atI wd hi x y) (by omega) (by omega)
      refine m_y (v := .float .f32 r15) 6 rfl (by kernel_rfl) rfl rfl (fun w' e' => y_load T149.one_34 rfl ((hR14.ext0 e').cell (i := 0) rfl)) ?_
      refine m_y (v := .pointer (some ⟨b2, o2, none⟩)) 7 rfl (by kernel_rfl) rfl rfl (fun w' e' => y_move rfl) ?_
      refine m_y (v := .pointer (some ⟨b2, o2, none⟩)) 8 rfl (by kernel_rfl) rfl rfl (fun w' e' => y_nil rfl) ?_
      refine m_y (v := .pointer (some ⟨b2, o2, none⟩)) 9 rfl (by kernel_rfl) rfl rfl (fun w' e' => y_fld (o := o2 + 0) T149.fld_30_0_0 rfl) ?_
      refine m_y (v := .slice afe nfe cfe) 10 rfl (by kernel_rfl) rfl rfl (fun w' e' => y_load T149.one_24 rfl (((B0_12.s 4 rfl).ext0 e').cell (j := 0) rfl)) ?_
      refine m_y (v := .pointer (some ⟨b, o, none⟩)) 11 rfl (by kernel_rfl) rfl rfl (fun w' e' => y_move rfl) ?_
      refine m_y (v := .int .i64 x) 12 rfl (by kernel_rfl) rfl rfl (fun w' e' => y_move rfl) ?_
      refine m_y (v := .int .i64 y) 13 rfl (by kernel_rfl) rfl rfl (fun w' e' => y_move rfl) ?_
      refine m_y (v := .int .i64 (y + 1)) 14 rfl (by kernel_rfl) rfl rfl (fun w' e' => y_add rfl rfl rfl (by omega)) ?_
      refine m_y (v := .pointer (some ⟨b2, o2, none⟩)) 18 rfl (by kernel_rfl) rfl rfl (fun w' e' => y_move rfl) ?_
      refine m_y (v := .pointer (some ⟨b2, o2, none⟩)) 19 rfl (by kernel_rfl) rfl rfl (fun w' e' => y_nil rfl) ?_
      refine m_y (v := .pointer (some ⟨b2, o2, none⟩)) 20 rfl (by kernel_rfl) rfl rfl (fun w' e' => y_fld (o := o2 + 0) T149.fld_30_0_0 rfl) ?_
      refine m_y (v := .slice afe nfe cfe) 21 rfl (by kernel_rfl) rfl rfl (fun w' e' => y_load T149.one_24 rfl (((B0_12.s 4 rfl).ext0 e').cell (j := 0) rfl)) ?_
      refine m_y (v := .int .i64 (atI wd hi x y)) 22 rfl (by kernel_rfl) rfl rfl (fun w' e' => y_move rfl) ?_
      refine m_y (v := .pointer (some (sat afe ((atI wd hi x y).toNat * 1)))) 23 rfl (by kernel_rfl) rfl rfl (fun w' e' => y_idx T149.sl_24_34_1 rfl rfl ((B.r 1 rfl).addr (by omega)) (by omega) (by omega)) ?_
      obtain ⟨r18, hr19, hR17⟩ := Rd.atF (B0_12.r 1 rfl) (atI wd hi x y) (by omega) (by omega)
      refine m_y (v := .float .f32 r18) 24 rfl (by kernel_rfl) rfl rfl (fun w' e' => y_load T149.one_34 rfl ((hR17.ext0 e').cell (i := 0) rfl)) ?_
      refine m_k 15 [16, 17, 25, 26, 27, 28] rfl (by kernel_rfl) rfl rfl (fun w20 e21 => ?_)
      replace R13 := R13.trans (Ext0.any e21)
      replace B := B.ext0 e21
      clear e21
      refine k_call T149.fn_140 (c_s_l03At (B.s 0 rfl) (by omega) (by omega) (by omega) (by omega) (by omega) (by omega) (by omega) (by omega)) rfl ?_
      rintro _ w22 ⟨rfl, e23⟩
      replace R13 := R13.trans (Ext0.any e23)
      replace B := B.ext0 e23
      clear e23
      refine ⟨fun _ => R13, ?_⟩
      have hat24 := atI_b (wd := wd) (hi := hi) (x := x) (y := y + 1) (by omega) (by omega)
      refine m_y (v := .pointer (some (sat afe ((atI wd hi x (y + 1)).toNat * 1)))) 16 rfl (by kernel_rfl) rfl rfl (fun w' e' => y_idx T149.sl_24_34_1 rfl rfl ((B.r 1 rfl).addr (by omega)) (by omega) (by omega)) ?_
      obtain ⟨r26, hr27, hR25⟩ := Rd.atF (B0_12.r 1 rfl) (atI wd hi x (y + 1)) (by omega) (by omega)
      refine m_y (v := .float .f32 r26) 17 rfl (by kernel_rfl) rfl rfl (fun w' e' => y_load T149.one_34 rfl ((hR25.ext0 e').cell (i := 0) rfl)) ?_
      refine m_n 25 [26, 27, 28] rfl (by kernel_rfl) rfl rfl (fun w' e' => n_arith (by decide) rfl rfl) ?_
      rintro _ ⟨r29, rfl, hr30⟩
      have hc33 := fopC hr30 hr27 hr19
      refine m_n 26 [27, 28] rfl (by kernel_rfl) rfl rfl (fun w' e' => n_arith (by decide) rfl rfl) ?_
      rintro _ ⟨r35, rfl, hr36⟩
      have hc39 := fopC hr36 (cnLit (k := .f32) (t := 1056964608) (by kernel_rfl) (by kernel_rfl)) hc33
      refine m_n 27 [28] rfl (by kernel_rfl) rfl rfl (fun w' e' => n_arith (by decide) rfl rfl) ?_
      rintro _ ⟨r41, rfl, hr42⟩
      have hc45 := fopC hr42 hr16 hc39
      refine m_y (v := .float .f32 r41) 28 rfl (by kernel_rfl) rfl rfl (fun w' e' => y_assign rfl) ?_
      refine m_done (by kernel_rfl) (fun w46 e47 => ?_)
      replace B := B.ext0 e47
      clear e47
      clear B0_12 R13
      refine W_ret ?_
      refine ret1 (v := .float .f32 r41) rfl rfl rfl ⟨_, rfl, ?_⟩
      have hcc : (false || decide (y < hi - 1)) = true := by first | rfl | (rw [Bool.false_or]; exact decide_eq_true (by omega))
      exact ⟨⟨_, rfl, cnT hc45 (by unfold hxF; rw [if_pos hcc])⟩, B.ext⟩
  · refine s_skip rfl ?_
    refine s_skip rfl ?_
    refine s_skip rfl ?_
    refine s_skip rfl ?_
    refine s_skip rfl ?_
    refine s_skip rfl ?_
    refine s_skip rfl ?_
    refine s_y (v := .bool false) rfl (y_pick_f rfl rfl) ?_
    refine s_nil ?_
    refine W_if_f (by decide) rfl ?_
    refine W_skip ?_
    refine W_seq ?_
    have B0_52 := B
    refine W_draw (no) T149.mx (by kernel_rfl) (fun w50 e51 => ?_)
    have R53 := Ext.refl (no) w1
    replace R53 := R53.trans (Ext0.any e51)
    replace B := B.ext0 e51
    clear e51
    refine m_y (v := .pointer (some ⟨b2, o2, none⟩)) 0 rfl (by kernel_rfl) rfl rfl (fun w' e' => y_move rfl) ?_
    refine m_y (v := .pointer (some ⟨b2, o2, none⟩)) 1 rfl (by kernel_rfl) rfl rfl (fun w' e' => y_nil rfl) ?_
    refine m_y (v := .pointer (some ⟨b2, o2 + 1, none⟩)) 2 rfl (by kernel_rfl) rfl rfl (fun w' e' => y_fld (o := o2 + 0) T149.fld_30_1_1 rfl) ?_
    refine m_y (v := .slice afx nfx cfx) 3 rfl (by kernel_rfl) rfl rfl (fun w' e' => y_load T149.one_24 rfl (((B0_52.s 4 rfl).ext0 e').cell (j := 1) rfl)) ?_
    refine m_y (v := .int .i64 (atI wd hi x y)) 4 rfl (by kernel_rfl) rfl rfl (fun w' e' => y_move rfl) ?_
    refine m_y (v := .pointer (some (sat afx ((atI wd hi x y).toNat * 1)))) 5 rfl (by kernel_rfl) rfl rfl (fun w' e' => y_idx T149.sl_24_34_1 rfl rfl ((B.r 2 rfl).addr (by omega)) (by omega) (by omega)) ?_
    obtain ⟨r55, hr56, hR54⟩ := Rd.atF (B0_52.r 2 rfl) (atI wd hi x y) (by omega) (by omega)
    refine m_y (v := .float .f32 r55) 6 rfl (by kernel_rfl) rfl rfl (fun w' e' => y_load T149.one_34 rfl ((hR54.ext0 e').cell (i := 0) rfl)) ?_
    refine m_y (v := .pointer (some ⟨b2, o2, none⟩)) 7 rfl (by kernel_rfl) rfl rfl (fun w' e' => y_move rfl) ?_
    refine m_y (v := .pointer (some ⟨b2, o2, none⟩)) 8 rfl (by kernel_rfl) rfl rfl (fun w' e' => y_nil rfl) ?_
    refine m_y (v := .pointer (some ⟨b2, o2, none⟩)) 9 rfl (by kernel_rfl) rfl rfl (fun w' e' => y_fld (o := o2 + 0) T149.fld_30_0_0 rfl) ?_
    refine m_y (v := .slice afe nfe cfe) 10 rfl (by kernel_rfl) rfl rfl (fun w' e' => y_load T149.one_24 rfl (((B0_52.s 4 rfl).ext0 e').cell (j := 0) rfl)) ?_
    refine m_y (v := .pointer (some ⟨b, o, none⟩)) 11 rfl (by kernel_rfl) rfl rfl (fun w' e' => y_move rfl) ?_
    refine m_y (v := .int .i64 x) 12 rfl (by kernel_rfl) rfl rfl (fun w' e' => y_move rfl) ?_
    refine m_y (v := .int .i64 y) 13 rfl (by kernel_rfl) rfl rfl (fun w' e' => y_move rfl) ?_
    refine m_y (v := .int .i64 (y + 1)) 14 rfl (by kernel_rfl) rfl rfl (fun w' e' => y_add rfl rfl rfl (by omega)) ?_
    refine m_y (v := .pointer (some ⟨b2, o2, none⟩)) 18 rfl (by kernel_rfl) rfl rfl (fun w' e' => y_move rfl) ?_
    refine m_y (v := .pointer (some ⟨b2, o2, none⟩)) 19 rfl (by kernel_rfl) rfl rfl (fun w' e' => y_nil rfl) ?_
    refine m_y (v := .pointer (some ⟨b2, o2, none⟩)) 20 rfl (by kernel_rfl) rfl rfl (fun w' e' => y_fld (o := o2 + 0) T149.fld_30_0_0 rfl) ?_
    refine m_y (v := .slice afe nfe cfe) 21 rfl (by kernel_rfl) rfl rfl (fun w' e' => y_load T149.one_24 rfl (((B0_52.s 4 rfl).ext0 e').cell (j := 0) rfl)) ?_
    refine m_y (v := .int .i64 (atI wd hi x y)) 22 rfl (by kernel_rfl) rfl rfl (fun w' e' => y_move rfl) ?_
    refine m_y (v := .pointer (some (sat afe ((atI wd hi x y).toNat * 1)))) 23 rfl (by kernel_rfl) rfl rfl (fun w' e' => y_idx T149.sl_24_34_1 rfl rfl ((B.r 1 rfl).addr (by omega)) (by omega) (by omega)) ?_
    obtain ⟨r58, hr59, hR57⟩ := Rd.atF (B0_52.r 1 rfl) (atI wd hi x y) (by omega) (by omega)
    refine m_y (v := .float .f32 r58) 24 rfl (by kernel_rfl) rfl rfl (fun w' e' => y_load T149.one_34 rfl ((hR57.ext0 e').cell (i := 0) rfl)) ?_
    refine m_k 15 [16, 17, 25, 26, 27, 28] rfl (by kernel_rfl) rfl rfl (fun w60 e61 => ?_)
    replace R53 := R53.trans (Ext0.any e61)
    replace B := B.ext0 e61
    clear e61
    refine k_call T149.fn_140 (c_s_l03At (B.s 0 rfl) (by omega) (by omega) (by omega) (by omega) (by omega) (by omega) (by omega) (by omega)) rfl ?_
    rintro _ w62 ⟨rfl, e63⟩
    replace R53 := R53.trans (Ext0.any e63)
    replace B := B.ext0 e63
    clear e63
    refine ⟨fun _ => R53, ?_⟩
    have hat64 := atI_b (wd := wd) (hi := hi) (x := x) (y := y + 1) (by omega) (by omega)
    refine m_y (v := .pointer (some (sat afe ((atI wd hi x (y + 1)).toNat * 1)))) 16 rfl (by kernel_rfl) rfl rfl (fun w' e' => y_idx T149.sl_24_34_1 rfl rfl ((B.r 1 rfl).addr (by omega)) (by omega) (by omega)) ?_
    obtain ⟨r66, hr67, hR65⟩ := Rd.atF (B0_52.r 1 rfl) (atI wd hi x (y + 1)) (by omega) (by omega)
    refine m_y (v := .float .f32 r66) 17 rfl (by kernel_rfl) rfl rfl (fun w' e' => y_load T149.one_34 rfl ((hR65.ext0 e').cell (i := 0) rfl)) ?_
    refine m_n 25 [26, 27, 28] rfl (by kernel_rfl) rfl rfl (fun w' e' => n_arith (by decide) rfl rfl) ?_
    rintro _ ⟨r69, rfl, hr70⟩
    have hc73 := fopC hr70 hr67 hr59
    refine m_n 26 [27, 28] rfl (by kernel_rfl) rfl rfl (fun w' e' => n_arith (by decide) rfl rfl) ?_
    rintro _ ⟨r75, rfl, hr76⟩
    have hc79 := fopC hr76 (cnLit (k := .f32) (t := 1056964608) (by kernel_rfl) (by kernel_rfl)) hc73
    refine m_n 27 [28] rfl (by kernel_rfl) rfl rfl (fun w' e' => n_arith (by decide) rfl rfl) ?_
    rintro _ ⟨r81, rfl, hr82⟩
    have hc85 := fopC hr82 hr56 hc79
    refine m_y (v := .float .f32 r81) 28 rfl (by kernel_rfl) rfl rfl (fun w' e' => y_assign rfl) ?_
    refine m_done (by kernel_rfl) (fun w86 e87 => ?_)
    replace B := B.ext0 e87
    clear e87
    clear B0_52 R53
    refine W_ret ?_
    refine ret1 (v := .float .f32 r81) rfl rfl rfl ⟨_, rfl, ?_⟩
    have hcc : (true || decide (y < hi - 1)) = true := by first | rfl | (rw [Bool.false_or]; exact decide_eq_true (by omega))
    exact ⟨⟨_, rfl, cnT hc85 (by unfold hxF; rw [if_pos hcc])⟩, B.ext⟩
namespace T150
theorem mx : Try.prog.follows .mixedOrders = true := by kernel_rfl
theorem fld_26_0_0 : fldB Try.prog 26 0 0 = true := by kernel_rfl
theorem fld_26_2_2 : fldB Try.prog 26 2 2 = true := by kernel_rfl
theorem fld_30_0_0 : fldB Try.prog 30 0 0 = true := by kernel_rfl
theorem fld_30_2_2 : fldB Try.prog 30 2 2 = true := by kernel_rfl
theorem fn_140 : fnB Try.prog 140 = true := by kernel_rfl
theorem one_2 : oneB Try.prog 2 = true := by kernel_rfl
theorem one_24 : oneB Try.prog 24 = true := by kernel_rfl
theorem one_34 : oneB Try.prog 34 = true := by kernel_rfl
theorem one_4 : oneB Try.prog 4 = true := by kernel_rfl
theorem sl_24_34_1 : slB Try.prog 24 34 1 = true := by kernel_rfl
end T150
set_option maxRecDepth 100000 in
set_option maxHeartbeats 4000000 in
theorem c_s_l03HalfY {b : Nat} {o : Nat} {wd : Int} {hi : Int} {wr : Bool} {asp : Option Addr} {nsp : Nat} {csp : Nat} {als : Option Addr} {nls : Nat} {cls : Nat} {b2 : Nat} {o2 : Nat} {afe : Option Addr} {nfe : Nat} {cfe : Nat} {Xfe : List Nat} {afx : Option Addr} {nfx : Nat} {cfx : Nat} {Xfx : List Nat} {afy : Option Addr} {nfy : Nat} {cfy : Nat} {Xfy : List Nat} {x : Int} {y : Int} {w : World} (Pb : Sl w (some ⟨b, o, none⟩) [.int .i64 wd, .int .i64 hi, .bool wr, .slice asp nsp csp, .slice als nls cls]) (qfe : Rd w kF afe nfe Xfe) (qfx : Rd w kF afx nfx Xfx) (qfy : Rd w kF afy nfy Xfy) (Pb2 : Sl w (some ⟨b2, o2, none⟩) [.slice afe nfe cfe, .slice afx nfx cfx, .slice afy nfy cfy]) (h1 : 3 ≤ wd) (h2 : wd ≤ 16) (h3 : 3 ≤ hi) (h4 : hi ≤ 16) (gfe : (nfe : Int) = wd * hi) (gfx : (nfx : Int) = wd * hi) (gfy : (nfy : Int) = wd * hi) (p1 : 0 ≤ x) (p2 : x < wd) (p3 : 0 ≤ y) (p4 : y < hi) :
    Calls Try.prog 150 #[.pointer (some ⟨b, o, none⟩), .pointer (some ⟨b2, o2, none⟩), .int .i64 x, .int .i64 y] w (Rt fun v w' => (∃ r, v = .float .f32 r ∧ Cn .f32 r (hyF wd hi wr Xfe Xfy x y)) ∧ Ext0 w w') := by
  have hlfe := qfe.len
  have hlfx := qfx.len
  have hlfy := qfy.len
  have B : Bu w no w [.sl (some ⟨b, o, none⟩) [.int .i64 wd, .int .i64 hi, .bool wr, .slice asp nsp csp, .slice als nls cls], .rd kF afe nfe Xfe, .rd kF afx nfx Xfx, .rd kF afy nfy Xfy, .sl (some ⟨b2, o2, none⟩) [.slice afe nfe cfe, .slice afx nfx cfx, .slice afy nfy cfy]] := Bu.ro (All.cons Pb (All.cons qfe (All.cons qfx (All.cons qfy (All.cons Pb2 All.nil))))) rfl
  refine calls_W (n := 63) Try.func150 rfl rfl (Nat.le_of_ble_eq_true rfl) ?_
  refine W_seq ?_
  refine W_region (by kernel_rfl) ?_
  refine s_y (v := .float .f32 0) rfl (y_assign rfl) ?_
  refine s_nil ?_
  refine W_seq ?_
  refine W_region (by kernel_rfl) ?_
  refine s_y (v := .pointer (some ⟨b, o, none⟩)) rfl (y_move rfl) ?_
  refine s_y (v := .int .i64 x) rfl (y_move rfl) ?_
  refine s_y (v := .int .i64 y) rfl (y_move rfl) ?_
  refine s_k rfl (k_call T150.fn_140 (c_s_l03At (B.s 0 rfl) (by omega) (by omega) (by omega) (by omega) (by omega) (by omega) (by omega) (by omega)) rfl ?_)
  rintro _ w1 ⟨rfl, e2⟩
  replace B := B.ext0 e2
  clear e2
  have hat3 := atI_b (wd := wd) (hi := hi) (x := x) (y := y) (by omega) (by omega)
  refine s_y (v := .int .i64 (atI wd hi x y)) rfl (y_assign rfl) ?_
  refine s_nil ?_
  refine W_seq ?_
  refine W_seq ?_
  refine W_region (by kernel_rfl) ?_
  refine s_y (v := .pointer (some ⟨b, o, none⟩)) rfl (y_move rfl) ?_
  refine s_y (v := .pointer (some ⟨b, o, none⟩)) rfl (y_nil rfl) ?_
  refine s_y (v := .pointer (some ⟨b, o + 2, none⟩)) rfl (y_fld (o := o + 0) T150.fld_26_2_2 rfl) ?_
  refine s_y (v := .bool wr) rfl (y_load T150.one_4 rfl ((B.s 0 rfl).cell (j := 2) rfl)) ?_
  refine s_y (v := .bool (!wr)) rfl (y_not rfl rfl) ?_
  refine s_y (v := .bool (!wr)) rfl (y_move rfl) ?_
  cases wr
  · refine s_y (v := .int .i64 x) rfl (y_move rfl) ?_
    refine s_y (v := .pointer (some ⟨b, o, none⟩)) rfl (y_move rfl) ?_
    refine s_y (v := .pointer (some ⟨b, o, none⟩)) rfl (y_nil rfl) ?_
    refine s_y (v := .pointer (some ⟨b, o, none⟩)) rfl (y_fld (o := o + 0) T150.fld_26_0_0 rfl) ?_
    refine s_y (v := .int .i64 wd) rfl (y_load T150.one_2 rfl ((B.s 0 rfl).cell (j := 0) rfl)) ?_
    refine s_y (v := .int .i64 (wd - 1)) rfl (y_sub rfl rfl rfl (by omega)) ?_
    by_cases c4 : x = (wd - 1)
    · refine s_y (v := .bool true) rfl (y_eql rfl rfl (decide_eq_true c4)) ?_
      refine s_y (v := .bool true) rfl (y_pick_t rfl rfl) ?_
      refine s_nil ?_
      refine W_if_t (by decide) rfl ?_
      refine W_seq ?_
      refine W_region (by kernel_rfl) ?_
      refine s_y (v := .pointer (some ⟨b2, o2, none⟩)) rfl (y_move rfl) ?_
      refine s_y (v := .pointer (some ⟨b2, o2, none⟩)) rfl (y_nil rfl) ?_
      refine s_y (v := .pointer (some ⟨b2, o2 + 2, none⟩)) rfl (y_fld (o := o2 + 0) T150.fld_30_2_2 rfl) ?_
      refine s_y (v := .slice afy nfy cfy) rfl (y_load T150.one_24 rfl ((B.s 4 rfl).cell (j := 2) rfl)) ?_
      refine s_y (v := .int .i64 (atI wd hi x y)) rfl (y_move rfl) ?_
      refine s_y (v := .pointer (some (sat afy ((atI wd hi x y).toNat * 1)))) rfl (y_idx T150.sl_24_34_1 rfl rfl ((B.r 3 rfl).addr (by omega)) (by omega) (by omega)) ?_
      obtain ⟨r6, hr7, hR5⟩ := Rd.atF (B.r 3 rfl) (atI wd hi x y) (by omega) (by omega)
      refine s_y (v := .float .f32 r6) rfl (y_load T150.one_34 rfl (hR5.cell (i := 0) rfl)) ?_
      refine s_y (v := .float .f32 r6) rfl (y_assign rfl) ?_
      refine s_nil ?_
      refine W_ret ?_
      refine ret1 (v := .float .f32 r6) rfl rfl rfl ⟨_, rfl, ?_⟩
      have hcc : (false || decide (x < wd - 1)) = false := by first | rfl | (rw [Bool.false_or]; exact decide_eq_false (by omega))
      exact ⟨⟨_, rfl, cnT hr7 (hy_no hcc)⟩, B.ext⟩
    · refine s_y (v := .bool false) rfl (y_eql rfl rfl (decide_eq_false c4)) ?_
      refine s_y (v := .bool false) rfl (y_pick_t rfl rfl) ?_
      refine s_nil ?_
      refine W_if_f (by decide) rfl ?_
      refine W_skip ?_
      refine W_seq ?_
      have B0_12 := B
      refine W_draw (no) T150.mx (by kernel_rfl) (fun w10 e11 => ?_)
      have R13 := Ext.refl (no) w1
      replace R13 := R13.trans (Ext0.any e11)
      replace B := B.ext0 e11
      clear e11
      refine m_y (v := .pointer (some ⟨b2, o2, none⟩)) 0 rfl (by kernel_rfl) rfl rfl (fun w' e' => y_move rfl) ?_
      refine m_y (v := .pointer (some ⟨b2, o2, none⟩)) 1 rfl (by kernel_rfl) rfl rfl (fun w' e' => y_nil rfl) ?_
      refine m_y (v := .pointer (some ⟨b2, o2 + 2, none⟩)) 2 rfl (by kernel_rfl) rfl rfl (fun w' e' => y_fld (o := o2 + 0) T150.fld_30_2_2 rfl) ?_
      refine m_y (v := .slice afy nfy cfy) 3 rfl (by kernel_rfl) rfl rfl (fun w' e' => y_load T150.one_24 rfl (((B0_12.s 4 rfl).ext0 e').cell (j := 2) rfl)) ?_
      refine m_y (v := .int .i64 (atI wd hi x y)) 4 rfl (by kernel_rfl) rfl rfl (fun w' e' => y_move rfl) ?_
      refine m_y (v := .pointer (some (sat afy ((atI wd hi x y).toNat * 1)))) 5 rfl (by kernel_rfl) rfl rfl (fun w' e' => y_idx T150.sl_24_34_1 rfl rfl ((B.r 3 rfl).addr (by omega)) (by omega) (by omega)) ?_
      obtain ⟨r15, hr16, hR14⟩ := Rd.atF (B0_12.r 3 rfl) (atI wd hi x y) (by omega) (by omega)
      refine m_y (v := .float .f32 r15) 6 rfl (by kernel_rfl) rfl rfl (fun w' e' => y_load T150.one_34 rfl ((hR14.ext0 e').cell (i := 0) rfl)) ?_
      refine m_y (v := .pointer (some ⟨b2, o2, none⟩)) 7 rfl (by kernel_rfl) rfl rfl (fun w' e' => y_move rfl) ?_
      refine m_y (v := .pointer (some ⟨b2, o2, none⟩)) 8 rfl (by kernel_rfl) rfl rfl (fun w' e' => y_nil rfl) ?_
      refine m_y (v := .pointer (some ⟨b2, o2, none⟩)) 9 rfl (by kernel_rfl) rfl rfl (fun w' e' => y_fld (o := o2 + 0) T150.fld_30_0_0 rfl) ?_
      refine m_y (v := .slice afe nfe cfe) 10 rfl (by kernel_rfl) rfl rfl (fun w' e' => y_load T150.one_24 rfl (((B0_12.s 4 rfl).ext0 e').cell (j := 0) rfl)) ?_
      refine m_y (v := .pointer (some ⟨b, o, none⟩)) 11 rfl (by kernel_rfl) rfl rfl (fun w' e' => y_move rfl) ?_
      refine m_y (v := .int .i64 x) 12 rfl (by kernel_rfl) rfl rfl (fun w' e' => y_move rfl) ?_
      refine m_y (v := .int .i64 (x + 1)) 13 rfl (by kernel_rfl) rfl rfl (fun w' e' => y_add rfl rfl rfl (by omega)) ?_
      refine m_y (v := .int .i64 y) 14 rfl (by kernel_rfl) rfl rfl (fun w' e' => y_move rfl) ?_
      refine m_y (v := .pointer (some ⟨b2, o2, none⟩)) 18 rfl (by kernel_rfl) rfl rfl (fun w' e' => y_move rfl) ?_
      refine m_y (v := .pointer (some ⟨b2, o2, none⟩)) 19 rfl (by kernel_rfl) rfl rfl (fun w' e' => y_nil rfl) ?_
      refine m_y (v := .pointer (some ⟨b2, o2, none⟩)) 20 rfl (by kernel_rfl) rfl rfl (fun w' e' => y_fld (o := o2 + 0) T150.fld_30_0_0 rfl) ?_
      refine m_y (v := .slice afe nfe cfe) 21 rfl (by kernel_rfl) rfl rfl (fun w' e' => y_load T150.one_24 rfl (((B0_12.s 4 rfl).ext0 e').cell (j := 0) rfl)) ?_
      refine m_y (v := .int .i64 (atI wd hi x y)) 22 rfl (by kernel_rfl) rfl rfl (fun w' e' => y_move rfl) ?_
      refine m_y (v := .pointer (some (sat afe ((atI wd hi x y).toNat * 1)))) 23 rfl (by kernel_rfl) rfl rfl (fun w' e' => y_idx T150.sl_24_34_1 rfl rfl ((B.r 1 rfl).addr (by omega)) (by omega) (by omega)) ?_
      obtain ⟨r18, hr19, hR17⟩ := Rd.atF (B0_12.r 1 rfl) (atI wd hi x y) (by omega) (by omega)
      refine m_y (v := .float .f32 r18) 24 rfl (by kernel_rfl) rfl rfl (fun w' e' => y_load T150.one_34 rfl ((hR17.ext0 e').cell (i := 0) rfl)) ?_
      refine m_k 15 [16, 17, 25, 26, 27, 28] rfl (by kernel_rfl) rfl rfl (fun w20 e21 => ?_)
      replace R13 := R13.trans (Ext0.any e21)
      replace B := B.ext0 e21
      clear e21
      refine k_call T150.fn_140 (c_s_l03At (B.s 0 rfl) (by omega) (by omega) (by omega) (by omega) (by omega) (by omega) (by omega) (by omega)) rfl ?_
      rintro _ w22 ⟨rfl, e23⟩
      replace R13 := R13.trans (Ext0.any e23)
      replace B := B.ext0 e23
      clear e23
      refine ⟨fun _ => R13, ?_⟩
      have hat24 := atI_b (wd := wd) (hi := hi) (x := x + 1) (y := y) (by omega) (by omega)
      refine m_y (v := .pointer (some (sat afe ((atI wd hi (x + 1) y).toNat * 1)))) 16 rfl (by kernel_rfl) rfl rfl (fun w' e' => y_idx T150.sl_24_34_1 rfl rfl ((B.r 1 rfl).addr (by omega)) (by omega) (by omega)) ?_
      obtain ⟨r26, hr27, hR25⟩ := Rd.atF (B0_12.r 1 rfl) (atI wd hi (x + 1) y) (by omega) (by omega)
      refine m_y (v := .float .f32 r26) 17 rfl (by kernel_rfl) rfl rfl (fun w' e' => y_load T150.one_34 rfl ((hR25.ext0 e').cell (i := 0) rfl)) ?_
      refine m_n 25 [26, 27, 28] rfl (by kernel_rfl) rfl rfl (fun w' e' => n_arith (by decide) rfl rfl) ?_
      rintro _ ⟨r29, rfl, hr30⟩
      have hc33 := fopC hr30 hr27 hr19
      refine m_n 26 [27, 28] rfl (by kernel_rfl) rfl rfl (fun w' e' => n_arith (by decide) rfl rfl) ?_
      rintro _ ⟨r35, rfl, hr36⟩
      have hc39 := fopC hr36 (cnLit (k := .f32) (t := 1056964608) (by kernel_rfl) (by kernel_rfl)) hc33
      refine m_n 27 [28] rfl (by kernel_rfl) rfl rfl (fun w' e' => n_arith (by decide) rfl rfl) ?_
      rintro _ ⟨r41, rfl, hr42⟩
      have hc45 := fopC hr42 hr16 hc39
      refine m_y (v := .float .f32 r41) 28 rfl (by kernel_rfl) rfl rfl (fun w' e' => y_assign rfl) ?_
      refine m_done (by kernel_rfl) (fun w46 e47 => ?_)
      replace B := B.ext0 e47
      clear e47
      clear B0_12 R13
      refine W_ret ?_
      refine ret1 (v := .float .f32 r41) rfl rfl rfl ⟨_, rfl, ?_⟩
      have hcc : (false || decide (x < wd - 1)) = true := by first | rfl | (rw [Bool.false_or]; exact decide_eq_true (by omega))
      exact ⟨⟨_, rfl, cnT hc45 (by unfold hyF; rw [if_pos hcc])⟩, B.ext⟩
  · refine s_skip rfl ?_
    refine s_skip rfl ?_
    refine s_skip rfl ?_
    refine s_skip rfl ?_
    refine s_skip rfl ?_
    refine s_skip rfl ?_
    refine s_skip rfl ?_
    refine s_y (v := .bool false) rfl (y_pick_f rfl rfl) ?_
    refine s_nil ?_
    refine W_if_f (by decide) rfl ?_
    refine W_skip ?_
    refine W_seq ?_
    have B0_52 := B
    refine W_draw (no) T150.mx (by kernel_rfl) (fun w50 e51 => ?_)
    have R53 := Ext.refl (no) w1
    replace R53 := R53.trans (Ext0.any e51)
    replace B := B.ext0 e51
    clear e51
    refine m_y (v := .pointer (some ⟨b2, o2, none⟩)) 0 rfl (by kernel_rfl) rfl rfl (fun w' e' => y_move rfl) ?_
    refine m_y (v := .pointer (some ⟨b2, o2, none⟩)) 1 rfl (by kernel_rfl) rfl rfl (fun w' e' => y_nil rfl) ?_
    refine m_y (v := .pointer (some ⟨b2, o2 + 2, none⟩)) 2 rfl (by kernel_rfl) rfl rfl (fun w' e' => y_fld (o := o2 + 0) T150.fld_30_2_2 rfl) ?_
    refine m_y (v := .slice afy nfy cfy) 3 rfl (by kernel_rfl) rfl rfl (fun w' e' => y_load T150.one_24 rfl (((B0_52.s 4 rfl).ext0 e').cell (j := 2) rfl)) ?_
    refine m_y (v := .int .i64 (atI wd hi x y)) 4 rfl (by kernel_rfl) rfl rfl (fun w' e' => y_move rfl) ?_
    refine m_y (v := .pointer (some (sat afy ((atI wd hi x y).toNat * 1)))) 5 rfl (by kernel_rfl) rfl rfl (fun w' e' => y_idx T150.sl_24_34_1 rfl rfl ((B.r 3 rfl).addr (by omega)) (by omega) (by omega)) ?_
    obtain ⟨r55, hr56, hR54⟩ := Rd.atF (B0_52.r 3 rfl) (atI wd hi x y) (by omega) (by omega)
    refine m_y (v := .float .f32 r55) 6 rfl (by kernel_rfl) rfl rfl (fun w' e' => y_load T150.one_34 rfl ((hR54.ext0 e').cell (i := 0) rfl)) ?_
    refine m_y (v := .pointer (some ⟨b2, o2, none⟩)) 7 rfl (by kernel_rfl) rfl rfl (fun w' e' => y_move rfl) ?_
    refine m_y (v := .pointer (some ⟨b2, o2, none⟩)) 8 rfl (by kernel_rfl) rfl rfl (fun w' e' => y_nil rfl) ?_
    refine m_y (v := .pointer (some ⟨b2, o2, none⟩)) 9 rfl (by kernel_rfl) rfl rfl (fun w' e' => y_fld (o := o2 + 0) T150.fld_30_0_0 rfl) ?_
    refine m_y (v := .slice afe nfe cfe) 10 rfl (by kernel_rfl) rfl rfl (fun w' e' => y_load T150.one_24 rfl (((B0_52.s 4 rfl).ext0 e').cell (j := 0) rfl)) ?_
    refine m_y (v := .pointer (some ⟨b, o, none⟩)) 11 rfl (by kernel_rfl) rfl rfl (fun w' e' => y_move rfl) ?_
    refine m_y (v := .int .i64 x) 12 rfl (by kernel_rfl) rfl rfl (fun w' e' => y_move rfl) ?_
    refine m_y (v := .int .i64 (x + 1)) 13 rfl (by kernel_rfl) rfl rfl (fun w' e' => y_add rfl rfl rfl (by omega)) ?_
    refine m_y (v := .int .i64 y) 14 rfl (by kernel_rfl) rfl rfl (fun w' e' => y_move rfl) ?_
    refine m_y (v := .pointer (some ⟨b2, o2, none⟩)) 18 rfl (by kernel_rfl) rfl rfl (fun w' e' => y_move rfl) ?_
    refine m_y (v := .pointer (some ⟨b2, o2, none⟩)) 19 rfl (by kernel_rfl) rfl rfl (fun w' e' => y_nil rfl) ?_
    refine m_y (v := .pointer (some ⟨b2, o2, none⟩)) 20 rfl (by kernel_rfl) rfl rfl (fun w' e' => y_fld (o := o2 + 0) T150.fld_30_0_0 rfl) ?_
    refine m_y (v := .slice afe nfe cfe) 21 rfl (by kernel_rfl) rfl rfl (fun w' e' => y_load T150.one_24 rfl (((B0_52.s 4 rfl).ext0 e').cell (j := 0) rfl)) ?_
    refine m_y (v := .int .i64 (atI wd hi x y)) 22 rfl (by kernel_rfl) rfl rfl (fun w' e' => y_move rfl) ?_
    refine m_y (v := .pointer (some (sat afe ((atI wd hi x y).toNat * 1)))) 23 rfl (by kernel_rfl) rfl rfl (fun w' e' => y_idx T150.sl_24_34_1 rfl rfl ((B.r 1 rfl).addr (by omega)) (by omega) (by omega)) ?_
    obtain ⟨r58, hr59, hR57⟩ := Rd.atF (B0_52.r 1 rfl) (atI wd hi x y) (by omega) (by omega)
    refine m_y (v := .float .f32 r58) 24 rfl (by kernel_rfl) rfl rfl (fun w' e' => y_load T150.one_34 rfl ((hR57.ext0 e').cell (i := 0) rfl)) ?_
    refine m_k 15 [16, 17, 25, 26, 27, 28] rfl (by kernel_rfl) rfl rfl (fun w60 e61 => ?_)
    replace R53 := R53.trans (Ext0.any e61)
    replace B := B.ext0 e61
    clear e61
    refine k_call T150.fn_140 (c_s_l03At (B.s 0 rfl) (by omega) (by omega) (by omega) (by omega) (by omega) (by omega) (by omega) (by omega)) rfl ?_
    rintro _ w62 ⟨rfl, e63⟩
    replace R53 := R53.trans (Ext0.any e63)
    replace B := B.ext0 e63
    clear e63
    refine ⟨fun _ => R53, ?_⟩
    have hat64 := atI_b (wd := wd) (hi := hi) (x := x + 1) (y := y) (by omega) (by omega)
    refine m_y (v := .pointer (some (sat afe ((atI wd hi (x + 1) y).toNat * 1)))) 16 rfl (by kernel_rfl) rfl rfl (fun w' e' => y_idx T150.sl_24_34_1 rfl rfl ((B.r 1 rfl).addr (by omega)) (by omega) (by omega)) ?_
    obtain ⟨r66, hr67, hR65⟩ := Rd.atF (B0_52.r 1 rfl) (atI wd hi (x + 1) y) (by omega) (by omega)
    refine m_y (v := .float .f32 r66) 17 rfl (by kernel_rfl) rfl rfl (fun w' e' => y_load T150.one_34 rfl ((hR65.ext0 e').cell (i := 0) rfl)) ?_
    refine m_n 25 [26, 27, 28] rfl (by kernel_rfl) rfl rfl (fun w' e' => n_arith (by decide) rfl rfl) ?_
    rintro _ ⟨r69, rfl, hr70⟩
    have hc73 := fopC hr70 hr67 hr59
    refine m_n 26 [27, 28] rfl (by kernel_rfl) rfl rfl (fun w' e' => n_arith (by decide) rfl rfl) ?_
    rintro _ ⟨r75, rfl, hr76⟩
    have hc79 := fopC hr76 (cnLit (k := .f32) (t := 1056964608) (by kernel_rfl) (by kernel_rfl)) hc73
    refine m_n 27 [28] rfl (by kernel_rfl) rfl rfl (fun w' e' => n_arith (by decide) rfl rfl) ?_
    rintro _ ⟨r81, rfl, hr82⟩
    have hc85 := fopC hr82 hr56 hc79
    refine m_y (v := .float .f32 r81) 28 rfl (by kernel_rfl) rfl rfl (fun w' e' => y_assign rfl) ?_
    refine m_done (by kernel_rfl) (fun w86 e87 => ?_)
    replace B := B.ext0 e87
    clear e87
    clear B0_52 R53
    refine W_ret ?_
    refine ret1 (v := .float .f32 r81) rfl rfl rfl ⟨_, rfl, ?_⟩
    have hcc : (true || decide (x < wd - 1)) = true := by first | rfl | (rw [Bool.false_or]; exact decide_eq_true (by omega))
    exact ⟨⟨_, rfl, cnT hc85 (by unfold hyF; rw [if_pos hcc])⟩, B.ext⟩
namespace T138
theorem mx : Try.prog.follows .mixedOrders = true := by kernel_rfl
theorem agg_30_3 : aggB Try.prog 30 3 = true := by kernel_rfl
theorem fld_26_0_0 : fldB Try.prog 26 0 0 = true := by kernel_rfl
theorem fld_26_1_1 : fldB Try.prog 26 1 1 = true := by kernel_rfl
theorem fld_30_1_1 : fldB Try.prog 30 1 1 = true := by kernel_rfl
theorem fld_30_2_2 : fldB Try.prog 30 2 2 = true := by kernel_rfl
theorem fn_114 : fnB Try.prog 114 = true := by kernel_rfl
theorem fn_140 : fnB Try.prog 140 = true := by kernel_rfl
theorem fn_149 : fnB Try.prog 149 = true := by kernel_rfl
theorem fn_150 : fnB Try.prog 150 = true := by kernel_rfl
theorem one_2 : oneB Try.prog 2 = true := by kernel_rfl
theorem one_24 : oneB Try.prog 24 = true := by kernel_rfl
theorem sl_24_34_1 : slB Try.prog 24 34 1 = true := by kernel_rfl
theorem sz_30_3 : szB Try.prog 30 3 = true := by kernel_rfl
theorem sz_34_1 : szB Try.prog 34 1 = true := by kernel_rfl
theorem zero_30 : zeroB Try.prog 30 (.agg #[.slice none 0 0, .slice none 0 0, .slice none 0 0]) := by unfold zeroB; kernel_rfl
end T138
set_option maxRecDepth 100000 in
set_option maxHeartbeats 4000000 in
theorem c_s_l03Half {b : Nat} {o : Nat} {wd : Int} {hi : Int} {wr : Bool} {asp : Option Addr} {nsp : Nat} {csp : Nat} {als : Option Addr} {nls : Nat} {cls : Nat} {b2 : Nat} {o2 : Nat} {afe : Option Addr} {nfe : Nat} {cfe : Nat} {Xfe : List Nat} {afx : Option Addr} {nfx : Nat} {cfx : Nat} {Xfx : List Nat} {afy : Option Addr} {nfy : Nat} {cfy : Nat} {Xfy : List Nat} {w : World} (Pb : Sl w (some ⟨b, o, none⟩) [.int .i64 wd, .int .i64 hi, .bool wr, .slice asp nsp csp, .slice als nls cls]) (qfe : Rd w kF afe nfe Xfe) (qfx : Rd w kF afx nfx Xfx) (qfy : Rd w kF afy nfy Xfy) (Pb2 : Sl w (some ⟨b2, o2, none⟩) [.slice afe nfe cfe, .slice afx nfx cfx, .slice afy nfy cfy]) (h1 : 3 ≤ wd) (h2 : wd ≤ 16) (h3 : 3 ≤ hi) (h4 : hi ≤ 16) (gfe : (nfe : Int) = wd * hi) (gfx : (nfx : Int) = wd * hi) (gfy : (nfy : Int) = wd * hi) :
    Calls Try.prog 138 #[.pointer (some ⟨b, o, none⟩), .pointer (some ⟨b2, o2, none⟩)] w (Rt fun v w' => ∃ (a1 : Option Addr) (c1 : Nat) (a2 : Option Addr) (c2 : Nat) (a3 : Option Addr) (c3 : Nat), v = .agg #[.slice a1 nfe c1, .slice a2 nfx c2, .slice a3 nfy c3] ∧ New w w' [.ow kF a1 nfe c1 34 Xfe, .ow kF a2 nfx c2 34 (hxL wd hi wr Xfe Xfx), .ow kF a3 nfy c3 34 (hyL wd hi wr Xfe Xfy)]) := by
  have hlfe := qfe.len
  have hlfx := qfx.len
  have hlfy := qfy.len
  have B : Bu w no w [.sl (some ⟨b, o, none⟩) [.int .i64 wd, .int .i64 hi, .bool wr, .slice asp nsp csp, .slice als nls cls], .rd kF afe nfe Xfe, .rd kF afx nfx Xfx, .rd kF afy nfy Xfy, .sl (some ⟨b2, o2, none⟩) [.slice afe nfe cfe, .slice afx nfx cfx, .slice afy nfy cfy]] := Bu.ro (All.cons Pb (All.cons qfe (All.cons qfx (All.cons qfy (All.cons Pb2 All.nil))))) rfl
  have hwh := mul16 (And.intro (And.intro h1 h2) (And.intro h3 h4))
  refine calls_W (n := 50) Try.func138 rfl rfl (Nat.le_of_ble_eq_true rfl) ?_
  refine W_seq ?_
  refine W_region (by kernel_rfl) ?_
  refine s_k rfl (k_allocN (z := (.agg #[.slice none 0 0, .slice none 0 0, .slice none 0 0])) (cs := [.slice none 0 0, .slice none 0 0, .slice none 0 0]) T138.zero_30 rfl (fun b1 w2 hN3 => ?_))
  replace B := B.new1 hN3
  clear hN3
  refine s_nil ?_
  refine W_seq ?_
  refine W_region (by kernel_rfl) ?_
  refine s_y (v := .pointer (some ⟨b2, o2, none⟩)) rfl (y_move rfl) ?_
  refine s_k rfl (k_call T138.fn_114 (c_s_l02Own (B.r 2 rfl) (B.r 3 rfl) (B.r 4 rfl) (B.s 5 rfl) (by omega) (by omega) (by omega)) rfl ?_)
  rintro _ w4 ⟨a5, c6, a7, c8, a9, c10, rfl, hN11⟩
  replace B := B.new3 hN11
  clear hN11
  refine s_k rfl (k_allocN (z := (.agg #[.slice none 0 0, .slice none 0 0, .slice none 0 0])) (cs := [.slice none 0 0, .slice none 0 0, .slice none 0 0]) T138.zero_30 rfl (fun b12 w13 hN14 => ?_))
  replace B := B.new1 hN14
  clear hN14
  refine s_k0 rfl (k_stB (v := .agg #[.slice a5 nfe c6, .slice a7 nfx c8, .slice a9 nfy c10]) (n := 3) (cs' := [.slice a5 nfe c6, .slice a7 nfx c8, .slice a9 nfy c10]) T138.sz_30_3 rfl rfl rfl (B.b 0 rfl) (by simp [Value.cells, Value.oneCell']) (Nat.le_of_ble_eq_true rfl) rfl (fun w15 hU16 => ?_))
  replace B : Bu w no w15 [.blk b12 [.slice a5 nfe c6, .slice a7 nfx c8, .slice a9 nfy c10] 30, .ow kF a5 nfe c6 34 Xfe, .ow kF a7 nfx c8 34 Xfx, .ow kF a9 nfy c10 34 Xfy, .blk b1 [.slice none 0 0, .slice none 0 0, .slice none 0 0] 30, .sl (some ⟨b, o, none⟩) [.int .i64 wd, .int .i64 hi, .bool wr, .slice asp nsp csp, .slice als nls cls], .rd kF afe nfe Xfe, .rd kF afx nfx Xfx, .rd kF afy nfy Xfy, .sl (some ⟨b2, o2, none⟩) [.slice afe nfe cfe, .slice afx nfx cfx, .slice afy nfy cfy]] := B.upd [0] rfl hU16
  clear hU16
  refine s_nil ?_
  refine W_seq ?_
  refine W_seq ?_
  refine W_region (by kernel_rfl) ?_
  refine s_y (v := .int .i64 0) rfl (y_assign rfl) ?_
  refine s_nil ?_
  refine W_block ?_
  refine W_loop (fun ρ' w' => ∃ (ρ1 : Env) (py : Int), ρ' = updL ρ1 [(0, .pointer (some ⟨b, o, none⟩)), (1, .pointer (some ⟨b2, o2, none⟩)), (4, .pointer (some ⟨b1, 0, none⟩)), (5, .pointer (some ⟨b12, 0, none⟩)), (6, .int .i64 py)] ∧ Bu w no w' [.ow kF a7 nfx c8 34 (mix (wd * hi) (wd * py) (fun i => hxF wd hi wr Xfe Xfx (i % wd) (i / wd)) Xfx), .ow kF a9 nfy c10 34 (mix (wd * hi) (wd * py) (fun i => hyF wd hi wr Xfe Xfy (i % wd) (i / wd)) Xfy), .blk b12 [.slice a5 nfe c6, .slice a7 nfx c8, .slice a9 nfy c10] 30, .ow kF a5 nfe c6 34 Xfe, .blk b1 [.slice none 0 0, .slice none 0 0, .slice none 0 0] 30, .sl (some ⟨b, o, none⟩) [.int .i64 wd, .int .i64 hi, .bool wr, .slice asp nsp csp, .slice als nls cls], .rd kF afe nfe Xfe, .rd kF afx nfx Xfx, .rd kF afy nfy Xfy, .sl (some ⟨b2, o2, none⟩) [.slice afe nfe cfe, .slice afx nfx cfx, .slice afy nfy cfy]] ∧ (0 ≤ py) ∧ (py ≤ hi)) (fun ρ' _ => (hi - iv (ρ' 6)).toNat) ?_ ?_
  · replace B : Bu w no w15 [.blk b12 [.slice a5 nfe c6, .slice a7 nfx c8, .slice a9 nfy c10] 30, .ow kF a5 nfe c6 34 Xfe, .ow kF a7 nfx c8 34 (mix (wd * hi) (wd * 0) (fun i => hxF wd hi wr Xfe Xfx (i % wd) (i / wd)) Xfx), .ow kF a9 nfy c10 34 Xfy, .blk b1 [.slice none 0 0, .slice none 0 0, .slice none 0 0] 30, .sl (some ⟨b, o, none⟩) [.int .i64 wd, .int .i64 hi, .bool wr, .slice asp nsp csp, .slice als nls cls], .rd kF afe nfe Xfe, .rd kF afx nfx Xfx, .rd kF afy nfy Xfy, .sl (some ⟨b2, o2, none⟩) [.slice afe nfe cfe, .slice afx nfx cfx, .slice afy nfy cfy]] := B.castX 2 rfl rfl ((mix_zero (by omega)).trans (congrArg (fun q => mix (wd * hi) q (fun i => hxF wd hi wr Xfe Xfx (i % wd) (i / wd)) _) (Int.mul_zero wd).symm))
    replace B : Bu w no w15 [.blk b12 [.slice a5 nfe c6, .slice a7 nfx c8, .slice a9 nfy c10] 30, .ow kF a5 nfe c6 34 Xfe, .ow kF a7 nfx c8 34 (mix (wd * hi) (wd * 0) (fun i => hxF wd hi wr Xfe Xfx (i % wd) (i / wd)) Xfx), .ow kF a9 nfy c10 34 (mix (wd * hi) (wd * 0) (fun i => hyF wd hi wr Xfe Xfy (i % wd) (i / wd)) Xfy), .blk b1 [.slice none 0 0, .slice none 0 0, .slice none 0 0] 30, .sl (some ⟨b, o, none⟩) [.int .i64 wd, .int .i64 hi, .bool wr, .slice asp nsp csp, .slice als nls cls], .rd kF afe nfe Xfe, .rd kF afx nfx Xfx, .rd kF afy nfy Xfy, .sl (some ⟨b2, o2, none⟩) [.slice afe nfe cfe, .slice afx nfx cfx, .slice afy nfy cfy]] := B.castX 3 rfl rfl ((mix_zero (by omega)).trans (congrArg (fun q => mix (wd * hi) q (fun i => hyF wd hi wr Xfe Xfy (i % wd) (i / wd)) _) (Int.mul_zero wd).symm))
    exact ⟨_, 0, Fits.eq ⟨rfl, rfl, rfl, rfl, rfl, trivial⟩, (B.pick [2, 3, 0, 1, 4, 5, 6, 7, 8, 9] rfl rfl), (Int.le_refl _), (by omega)⟩
  · clear B; rintro _ w17 ⟨ρ18, py, rfl, B, h0py, h1py⟩
    refine W_seq ?_
    refine W_seq ?_
    refine W_region (by kernel_rfl) ?_
    refine s_y (v := .int .i64 py) rfl (y_move rfl) ?_
    refine s_y (v := .pointer (some ⟨b, o, none⟩)) rfl (y_move rfl) ?_
    refine s_y (v := .pointer (some ⟨b, o, none⟩)) rfl (y_nil rfl) ?_
    refine s_y (v := .pointer (some ⟨b, o + 1, none⟩)) rfl (y_fld (o := o + 0) T138.fld_26_1_1 rfl) ?_
    refine s_y (v := .int .i64 hi) rfl (y_load T138.one_2 rfl ((B.s 5 rfl).cell (j := 1) rfl)) ?_
    by_cases c19 : py < hi
    · refine s_y (v := .bool true) rfl (y_lss rfl rfl (decide_eq_true c19)) ?_
      refine s_nil ?_
      refine W_if_t (by decide) rfl ?_
      refine W_skip ?_
      refine W_seq ?_
      refine W_block ?_
      refine W_seq ?_
      refine W_region (by kernel_rfl) ?_
      refine s_y (v := .int .i64 0) rfl (y_assign rfl) ?_
      refine s_nil ?_
      refine W_block ?_
      refine W_loop (fun ρ' w' => ∃ (ρ1 : Env) (px : Int), ρ' = updL ρ1 [(0, .pointer (some ⟨b, o, none⟩)), (1, .pointer (some ⟨b2, o2, none⟩)), (4, .pointer (some ⟨b1, 0, none⟩)), (5, .pointer (some ⟨b12, 0, none⟩)), (6, .int .i64 py), (7, .int .i64 px), (11, .int .i64 py), (12, .pointer (some ⟨b, o, none⟩)), (13, .pointer (some ⟨b, o, none⟩)), (14, .pointer (some ⟨b, o + 1, none⟩)), (15, .int .i64 hi), (16, .bool true)] ∧ Bu w no w' [.ow kF a7 nfx c8 34 (mix (wd * hi) (wd * py + px) (fun i => hxF wd hi wr Xfe Xfx (i % wd) (i / wd)) Xfx), .ow kF a9 nfy c10 34 (mix (wd * hi) (wd * py + px) (fun i => hyF wd hi wr Xfe Xfy (i % wd) (i / wd)) Xfy), .blk b12 [.slice a5 nfe c6, .slice a7 nfx c8, .slice a9 nfy c10] 30, .ow kF a5 nfe c6 34 Xfe, .blk b1 [.slice none 0 0, .slice none 0 0, .slice none 0 0] 30, .sl (some ⟨b, o, none⟩) [.int .i64 wd, .int .i64 hi, .bool wr, .slice asp nsp csp, .slice als nls cls], .rd kF afe nfe Xfe, .rd kF afx nfx Xfx, .rd kF afy nfy Xfy, .sl (some ⟨b2, o2, none⟩) [.slice afe nfe cfe, .slice afx nfx cfx, .slice afy nfy cfy]] ∧ (0 ≤ px) ∧ (px ≤ wd)) (fun ρ' _ => (wd - iv (ρ' 7)).toNat) ?_ ?_
      · replace B : Bu w no w17 [.ow kF a7 nfx c8 34 (mix (wd * hi) (wd * py + 0) (fun i => hxF wd hi wr Xfe Xfx (i % wd) (i / wd)) Xfx), .ow kF a9 nfy c10 34 (mix (wd * hi) (wd * py) (fun i => hyF wd hi wr Xfe Xfy (i % wd) (i / wd)) Xfy), .blk b12 [.slice a5 nfe c6, .slice a7 nfx c8, .slice a9 nfy c10] 30, .ow kF a5 nfe c6 34 Xfe, .blk b1 [.slice none 0 0, .slice none 0 0, .slice none 0 0] 30, .sl (some ⟨b, o, none⟩) [.int .i64 wd, .int .i64 hi, .bool wr, .slice asp nsp csp, .slice als nls cls], .rd kF afe nfe Xfe, .rd kF afx nfx Xfx, .rd kF afy nfy Xfy, .sl (some ⟨b2, o2, none⟩) [.slice afe nfe cfe, .slice afx nfx cfx, .slice afy nfy cfy]] := B.castX 0 rfl rfl (congrArg (fun q => mix (wd * hi) q (fun i => hxF wd hi wr Xfe Xfx (i % wd) (i / wd)) _) (Int.add_zero _).symm)
        replace B : Bu w no w17 [.ow kF a7 nfx c8 34 (mix (wd * hi) (wd * py + 0) (fun i => hxF wd hi wr Xfe Xfx (i % wd) (i / wd)) Xfx), .ow kF a9 nfy c10 34 (mix (wd * hi) (wd * py + 0) (fun i => hyF wd hi wr Xfe Xfy (i % wd) (i / wd)) Xfy), .blk b12 [.slice a5 nfe c6, .slice a7 nfx c8, .slice a9 nfy c10] 30, .ow kF a5 nfe c6 34 Xfe, .blk b1 [.slice none 0 0, .slice none 0 0, .slice none 0 0] 30, .sl (some ⟨b, o, none⟩) [.int .i64 wd, .int .i64 hi, .bool wr, .slice asp nsp csp, .slice als nls cls], .rd kF afe nfe Xfe, .rd kF afx nfx Xfx, .rd kF afy nfy Xfy, .sl (some ⟨b2, o2, none⟩) [.slice afe nfe cfe, .slice afx nfx cfx, .slice afy nfy cfy]] := B.castX 1 rfl rfl (congrArg (fun q => mix (wd * hi) q (fun i => hyF wd hi wr Xfe Xfy (i % wd) (i / wd)) _) (Int.add_zero _).symm)
        exact ⟨_, 0, Fits.eq ⟨rfl, rfl, rfl, rfl, rfl, rfl, rfl, rfl, rfl, rfl, rfl, rfl, trivial⟩, B, (Int.le_refl _), (by omega)⟩
      · clear B; rintro _ w20 ⟨ρ21, px, rfl, B, h0px, h1px⟩
        refine W_seq ?_
        refine W_seq ?_
        refine W_region (by kernel_rfl) ?_
        refine s_y (v := .int .i64 px) rfl (y_move rfl) ?_
        refine s_y (v := .pointer (some ⟨b, o, none⟩)) rfl (y_move rfl) ?_
        refine s_y (v := .pointer (some ⟨b, o, none⟩)) rfl (y_nil rfl) ?_
        refine s_y (v := .pointer (some ⟨b, o, none⟩)) rfl (y_fld (o := o + 0) T138.fld_26_0_0 rfl) ?_
        refine s_y (v := .int .i64 wd) rfl (y_load T138.one_2 rfl ((B.s 5 rfl).cell (j := 0) rfl)) ?_
        by_cases c22 : px < wd
        · refine s_y (v := .bool true) rfl (y_lss rfl rfl (decide_eq_true c22)) ?_
          refine s_nil ?_
          refine W_if_t (by decide) rfl ?_
          refine W_skip ?_
          refine W_seq ?_
          refine W_block ?_
          refine W_seq ?_
          refine W_region (by kernel_rfl) ?_
          refine s_y (v := .pointer (some ⟨b, o, none⟩)) rfl (y_move rfl) ?_
          refine s_y (v := .int .i64 px) rfl (y_move rfl) ?_
          refine s_y (v := .int .i64 py) rfl (y_move rfl) ?_
          refine s_k rfl (k_call T138.fn_140 (c_s_l03At (B.s 5 rfl) (by omega) (by omega) (by omega) (by omega) (by omega) (by omega) (by omega) (by omega)) rfl ?_)
          rintro _ w23 ⟨rfl, e24⟩
          replace B := B.ext0 e24
          clear e24
          have hat25 := atI_b (wd := wd) (hi := hi) (x := px) (y := py) (by omega) (by omega)
          refine s_y (v := .int .i64 (atI wd hi px py)) rfl (y_assign rfl) ?_
          refine s_nil ?_
          refine W_seq ?_
          have B0_30 := B
          refine W_draw (no) T138.mx (by kernel_rfl) (fun w28 e29 => ?_)
          have R31 := Ext.refl (no) w23
          replace R31 := R31.trans (Ext0.any e29)
          replace B := B.ext0 e29
          clear e29
          refine m_y (v := .pointer (some ⟨b12, 1, none⟩)) 0 rfl (by kernel_rfl) rfl rfl (fun w' e' => y_fld (o := 0) T138.fld_30_1_1 rfl) ?_
          refine m_y (v := .slice a7 nfx c8) 1 rfl (by kernel_rfl) rfl rfl (fun w' e' => y_load T138.one_24 rfl (((B0_30.b 2 rfl).ext0 e').cell (j := 1) rfl)) ?_
          refine m_y (v := .int .i64 (atI wd hi px py)) 2 rfl (by kernel_rfl) rfl rfl (fun w' e' => y_move rfl) ?_
          refine m_y (v := .pointer (some ⟨b, o, none⟩)) 3 rfl (by kernel_rfl) rfl rfl (fun w' e' => y_move rfl) ?_
          refine m_y (v := .pointer (some ⟨b2, o2, none⟩)) 4 rfl (by kernel_rfl) rfl rfl (fun w' e' => y_move rfl) ?_
          refine m_y (v := .int .i64 px) 5 rfl (by kernel_rfl) rfl rfl (fun w' e' => y_move rfl) ?_
          refine m_y (v := .int .i64 py) 6 rfl (by kernel_rfl) rfl rfl (fun w' e' => y_move rfl) ?_
          refine m_k 7 [8, 9] rfl (by kernel_rfl) rfl rfl (fun w32 e33 => ?_)
          replace R31 := R31.trans (Ext0.any e33)
          replace B := B.ext0 e33
          clear e33
          refine k_call T138.fn_149 (c_s_l03HalfX (B.s 5 rfl) (B.r 6 rfl) (B.r 7 rfl) (B.r 8 rfl) (B.s 9 rfl) (by omega) (by omega) (by omega) (by omega) (by omega) (by omega) (by omega) (by omega) (by omega) (by omega) (by omega)) rfl ?_
          rintro _ w34 ⟨⟨r36, rfl, hr37⟩, e35⟩
          replace R31 := R31.trans (Ext0.any e35)
          replace B := B.ext0 e35
          clear e35
          refine ⟨fun _ => R31, ?_⟩
          refine m_y (v := .pointer (some (sat a7 ((atI wd hi px py).toNat * 1)))) 8 rfl (by kernel_rfl) rfl rfl (fun w' e' => y_idx T138.sl_24_34_1 rfl rfl ((B.o 0 rfl).rd.addr (by omega)) (by omega) (by omega)) ?_
          refine m_kt 9 [] rfl (by kernel_rfl) rfl rfl (by kernel_rfl) (fun w40 e41 => ?_)
          replace R31 := R31.trans (Ext0.any e41)
          replace B := B.ext0 e41
          clear e41
          refine k_stO (k := kF) (i := atI wd hi px py) (j := 0) (x' := hxF wd hi wr Xfe Xfx px py) (new := [.float .f32 r36]) T138.sz_34_1 rfl rfl rfl rfl rfl (by simp [Value.oneCell']) (by decide) (B.o 0 rfl) (by omega) (by omega) (by decide) (by rintro q ⟨_, rfl, _⟩; exact ⟨_, rfl, hr37⟩) (fun w38 hU39 => ?_)
          clear R31
          replace B : Bu w no w38 [.ow kF a7 nfx c8 34 (put (mix (wd * hi) (wd * py + px) (fun i => hxF wd hi wr Xfe Xfx (i % wd) (i / wd)) Xfx) (atI wd hi px py) (hxF wd hi wr Xfe Xfx px py)), .ow kF a9 nfy c10 34 (mix (wd * hi) (wd * py + px) (fun i => hyF wd hi wr Xfe Xfy (i % wd) (i / wd)) Xfy), .blk b12 [.slice a5 nfe c6, .slice a7 nfx c8, .slice a9 nfy c10] 30, .ow kF a5 nfe c6 34 Xfe, .blk b1 [.slice none 0 0, .slice none 0 0, .slice none 0 0] 30, .sl (some ⟨b, o, none⟩) [.int .i64 wd, .int .i64 hi, .bool wr, .slice asp nsp csp, .slice als nls cls], .rd kF afe nfe Xfe, .rd kF afx nfx Xfx, .rd kF afy nfy Xfy, .sl (some ⟨b2, o2, none⟩) [.slice afe nfe cfe, .slice afx nfx cfx, .slice afy nfy cfy]] := B.upd [0] rfl hU39
          clear hU39
          refine m_done (by kernel_rfl) (fun w42 e43 => ?_)
          replace B := B.ext0 e43
          clear e43
          clear B0_30
          have B0_48 := B
          refine W_draw (no) T138.mx (by kernel_rfl) (fun w46 e47 => ?_)
          have R49 := Ext.refl (no) w42
          replace R49 := R49.trans (Ext0.any e47)
          replace B := B.ext0 e47
          clear e47
          refine m_y (v := .pointer (some ⟨b12, 2, none⟩)) 0 rfl (by kernel_rfl) rfl rfl (fun w' e' => y_fld (o := 0) T138.fld_30_2_2 rfl) ?_
          refine m_y (v := .slice a9 nfy c10) 1 rfl (by kernel_rfl) rfl rfl (fun w' e' => y_load T138.one_24 rfl (((B0_48.b 2 rfl).ext0 e').cell (j := 2) rfl)) ?_
          refine m_y (v := .int .i64 (atI wd hi px py)) 2 rfl (by kernel_rfl) rfl rfl (fun w' e' => y_move rfl) ?_
          refine m_y (v := .pointer (some ⟨b, o, none⟩)) 3 rfl (by kernel_rfl) rfl rfl (fun w' e' => y_move rfl) ?_
          refine m_y (v := .pointer (some ⟨b2, o2, none⟩)) 4 rfl (by kernel_rfl) rfl rfl (fun w' e' => y_move rfl) ?_
          refine m_y (v := .int .i64 px) 5 rfl (by kernel_rfl) rfl rfl (fun w' e' => y_move rfl) ?_
          refine m_y (v := .int .i64 py) 6 rfl (by kernel_rfl) rfl rfl (fun w' e' => y_move rfl) ?_
          refine m_k 7 [8, 9] rfl (by kernel_rfl) rfl rfl (fun w50 e51 => ?_)
          replace R49 := R49.trans (Ext0.any e51)
          replace B := B.ext0 e51
          clear e51
          refine k_call T138.fn_150 (c_s_l03HalfY (B.s 5 rfl) (B.r 6 rfl) (B.r 7 rfl) (B.r 8 rfl) (B.s 9 rfl) (by omega) (by omega) (by omega) (by omega) (by omega) (by omega) (by omega) (by omega) (by omega) (by omega) (by omega)) rfl ?_
          rintro _ w52 ⟨⟨r54, rfl, hr55⟩, e53⟩
          replace R49 := R49.trans (Ext0.any e53)
          replace B := B.ext0 e53
          clear e53
          refine ⟨fun _ => R49, ?_⟩
          refine m_y (v := .pointer (some (sat a9 ((atI wd hi px py).toNat * 1)))) 8 rfl (by kernel_rfl) rfl rfl (fun w' e' => y_idx T138.sl_24_34_1 rfl rfl ((B.o 1 rfl).rd.addr (by omega)) (by omega) (by omega)) ?_
          refine m_kt 9 [] rfl (by kernel_rfl) rfl rfl (by kernel_rfl) (fun w58 e59 => ?_)
          replace R49 := R49.trans (Ext0.any e59)
          replace B := B.ext0 e59
          clear e59
          refine k_stO (k := kF) (i := atI wd hi px py) (j := 0) (x' := hyF wd hi wr Xfe Xfy px py) (new := [.float .f32 r54]) T138.sz_34_1 rfl rfl rfl rfl rfl (by simp [Value.oneCell']) (by decide) (B.o 1 rfl) (by omega) (by omega) (by decide) (by rintro q ⟨_, rfl, _⟩; exact ⟨_, rfl, hr55⟩) (fun w56 hU57 => ?_)
          clear R49
          replace B : Bu w no w56 [.ow kF a9 nfy c10 34 (put (mix (wd * hi) (wd * py + px) (fun i => hyF wd hi wr Xfe Xfy (i % wd) (i / wd)) Xfy) (atI wd hi px py) (hyF wd hi wr Xfe Xfy px py)), .ow kF a7 nfx c8 34 (put (mix (wd * hi) (wd * py + px) (fun i => hxF wd hi wr Xfe Xfx (i % wd) (i / wd)) Xfx) (atI wd hi px py) (hxF wd hi wr Xfe Xfx px py)), .blk b12 [.slice a5 nfe c6, .slice a7 nfx c8, .slice a9 nfy c10] 30, .ow kF a5 nfe c6 34 Xfe, .blk b1 [.slice none 0 0, .slice none 0 0, .slice none 0 0] 30, .sl (some ⟨b, o, none⟩) [.int .i64 wd, .int .i64 hi, .bool wr, .slice asp nsp csp, .slice als nls cls], .rd kF afe nfe Xfe, .rd kF afx nfx Xfx, .rd kF afy nfy Xfy, .sl (some ⟨b2, o2, none⟩) [.slice afe nfe cfe, .slice afx nfx cfx, .slice afy nfy cfy]] := B.upd [1] rfl hU57
          clear hU57
          refine m_done (by kernel_rfl) (fun w60 e61 => ?_)
          replace B := B.ext0 e61
          clear e61
          clear B0_48
          refine W_region (by kernel_rfl) ?_
          refine s_y (v := .int .i64 px) rfl (y_move rfl) ?_
          refine s_y (v := .int .i64 (px + 1)) rfl (y_add rfl rfl rfl (by omega)) ?_
          refine s_y (v := .int .i64 (px + 1)) rfl (y_assign rfl) ?_
          refine s_nil ?_
          replace B : Bu w no w60 [.ow kF a9 nfy c10 34 (put (mix (wd * hi) (wd * py + px) (fun i => hyF wd hi wr Xfe Xfy (i % wd) (i / wd)) Xfy) (atI wd hi px py) (hyF wd hi wr Xfe Xfy px py)), .ow kF a7 nfx c8 34 (mix (wd * hi) (wd * py + (px + 1)) (fun i => hxF wd hi wr Xfe Xfx (i % wd) (i / wd)) Xfx), .blk b12 [.slice a5 nfe c6, .slice a7 nfx c8, .slice a9 nfy c10] 30, .ow kF a5 nfe c6 34 Xfe, .blk b1 [.slice none 0 0, .slice none 0 0, .slice none 0 0] 30, .sl (some ⟨b, o, none⟩) [.int .i64 wd, .int .i64 hi, .bool wr, .slice asp nsp csp, .slice als nls cls], .rd kF afe nfe Xfe, .rd kF afx nfx Xfx, .rd kF afy nfy Xfy, .sl (some ⟨b2, o2, none⟩) [.slice afe nfe cfe, .slice afx nfx cfx, .slice afy nfy cfy]] := B.castX 1 rfl rfl (mix_cell (G := hxF wd hi wr Xfe Xfx) rfl (by omega) (by omega) (by omega) (by omega) rfl rfl)
          replace B : Bu w no w60 [.ow kF a9 nfy c10 34 (mix (wd * hi) (wd * py + (px + 1)) (fun i => hyF wd hi wr Xfe Xfy (i % wd) (i / wd)) Xfy), .ow kF a7 nfx c8 34 (mix (wd * hi) (wd * py + (px + 1)) (fun i => hxF wd hi wr Xfe Xfx (i % wd) (i / wd)) Xfx), .blk b12 [.slice a5 nfe c6, .slice a7 nfx c8, .slice a9 nfy c10] 30, .ow kF a5 nfe c6 34 Xfe, .blk b1 [.slice none 0 0, .slice none 0 0, .slice none 0 0] 30, .sl (some ⟨b, o, none⟩) [.int .i64 wd, .int .i64 hi, .bool wr, .slice asp nsp csp, .slice als nls cls], .rd kF afe nfe Xfe, .rd kF afx nfx Xfx, .rd kF afy nfy Xfy, .sl (some ⟨b2, o2, none⟩) [.slice afe nfe cfe, .slice afx nfx cfx, .slice afy nfy cfy]] := B.castX 0 rfl rfl (mix_cell (G := hyF wd hi wr Xfe Xfy) rfl (by omega) (by omega) (by omega) (by omega) rfl rfl)
          refine ⟨⟨_, px + 1, Fits.eq ⟨rfl, rfl, rfl, rfl, rfl, rfl, rfl, rfl, rfl, rfl, rfl, rfl, trivial⟩, (B.pick [1, 0, 2, 3, 4, 5, 6, 7, 8, 9] rfl rfl), (by omega), (by omega)⟩, ?_⟩
          show (wd - (px + 1)).toNat < (wd - px).toNat
          omega
        · refine s_y (v := .bool false) rfl (y_lss rfl rfl (decide_eq_false c22)) ?_
          refine s_nil ?_
          refine W_if_f (by decide) rfl ?_
          refine W_exit ?_
          refine W_region (by kernel_rfl) ?_
          refine s_y (v := .int .i64 py) rfl (y_move rfl) ?_
          refine s_y (v := .int .i64 (py + 1)) rfl (y_add rfl rfl rfl (by omega)) ?_
          refine s_y (v := .int .i64 (py + 1)) rfl (y_assign rfl) ?_
          refine s_nil ?_
          replace B : Bu w no w20 [.ow kF a7 nfx c8 34 (mix (wd * hi) (wd * (py + 1)) (fun i => hxF wd hi wr Xfe Xfx (i % wd) (i / wd)) Xfx), .ow kF a9 nfy c10 34 (mix (wd * hi) (wd * py + px) (fun i => hyF wd hi wr Xfe Xfy (i % wd) (i / wd)) Xfy), .blk b12 [.slice a5 nfe c6, .slice a7 nfx c8, .slice a9 nfy c10] 30, .ow kF a5 nfe c6 34 Xfe, .blk b1 [.slice none 0 0, .slice none 0 0, .slice none 0 0] 30, .sl (some ⟨b, o, none⟩) [.int .i64 wd, .int .i64 hi, .bool wr, .slice asp nsp csp, .slice als nls cls], .rd kF afe nfe Xfe, .rd kF afx nfx Xfx, .rd kF afy nfy Xfy, .sl (some ⟨b2, o2, none⟩) [.slice afe nfe cfe, .slice afx nfx cfx, .slice afy nfy cfy]] := B.castX 0 rfl rfl (congrArg (fun q => mix (wd * hi) q (fun i => hxF wd hi wr Xfe Xfx (i % wd) (i / wd)) _) (show wd * py + px = wd * (py + 1) by rw [Int.mul_add, Int.mul_one]; omega))
          replace B : Bu w no w20 [.ow kF a7 nfx c8 34 (mix (wd * hi) (wd * (py + 1)) (fun i => hxF wd hi wr Xfe Xfx (i % wd) (i / wd)) Xfx), .ow kF a9 nfy c10 34 (mix (wd * hi) (wd * (py + 1)) (fun i => hyF wd hi wr Xfe Xfy (i % wd) (i / wd)) Xfy), .blk b12 [.slice a5 nfe c6, .slice a7 nfx c8, .slice a9 nfy c10] 30, .ow kF a5 nfe c6 34 Xfe, .blk b1 [.slice none 0 0, .slice none 0 0, .slice none 0 0] 30, .sl (some ⟨b, o, none⟩) [.int .i64 wd, .int .i64 hi, .bool wr, .slice asp nsp csp, .slice als nls cls], .rd kF afe nfe Xfe, .rd kF afx nfx Xfx, .rd kF afy nfy Xfy, .sl (some ⟨b2, o2, none⟩) [.slice afe nfe cfe, .slice afx nfx cfx, .slice afy nfy cfy]] := B.castX 1 rfl rfl (congrArg (fun q => mix (wd * hi) q (fun i => hyF wd hi wr Xfe Xfy (i % wd) (i / wd)) _) (show wd * py + px = wd * (py + 1) by rw [Int.mul_add, Int.mul_one]; omega))
          refine ⟨⟨_, py + 1, Fits.eq ⟨rfl, rfl, rfl, rfl, rfl, trivial⟩, B, (by omega), (by omega)⟩, ?_⟩
          show (hi - (py + 1)).toNat < (hi - py).toNat
          omega
    · refine s_y (v := .bool false) rfl (y_lss rfl rfl (decide_eq_false c19)) ?_
      refine s_nil ?_
      refine W_if_f (by decide) rfl ?_
      refine W_exit ?_
      have hye : py = hi := by omega
      subst hye
      replace B : Bu w no w17 [.ow kF a7 nfx c8 34 (tab (wd * py) (fun i => hxF wd py wr Xfe Xfx (i % wd) (i / wd))), .ow kF a9 nfy c10 34 (mix (wd * py) (wd * py) (fun i => hyF wd py wr Xfe Xfy (i % wd) (i / wd)) Xfy), .blk b12 [.slice a5 nfe c6, .slice a7 nfx c8, .slice a9 nfy c10] 30, .ow kF a5 nfe c6 34 Xfe, .blk b1 [.slice none 0 0, .slice none 0 0, .slice none 0 0] 30, .sl (some ⟨b, o, none⟩) [.int .i64 wd, .int .i64 py, .bool wr, .slice asp nsp csp, .slice als nls cls], .rd kF afe nfe Xfe, .rd kF afx nfx Xfx, .rd kF afy nfy Xfy, .sl (some ⟨b2, o2, none⟩) [.slice afe nfe cfe, .slice afx nfx cfx, .slice afy nfy cfy]] := B.castX 0 rfl rfl mix_all
      replace B : Bu w no w17 [.ow kF a7 nfx c8 34 (tab (wd * py) (fun i => hxF wd py wr Xfe Xfx (i % wd) (i / wd))), .ow kF a9 nfy c10 34 (tab (wd * py) (fun i => hyF wd py wr Xfe Xfy (i % wd) (i / wd))), .blk b12 [.slice a5 nfe c6, .slice a7 nfx c8, .slice a9 nfy c10] 30, .ow kF a5 nfe c6 34 Xfe, .blk b1 [.slice none 0 0, .slice none 0 0, .slice none 0 0] 30, .sl (some ⟨b, o, none⟩) [.int .i64 wd, .int .i64 py, .bool wr, .slice asp nsp csp, .slice als nls cls], .rd kF afe nfe Xfe, .rd kF afx nfx Xfx, .rd kF afy nfy Xfy, .sl (some ⟨b2, o2, none⟩) [.slice afe nfe cfe, .slice afx nfx cfx, .slice afy nfy cfy]] := B.castX 1 rfl rfl mix_all
      refine W_seq ?_
      refine W_region (by kernel_rfl) ?_
      refine s_y (v := .agg #[.slice a5 nfe c6, .slice a7 nfx c8, .slice a9 nfy c10]) rfl (y_loadn (b := b12) (o := 0) (vs := [.slice a5 nfe c6, .slice a7 nfx c8, .slice a9 nfy c10]) T138.agg_30_3 rfl rfl ((B.b 2 rfl).cells (o := 0) rfl)) ?_
      refine s_k0 rfl (k_stB (v := .agg #[.slice a5 nfe c6, .slice a7 nfx c8, .slice a9 nfy c10]) (n := 3) (cs' := [.slice a5 nfe c6, .slice a7 nfx c8, .slice a9 nfy c10]) T138.sz_30_3 rfl rfl rfl (B.b 4 rfl) (by simp [Value.cells, Value.oneCell']) (Nat.le_of_ble_eq_true rfl) rfl (fun w62 hU63 => ?_))
      replace B : Bu w no w62 [.blk b1 [.slice a5 nfe c6, .slice a7 nfx c8, .slice a9 nfy c10] 30, .ow kF a7 nfx c8 34 (tab (wd * py) (fun i => hxF wd py wr Xfe Xfx (i % wd) (i / wd))), .ow kF a9 nfy c10 34 (tab (wd * py) (fun i => hyF wd py wr Xfe Xfy (i % wd) (i / wd))), .blk b12 [.slice a5 nfe c6, .slice a7 nfx c8, .slice a9 nfy c10] 30, .ow kF a5 nfe c6 34 Xfe, .sl (some ⟨b, o, none⟩) [.int .i64 wd, .int .i64 py, .bool wr, .slice asp nsp csp, .slice als nls cls], .rd kF afe nfe Xfe, .rd kF afx nfx Xfx, .rd kF afy nfy Xfy, .sl (some ⟨b2, o2, none⟩) [.slice afe nfe cfe, .slice afx nfx cfx, .slice afy nfy cfy]] := B.upd [4] rfl hU63
      clear hU63
      refine s_nil ?_
      refine W_ret ?_
      refine ret1 (v := .agg #[.slice a5 nfe c6, .slice a7 nfx c8, .slice a9 nfy c10]) rfl rfl ⟨_, [.slice a5 nfe c6, .slice a7 nfx c8, .slice a9 nfy c10], _, rfl, (B.b 0 rfl), T138.agg_30_3, rfl⟩ ⟨_, rfl, ?_⟩
      replace B : Bu w no w62 [.blk b1 [.slice a5 nfe c6, .slice a7 nfx c8, .slice a9 nfy c10] 30, .ow kF a7 nfx c8 34 (hxL wd py wr Xfe Xfx), .ow kF a9 nfy c10 34 (tab (wd * py) (fun i => hyF wd py wr Xfe Xfy (i % wd) (i / wd))), .blk b12 [.slice a5 nfe c6, .slice a7 nfx c8, .slice a9 nfy c10] 30, .ow kF a5 nfe c6 34 Xfe, .sl (some ⟨b, o, none⟩) [.int .i64 wd, .int .i64 py, .bool wr, .slice asp nsp csp, .slice als nls cls], .rd kF afe nfe Xfe, .rd kF afx nfx Xfx, .rd kF afy nfy Xfy, .sl (some ⟨b2, o2, none⟩) [.slice afe nfe cfe, .slice afx nfx cfx, .slice afy nfy cfy]] := B.castX 1 rfl rfl rfl
      replace B : Bu w no w62 [.blk b1 [.slice a5 nfe c6, .slice a7 nfx c8, .slice a9 nfy c10] 30, .ow kF a7 nfx c8 34 (hxL wd py wr Xfe Xfx), .ow kF a9 nfy c10 34 (hyL wd py wr Xfe Xfy), .blk b12 [.slice a5 nfe c6, .slice a7 nfx c8, .slice a9 nfy c10] 30, .ow kF a5 nfe c6 34 Xfe, .sl (some ⟨b, o, none⟩) [.int .i64 wd, .int .i64 py, .bool wr, .slice asp nsp csp, .slice als nls cls], .rd kF afe nfe Xfe, .rd kF afx nfx Xfx, .rd kF afy nfy Xfy, .sl (some ⟨b2, o2, none⟩) [.slice afe nfe cfe, .slice afx nfx cfx, .slice afy nfy cfy]] := B.castX 2 rfl rfl rfl
      exact ⟨_, _, _, _, _, _, rfl, B.give [4, 1, 2] rfl rfl rfl⟩
namespace T139
theorem mx : Try.prog.follows .mixedOrders = true := by kernel_rfl
theorem fld_26_2_2 : fldB Try.prog 26 2 2 = true := by kernel_rfl
theorem fld_26_3_3 : fldB Try.prog 26 3 3 = true := by kernel_rfl
theorem fld_26_4_4 : fldB Try.prog 26 4 4 = true := by kernel_rfl
theorem fld_30_0_0 : fldB Try.prog 30 0 0 = true := by kernel_rfl
theorem fld_30_1_1 : fldB Try.prog 30 1 1 = true := by kernel_rfl
theorem fld_30_2_2 : fldB Try.prog 30 2 2 = true := by kernel_rfl
theorem fn_140 : fnB Try.prog 140 = true := by kernel_rfl
theorem fn_93 : fnB Try.prog 93 = true := by kernel_rfl
theorem one_24 : oneB Try.prog 24 = true := by kernel_rfl
theorem one_34 : oneB Try.prog 34 = true := by kernel_rfl
theorem one_4 : oneB Try.prog 4 = true := by kernel_rfl
theorem sl_24_34_1 : slB Try.prog 24 34 1 = true := by kernel_rfl
end T139
set_option maxRecDepth 100000 in
set_option maxHeartbeats 4000000 in
theorem c_s_l03Rest {b : Nat} {o : Nat} {wd : Int} {hi : Int} {wr : Bool} {asp : Option Addr} {nsp : Nat} {csp : Nat} {Xsp : List Nat} {als : Option Addr} {nls : Nat} {cls : Nat} {Xls : List Nat} {b2 : Nat} {o2 : Nat} {afe : Option Addr} {nfe : Nat} {cfe : Nat} {Xfe : List Nat} {afx : Option Addr} {nfx : Nat} {cfx : Nat} {Xfx : List Nat} {afy : Option Addr} {nfy : Nat} {cfy : Nat} {Xfy : List Nat} {x : Int} {y : Int} {w : World} (qsp : Rd w kF asp nsp Xsp) (qls : Rd w kF als nls Xls) (Pb : Sl w (some ⟨b, o, none⟩) [.int .i64 wd, .int .i64 hi, .bool wr, .slice asp nsp csp, .slice als nls cls]) (qfe : Rd w kF afe nfe Xfe) (qfx : Rd w kF afx nfx Xfx) (qfy : Rd w kF afy nfy Xfy) (Pb2 : Sl w (some ⟨b2, o2, none⟩) [.slice afe nfe cfe, .slice afx nfx cfx, .slice afy nfy cfy]) (h1 : 3 ≤ wd) (h2 : wd ≤ 16) (h3 : 3 ≤ hi) (h4 : hi ≤ 16) (gfe : (nfe : Int) = wd * hi) (gfx : (nfx : Int) = wd * hi) (gfy : (nfy : Int) = wd * hi) (gsp : (nsp : Int) = wd * hi) (gls : (nls : Int) = wd * hi) (p1 : 0 ≤ x) (p2 : x < wd) (p3 : 0 ≤ y) (p4 : y < hi) :
    Calls Try.prog 139 #[.pointer (some ⟨b, o, none⟩), .pointer (some ⟨b2, o2, none⟩), .int .i64 x, .int .i64 y] w (Rt fun v w' => (∃ r, v = .float .f32 r ∧ Cn .f32 r (nwF wd hi wr Xsp Xls Xfe Xfx Xfy x y)) ∧ Ext0 w w') := by
  have hlsp := qsp.len
  have hlls := qls.len
  have hlfe := qfe.len
  have hlfx := qfx.len
  have hlfy := qfy.len
  have B : Bu w no w [.rd kF asp nsp Xsp, .rd kF als nls Xls, .sl (some ⟨b, o, none⟩) [.int .i64 wd, .int .i64 hi, .bool wr, .slice asp nsp csp, .slice als nls cls], .rd kF afe nfe Xfe, .rd kF afx nfx Xfx, .rd kF afy nfy Xfy, .sl (some ⟨b2, o2, none⟩) [.slice afe nfe cfe, .slice afx nfx cfx, .slice afy nfy cfy]] := Bu.ro (All.cons qsp (All.cons qls (All.cons Pb (All.cons qfe (All.cons qfx (All.cons qfy (All.cons Pb2 All.nil))))))) rfl
  refine calls_W (n := 102) Try.func139 rfl rfl (Nat.le_of_ble_eq_true rfl) ?_
  refine W_seq ?_
  refine W_region (by kernel_rfl) ?_
  refine s_y (v := .float .f32 0) rfl (y_assign rfl) ?_
  refine s_nil ?_
  refine W_seq ?_
  refine W_region (by kernel_rfl) ?_
  refine s_y (v := .pointer (some ⟨b, o, none⟩)) rfl (y_move rfl) ?_
  refine s_y (v := .int .i64 x) rfl (y_move rfl) ?_
  refine s_y (v := .int .i64 y) rfl (y_move rfl) ?_
  refine s_k rfl (k_call T139.fn_140 (c_s_l03At (B.s 2 rfl) (by omega) (by omega) (by omega) (by omega) (by omega) (by omega) (by omega) (by omega)) rfl ?_)
  rintro _ w1 ⟨rfl, e2⟩
  replace B := B.ext0 e2
  clear e2
  have hat3 := atI_b (wd := wd) (hi := hi) (x := x) (y := y) (by omega) (by omega)
  refine s_y (v := .int .i64 (atI wd hi x y)) rfl (y_assign rfl) ?_
  refine s_nil ?_
  refine W_seq ?_
  refine W_seq ?_
  refine W_region (by kernel_rfl) ?_
  refine s_y (v := .pointer (some ⟨b, o, none⟩)) rfl (y_move rfl) ?_
  refine s_y (v := .pointer (some ⟨b, o, none⟩)) rfl (y_nil rfl) ?_
  refine s_y (v := .pointer (some ⟨b, o + 2, none⟩)) rfl (y_fld (o := o + 0) T139.fld_26_2_2 rfl) ?_
  refine s_y (v := .bool wr) rfl (y_load T139.one_4 rfl ((B.s 2 rfl).cell (j := 2) rfl)) ?_
  refine s_y (v := .bool (!wr)) rfl (y_not rfl rfl) ?_
  refine s_y (v := .bool (!wr)) rfl (y_move rfl) ?_
  cases wr
  · refine s_y (v := .pointer (some ⟨b, o, none⟩)) rfl (y_move rfl) ?_
    refine s_y (v := .int .i64 x) rfl (y_move rfl) ?_
    refine s_y (v := .int .i64 y) rfl (y_move rfl) ?_
    refine s_k rfl (k_call T139.fn_93 (c_s_l02Border (B.s 2 rfl) (by omega) (by omega) (by omega) (by omega)) rfl ?_)
    rintro v6 w4 ⟨hv7, e5⟩
    replace B := B.ext0 e5
    clear e5
    by_cases c8 : bordB wd hi false x y = true
    · obtain rfl : v6 = .bool true := hv7.trans (congrArg Value.bool c8)
      refine s_y (v := .bool true) rfl (y_pick_t rfl rfl) ?_
      refine s_nil ?_
      refine W_if_t (by decide) rfl ?_
      refine W_seq ?_
      refine W_region (by kernel_rfl) ?_
      refine s_y (v := .pointer (some ⟨b2, o2, none⟩)) rfl (y_move rfl) ?_
      refine s_y (v := .pointer (some ⟨b2, o2, none⟩)) rfl (y_nil rfl) ?_
      refine s_y (v := .pointer (some ⟨b2, o2, none⟩)) rfl (y_fld (o := o2 + 0) T139.fld_30_0_0 rfl) ?_
      refine s_y (v := .slice afe nfe cfe) rfl (y_load T139.one_24 rfl ((B.s 6 rfl).cell (j := 0) rfl)) ?_
      refine s_y (v := .int .i64 (atI wd hi x y)) rfl (y_move rfl) ?_
      refine s_y (v := .pointer (some (sat afe ((atI wd hi x y).toNat * 1)))) rfl (y_idx T139.sl_24_34_1 rfl rfl ((B.r 3 rfl).addr (by omega)) (by omega) (by omega)) ?_
      obtain ⟨r10, hr11, hR9⟩ := Rd.atF (B.r 3 rfl) (atI wd hi x y) (by omega) (by omega)
      refine s_y (v := .float .f32 r10) rfl (y_load T139.one_34 rfl (hR9.cell (i := 0) rfl)) ?_
      refine s_y (v := .float .f32 r10) rfl (y_assign rfl) ?_
      refine s_nil ?_
      refine W_ret ?_
      refine ret1 (v := .float .f32 r10) rfl rfl rfl ⟨_, rfl, ?_⟩
      have hcc : bordB wd hi false x y = true := by simp only [c8, Bool.and_true, Bool.true_and, Bool.and_false, Bool.false_and, Bool.not_true, Bool.not_false, Bool.or_true, Bool.true_or, Bool.or_false, Bool.false_or]
      exact ⟨⟨_, rfl, cnT hr11 (nw_yes hcc)⟩, B.ext⟩
    · obtain rfl : v6 = .bool false := hv7.trans (congrArg Value.bool (Bool.eq_false_iff.2 c8))
      refine s_y (v := .bool false) rfl (y_pick_t rfl rfl) ?_
      refine s_nil ?_
      refine W_if_f (by decide) rfl ?_
      refine W_skip ?_
      refine W_seq ?_
      have B0_16 := B
      refine W_draw (no) T139.mx (by kernel_rfl) (fun w14 e15 => ?_)
      have R17 := Ext.refl (no) w4
      replace R17 := R17.trans (Ext0.any e15)
      replace B := B.ext0 e15
      clear e15
      refine m_y (v := .pointer (some ⟨b2, o2, none⟩)) 0 rfl (by kernel_rfl) rfl rfl (fun w' e' => y_move rfl) ?_
      refine m_y (v := .pointer (some ⟨b2, o2, none⟩)) 1 rfl (by kernel_rfl) rfl rfl (fun w' e' => y_nil rfl) ?_
      refine m_y (v := .pointer (some ⟨b2, o2 + 2, none⟩)) 2 rfl (by kernel_rfl) rfl rfl (fun w' e' => y_fld (o := o2 + 0) T139.fld_30_2_2 rfl) ?_
      refine m_y (v := .slice afy nfy cfy) 3 rfl (by kernel_rfl) rfl rfl (fun w' e' => y_load T139.one_24 rfl (((B0_16.s 6 rfl).ext0 e').cell (j := 2) rfl)) ?_
      refine m_y (v := .int .i64 (atI wd hi x y)) 4 rfl (by kernel_rfl) rfl rfl (fun w' e' => y_move rfl) ?_
      refine m_y (v := .pointer (some (sat afy ((atI wd hi x y).toNat * 1)))) 5 rfl (by kernel_rfl) rfl rfl (fun w' e' => y_idx T139.sl_24_34_1 rfl rfl ((B.r 5 rfl).addr (by omega)) (by omega) (by omega)) ?_
      obtain ⟨r19, hr20, hR18⟩ := Rd.atF (B0_16.r 5 rfl) (atI wd hi x y) (by omega) (by omega)
      refine m_y (v := .float .f32 r19) 6 rfl (by kernel_rfl) rfl rfl (fun w' e' => y_load T139.one_34 rfl ((hR18.ext0 e').cell (i := 0) rfl)) ?_
      refine m_y (v := .pointer (some ⟨b2, o2, none⟩)) 7 rfl (by kernel_rfl) rfl rfl (fun w' e' => y_move rfl) ?_
      refine m_y (v := .pointer (some ⟨b2, o2, none⟩)) 8 rfl (by kernel_rfl) rfl rfl (fun w' e' => y_nil rfl) ?_
      refine m_y (v := .pointer (some ⟨b2, o2 + 2, none⟩)) 9 rfl (by kernel_rfl) rfl rfl (fun w' e' => y_fld (o := o2 + 0) T139.fld_30_2_2 rfl) ?_
      refine m_y (v := .slice afy nfy cfy) 10 rfl (by kernel_rfl) rfl rfl (fun w' e' => y_load T139.one_24 rfl (((B0_16.s 6 rfl).ext0 e').cell (j := 2) rfl)) ?_
      refine m_y (v := .pointer (some ⟨b, o, none⟩)) 11 rfl (by kernel_rfl) rfl rfl (fun w' e' => y_move rfl) ?_
      refine m_y (v := .int .i64 x) 12 rfl (by kernel_rfl) rfl rfl (fun w' e' => y_move rfl) ?_
      refine m_y (v := .int .i64 (x - 1)) 13 rfl (by kernel_rfl) rfl rfl (fun w' e' => y_sub rfl rfl rfl (by omega)) ?_
      refine m_y (v := .int .i64 y) 14 rfl (by kernel_rfl) rfl rfl (fun w' e' => y_move rfl) ?_
      refine m_k 15 [16, 17, 18, 19] rfl (by kernel_rfl) rfl rfl (fun w21 e22 => ?_)
      replace R17 := R17.trans (Ext0.any e22)
      replace B := B.ext0 e22
      clear e22
      refine k_call T139.fn_140 (c_s_l03At (B.s 2 rfl) (by omega) (by omega) (by omega) (by omega) (by omega) (by omega) (by omega) (by omega)) rfl ?_
      rintro _ w23 ⟨rfl, e24⟩
      replace R17 := R17.trans (Ext0.any e24)
      replace B := B.ext0 e24
      clear e24
      refine ⟨fun _ => R17, ?_⟩
      have hat25 := atI_b (wd := wd) (hi := hi) (x := x - 1) (y := y) (by omega) (by omega)
      refine m_y (v := .pointer (some (sat afy ((atI wd hi (x - 1) y).toNat * 1)))) 16 rfl (by kernel_rfl) rfl rfl (fun w' e' => y_idx T139.sl_24_34_1 rfl rfl ((B.r 5 rfl).addr (by omega)) (by omega) (by omega)) ?_
      obtain ⟨r27, hr28, hR26⟩ := Rd.atF (B0_16.r 5 rfl) (atI wd hi (x - 1) y) (by omega) (by omega)
      refine m_y (v := .float .f32 r27) 17 rfl (by kernel_rfl) rfl rfl (fun w' e' => y_load T139.one_34 rfl ((hR26.ext0 e').cell (i := 0) rfl)) ?_
      refine m_n 18 [19] rfl (by kernel_rfl) rfl rfl (fun w' e' => n_arith (by decide) rfl rfl) ?_
      rintro _ ⟨r30, rfl, hr31⟩
      have hc34 := fopC hr31 hr20 hr28
      refine m_y (v := .float .f32 r30) 19 rfl (by kernel_rfl) rfl rfl (fun w' e' => y_assign rfl) ?_
      refine m_done (by kernel_rfl) (fun w35 e36 => ?_)
      replace B := B.ext0 e36
      clear e36
      clear B0_16 R17
      refine W_seq ?_
      have B0_41 := B
      refine W_draw (no) T139.mx (by kernel_rfl) (fun w39 e40 => ?_)
      have R42 := Ext.refl (no) w35
      replace R42 := R42.trans (Ext0.any e40)
      replace B := B.ext0 e40
      clear e40
      refine m_y (v := .pointer (some ⟨b2, o2, none⟩)) 0 rfl (by kernel_rfl) rfl rfl (fun w' e' => y_move rfl) ?_
      refine m_y (v := .pointer (some ⟨b2, o2, none⟩)) 1 rfl (by kernel_rfl) rfl rfl (fun w' e' => y_nil rfl) ?_
      refine m_y (v := .pointer (some ⟨b2, o2 + 1, none⟩)) 2 rfl (by kernel_rfl) rfl rfl (fun w' e' => y_fld (o := o2 + 0) T139.fld_30_1_1 rfl) ?_
      refine m_y (v := .slice afx nfx cfx) 3 rfl (by kernel_rfl) rfl rfl (fun w' e' => y_load T139.one_24 rfl (((B0_41.s 6 rfl).ext0 e').cell (j := 1) rfl)) ?_
      refine m_y (v := .int .i64 (atI wd hi x y)) 4 rfl (by kernel_rfl) rfl rfl (fun w' e' => y_move rfl) ?_
      refine m_y (v := .pointer (some (sat afx ((atI wd hi x y).toNat * 1)))) 5 rfl (by kernel_rfl) rfl rfl (fun w' e' => y_idx T139.sl_24_34_1 rfl rfl ((B.r 4 rfl).addr (by omega)) (by omega) (by omega)) ?_
      obtain ⟨r44, hr45, hR43⟩ := Rd.atF (B0_41.r 4 rfl) (atI wd hi x y) (by omega) (by omega)
      refine m_y (v := .float .f32 r44) 6 rfl (by kernel_rfl) rfl rfl (fun w' e' => y_load T139.one_34 rfl ((hR43.ext0 e').cell (i := 0) rfl)) ?_
      refine m_y (v := .pointer (some ⟨b2, o2, none⟩)) 7 rfl (by kernel_rfl) rfl rfl (fun w' e' => y_move rfl) ?_
      refine m_y (v := .pointer (some ⟨b2, o2, none⟩)) 8 rfl (by kernel_rfl) rfl rfl (fun w' e' => y_nil rfl) ?_
      refine m_y (v := .pointer (some ⟨b2, o2 + 1, none⟩)) 9 rfl (by kernel_rfl) rfl rfl (fun w' e' => y_fld (o := o2 + 0) T139.fld_30_1_1 rfl) ?_
      refine m_y (v := .slice afx nfx cfx) 10 rfl (by kernel_rfl) rfl rfl (fun w' e' => y_load T139.one_24 rfl (((B0_41.s 6 rfl).ext0 e').cell (j := 1) rfl)) ?_
      refine m_y (v := .pointer (some ⟨b, o, none⟩)) 11 rfl (by kernel_rfl) rfl rfl (fun w' e' => y_move rfl) ?_
      refine m_y (v := .int .i64 x) 12 rfl (by kernel_rfl) rfl rfl (fun w' e' => y_move rfl) ?_
      refine m_y (v := .int .i64 y) 13 rfl (by kernel_rfl) rfl rfl (fun w' e' => y_move rfl) ?_
      refine m_y (v := .int .i64 (y - 1)) 14 rfl (by kernel_rfl) rfl rfl (fun w' e' => y_sub rfl rfl rfl (by omega)) ?_
      refine m_k 15 [16, 17, 18, 19] rfl (by kernel_rfl) rfl rfl (fun w46 e47 => ?_)
      replace R42 := R42.trans (Ext0.any e47)
      replace B := B.ext0 e47
      clear e47
      refine k_call T139.fn_140 (c_s_l03At (B.s 2 rfl) (by omega) (by omega) (by omega) (by omega) (by omega) (by omega) (by omega) (by omega)) rfl ?_
      rintro _ w48 ⟨rfl, e49⟩
      replace R42 := R42.trans (Ext0.any e49)
      replace B := B.ext0 e49
      clear e49
      refine ⟨fun _ => R42, ?_⟩
      have hat50 := atI_b (wd := wd) (hi := hi) (x := x) (y := y - 1) (by omega) (by omega)
      refine m_y (v := .pointer (some (sat afx ((atI wd hi x (y - 1)).toNat * 1)))) 16 rfl (by kernel_rfl) rfl rfl (fun w' e' => y_idx T139.sl_24_34_1 rfl rfl ((B.r 4 rfl).addr (by omega)) (by omega) (by omega)) ?_
      obtain ⟨r52, hr53, hR51⟩ := Rd.atF (B0_41.r 4 rfl) (atI wd hi x (y - 1)) (by omega) (by omega)
      refine m_y (v := .float .f32 r52) 17 rfl (by kernel_rfl) rfl rfl (fun w' e' => y_load T139.one_34 rfl ((hR51.ext0 e').cell (i := 0) rfl)) ?_
      refine m_n 18 [19] rfl (by kernel_rfl) rfl rfl (fun w' e' => n_arith (by decide) rfl rfl) ?_
      rintro _ ⟨r55, rfl, hr56⟩
      have hc59 := fopC hr56 hr45 hr53
      refine m_y (v := .float .f32 r55) 19 rfl (by kernel_rfl) rfl rfl (fun w' e' => y_assign rfl) ?_
      refine m_done (by kernel_rfl) (fun w60 e61 => ?_)
      replace B := B.ext0 e61
      clear e61
      clear B0_41 R42
      refine W_seq ?_
      have B0_66 := B
      refine W_draw (no) T139.mx (by kernel_rfl) (fun w64 e65 => ?_)
      have R67 := Ext.refl (no) w60
      replace R67 := R67.trans (Ext0.any e65)
      replace B := B.ext0 e65
      clear e65
      refine m_y (v := .pointer (some ⟨b2, o2, none⟩)) 0 rfl (by kernel_rfl) rfl rfl (fun w' e' => y_move rfl) ?_
      refine m_y (v := .pointer (some ⟨b2, o2, none⟩)) 1 rfl (by kernel_rfl) rfl rfl (fun w' e' => y_nil rfl) ?_
      refine m_y (v := .pointer (some ⟨b2, o2, none⟩)) 2 rfl (by kernel_rfl) rfl rfl (fun w' e' => y_fld (o := o2 + 0) T139.fld_30_0_0 rfl) ?_
      refine m_y (v := .slice afe nfe cfe) 3 rfl (by kernel_rfl) rfl rfl (fun w' e' => y_load T139.one_24 rfl (((B0_66.s 6 rfl).ext0 e').cell (j := 0) rfl)) ?_
      refine m_y (v := .int .i64 (atI wd hi x y)) 4 rfl (by kernel_rfl) rfl rfl (fun w' e' => y_move rfl) ?_
      refine m_y (v := .pointer (some (sat afe ((atI wd hi x y).toNat * 1)))) 5 rfl (by kernel_rfl) rfl rfl (fun w' e' => y_idx T139.sl_24_34_1 rfl rfl ((B.r 3 rfl).addr (by omega)) (by omega) (by omega)) ?_
      obtain ⟨r69, hr70, hR68⟩ := Rd.atF (B0_66.r 3 rfl) (atI wd hi x y) (by omega) (by omega)
      refine m_y (v := .float .f32 r69) 6 rfl (by kernel_rfl) rfl rfl (fun w' e' => y_load T139.one_34 rfl ((hR68.ext0 e').cell (i := 0) rfl)) ?_
      refine m_y (v := .pointer (some ⟨b, o, none⟩)) 7 rfl (by kernel_rfl) rfl rfl (fun w' e' => y_move rfl) ?_
      refine m_y (v := .pointer (some ⟨b, o, none⟩)) 8 rfl (by kernel_rfl) rfl rfl (fun w' e' => y_nil rfl) ?_
      refine m_y (v := .pointer (some ⟨b, o + 4, none⟩)) 9 rfl (by kernel_rfl) rfl rfl (fun w' e' => y_fld (o := o + 0) T139.fld_26_4_4 rfl) ?_
      refine m_y (v := .slice als nls cls) 10 rfl (by kernel_rfl) rfl rfl (fun w' e' => y_load T139.one_24 rfl (((B0_66.s 2 rfl).ext0 e').cell (j := 4) rfl)) ?_
      refine m_y (v := .int .i64 (atI wd hi x y)) 11 rfl (by kernel_rfl) rfl rfl (fun w' e' => y_move rfl) ?_
      refine m_y (v := .pointer (some (sat als ((atI wd hi x y).toNat * 1)))) 12 rfl (by kernel_rfl) rfl rfl (fun w' e' => y_idx T139.sl_24_34_1 rfl rfl ((B.r 1 rfl).addr (by omega)) (by omega) (by omega)) ?_
      obtain ⟨r72, hr73, hR71⟩ := Rd.atF (B0_66.r 1 rfl) (atI wd hi x y) (by omega) (by omega)
      refine m_y (v := .float .f32 r72) 13 rfl (by kernel_rfl) rfl rfl (fun w' e' => y_load T139.one_34 rfl ((hR71.ext0 e').cell (i := 0) rfl)) ?_
      refine m_n 14 [15, 16] rfl (by kernel_rfl) rfl rfl (fun w' e' => n_arith (by decide) rfl rfl) ?_
      rintro _ ⟨r75, rfl, hr76⟩
      have hc79 := fopC hr76 (cnLit (k := .f32) (t := 1065353216) (by kernel_rfl) (by kernel_rfl)) hr73
      refine m_n 15 [16] rfl (by kernel_rfl) rfl rfl (fun w' e' => n_arith (by decide) rfl rfl) ?_
      rintro _ ⟨r81, rfl, hr82⟩
      have hc85 := fopC hr82 hr70 hc79
      refine m_y (v := .float .f32 r81) 16 rfl (by kernel_rfl) rfl rfl (fun w' e' => y_assign rfl) ?_
      refine m_done (by kernel_rfl) (fun w86 e87 => ?_)
      replace B := B.ext0 e87
      clear e87
      clear B0_66 R67
      refine W_seq ?_
      refine W_region (by kernel_rfl) ?_
      refine s_y (v := .float .f32 r81) rfl (y_move rfl) ?_
      refine s_y (v := .pointer (some ⟨b, o, none⟩)) rfl (y_move rfl) ?_
      refine s_y (v := .pointer (some ⟨b, o, none⟩)) rfl (y_nil rfl) ?_
      refine s_y (v := .pointer (some ⟨b, o + 3, none⟩)) rfl (y_fld (o := o + 0) T139.fld_26_3_3 rfl) ?_
      refine s_y (v := .slice asp nsp csp) rfl (y_load T139.one_24 rfl ((B.s 2 rfl).cell (j := 3) rfl)) ?_
      refine s_y (v := .int .i64 (atI wd hi x y)) rfl (y_move rfl) ?_
      refine s_y (v := .pointer (some (sat asp ((atI wd hi x y).toNat * 1)))) rfl (y_idx T139.sl_24_34_1 rfl rfl ((B.r 0 rfl).addr (by omega)) (by omega) (by omega)) ?_
      obtain ⟨r89, hr90, hR88⟩ := Rd.atF (B.r 0 rfl) (atI wd hi x y) (by omega) (by omega)
      refine s_y (v := .float .f32 r89) rfl (y_load T139.one_34 rfl (hR88.cell (i := 0) rfl)) ?_
      refine s_y (v := .float .f32 r30) rfl (y_move rfl) ?_
      refine s_y (v := .float .f32 r55) rfl (y_move rfl) ?_
      refine s_n rfl (n_arith (by decide) rfl rfl) ?_
      rintro _ w94 e95 ⟨r92, rfl, hr93⟩
      replace B := B.ext0 e95
      clear e95
      have hc96 := fopC hr93 hc34 hc59
      refine s_n rfl (n_arith (by decide) rfl rfl) ?_
      rintro _ w100 e101 ⟨r98, rfl, hr99⟩
      replace B := B.ext0 e101
      clear e101
      have hc102 := fopC hr99 hr90 hc96
      refine s_n rfl (n_arith (by decide) rfl rfl) ?_
      rintro _ w106 e107 ⟨r104, rfl, hr105⟩
      replace B := B.ext0 e107
      clear e107
      have hc108 := fopC hr105 hc85 hc102
      refine s_y (v := .float .f32 r104) rfl (y_assign rfl) ?_
      refine s_nil ?_
      refine W_ret ?_
      refine ret1 (v := .float .f32 r104) rfl rfl rfl ⟨_, rfl, ?_⟩
      have hcc : bordB wd hi false x y = false := by simp only [(Bool.eq_false_iff.2 c8), Bool.and_true, Bool.true_and, Bool.and_false, Bool.false_and, Bool.not_true, Bool.not_false, Bool.or_true, Bool.true_or, Bool.or_false, Bool.false_or]
      exact ⟨⟨_, rfl, cnT hc108 (by unfold nwF nvV; rw [if_neg (by rw [hcc]; simp)])⟩, B.ext⟩
  · refine s_skip rfl ?_
    refine s_skip rfl ?_
    refine s_skip rfl ?_
    refine s_skip rfl ?_
    refine s_y (v := .bool false) rfl (y_pick_f rfl rfl) ?_
    refine s_nil ?_
    refine W_if_f (by decide) rfl ?_
    refine W_skip ?_
    refine W_seq ?_
    have B0_113 := B
    refine W_draw (no) T139.mx (by kernel_rfl) (fun w111 e112 => ?_)
    have R114 := Ext.refl (no) w1
    replace R114 := R114.trans (Ext0.any e112)
    replace B := B.ext0 e112
    clear e112
    refine m_y (v := .pointer (some ⟨b2, o2, none⟩)) 0 rfl (by kernel_rfl) rfl rfl (fun w' e' => y_move rfl) ?_
    refine m_y (v := .pointer (some ⟨b2, o2, none⟩)) 1 rfl (by kernel_rfl) rfl rfl (fun w' e' => y_nil rfl) ?_
    refine m_y (v := .pointer (some ⟨b2, o2 + 2, none⟩)) 2 rfl (by kernel_rfl) rfl rfl (fun w' e' => y_fld (o := o2 + 0) T139.fld_30_2_2 rfl) ?_
    refine m_y (v := .slice afy nfy cfy) 3 rfl (by kernel_rfl) rfl rfl (fun w' e' => y_load T139.one_24 rfl (((B0_113.s 6 rfl).ext0 e').cell (j := 2) rfl)) ?_
    refine m_y (v := .int .i64 (atI wd hi x y)) 4 rfl (by kernel_rfl) rfl rfl (fun w' e' => y_move rfl) ?_
    refine m_y (v := .pointer (some (sat afy ((atI wd hi x y).toNat * 1)))) 5 rfl (by kernel_rfl) rfl rfl (fun w' e' => y_idx T139.sl_24_34_1 rfl rfl ((B.r 5 rfl).addr (by omega)) (by omega) (by omega)) ?_
    obtain ⟨r116, hr117, hR115⟩ := Rd.atF (B0_113.r 5 rfl) (atI wd hi x y) (by omega) (by omega)
    refine m_y (v := .float .f32 r116) 6 rfl (by kernel_rfl) rfl rfl (fun w' e' => y_load T139.one_34 rfl ((hR115.ext0 e').cell (i := 0) rfl)) ?_
    refine m_y (v := .pointer (some ⟨b2, o2, none⟩)) 7 rfl (by kernel_rfl) rfl rfl (fun w' e' => y_move rfl) ?_
    refine m_y (v := .pointer (some ⟨b2, o2, none⟩)) 8 rfl (by kernel_rfl) rfl rfl (fun w' e' => y_nil rfl) ?_
    refine m_y (v := .pointer (some ⟨b2, o2 + 2, none⟩)) 9 rfl (by kernel_rfl) rfl rfl (fun w' e' => y_fld (o := o2 + 0) T139.fld_30_2_2 rfl) ?_
    refine m_y (v := .slice afy nfy cfy) 10 rfl (by kernel_rfl) rfl rfl (fun w' e' => y_load T139.one_24 rfl (((B0_113.s 6 rfl).ext0 e').cell (j := 2) rfl)) ?_
    refine m_y (v := .pointer (some ⟨b, o, none⟩)) 11 rfl (by kernel_rfl) rfl rfl (fun w' e' => y_move rfl) ?_
    refine m_y (v := .int .i64 x) 12 rfl (by kernel_rfl) rfl rfl (fun w' e' => y_move rfl) ?_
    refine m_y (v := .int .i64 (x - 1)) 13 rfl (by kernel_rfl) rfl rfl (fun w' e' => y_sub rfl rfl rfl (by omega)) ?_
    refine m_y (v := .int .i64 y) 14 rfl (by kernel_rfl) rfl rfl (fun w' e' => y_move rfl) ?_
    refine m_k 15 [16, 17, 18, 19] rfl (by kernel_rfl) rfl rfl (fun w118 e119 => ?_)
    replace R114 := R114.trans (Ext0.any e119)
    replace B := B.ext0 e119
    clear e119
    refine k_call T139.fn_140 (c_s_l03At (B.s 2 rfl) (by omega) (by omega) (by omega) (by omega) (by omega) (by omega) (by omega) (by omega)) rfl ?_
    rintro _ w120 ⟨rfl, e121⟩
    replace R114 := R114.trans (Ext0.any e121)
    replace B := B.ext0 e121
    clear e121
    refine ⟨fun _ => R114, ?_⟩
    have hat122 := atI_b (wd := wd) (hi := hi) (x := x - 1) (y := y) (by omega) (by omega)
    refine m_y (v := .pointer (some (sat afy ((atI wd hi (x - 1) y).toNat * 1)))) 16 rfl (by kernel_rfl) rfl rfl (fun w' e' => y_idx T139.sl_24_34_1 rfl rfl ((B.r 5 rfl).addr (by omega)) (by omega) (by omega)) ?_
    obtain ⟨r124, hr125, hR123⟩ := Rd.atF (B0_113.r 5 rfl) (atI wd hi (x - 1) y) (by omega) (by omega)
    refine m_y (v := .float .f32 r124) 17 rfl (by kernel_rfl) rfl rfl (fun w' e' => y_load T139.one_34 rfl ((hR123.ext0 e').cell (i := 0) rfl)) ?_
    refine m_n 18 [19] rfl (by kernel_rfl) rfl rfl (fun w' e' => n_arith (by decide) rfl rfl) ?_
    rintro _ ⟨r127, rfl, hr128⟩
    have hc131 := fopC hr128 hr117 hr125
    refine m_y (v := .float .f32 r127) 19 rfl (by kernel_rfl) rfl rfl (fun w' e' => y_assign rfl) ?_
    refine m_done (by kernel_rfl) (fun w132 e133 => ?_)
    replace B := B.ext0 e133
    clear e133
    clear B0_113 R114
    refine W_seq ?_
    have B0_138 := B
    refine W_draw (no) T139.mx (by kernel_rfl) (fun w136 e137 => ?_)
    have R139 := Ext.refl (no) w132
    replace R139 := R139.trans (Ext0.any e137)
    replace B := B.ext0 e137
    clear e137
    refine m_y (v := .pointer (some ⟨b2, o2, none⟩)) 0 rfl (by kernel_rfl) rfl rfl (fun w' e' => y_move rfl) ?_
    refine m_y (v := .pointer (some ⟨b2, o2, none⟩)) 1 rfl (by kernel_rfl) rfl rfl (fun w' e' => y_nil rfl) ?_
    refine m_y (v := .pointer (some ⟨b2, o2 + 1, none⟩)) 2 rfl (by kernel_rfl) rfl rfl (fun w' e' => y_fld (o := o2 + 0) T139.fld_30_1_1 rfl) ?_
    refine m_y (v := .slice afx nfx cfx) 3 rfl (by kernel_rfl) rfl rfl (fun w' e' => y_load T139.one_24 rfl (((B0_138.s 6 rfl).ext0 e').cell (j := 1) rfl)) ?_
    refine m_y (v := .int .i64 (atI wd hi x y)) 4 rfl (by kernel_rfl) rfl rfl (fun w' e' => y_move rfl) ?_
    refine m_y (v := .pointer (some (sat afx ((atI wd hi x y).toNat * 1)))) 5 rfl (by kernel_rfl) rfl rfl (fun w' e' => y_idx T139.sl_24_34_1 rfl rfl ((B.r 4 rfl).addr (by omega)) (by omega) (by omega)) ?_
    obtain ⟨r141, hr142, hR140⟩ := Rd.atF (B0_138.r 4 rfl) (atI wd hi x y) (by omega) (by omega)
    refine m_y (v := .float .f32 r141) 6 rfl (by kernel_rfl) rfl rfl (fun w' e' => y_load T139.one_34 rfl ((hR140.ext0 e').cell (i := 0) rfl)) ?_
    refine m_y (v := .pointer (some ⟨b2, o2, none⟩)) 7 rfl (by kernel_rfl) rfl rfl (fun w' e' => y_move rfl) ?_
    refine m_y (v := .pointer (some ⟨b2, o2, none⟩)) 8 rfl (by kernel_rfl) rfl rfl (fun w' e' => y_nil rfl) ?_
    refine m_y (v := .pointer (some ⟨b2, o2 + 1, none⟩)) 9 rfl (by kernel_rfl) rfl rfl (fun w' e' => y_fld (o := o2 + 0) T139.fld_30_1_1 rfl) ?_
    refine m_y (v := .slice afx nfx cfx) 10 rfl (by kernel_rfl) rfl rfl (fun w' e' => y_load T139.one_24 rfl (((B0_138.s 6 rfl).ext0 e').cell (j := 1) rfl)) ?_
    refine m_y (v := .pointer (some ⟨b, o, none⟩)) 11 rfl (by kernel_rfl) rfl rfl (fun w' e' => y_move rfl) ?_
    refine m_y (v := .int .i64 x) 12 rfl (by kernel_rfl) rfl rfl (fun w' e' => y_move rfl) ?_
    refine m_y (v := .int .i64 y) 13 rfl (by kernel_rfl) rfl rfl (fun w' e' => y_move rfl) ?_
    refine m_y (v := .int .i64 (y - 1)) 14 rfl (by kernel_rfl) rfl rfl (fun w' e' => y_sub rfl rfl rfl (by omega)) ?_
    refine m_k 15 [16, 17, 18, 19] rfl (by kernel_rfl) rfl rfl (fun w143 e144 => ?_)
    replace R139 := R139.trans (Ext0.any e144)
    replace B := B.ext0 e144
    clear e144
    refine k_call T139.fn_140 (c_s_l03At (B.s 2 rfl) (by omega) (by omega) (by omega) (by omega) (by omega) (by omega) (by omega) (by omega)) rfl ?_
    rintro _ w145 ⟨rfl, e146⟩
    replace R139 := R139.trans (Ext0.any e146)
    replace B := B.ext0 e146
    clear e146
    refine ⟨fun _ => R139, ?_⟩
    have hat147 := atI_b (wd := wd) (hi := hi) (x := x) (y := y - 1) (by omega) (by omega)
    refine m_y (v := .pointer (some (sat afx ((atI wd hi x (y - 1)).toNat * 1)))) 16 rfl (by kernel_rfl) rfl rfl (fun w' e' => y_idx T139.sl_24_34_1 rfl rfl ((B.r 4 rfl).addr (by omega)) (by omega) (by omega)) ?_
    obtain ⟨r149, hr150, hR148⟩ := Rd.atF (B0_138.r 4 rfl) (atI wd hi x (y - 1)) (by omega) (by omega)
    refine m_y (v := .float .f32 r149) 17 rfl (by kernel_rfl) rfl rfl (fun w' e' => y_load T139.one_34 rfl ((hR148.ext0 e').cell (i := 0) rfl)) ?_
    refine m_n 18 [19] rfl (by kernel_rfl) rfl rfl (fun w' e' => n_arith (by decide) rfl rfl) ?_
    rintro _ ⟨r152, rfl, hr153⟩
    have hc156 := fopC hr153 hr142 hr150
    refine m_y (v := .float .f32 r152) 19 rfl (by kernel_rfl) rfl rfl (fun w' e' => y_assign rfl) ?_
    refine m_done (by kernel_rfl) (fun w157 e158 => ?_)
    replace B := B.ext0 e158
    clear e158
    clear B0_138 R139
    refine W_seq ?_
    have B0_163 := B
    refine W_draw (no) T139.mx (by kernel_rfl) (fun w161 e162 => ?_)
    have R164 := Ext.refl (no) w157
    replace R164 := R164.trans (Ext0.any e162)
    replace B := B.ext0 e162
    clear e162
    refine m_y (v := .pointer (some ⟨b2, o2, none⟩)) 0 rfl (by kernel_rfl) rfl rfl (fun w' e' => y_move rfl) ?_
    refine m_y (v := .pointer (some ⟨b2, o2, none⟩)) 1 rfl (by kernel_rfl) rfl rfl (fun w' e' => y_nil rfl) ?_
    refine m_y (v := .pointer (some ⟨b2, o2, none⟩)) 2 rfl (by kernel_rfl) rfl rfl (fun w' e' => y_fld (o := o2 + 0) T139.fld_30_0_0 rfl) ?_
    refine m_y (v := .slice afe nfe cfe) 3 rfl (by kernel_rfl) rfl rfl (fun w' e' => y_load T139.one_24 rfl (((B0_163.s 6 rfl).ext0 e').cell (j := 0) rfl)) ?_
    refine m_y (v := .int .i64 (atI wd hi x y)) 4 rfl (by kernel_rfl) rfl rfl (fun w' e' => y_move rfl) ?_
    refine m_y (v := .pointer (some (sat afe ((atI wd hi x y).toNat * 1)))) 5 rfl (by kernel_rfl) rfl rfl (fun w' e' => y_idx T139.sl_24_34_1 rfl rfl ((B.r 3 rfl).addr (by omega)) (by omega) (by omega)) ?_
    obtain ⟨r166, hr167, hR165⟩ := Rd.atF (B0_163.r 3 rfl) (atI wd hi x y) (by omega) (by omega)
    refine m_y (v := .float .f32 r166) 6 rfl (by kernel_rfl) rfl rfl (fun w' e' => y_load T139.one_34 rfl ((hR165.ext0 e').cell (i := 0) rfl)) ?_
    refine m_y (v := .pointer (some ⟨b, o, none⟩)) 7 rfl (by kernel_rfl) rfl rfl (fun w' e' => y_move rfl) ?_
    refine m_y (v := .pointer (some ⟨b, o, none⟩)) 8 rfl (by kernel_rfl) rfl rfl (fun w' e' => y_nil rfl) ?_
    refine m_y (v := .pointer (some ⟨b, o + 4, none⟩)) 9 rfl (by kernel_rfl) rfl rfl (fun w' e' => y_fld (o := o + 0) T139.fld_26_4_4 rfl) ?_
    refine m_y (v := .slice als nls cls) 10 rfl (by kernel_rfl) rfl rfl (fun w' e' => y_load T139.one_24 rfl (((B0_163.s 2 rfl).ext0 e').cell (j := 4) rfl)) ?_
    refine m_y (v := .int .i64 (atI wd hi x y)) 11 rfl (by kernel_rfl) rfl rfl (fun w' e' => y_move rfl) ?_
    refine m_y (v := .pointer (some (sat als ((atI wd hi x y).toNat * 1)))) 12 rfl (by kernel_rfl) rfl rfl (fun w' e' => y_idx T139.sl_24_34_1 rfl rfl ((B.r 1 rfl).addr (by omega)) (by omega) (by omega)) ?_
    obtain ⟨r169, hr170, hR168⟩ := Rd.atF (B0_163.r 1 rfl) (atI wd hi x y) (by omega) (by omega)
    refine m_y (v := .float .f32 r169) 13 rfl (by kernel_rfl) rfl rfl (fun w' e' => y_load T139.one_34 rfl ((hR168.ext0 e').cell (i := 0) rfl)) ?_
    refine m_n 14 [15, 16] rfl (by kernel_rfl) rfl rfl (fun w' e' => n_arith (by decide) rfl rfl) ?_
    rintro _ ⟨r172, rfl, hr173⟩
    have hc176 := fopC hr173 (cnLit (k := .f32) (t := 1065353216) (by kernel_rfl) (by kernel_rfl)) hr170
    refine m_n 15 [16] rfl (by kernel_rfl) rfl rfl (fun w' e' => n_arith (by decide) rfl rfl) ?_
    rintro _ ⟨r178, rfl, hr179⟩
    have hc182 := fopC hr179 hr167 hc176
    refine m_y (v := .float .f32 r178) 16 rfl (by kernel_rfl) rfl rfl (fun w' e' => y_assign rfl) ?_
    refine m_done (by kernel_rfl) (fun w183 e184 => ?_)
    replace B := B.ext0 e184
    clear e184
    clear B0_163 R164
    refine W_seq ?_
    refine W_region (by kernel_rfl) ?_
    refine s_y (v := .float .f32 r178) rfl (y_move rfl) ?_
    refine s_y (v := .pointer (some ⟨b, o, none⟩)) rfl (y_move rfl) ?_
    refine s_y (v := .pointer (some ⟨b, o, none⟩)) rfl (y_nil rfl) ?_
    refine s_y (v := .pointer (some ⟨b, o + 3, none⟩)) rfl (y_fld (o := o + 0) T139.fld_26_3_3 rfl) ?_
    refine s_y (v := .slice asp nsp csp) rfl (y_load T139.one_24 rfl ((B.s 2 rfl).cell (j := 3) rfl)) ?_
    refine s_y (v := .int .i64 (atI wd hi x y)) rfl (y_move rfl) ?_
    refine s_y (v := .pointer (some (sat asp ((atI wd hi x y).toNat * 1)))) rfl (y_idx T139.sl_24_34_1 rfl rfl ((B.r 0 rfl).addr (by omega)) (by omega) (by omega)) ?_
    obtain ⟨r186, hr187, hR185⟩ := Rd.atF (B.r 0 rfl) (atI wd hi x y) (by omega) (by omega)
    refine s_y (v := .float .f32 r186) rfl (y_load T139.one_34 rfl (hR185.cell (i := 0) rfl)) ?_
    refine s_y (v := .float .f32 r127) rfl (y_move rfl) ?_
    refine s_y (v := .float .f32 r152) rfl (y_move rfl) ?_
    refine s_n rfl (n_arith (by decide) rfl rfl) ?_
    rintro _ w191 e192 ⟨r189, rfl, hr190⟩
    replace B := B.ext0 e192
    clear e192
    have hc193 := fopC hr190 hc131 hc156
    refine s_n rfl (n_arith (by decide) rfl rfl) ?_
    rintro _ w197 e198 ⟨r195, rfl, hr196⟩
    replace B := B.ext0 e198
    clear e198
    have hc199 := fopC hr196 hr187 hc193
    refine s_n rfl (n_arith (by decide) rfl rfl) ?_
    rintro _ w203 e204 ⟨r201, rfl, hr202⟩
    replace B := B.ext0 e204
    clear e204
    have hc205 := fopC hr202 hc182 hc199
    refine s_y (v := .float .f32 r201) rfl (y_assign rfl) ?_
    refine s_nil ?_
    refine W_ret ?_
    refine ret1 (v := .float .f32 r201) rfl rfl rfl ⟨_, rfl, ?_⟩
    have hcc : bordB wd hi true x y = false := rfl
    exact ⟨⟨_, rfl, cnT hc205 (by unfold nwF nvV; rw [if_neg (by rw [hcc]; simp)])⟩, B.ext⟩
namespace T116
theorem mx : Try.prog.follows .mixedOrders = true := by kernel_rfl
theorem agg_30_3 : aggB Try.prog 30 3 = true := by kernel_rfl
theorem fld_26_0_0 : fldB Try.prog 26 0 0 = true := by kernel_rfl
theorem fld_26_1_1 : fldB Try.prog 26 1 1 = true := by kernel_rfl
theorem fld_30_0_0 : fldB Try.prog 30 0 0 = true := by kernel_rfl
theorem fn_114 : fnB Try.prog 114 = true := by kernel_rfl
theorem fn_138 : fnB Try.prog 138 = true := by kernel_rfl
theorem fn_139 : fnB Try.prog 139 = true := by kernel_rfl
theorem fn_140 : fnB Try.prog 140 = true := by kernel_rfl
theorem one_2 : oneB Try.prog 2 = true := by kernel_rfl
theorem one_24 : oneB Try.prog 24 = true := by kernel_rfl
theorem sl_24_34_1 : slB Try.prog 24 34 1 = true := by kernel_rfl
theorem sz_30_3 : szB Try.prog 30 3 = true := by kernel_rfl
theorem sz_34_1 : szB Try.prog 34 1 = true := by kernel_rfl
theorem zero_30 : zeroB Try.prog 30 (.agg #[.slice none 0 0, .slice none 0 0, .slice none 0 0]) := by unfold zeroB; kernel_rfl
end T116
set_option maxRecDepth 100000 in
set_option maxHeartbeats 4000000 in
theorem c_s_l03Step {b : Nat} {o : Nat} {wd : Int} {hi : Int} {wr : Bool} {asp : Option Addr} {nsp : Nat} {csp : Nat} {Xsp : List Nat} {als : Option Addr} {nls : Nat} {cls : Nat} {Xls : List Nat} {b2 : Nat} {o2 : Nat} {afe : Option Addr} {nfe : Nat} {cfe : Nat} {Xfe : List Nat} {afx : Option Addr} {nfx : Nat} {cfx : Nat} {Xfx : List Nat} {afy : Option Addr} {nfy : Nat} {cfy : Nat} {Xfy : List Nat} {w : World} (qsp : Rd w kF asp nsp Xsp) (qls : Rd w kF als nls Xls) (Pb : Sl w (some ⟨b, o, none⟩) [.int .i64 wd, .int .i64 hi, .bool wr, .slice asp nsp csp, .slice als nls cls]) (qfe : Rd w kF afe nfe Xfe) (qfx : Rd w kF afx nfx Xfx) (qfy : Rd w kF afy nfy Xfy) (Pb2 : Sl w (some ⟨b2, o2, none⟩) [.slice afe nfe cfe, .slice afx nfx cfx, .slice afy nfy cfy]) (h1 : 3 ≤ wd) (h2 : wd ≤ 16) (h3 : 3 ≤ hi) (h4 : hi ≤ 16) (gfe : (nfe : Int) = wd * hi) (gfx : (nfx : Int) = wd * hi) (gfy : (nfy : Int) = wd * hi) (gsp : (nsp : Int) = wd * hi) (gls : (nls : Int) = wd * hi) :
    Calls Try.prog 116 #[.pointer (some ⟨b, o, none⟩), .pointer (some ⟨b2, o2, none⟩)] w (Rt fun v w' => ∃ (a1 : Option Addr) (c1 : Nat) (a2 : Option Addr) (c2 : Nat) (a3 : Option Addr) (c3 : Nat), v = .agg #[.slice a1 nfe c1, .slice a2 nfx c2, .slice a3 nfy c3] ∧ New w w' [.ow kF a1 nfe c1 34 (nwL wd hi wr Xsp Xls Xfe (hxL wd hi wr Xfe Xfx) (hyL wd hi wr Xfe Xfy)), .ow kF a2 nfx c2 34 (hxL wd hi wr Xfe Xfx), .ow kF a3 nfy c3 34 (hyL wd hi wr Xfe Xfy)]) := by
  have hlsp := qsp.len
  have hlls := qls.len
  have hlfe := qfe.len
  have hlfx := qfx.len
  have hlfy := qfy.len
  have B : Bu w no w [.rd kF asp nsp Xsp, .rd kF als nls Xls, .sl (some ⟨b, o, none⟩) [.int .i64 wd, .int .i64 hi, .bool wr, .slice asp nsp csp, .slice als nls cls], .rd kF afe nfe Xfe, .rd kF afx nfx Xfx, .rd kF afy nfy Xfy, .sl (some ⟨b2, o2, none⟩) [.slice afe nfe cfe, .slice afx nfx cfx, .slice afy nfy cfy]] := Bu.ro (All.cons qsp (All.cons qls (All.cons Pb (All.cons qfe (All.cons qfx (All.cons qfy (All.cons Pb2 All.nil))))))) rfl
  have hwh := mul16 (And.intro (And.intro h1 h2) (And.intro h3 h4))
  refine calls_W (n := 41) Try.func116 rfl rfl (Nat.le_of_ble_eq_true rfl) ?_
  refine W_seq ?_
  refine W_region (by kernel_rfl) ?_
  refine s_k rfl (k_allocN (z := (.agg #[.slice none 0 0, .slice none 0 0, .slice none 0 0])) (cs := [.slice none 0 0, .slice none 0 0, .slice none 0 0]) T116.zero_30 rfl (fun b1 w2 hN3 => ?_))
  replace B := B.new1 hN3
  clear hN3
  refine s_nil ?_
  refine W_seq ?_
  refine W_region (by kernel_rfl) ?_
  refine s_y (v := .pointer (some ⟨b, o, none⟩)) rfl (y_move rfl) ?_
  refine s_y (v := .pointer (some ⟨b2, o2, none⟩)) rfl (y_move rfl) ?_
  refine s_k rfl (k_call T116.fn_138 (c_s_l03Half (B.s 3 rfl) (B.r 4 rfl) (B.r 5 rfl) (B.r 6 rfl) (B.s 7 rfl) (by omega) (by omega) (by omega) (by omega) (by omega) (by omega) (by omega)) rfl ?_)
  rintro _ w4 ⟨a5, c6, a7, c8, a9, c10, rfl, hN11⟩
  replace B := B.new3 hN11
  clear hN11
  refine s_k rfl (k_allocN (z := (.agg #[.slice none 0 0, .slice none 0 0, .slice none 0 0])) (cs := [.slice none 0 0, .slice none 0 0, .slice none 0 0]) T116.zero_30 rfl (fun b12 w13 hN14 => ?_))
  replace B := B.new1 hN14
  clear hN14
  refine s_k0 rfl (k_stB (v := .agg #[.slice a5 nfe c6, .slice a7 nfx c8, .slice a9 nfy c10]) (n := 3) (cs' := [.slice a5 nfe c6, .slice a7 nfx c8, .slice a9 nfy c10]) T116.sz_30_3 rfl rfl rfl (B.b 0 rfl) (by simp [Value.cells, Value.oneCell']) (Nat.le_of_ble_eq_true rfl) rfl (fun w15 hU16 => ?_))
  replace B : Bu w no w15 [.blk b12 [.slice a5 nfe c6, .slice a7 nfx c8, .slice a9 nfy c10] 30, .ow kF a5 nfe c6 34 Xfe, .ow kF a7 nfx c8 34 (hxL wd hi wr Xfe Xfx), .ow kF a9 nfy c10 34 (hyL wd hi wr Xfe Xfy), .blk b1 [.slice none 0 0, .slice none 0 0, .slice none 0 0] 30, .rd kF asp nsp Xsp, .rd kF als nls Xls, .sl (some ⟨b, o, none⟩) [.int .i64 wd, .int .i64 hi, .bool wr, .slice asp nsp csp, .slice als nls cls], .rd kF afe nfe Xfe, .rd kF afx nfx Xfx, .rd kF afy nfy Xfy, .sl (some ⟨b2, o2, none⟩) [.slice afe nfe cfe, .slice afx nfx cfx, .slice afy nfy cfy]] := B.upd [0] rfl hU16
  clear hU16
  refine s_nil ?_
  refine W_seq ?_
  refine W_region (by kernel_rfl) ?_
  refine s_k rfl (k_call T116.fn_114 (c_s_l02Own ((B.o 1 rfl).rd) ((B.o 2 rfl).rd) ((B.o 3 rfl).rd) ((B.b 0 rfl).sl) (by omega) (by omega) (by omega)) rfl ?_)
  rintro _ w17 ⟨a18, c19, a20, c21, a22, c23, rfl, hN24⟩
  replace B := B.new3 hN24
  clear hN24
  refine s_k rfl (k_allocN (z := (.agg #[.slice none 0 0, .slice none 0 0, .slice none 0 0])) (cs := [.slice none 0 0, .slice none 0 0, .slice none 0 0]) T116.zero_30 rfl (fun b25 w26 hN27 => ?_))
  replace B := B.new1 hN27
  clear hN27
  refine s_k0 rfl (k_stB (v := .agg #[.slice a18 nfe c19, .slice a20 nfx c21, .slice a22 nfy c23]) (n := 3) (cs' := [.slice a18 nfe c19, .slice a20 nfx c21, .slice a22 nfy c23]) T116.sz_30_3 rfl rfl rfl (B.b 0 rfl) (by simp [Value.cells, Value.oneCell']) (Nat.le_of_ble_eq_true rfl) rfl (fun w28 hU29 => ?_))
  replace B : Bu w no w28 [.blk b25 [.slice a18 nfe c19, .slice a20 nfx c21, .slice a22 nfy c23] 30, .ow kF a18 nfe c19 34 Xfe, .ow kF a20 nfx c21 34 (hxL wd hi wr Xfe Xfx), .ow kF a22 nfy c23 34 (hyL wd hi wr Xfe Xfy), .blk b12 [.slice a5 nfe c6, .slice a7 nfx c8, .slice a9 nfy c10] 30, .ow kF a5 nfe c6 34 Xfe, .ow kF a7 nfx c8 34 (hxL wd hi wr Xfe Xfx), .ow kF a9 nfy c10 34 (hyL wd hi wr Xfe Xfy), .blk b1 [.slice none 0 0, .slice none 0 0, .slice none 0 0] 30, .rd kF asp nsp Xsp, .rd kF als nls Xls, .sl (some ⟨b, o, none⟩) [.int .i64 wd, .int .i64 hi, .bool wr, .slice asp nsp csp, .slice als nls cls], .rd kF afe nfe Xfe, .rd kF afx nfx Xfx, .rd kF afy nfy Xfy, .sl (some ⟨b2, o2, none⟩) [.slice afe nfe cfe, .slice afx nfx cfx, .slice afy nfy cfy]] := B.upd [0] rfl hU29
  clear hU29
  refine s_nil ?_
  refine W_seq ?_
  refine W_seq ?_
  refine W_region (by kernel_rfl) ?_
  refine s_y (v := .int .i64 0) rfl (y_assign rfl) ?_
  refine s_nil ?_
  refine W_block ?_
  refine W_loop (fun ρ' w' => ∃ (ρ1 : Env) (py : Int), ρ' = updL ρ1 [(0, .pointer (some ⟨b, o, none⟩)), (4, .pointer (some ⟨b1, 0, none⟩)), (5, .pointer (some ⟨b12, 0, none⟩)), (6, .pointer (some ⟨b25, 0, none⟩)), (7, .int .i64 py)] ∧ Bu w no w' [.ow kF a18 nfe c19 34 (mix (wd * hi) (wd * py) (fun i => nwF wd hi wr Xsp Xls Xfe (hxL wd hi wr Xfe Xfx) (hyL wd hi wr Xfe Xfy) (i % wd) (i / wd)) Xfe), .blk b25 [.slice a18 nfe c19, .slice a20 nfx c21, .slice a22 nfy c23] 30, .ow kF a20 nfx c21 34 (hxL wd hi wr Xfe Xfx), .ow kF a22 nfy c23 34 (hyL wd hi wr Xfe Xfy), .blk b12 [.slice a5 nfe c6, .slice a7 nfx c8, .slice a9 nfy c10] 30, .ow kF a5 nfe c6 34 Xfe, .ow kF a7 nfx c8 34 (hxL wd hi wr Xfe Xfx), .ow kF a9 nfy c10 34 (hyL wd hi wr Xfe Xfy), .blk b1 [.slice none 0 0, .slice none 0 0, .slice none 0 0] 30, .rd kF asp nsp Xsp, .rd kF als nls Xls, .sl (some ⟨b, o, none⟩) [.int .i64 wd, .int .i64 hi, .bool wr, .slice asp nsp csp, .slice als nls cls], .rd kF afe nfe Xfe, .rd kF afx nfx Xfx, .rd kF afy nfy Xfy, .sl (some ⟨b2, o2, none⟩) [.slice afe nfe cfe, .slice afx nfx cfx, .slice afy nfy cfy]] ∧ (0 ≤ py) ∧ (py ≤ hi)) (fun ρ' _ => (hi - iv (ρ' 7)).toNat) ?_ ?_
  · replace B : Bu w no w28 [.blk b25 [.slice a18 nfe c19, .slice a20 nfx c21, .slice a22 nfy c23] 30, .ow kF a18 nfe c19 34 (mix (wd * hi) (wd * 0) (fun i => nwF wd hi wr Xsp Xls Xfe (hxL wd hi wr Xfe Xfx) (hyL wd hi wr Xfe Xfy) (i % wd) (i / wd)) Xfe), .ow kF a20 nfx c21 34 (hxL wd hi wr Xfe Xfx), .ow kF a22 nfy c23 34 (hyL wd hi wr Xfe Xfy), .blk b12 [.slice a5 nfe c6, .slice a7 nfx c8, .slice a9 nfy c10] 30, .ow kF a5 nfe c6 34 Xfe, .ow kF a7 nfx c8 34 (hxL wd hi wr Xfe Xfx), .ow kF a9 nfy c10 34 (hyL wd hi wr Xfe Xfy), .blk b1 [.slice none 0 0, .slice none 0 0, .slice none 0 0] 30, .rd kF asp nsp Xsp, .rd kF als nls Xls, .sl (some ⟨b, o, none⟩) [.int .i64 wd, .int .i64 hi, .bool wr, .slice asp nsp csp, .slice als nls cls], .rd kF afe nfe Xfe, .rd kF afx nfx Xfx, .rd kF afy nfy Xfy, .sl (some ⟨b2, o2, none⟩) [.slice afe nfe cfe, .slice afx nfx cfx, .slice afy nfy cfy]] := B.castX 1 rfl rfl ((mix_zero (by omega)).trans (congrArg (fun q => mix (wd * hi) q (fun i => nwF wd hi wr Xsp Xls Xfe (hxL wd hi wr Xfe Xfx) (hyL wd hi wr Xfe Xfy) (i % wd) (i / wd)) _) (Int.mul_zero wd).symm))
    exact ⟨_, 0, Fits.eq ⟨rfl, rfl, rfl, rfl, rfl, trivial⟩, (B.pick [1, 0, 2, 3, 4, 5, 6, 7, 8, 9, 10, 11, 12, 13, 14, 15] rfl rfl), (Int.le_refl _), (by omega)⟩
  · clear B; rintro _ w30 ⟨ρ31, py, rfl, B, h0py, h1py⟩
    refine W_seq ?_
    refine W_seq ?_
    refine W_region (by kernel_rfl) ?_
    refine s_y (v := .int .i64 py) rfl (y_move rfl) ?_
    refine s_y (v := .pointer (some ⟨b, o, none⟩)) rfl (y_move rfl) ?_
    refine s_y (v := .pointer (some ⟨b, o, none⟩)) rfl (y_nil rfl) ?_
    refine s_y (v := .pointer (some ⟨b, o + 1, none⟩)) rfl (y_fld (o := o + 0) T116.fld_26_1_1 rfl) ?_
    refine s_y (v := .int .i64 hi) rfl (y_load T116.one_2 rfl ((B.s 11 rfl).cell (j := 1) rfl)) ?_
    by_cases c32 : py < hi
    · refine s_y (v := .bool true) rfl (y_lss rfl rfl (decide_eq_true c32)) ?_
      refine s_nil ?_
      refine W_if_t (by decide) rfl ?_
      refine W_skip ?_
      refine W_seq ?_
      refine W_block ?_
      refine W_seq ?_
      refine W_region (by kernel_rfl) ?_
      refine s_y (v := .int .i64 0) rfl (y_assign rfl) ?_
      refine s_nil ?_
      refine W_block ?_
      refine W_loop (fun ρ' w' => ∃ (ρ1 : Env) (px : Int), ρ' = updL ρ1 [(0, .pointer (some ⟨b, o, none⟩)), (4, .pointer (some ⟨b1, 0, none⟩)), (5, .pointer (some ⟨b12, 0, none⟩)), (6, .pointer (some ⟨b25, 0, none⟩)), (7, .int .i64 py), (8, .int .i64 px), (13, .int .i64 py), (14, .pointer (some ⟨b, o, none⟩)), (15, .pointer (some ⟨b, o, none⟩)), (16, .pointer (some ⟨b, o + 1, none⟩)), (17, .int .i64 hi), (18, .bool true)] ∧ Bu w no w' [.ow kF a18 nfe c19 34 (mix (wd * hi) (wd * py + px) (fun i => nwF wd hi wr Xsp Xls Xfe (hxL wd hi wr Xfe Xfx) (hyL wd hi wr Xfe Xfy) (i % wd) (i / wd)) Xfe), .blk b25 [.slice a18 nfe c19, .slice a20 nfx c21, .slice a22 nfy c23] 30, .ow kF a20 nfx c21 34 (hxL wd hi wr Xfe Xfx), .ow kF a22 nfy c23 34 (hyL wd hi wr Xfe Xfy), .blk b12 [.slice a5 nfe c6, .slice a7 nfx c8, .slice a9 nfy c10] 30, .ow kF a5 nfe c6 34 Xfe, .ow kF a7 nfx c8 34 (hxL wd hi wr Xfe Xfx), .ow kF a9 nfy c10 34 (hyL wd hi wr Xfe Xfy), .blk b1 [.slice none 0 0, .slice none 0 0, .slice none 0 0] 30, .rd kF asp nsp Xsp, .rd kF als nls Xls, .sl (some ⟨b, o, none⟩) [.int .i64 wd, .int .i64 hi, .bool wr, .slice asp nsp csp, .slice als nls cls], .rd kF afe nfe Xfe, .rd kF afx nfx Xfx, .rd kF afy nfy Xfy, .sl (some ⟨b2, o2, none⟩) [.slice afe nfe cfe, .slice afx nfx cfx, .slice afy nfy cfy]] ∧ (0 ≤ px) ∧ (px ≤ wd)) (fun ρ' _ => (wd - iv (ρ' 8)).toNat) ?_ ?_
      · replace B : Bu w no w30 [.ow kF a18 nfe c19 34 (mix (wd * hi) (wd * py + 0) (fun i => nwF wd hi wr Xsp Xls Xfe (hxL wd hi wr Xfe Xfx) (hyL wd hi wr Xfe Xfy) (i % wd) (i / wd)) Xfe), .blk b25 [.slice a18 nfe c19, .slice a20 nfx c21, .slice a22 nfy c23] 30, .ow kF a20 nfx c21 34 (hxL wd hi wr Xfe Xfx), .ow kF a22 nfy c23 34 (hyL wd hi wr Xfe Xfy), .blk b12 [.slice a5 nfe c6, .slice a7 nfx c8, .slice a9 nfy c10] 30, .ow kF a5 nfe c6 34 Xfe, .ow kF a7 nfx c8 34 (hxL wd hi wr Xfe Xfx), .ow kF a9 nfy c10 34 (hyL wd hi wr Xfe Xfy), .blk b1 [.slice none 0 0, .slice none 0 0, .slice none 0 0] 30, .rd kF asp nsp Xsp, .rd kF als nls Xls, .sl (some ⟨b, o, none⟩) [.int .i64 wd, .int .i64 hi, .bool wr, .slice asp nsp csp, .slice als nls cls], .rd kF afe nfe Xfe, .rd kF afx nfx Xfx, .rd kF afy nfy Xfy, .sl (some ⟨b2, o2, none⟩) [.slice afe nfe cfe, .slice afx nfx cfx, .slice afy nfy cfy]] := B.castX 0 rfl rfl (congrArg (fun q => mix (wd * hi) q (fun i => nwF wd hi wr Xsp Xls Xfe (hxL wd hi wr Xfe Xfx) (hyL wd hi wr Xfe Xfy) (i % wd) (i / wd)) _) (Int.add_zero _).symm)
        exact ⟨_, 0, Fits.eq ⟨rfl, rfl, rfl, rfl, rfl, rfl, rfl, rfl, rfl, rfl, rfl, rfl, trivial⟩, B, (Int.le_refl _), (by omega)⟩
      · clear B; rintro _ w33 ⟨ρ34, px, rfl, B, h0px, h1px⟩
        refine W_seq ?_
        refine W_seq ?_
        refine W_region (by kernel_rfl) ?_
        refine s_y (v := .int .i64 px) rfl (y_move rfl) ?_
        refine s_y (v := .pointer (some ⟨b, o, none⟩)) rfl (y_move rfl) ?_
        refine s_y (v := .pointer (some ⟨b, o, none⟩)) rfl (y_nil rfl) ?_
        refine s_y (v := .pointer (some ⟨b, o, none⟩)) rfl (y_fld (o := o + 0) T116.fld_26_0_0 rfl) ?_
        refine s_y (v := .int .i64 wd) rfl (y_load T116.one_2 rfl ((B.s 11 rfl).cell (j := 0) rfl)) ?_
        by_cases c35 : px < wd
        · refine s_y (v := .bool true) rfl (y_lss rfl rfl (decide_eq_true c35)) ?_
          refine s_nil ?_
          refine W_if_t (by decide) rfl ?_
          refine W_skip ?_
          refine W_seq ?_
          refine W_block ?_
          have B0_40 := B
          refine W_draw (no) T116.mx (by kernel_rfl) (fun w38 e39 => ?_)
          have R41 := Ext.refl (no) w33
          replace R41 := R41.trans (Ext0.any e39)
          replace B := B.ext0 e39
          clear e39
          refine m_y (v := .pointer (some ⟨b25, 0, none⟩)) 0 rfl (by kernel_rfl) rfl rfl (fun w' e' => y_fld (o := 0) T116.fld_30_0_0 rfl) ?_
          refine m_y (v := .slice a18 nfe c19) 1 rfl (by kernel_rfl) rfl rfl (fun w' e' => y_load T116.one_24 rfl (((B0_40.b 1 rfl).ext0 e').cell (j := 0) rfl)) ?_
          refine m_y (v := .pointer (some ⟨b, o, none⟩)) 2 rfl (by kernel_rfl) rfl rfl (fun w' e' => y_move rfl) ?_
          refine m_y (v := .int .i64 px) 3 rfl (by kernel_rfl) rfl rfl (fun w' e' => y_move rfl) ?_
          refine m_y (v := .int .i64 py) 4 rfl (by kernel_rfl) rfl rfl (fun w' e' => y_move rfl) ?_
          refine m_y (v := .pointer (some ⟨b, o, none⟩)) 6 rfl (by kernel_rfl) rfl rfl (fun w' e' => y_move rfl) ?_
          refine m_y (v := .int .i64 px) 7 rfl (by kernel_rfl) rfl rfl (fun w' e' => y_move rfl) ?_
          refine m_y (v := .int .i64 py) 8 rfl (by kernel_rfl) rfl rfl (fun w' e' => y_move rfl) ?_
          refine m_k 5 [9, 10, 11] rfl (by kernel_rfl) rfl rfl (fun w42 e43 => ?_)
          replace R41 := R41.trans (Ext0.any e43)
          replace B := B.ext0 e43
          clear e43
          refine k_call T116.fn_140 (c_s_l03At (B.s 11 rfl) (by omega) (by omega) (by omega) (by omega) (by omega) (by omega) (by omega) (by omega)) rfl ?_
          rintro _ w44 ⟨rfl, e45⟩
          replace R41 := R41.trans (Ext0.any e45)
          replace B := B.ext0 e45
          clear e45
          refine ⟨fun _ => R41, ?_⟩
          have hat46 := atI_b (wd := wd) (hi := hi) (x := px) (y := py) (by omega) (by omega)
          refine m_k 9 [10, 11] rfl (by kernel_rfl) rfl rfl (fun w47 e48 => ?_)
          replace R41 := R41.trans (Ext0.any e48)
          replace B := B.ext0 e48
          clear e48
          refine k_call T116.fn_139 (c_s_l03Rest (B.r 9 rfl) (B.r 10 rfl) (B.s 11 rfl) ((B.o 5 rfl).rd) ((B.o 6 rfl).rd) ((B.o 7 rfl).rd) ((B.b 4 rfl).sl) (by omega) (by omega) (by omega) (by omega) (by omega) (by omega) (by omega) (by omega) (by omega) (by omega) (by omega) (by omega) (by omega)) rfl ?_
          rintro _ w49 ⟨⟨r51, rfl, hr52⟩, e50⟩
          replace R41 := R41.trans (Ext0.any e50)
          replace B := B.ext0 e50
          clear e50
          refine ⟨fun _ => R41, ?_⟩
          refine m_y (v := .pointer (some (sat a18 ((atI wd hi px py).toNat * 1)))) 10 rfl (by kernel_rfl) rfl rfl (fun w' e' => y_idx T116.sl_24_34_1 rfl rfl ((B.o 0 rfl).rd.addr (by omega)) (by omega) (by omega)) ?_
          refine m_kt 11 [] rfl (by kernel_rfl) rfl rfl (by kernel_rfl) (fun w55 e56 => ?_)
          replace R41 := R41.trans (Ext0.any e56)
          replace B := B.ext0 e56
          clear e56
          refine k_stO (k := kF) (i := atI wd hi px py) (j := 0) (x' := nwF wd hi wr Xsp Xls Xfe (hxL wd hi wr Xfe Xfx) (hyL wd hi wr Xfe Xfy) px py) (new := [.float .f32 r51]) T116.sz_34_1 rfl rfl rfl rfl rfl (by simp [Value.oneCell']) (by decide) (B.o 0 rfl) (by omega) (by omega) (by decide) (by rintro q ⟨_, rfl, _⟩; exact ⟨_, rfl, hr52⟩) (fun w53 hU54 => ?_)
          clear R41
          replace B : Bu w no w53 [.ow kF a18 nfe c19 34 (put (mix (wd * hi) (wd * py + px) (fun i => nwF wd hi wr Xsp Xls Xfe (hxL wd hi wr Xfe Xfx) (hyL wd hi wr Xfe Xfy) (i % wd) (i / wd)) Xfe) (atI wd hi px py) (nwF wd hi wr Xsp Xls Xfe (hxL wd hi wr Xfe Xfx) (hyL wd hi wr Xfe Xfy) px py)), .blk b25 [.slice a18 nfe c19, .slice a20 nfx c21, .slice a22 nfy c23] 30, .ow kF a20 nfx c21 34 (hxL wd hi wr Xfe Xfx), .ow kF a22 nfy c23 34 (hyL wd hi wr Xfe Xfy), .blk b12 [.slice a5 nfe c6, .slice a7 nfx c8, .slice a9 nfy c10] 30, .ow kF a5 nfe c6 34 Xfe, .ow kF a7 nfx c8 34 (hxL wd hi wr Xfe Xfx), .ow kF a9 nfy c10 34 (hyL wd hi wr Xfe Xfy), .blk b1 [.slice none 0 0, .slice none 0 0, .slice none 0 0] 30, .rd kF asp nsp Xsp, .rd kF als nls Xls, .sl (some ⟨b, o, none⟩) [.int .i64 wd, .int .i64 hi, .bool wr, .slice asp nsp csp, .slice als nls cls], .rd kF afe nfe Xfe, .rd kF afx nfx Xfx, .rd kF afy nfy Xfy, .sl (some ⟨b2, o2, none⟩) [.slice afe nfe cfe, .slice afx nfx cfx, .slice afy nfy cfy]] := B.upd [0] rfl hU54
          clear hU54
          refine m_done (by kernel_rfl) (fun w57 e58 => ?_)
          replace B := B.ext0 e58
          clear e58
          clear B0_40
          refine W_region (by kernel_rfl) ?_
          refine s_y (v := .int .i64 px) rfl (y_move rfl) ?_
          refine s_y (v := .int .i64 (px + 1)) rfl (y_add rfl rfl rfl (by omega)) ?_
          refine s_y (v := .int .i64 (px + 1)) rfl (y_assign rfl) ?_
          refine s_nil ?_
          replace B : Bu w no w57 [.ow kF a18 nfe c19 34 (mix (wd * hi) (wd * py + (px + 1)) (fun i => nwF wd hi wr Xsp Xls Xfe (hxL wd hi wr Xfe Xfx) (hyL wd hi wr Xfe Xfy) (i % wd) (i / wd)) Xfe), .blk b25 [.slice a18 nfe c19, .slice a20 nfx c21, .slice a22 nfy c23] 30, .ow kF a20 nfx c21 34 (hxL wd hi wr Xfe Xfx), .ow kF a22 nfy c23 34 (hyL wd hi wr Xfe Xfy), .blk b12 [.slice a5 nfe c6, .slice a7 nfx c8, .slice a9 nfy c10] 30, .ow kF a5 nfe c6 34 Xfe, .ow kF a7 nfx c8 34 (hxL wd hi wr Xfe Xfx), .ow kF a9 nfy c10 34 (hyL wd hi wr Xfe Xfy), .blk b1 [.slice none 0 0, .slice none 0 0, .slice none 0 0] 30, .rd kF asp nsp Xsp, .rd kF als nls Xls, .sl (some ⟨b, o, none⟩) [.int .i64 wd, .int .i64 hi, .bool wr, .slice asp nsp csp, .slice als nls cls], .rd kF afe nfe Xfe, .rd kF afx nfx Xfx, .rd kF afy nfy Xfy, .sl (some ⟨b2, o2, none⟩) [.slice afe nfe cfe, .slice afx nfx cfx, .slice afy nfy cfy]] := B.castX 0 rfl rfl (mix_cell (G := nwF wd hi wr Xsp Xls Xfe (hxL wd hi wr Xfe Xfx) (hyL wd hi wr Xfe Xfy)) rfl (by omega) (by omega) (by omega) (by omega) rfl rfl)
          refine ⟨⟨_, px + 1, Fits.eq ⟨rfl, rfl, rfl, rfl, rfl, rfl, rfl, rfl, rfl, rfl, rfl, rfl, trivial⟩, B, (by omega), (by omega)⟩, ?_⟩
          show (wd - (px + 1)).toNat < (wd - px).toNat
          omega
        · refine s_y (v := .bool false) rfl (y_lss rfl rfl (decide_eq_false c35)) ?_
          refine s_nil ?_
          refine W_if_f (by decide) rfl ?_
          refine W_exit ?_
          refine W_region (by kernel_rfl) ?_
          refine s_y (v := .int .i64 py) rfl (y_move rfl) ?_
          refine s_y (v := .int .i64 (py + 1)) rfl (y_add rfl rfl rfl (by omega)) ?_
          refine s_y (v := .int .i64 (py + 1)) rfl (y_assign rfl) ?_
          refine s_nil ?_
          replace B : Bu w no w33 [.ow kF a18 nfe c19 34 (mix (wd * hi) (wd * (py + 1)) (fun i => nwF wd hi wr Xsp Xls Xfe (hxL wd hi wr Xfe Xfx) (hyL wd hi wr Xfe Xfy) (i % wd) (i / wd)) Xfe), .blk b25 [.slice a18 nfe c19, .slice a20 nfx c21, .slice a22 nfy c23] 30, .ow kF a20 nfx c21 34 (hxL wd hi wr Xfe Xfx), .ow kF a22 nfy c23 34 (hyL wd hi wr Xfe Xfy), .blk b12 [.slice a5 nfe c6, .slice a7 nfx c8, .slice a9 nfy c10] 30, .ow kF a5 nfe c6 34 Xfe, .ow kF a7 nfx c8 34 (hxL wd hi wr Xfe Xfx), .ow kF a9 nfy c10 34 (hyL wd hi wr Xfe Xfy), .blk b1 [.slice none 0 0, .slice none 0 0, .slice none 0 0] 30, .rd kF asp nsp Xsp, .rd kF als nls Xls, .sl (some ⟨b, o, none⟩) [.int .i64 wd, .int .i64 hi, .bool wr, .slice asp nsp csp, .slice als nls cls], .rd kF afe nfe Xfe, .rd kF afx nfx Xfx, .rd kF afy nfy Xfy, .sl (some ⟨b2, o2, none⟩) [.slice afe nfe cfe, .slice afx nfx cfx, .slice afy nfy cfy]] := B.castX 0 rfl rfl (congrArg (fun q => mix (wd * hi) q (fun i => nwF wd hi wr Xsp Xls Xfe (hxL wd hi wr Xfe Xfx) (hyL wd hi wr Xfe Xfy) (i % wd) (i / wd)) _) (show wd * py + px = wd * (py + 1) by rw [Int.mul_add, Int.mul_one]; omega))
          refine ⟨⟨_, py + 1, Fits.eq ⟨rfl, rfl, rfl, rfl, rfl, trivial⟩, B, (by omega), (by omega)⟩, ?_⟩
          show (hi - (py + 1)).toNat < (hi - py).toNat
          omega
    · refine s_y (v := .bool false) rfl (y_lss rfl rfl (decide_eq_false c32)) ?_
      refine s_nil ?_
      refine W_if_f (by decide) rfl ?_
      refine W_exit ?_
      have hye : py = hi := by omega
      subst hye
      replace B : Bu w no w30 [.ow kF a18 nfe c19 34 (tab (wd * py) (fun i => nwF wd py wr Xsp Xls Xfe (hxL wd py wr Xfe Xfx) (hyL wd py wr Xfe Xfy) (i % wd) (i / wd))), .blk b25 [.slice a18 nfe c19, .slice a20 nfx c21, .slice a22 nfy c23] 30, .ow kF a20 nfx c21 34 (hxL wd py wr Xfe Xfx), .ow kF a22 nfy c23 34 (hyL wd py wr Xfe Xfy), .blk b12 [.slice a5 nfe c6, .slice a7 nfx c8, .slice a9 nfy c10] 30, .ow kF a5 nfe c6 34 Xfe, .ow kF a7 nfx c8 34 (hxL wd py wr Xfe Xfx), .ow kF a9 nfy c10 34 (hyL wd py wr Xfe Xfy), .blk b1 [.slice none 0 0, .slice none 0 0, .slice none 0 0] 30, .rd kF asp nsp Xsp, .rd kF als nls Xls, .sl (some ⟨b, o, none⟩) [.int .i64 wd, .int .i64 py, .bool wr, .slice asp nsp csp, .slice als nls cls], .rd kF afe nfe Xfe, .rd kF afx nfx Xfx, .rd kF afy nfy Xfy, .sl (some ⟨b2, o2, none⟩) [.slice afe nfe cfe, .slice afx nfx cfx, .slice afy nfy cfy]] := B.castX 0 rfl rfl mix_all
      refine W_seq ?_
      refine W_region (by kernel_rfl) ?_
      refine s_y (v := .agg #[.slice a18 nfe c19, .slice a20 nfx c21, .slice a22 nfy c23]) rfl (y_loadn (b := b25) (o := 0) (vs := [.slice a18 nfe c19, .slice a20 nfx c21, .slice a22 nfy c23]) T116.agg_30_3 rfl rfl ((B.b 1 rfl).cells (o := 0) rfl)) ?_
      refine s_k0 rfl (k_stB (v := .agg #[.slice a18 nfe c19, .slice a20 nfx c21, .slice a22 nfy c23]) (n := 3) (cs' := [.slice a18 nfe c19, .slice a20 nfx c21, .slice a22 nfy c23]) T116.sz_30_3 rfl rfl rfl (B.b 8 rfl) (by simp [Value.cells, Value.oneCell']) (Nat.le_of_ble_eq_true rfl) rfl (fun w59 hU60 => ?_))
      replace B : Bu w no w59 [.blk b1 [.slice a18 nfe c19, .slice a20 nfx c21, .slice a22 nfy c23] 30, .ow kF a18 nfe c19 34 (tab (wd * py) (fun i => nwF wd py wr Xsp Xls Xfe (hxL wd py wr Xfe Xfx) (hyL wd py wr Xfe Xfy) (i % wd) (i / wd))), .blk b25 [.slice a18 nfe c19, .slice a20 nfx c21, .slice a22 nfy c23] 30, .ow kF a20 nfx c21 34 (hxL wd py wr Xfe Xfx), .ow kF a22 nfy c23 34 (hyL wd py wr Xfe Xfy), .blk b12 [.slice a5 nfe c6, .slice a7 nfx c8, .slice a9 nfy c10] 30, .ow kF a5 nfe c6 34 Xfe, .ow kF a7 nfx c8 34 (hxL wd py wr Xfe Xfx), .ow kF a9 nfy c10 34 (hyL wd py wr Xfe Xfy), .rd kF asp nsp Xsp, .rd kF als nls Xls, .sl (some ⟨b, o, none⟩) [.int .i64 wd, .int .i64 py, .bool wr, .slice asp nsp csp, .slice als nls cls], .rd kF afe nfe Xfe, .rd kF afx nfx Xfx, .rd kF afy nfy Xfy, .sl (some ⟨b2, o2, none⟩) [.slice afe nfe cfe, .slice afx nfx cfx, .slice afy nfy cfy]] := B.upd [8] rfl hU60
      clear hU60
      refine s_nil ?_
      refine W_ret ?_
      refine ret1 (v := .agg #[.slice a18 nfe c19, .slice a20 nfx c21, .slice a22 nfy c23]) rfl rfl ⟨_, [.slice a18 nfe c19, .slice a20 nfx c21, .slice a22 nfy c23], _, rfl, (B.b 0 rfl), T116.agg_30_3, rfl⟩ ⟨_, rfl, ?_⟩
      replace B : Bu w no w59 [.blk b1 [.slice a18 nfe c19, .slice a20 nfx c21, .slice a22 nfy c23] 30, .ow kF a18 nfe c19 34 (nwL wd py wr Xsp Xls Xfe (hxL wd py wr Xfe Xfx) (hyL wd py wr Xfe Xfy)), .blk b25 [.slice a18 nfe c19, .slice a20 nfx c21, .slice a22 nfy c23] 30, .ow kF a20 nfx c21 34 (hxL wd py wr Xfe Xfx), .ow kF a22 nfy c23 34 (hyL wd py wr Xfe Xfy), .blk b12 [.slice a5 nfe c6, .slice a7 nfx c8, .slice a9 nfy c10] 30, .ow kF a5 nfe c6 34 Xfe, .ow kF a7 nfx c8 34 (hxL wd py wr Xfe Xfx), .ow kF a9 nfy c10 34 (hyL wd py wr Xfe Xfy), .rd kF asp nsp Xsp, .rd kF als nls Xls, .sl (some ⟨b, o, none⟩) [.int .i64 wd, .int .i64 py, .bool wr, .slice asp nsp csp, .slice als nls cls], .rd kF afe nfe Xfe, .rd kF afx nfx Xfx, .rd kF afy nfy Xfy, .sl (some ⟨b2, o2, none⟩) [.slice afe nfe cfe, .slice afx nfx cfx, .slice afy nfy cfy]] := B.castX 1 rfl rfl rfl
      exact ⟨_, _, _, _, _, _, rfl, B.give [1, 3, 4] rfl rfl rfl⟩
namespace T59
theorem mx : Try.prog.follows .mixedOrders = true := by kernel_rfl
theorem fn_112 : fnB Try.prog 112 = true := by kernel_rfl
theorem fn_113 : fnB Try.prog 113 = true := by kernel_rfl
theorem fn_114 : fnB Try.prog 114 = true := by kernel_rfl
theorem fn_115 : fnB Try.prog 115 = true := by kernel_rfl
theorem fn_116 : fnB Try.prog 116 = true := by kernel_rfl
theorem sz_30_3 : szB Try.prog 30 3 = true := by kernel_rfl
theorem zero_30 : zeroB Try.prog 30 (.agg #[.slice none 0 0, .slice none 0 0, .slice none 0 0]) := by unfold zeroB; kernel_rfl
end T59
set_option maxRecDepth 100000 in
set_option maxHeartbeats 4000000 in
theorem c_s_QuietAfter {wd : Int} {hi : Int} {wr : Bool} {asp : Option Addr} {nsp : Nat} {csp : Nat} {Xsp : List Nat} {als : Option Addr} {nls : Nat} {cls : Nat} {Xls : List Nat} {afe : Option Addr} {nfe : Nat} {cfe : Nat} {Xfe : List Nat} {afx : Option Addr} {nfx : Nat} {cfx : Nat} {Xfx : List Nat} {afy : Option Addr} {nfy : Nat} {cfy : Nat} {Xfy : List Nat} {lv : Nat} {V : Nat} {m : Int} {w : World} (qsp : Rd w kF asp nsp Xsp) (qls : Rd w kF als nls Xls) (qfe : Rd w kF afe nfe Xfe) (qfx : Rd w kF afx nfx Xfx) (qfy : Rd w kF afy nfy Xfy) (hlv : Cn .f32 lv V) (hbsp : nsp ≤ 9223372036854775806) (hbls : nls ≤ 9223372036854775806) (hbfe : nfe ≤ 9223372036854775806) (hbfx : nfx ≤ 9223372036854775806) (hbfy : nfy ≤ 9223372036854775806) :
    Calls Try.prog 59 #[.agg #[.int .i64 wd, .int .i64 hi, .bool wr, .slice asp nsp csp, .slice als nls cls], .agg #[.slice afe nfe cfe, .slice afx nfx cfx, .slice afy nfy cfy], .float .f32 lv, .int .i64 m] w (Rt fun v w' => (qtB wd hi wr Xsp Xls Xfe Xfx Xfy V m = true ∧ v = .tuple #[.int .i64 (qtV wd hi wr Xsp Xls (Xfe, Xfx, Xfy) V m), .bool true] ∧ Ext0 w w') ∨ (qtB wd hi wr Xsp Xls Xfe Xfx Xfy V m = false ∧ v = .tuple #[.int .i64 0, .bool false] ∧ Ext0 w w')) := by
  have hlsp := qsp.len
  have hlls := qls.len
  have hlfe := qfe.len
  have hlfx := qfx.len
  have hlfy := qfy.len
  have B : Bu w no w [.rd kF asp nsp Xsp, .rd kF als nls Xls, .rd kF afe nfe Xfe, .rd kF afx nfx Xfx, .rd kF afy nfy Xfy] := Bu.ro (All.cons qsp (All.cons qls (All.cons qfe (All.cons qfx (All.cons qfy All.nil))))) rfl
  refine calls_W (n := 30) Try.func59 rfl rfl (Nat.le_of_ble_eq_true rfl) ?_
  refine W_seq ?_
  refine W_region (by kernel_rfl) ?_
  refine s_k rfl (k_boxN (v := .agg #[.int .i64 wd, .int .i64 hi, .bool wr, .slice asp nsp csp, .slice als nls cls]) (cs := [.int .i64 wd, .int .i64 hi, .bool wr, .slice asp nsp csp, .slice als nls cls]) rfl rfl (fun b1 w2 hN3 => ?_))
  replace B := B.new1 hN3
  clear hN3
  refine s_k rfl (k_boxN (v := .agg #[.slice afe nfe cfe, .slice afx nfx cfx, .slice afy nfy cfy]) (cs := [.slice afe nfe cfe, .slice afx nfx cfx, .slice afy nfy cfy]) rfl rfl (fun b4 w5 hN6 => ?_))
  replace B := B.new1 hN6
  clear hN6
  refine s_y (v := .int .i64 0) rfl (y_assign rfl) ?_
  refine s_y (v := .bool false) rfl (y_assign rfl) ?_
  refine s_nil ?_
  refine W_seq ?_
  refine W_seq ?_
  refine W_region (by kernel_rfl) ?_
  refine s_k rfl (k_call T59.fn_112 (c_s_l03Both (B.r 2 rfl) (B.r 3 rfl) ((B.b 1 rfl).sl) (B.r 4 rfl) (B.r 5 rfl) (B.r 6 rfl) ((B.b 0 rfl).sl) (by omega) (by omega) (by omega) (by omega) (by omega)) rfl ?_)
  rintro v9 w7 ⟨hv10, e8⟩
  replace B := B.ext0 e8
  clear e8
  by_cases c11 : fieldB wd hi wr Xsp Xls Xfe Xfx Xfy = true
  · have hb12 := fieldB_b c11
    obtain rfl : v9 = .bool true := hv10.trans (congrArg Value.bool c11)
    refine s_y (v := .bool false) rfl (y_not rfl rfl) ?_
    refine s_y (v := .bool false) rfl (y_move rfl) ?_
    refine s_y (v := .int .i64 m) rfl (y_move rfl) ?_
    refine s_k rfl (k_call T59.fn_113 (c_s_l00In) rfl ?_)
    rintro v15 w13 ⟨hv16, e14⟩
    replace B := B.ext0 e14
    clear e14
    by_cases c17 : within m 0 64 = true
    · have hb18 := within_b c17
      obtain rfl : v15 = .bool true := hv16.trans (congrArg Value.bool c17)
      refine s_y (v := .bool false) rfl (y_not rfl rfl) ?_
      refine s_y (v := .bool false) rfl (y_pick_f rfl rfl) ?_
      refine s_nil ?_
      refine W_if_f (by decide) rfl ?_
      refine W_skip ?_
      refine W_seq ?_
      refine W_region (by kernel_rfl) ?_
      refine s_k rfl (k_call T59.fn_114 (c_s_l02Own (B.r 4 rfl) (B.r 5 rfl) (B.r 6 rfl) ((B.b 0 rfl).sl) (by omega) (by omega) (by omega)) rfl ?_)
      rintro _ w19 ⟨a20, c21, a22, c23, a24, c25, rfl, hN26⟩
      replace B := B.new3 hN26
      clear hN26
      refine s_k rfl (k_allocN (z := (.agg #[.slice none 0 0, .slice none 0 0, .slice none 0 0])) (cs := [.slice none 0 0, .slice none 0 0, .slice none 0 0]) T59.zero_30 rfl (fun b27 w28 hN29 => ?_))
      replace B := B.new1 hN29
      clear hN29
      refine s_k0 rfl (k_stB (v := .agg #[.slice a20 nfe c21, .slice a22 nfx c23, .slice a24 nfy c25]) (n := 3) (cs' := [.slice a20 nfe c21, .slice a22 nfx c23, .slice a24 nfy c25]) T59.sz_30_3 rfl rfl rfl (B.b 0 rfl) (by simp [Value.cells, Value.oneCell']) (Nat.le_of_ble_eq_true rfl) rfl (fun w30 hU31 => ?_))
      replace B : Bu w no w30 [.blk b27 [.slice a20 nfe c21, .slice a22 nfx c23, .slice a24 nfy c25] 30, .ow kF a20 nfe c21 34 Xfe, .ow kF a22 nfx c23 34 Xfx, .ow kF a24 nfy c25 34 Xfy, .blk b4 [.slice afe nfe cfe, .slice afx nfx cfx, .slice afy nfy cfy] 30, .blk b1 [.int .i64 wd, .int .i64 hi, .bool wr, .slice asp nsp csp, .slice als nls cls] 26, .rd kF asp nsp Xsp, .rd kF als nls Xls, .rd kF afe nfe Xfe, .rd kF afx nfx Xfx, .rd kF afy nfy Xfy] := B.upd [0] rfl hU31
      clear hU31
      refine s_nil ?_
      refine W_seq ?_
      refine W_seq ?_
      refine W_region (by kernel_rfl) ?_
      refine s_y (v := .int .i64 0) rfl (y_assign rfl) ?_
      refine s_nil ?_
      refine W_block ?_
      refine W_loop (fun ρ' w' => ∃ (ρ1 : Env) (k : Int) (A1 : Option Addr) (A2 : Option Addr) (A3 : Option Addr) (C1 : Nat) (C2 : Nat) (C3 : Nat), ρ' = updL ρ1 [(2, .float .f32 lv), (3, .int .i64 m), (4, .pointer (some ⟨b1, 0, none⟩)), (10, .pointer (some ⟨b27, 0, none⟩)), (11, .int .i64 k)] ∧ Bu w no w' [.ow kF A1 nfe C1 34 ((rnT wd hi wr Xsp Xls (Xfe, Xfx, Xfy) (Int.toNat k)).1), .ow kF A2 nfx C2 34 ((rnT wd hi wr Xsp Xls (Xfe, Xfx, Xfy) (Int.toNat k)).2.1), .ow kF A3 nfy C3 34 ((rnT wd hi wr Xsp Xls (Xfe, Xfx, Xfy) (Int.toNat k)).2.2), .blk b27 [.slice A1 nfe C1, .slice A2 nfx C2, .slice A3 nfy C3] 30, .blk b4 [.slice afe nfe cfe, .slice afx nfx cfx, .slice afy nfy cfy] 30, .blk b1 [.int .i64 wd, .int .i64 hi, .bool wr, .slice asp nsp csp, .slice als nls cls] 26, .rd kF asp nsp Xsp, .rd kF als nls Xls, .rd kF afe nfe Xfe, .rd kF afx nfx Xfx, .rd kF afy nfy Xfy] ∧ (0 ≤ k) ∧ (k ≤ m + 1) ∧ (qtV wd hi wr Xsp Xls (Xfe, Xfx, Xfy) V m = qtI wd hi wr Xsp Xls (Xfe, Xfx, Xfy) V (m + 1 - k).toNat k)) (fun ρ' _ => (m + 1 - iv (ρ' 11)).toNat) ?_ ?_
      · replace B : Bu w no w30 [.blk b27 [.slice a20 nfe c21, .slice a22 nfx c23, .slice a24 nfy c25] 30, .ow kF a20 nfe c21 34 ((rnT wd hi wr Xsp Xls (Xfe, Xfx, Xfy) (Int.toNat 0)).1), .ow kF a22 nfx c23 34 Xfx, .ow kF a24 nfy c25 34 Xfy, .blk b4 [.slice afe nfe cfe, .slice afx nfx cfx, .slice afy nfy cfy] 30, .blk b1 [.int .i64 wd, .int .i64 hi, .bool wr, .slice asp nsp csp, .slice als nls cls] 26, .rd kF asp nsp Xsp, .rd kF als nls Xls, .rd kF afe nfe Xfe, .rd kF afx nfx Xfx, .rd kF afy nfy Xfy] := B.castX 1 rfl rfl rfl
        replace B : Bu w no w30 [.blk b27 [.slice a20 nfe c21, .slice a22 nfx c23, .slice a24 nfy c25] 30, .ow kF a20 nfe c21 34 ((rnT wd hi wr Xsp Xls (Xfe, Xfx, Xfy) (Int.toNat 0)).1), .ow kF a22 nfx c23 34 ((rnT wd hi wr Xsp Xls (Xfe, Xfx, Xfy) (Int.toNat 0)).2.1), .ow kF a24 nfy c25 34 Xfy, .blk b4 [.slice afe nfe cfe, .slice afx nfx cfx, .slice afy nfy cfy] 30, .blk b1 [.int .i64 wd, .int .i64 hi, .bool wr, .slice asp nsp csp, .slice als nls cls] 26, .rd kF asp nsp Xsp, .rd kF als nls Xls, .rd kF afe nfe Xfe, .rd kF afx nfx Xfx, .rd kF afy nfy Xfy] := B.castX 2 rfl rfl rfl
        replace B : Bu w no w30 [.blk b27 [.slice a20 nfe c21, .slice a22 nfx c23, .slice a24 nfy c25] 30, .ow kF a20 nfe c21 34 ((rnT wd hi wr Xsp Xls (Xfe, Xfx, Xfy) (Int.toNat 0)).1), .ow kF a22 nfx c23 34 ((rnT wd hi wr Xsp Xls (Xfe, Xfx, Xfy) (Int.toNat 0)).2.1), .ow kF a24 nfy c25 34 ((rnT wd hi wr Xsp Xls (Xfe, Xfx, Xfy) (Int.toNat 0)).2.2), .blk b4 [.slice afe nfe cfe, .slice afx nfx cfx, .slice afy nfy cfy] 30, .blk b1 [.int .i64 wd, .int .i64 hi, .bool wr, .slice asp nsp csp, .slice als nls cls] 26, .rd kF asp nsp Xsp, .rd kF als nls Xls, .rd kF afe nfe Xfe, .rd kF afx nfx Xfx, .rd kF afy nfy Xfy] := B.castX 3 rfl rfl rfl
        exact ⟨_, 0, a20, a22, a24, c21, c23, c25, Fits.eq ⟨rfl, rfl, rfl, rfl, rfl, trivial⟩, (B.pick [1, 2, 3, 0, 4, 5, 6, 7, 8, 9, 10] rfl rfl), (Int.le_refl _), (by omega), rfl⟩
      · clear B; rintro _ w32 ⟨ρ33, k, A1, A2, A3, C1, C2, C3, rfl, B, h0k, h1k, hM⟩
        have hlr := rnT_len (wd := wd) (hi := hi) (wr := wr) (P := Xsp) (L := Xls) (F := (Xfe, Xfx, Xfy)) (m := nfe) (by omega) (by show Xfx.length = _; omega) (by show Xfy.length = _; omega) (by omega) k.toNat
        refine W_seq ?_
        refine W_seq ?_
        refine W_region (by kernel_rfl) ?_
        refine s_y (v := .int .i64 k) rfl (y_move rfl) ?_
        refine s_y (v := .int .i64 m) rfl (y_move rfl) ?_
        by_cases c34 : k ≤ m
        · refine s_y (v := .bool true) rfl (y_leq rfl rfl (decide_eq_true c34)) ?_
          refine s_nil ?_
          refine W_if_t (by decide) rfl ?_
          refine W_skip ?_
          refine W_seq ?_
          refine W_block ?_
          refine W_seq ?_
          refine W_seq ?_
          refine W_region (by kernel_rfl) ?_
          refine s_k rfl (k_call T59.fn_115 (c_s_l03Peak ((B.o 0 rfl).rd) ((B.o 1 rfl).rd) ((B.o 2 rfl).rd) ((B.b 3 rfl).sl) (by omega)) rfl ?_)
          rintro _ w35 ⟨⟨r37, rfl, hr38⟩, e36⟩
          replace B := B.ext0 e36
          clear e36
          refine s_y (v := .float .f32 lv) rfl (y_move rfl) ?_
          by_cases c39 : flt .f32 (pkS ((rnT wd hi wr Xsp Xls (Xfe, Xfx, Xfy) (Int.toNat k)).1)) V = true
          · refine s_y (v := .bool true) rfl (y_flss rfl rfl (fltC hr38 hlv c39)) ?_
            refine s_nil ?_
            refine W_if_t (by decide) rfl ?_
            refine W_seq ?_
            refine W_region (by kernel_rfl) ?_
            refine s_y (v := .int .i64 k) rfl (y_move rfl) ?_
            refine s_y (v := .int .i64 k) rfl (y_assign rfl) ?_
            refine s_y (v := .bool true) rfl (y_assign rfl) ?_
            refine s_nil ?_
            refine W_ret ?_
            refine ret2 (v1 := .int .i64 k) (v2 := .bool true) rfl rfl rfl rfl rfl ⟨_, rfl, ?_⟩
            have hrun : runB wd hi wr Xsp Xls Xfe Xfx Xfy m = true := by simp only [runB, c11, c17, Bool.and_true]
            have hqv := qt_yes (by omega) hM c39
            have hcond : qtB wd hi wr Xsp Xls Xfe Xfx Xfy V m = true := by simp only [qtB, hrun, Bool.true_and, decide_eq_true_eq]; omega
            exact .inl ⟨hcond, ⟨(by rw [hqv]), B.ext⟩⟩
          · refine s_y (v := .bool false) rfl (y_flss rfl rfl (fltC hr38 hlv (Bool.eq_false_iff.2 c39))) ?_
            refine s_nil ?_
            refine W_if_f (by decide) rfl ?_
            refine W_skip ?_
            refine W_region (by kernel_rfl) ?_
            refine s_k rfl (k_call T59.fn_116 (c_s_l03Step (B.r 6 rfl) (B.r 7 rfl) ((B.b 5 rfl).sl) ((B.o 0 rfl).rd) ((B.o 1 rfl).rd) ((B.o 2 rfl).rd) ((B.b 3 rfl).sl) (by omega) (by omega) (by omega) (by omega) (by omega) (by omega) (by omega) (by omega) (by omega)) rfl ?_)
            rintro _ w40 ⟨a41, c42, a43, c44, a45, c46, rfl, hN47⟩
            replace B := B.new3 hN47
            clear hN47
            refine s_k0 rfl (k_stB (v := .agg #[.slice a41 nfe c42, .slice a43 nfx c44, .slice a45 nfy c46]) (n := 3) (cs' := [.slice a41 nfe c42, .slice a43 nfx c44, .slice a45 nfy c46]) T59.sz_30_3 rfl rfl rfl (B.b 6 rfl) (by simp [Value.cells, Value.oneCell']) (Nat.le_of_ble_eq_true rfl) rfl (fun w48 hU49 => ?_))
            replace B : Bu w no w48 [.blk b27 [.slice a41 nfe c42, .slice a43 nfx c44, .slice a45 nfy c46] 30, .ow kF a41 nfe c42 34 (nwL wd hi wr Xsp Xls ((rnT wd hi wr Xsp Xls (Xfe, Xfx, Xfy) (Int.toNat k)).1) (hxL wd hi wr ((rnT wd hi wr Xsp Xls (Xfe, Xfx, Xfy) (Int.toNat k)).1) ((rnT wd hi wr Xsp Xls (Xfe, Xfx, Xfy) (Int.toNat k)).2.1)) (hyL wd hi wr ((rnT wd hi wr Xsp Xls (Xfe, Xfx, Xfy) (Int.toNat k)).1) ((rnT wd hi wr Xsp Xls (Xfe, Xfx, Xfy) (Int.toNat k)).2.2))), .ow kF a43 nfx c44 34 (hxL wd hi wr ((rnT wd hi wr Xsp Xls (Xfe, Xfx, Xfy) (Int.toNat k)).1) ((rnT wd hi wr Xsp Xls (Xfe, Xfx, Xfy) (Int.toNat k)).2.1)), .ow kF a45 nfy c46 34 (hyL wd hi wr ((rnT wd hi wr Xsp Xls (Xfe, Xfx, Xfy) (Int.toNat k)).1) ((rnT wd hi wr Xsp Xls (Xfe, Xfx, Xfy) (Int.toNat k)).2.2)), .ow kF A1 nfe C1 34 ((rnT wd hi wr Xsp Xls (Xfe, Xfx, Xfy) (Int.toNat k)).1), .ow kF A2 nfx C2 34 ((rnT wd hi wr Xsp Xls (Xfe, Xfx, Xfy) (Int.toNat k)).2.1), .ow kF A3 nfy C3 34 ((rnT wd hi wr Xsp Xls (Xfe, Xfx, Xfy) (Int.toNat k)).2.2), .blk b4 [.slice afe nfe cfe, .slice afx nfx cfx, .slice afy nfy cfy] 30, .blk b1 [.int .i64 wd, .int .i64 hi, .bool wr, .slice asp nsp csp, .slice als nls cls] 26, .rd kF asp nsp Xsp, .rd kF als nls Xls, .rd kF afe nfe Xfe, .rd kF afx nfx Xfx, .rd kF afy nfy Xfy] := B.upd [6] rfl hU49
            clear hU49
            refine s_nil ?_
            refine W_region (by kernel_rfl) ?_
            refine s_y (v := .int .i64 k) rfl (y_move rfl) ?_
            refine s_y (v := .int .i64 (k + 1)) rfl (y_add rfl rfl rfl (by omega)) ?_
            refine s_y (v := .int .i64 (k + 1)) rfl (y_assign rfl) ?_
            refine s_nil ?_
            replace B : Bu w no w48 [.blk b27 [.slice a41 nfe c42, .slice a43 nfx c44, .slice a45 nfy c46] 30, .ow kF a41 nfe c42 34 ((rnT wd hi wr Xsp Xls (Xfe, Xfx, Xfy) (Int.toNat (k + 1))).1), .ow kF a43 nfx c44 34 (hxL wd hi wr ((rnT wd hi wr Xsp Xls (Xfe, Xfx, Xfy) (Int.toNat k)).1) ((rnT wd hi wr Xsp Xls (Xfe, Xfx, Xfy) (Int.toNat k)).2.1)), .ow kF a45 nfy c46 34 (hyL wd hi wr ((rnT wd hi wr Xsp Xls (Xfe, Xfx, Xfy) (Int.toNat k)).1) ((rnT wd hi wr Xsp Xls (Xfe, Xfx, Xfy) (Int.toNat k)).2.2)), .ow kF A1 nfe C1 34 ((rnT wd hi wr Xsp Xls (Xfe, Xfx, Xfy) (Int.toNat k)).1), .ow kF A2 nfx C2 34 ((rnT wd hi wr Xsp Xls (Xfe, Xfx, Xfy) (Int.toNat k)).2.1), .ow kF A3 nfy C3 34 ((rnT wd hi wr Xsp Xls (Xfe, Xfx, Xfy) (Int.toNat k)).2.2), .blk b4 [.slice afe nfe cfe, .slice afx nfx cfx, .slice afy nfy cfy] 30, .blk b1 [.int .i64 wd, .int .i64 hi, .bool wr, .slice asp nsp csp, .slice als nls cls] 26, .rd kF asp nsp Xsp, .rd kF als nls Xls, .rd kF afe nfe Xfe, .rd kF afx nfx Xfx, .rd kF afy nfy Xfy] := B.castX 1 rfl rfl (congrArg (fun q : Fld => q.1) (rnT_next (by omega)))
            replace B : Bu w no w48 [.blk b27 [.slice a41 nfe c42, .slice a43 nfx c44, .slice a45 nfy c46] 30, .ow kF a41 nfe c42 34 ((rnT wd hi wr Xsp Xls (Xfe, Xfx, Xfy) (Int.toNat (k + 1))).1), .ow kF a43 nfx c44 34 ((rnT wd hi wr Xsp Xls (Xfe, Xfx, Xfy) (Int.toNat (k + 1))).2.1), .ow kF a45 nfy c46 34 (hyL wd hi wr ((rnT wd hi wr Xsp Xls (Xfe, Xfx, Xfy) (Int.toNat k)).1) ((rnT wd hi wr Xsp Xls (Xfe, Xfx, Xfy) (Int.toNat k)).2.2)), .ow kF A1 nfe C1 34 ((rnT wd hi wr Xsp Xls (Xfe, Xfx, Xfy) (Int.toNat k)).1), .ow kF A2 nfx C2 34 ((rnT wd hi wr Xsp Xls (Xfe, Xfx, Xfy) (Int.toNat k)).2.1), .ow kF A3 nfy C3 34 ((rnT wd hi wr Xsp Xls (Xfe, Xfx, Xfy) (Int.toNat k)).2.2), .blk b4 [.slice afe nfe cfe, .slice afx nfx cfx, .slice afy nfy cfy] 30, .blk b1 [.int .i64 wd, .int .i64 hi, .bool wr, .slice asp nsp csp, .slice als nls cls] 26, .rd kF asp nsp Xsp, .rd kF als nls Xls, .rd kF afe nfe Xfe, .rd kF afx nfx Xfx, .rd kF afy nfy Xfy] := B.castX 2 rfl rfl (congrArg (fun q : Fld => q.2.1) (rnT_next (by omega)))
            replace B : Bu w no w48 [.blk b27 [.slice a41 nfe c42, .slice a43 nfx c44, .slice a45 nfy c46] 30, .ow kF a41 nfe c42 34 ((rnT wd hi wr Xsp Xls (Xfe, Xfx, Xfy) (Int.toNat (k + 1))).1), .ow kF a43 nfx c44 34 ((rnT wd hi wr Xsp Xls (Xfe, Xfx, Xfy) (Int.toNat (k + 1))).2.1), .ow kF a45 nfy c46 34 ((rnT wd hi wr Xsp Xls (Xfe, Xfx, Xfy) (Int.toNat (k + 1))).2.2), .ow kF A1 nfe C1 34 ((rnT wd hi wr Xsp Xls (Xfe, Xfx, Xfy) (Int.toNat k)).1), .ow kF A2 nfx C2 34 ((rnT wd hi wr Xsp Xls (Xfe, Xfx, Xfy) (Int.toNat k)).2.1), .ow kF A3 nfy C3 34 ((rnT wd hi wr Xsp Xls (Xfe, Xfx, Xfy) (Int.toNat k)).2.2), .blk b4 [.slice afe nfe cfe, .slice afx nfx cfx, .slice afy nfy cfy] 30, .blk b1 [.int .i64 wd, .int .i64 hi, .bool wr, .slice asp nsp csp, .slice als nls cls] 26, .rd kF asp nsp Xsp, .rd kF als nls Xls, .rd kF afe nfe Xfe, .rd kF afx nfx Xfx, .rd kF afy nfy Xfy] := B.castX 3 rfl rfl (congrArg (fun q : Fld => q.2.2) (rnT_next (by omega)))
            refine ⟨⟨_, k + 1, a41, a43, a45, c42, c44, c46, Fits.eq ⟨rfl, rfl, rfl, rfl, rfl, trivial⟩, (B.pick [1, 2, 3, 0, 7, 8, 9, 10, 11, 12, 13] rfl rfl), (by omega), (by omega), (qt_next (by omega) hM c39)⟩, ?_⟩
            show (m + 1 - (k + 1)).toNat < (m + 1 - k).toNat
            omega
        · refine s_y (v := .bool false) rfl (y_leq rfl rfl (decide_eq_false c34)) ?_
          refine s_nil ?_
          refine W_if_f (by decide) rfl ?_
          refine W_exit ?_
          refine W_seq ?_
          refine W_region (by kernel_rfl) ?_
          refine s_y (v := .int .i64 0) rfl (y_assign rfl) ?_
          refine s_y (v := .bool false) rfl (y_assign rfl) ?_
          refine s_nil ?_
          refine W_ret ?_
          refine ret2 (v1 := .int .i64 0) (v2 := .bool false) rfl rfl rfl rfl rfl ⟨_, rfl, ?_⟩
          have hrun : runB wd hi wr Xsp Xls Xfe Xfx Xfy m = true := by simp only [runB, c11, c17, Bool.and_true]
          have hqv := hM.trans (qt_end (by omega))
          exact .inr ⟨by simp only [qtB, hrun, Bool.true_and, decide_eq_false_iff_not]; omega, rfl, B.ext⟩
    · obtain rfl : v15 = .bool false := hv16.trans (congrArg Value.bool (Bool.eq_false_iff.2 c17))
      refine s_y (v := .bool true) rfl (y_not rfl rfl) ?_
      refine s_y (v := .bool true) rfl (y_pick_f rfl rfl) ?_
      refine s_nil ?_
      refine W_if_t (by decide) rfl ?_
      refine W_seq ?_
      refine W_region (by kernel_rfl) ?_
      refine s_y (v := .int .i64 0) rfl (y_assign rfl) ?_
      refine s_y (v := .bool false) rfl (y_assign rfl) ?_
      refine s_nil ?_
      refine W_ret ?_
      refine ret2 (v1 := .int .i64 0) (v2 := .bool false) rfl rfl rfl rfl rfl ⟨_, rfl, ?_⟩
      exact .inr ⟨by simp only [qtB, runB, c11, (Bool.eq_false_iff.2 c17), Bool.and_true, Bool.true_and, Bool.and_false, Bool.false_and, Bool.not_true, Bool.not_false, Bool.or_true, Bool.true_or, Bool.or_false, Bool.false_or], rfl, B.ext⟩
  · obtain rfl : v9 = .bool false := hv10.trans (congrArg Value.bool (Bool.eq_false_iff.2 c11))
    refine s_y (v := .bool true) rfl (y_not rfl rfl) ?_
    refine s_y (v := .bool true) rfl (y_move rfl) ?_
    refine s_skip rfl ?_
    refine s_skip rfl ?_
    refine s_skip rfl ?_
    refine s_y (v := .bool true) rfl (y_pick_t rfl rfl) ?_
    refine s_nil ?_
    refine W_if_t (by decide) rfl ?_
    refine W_seq ?_
    refine W_region (by kernel_rfl) ?_
    refine s_y (v := .int .i64 0) rfl (y_assign rfl) ?_
    refine s_y (v := .bool false) rfl (y_assign rfl) ?_
    refine s_nil ?_
    refine W_ret ?_
    refine ret2 (v1 := .int .i64 0) (v2 := .bool false) rfl rfl rfl rfl rfl ⟨_, rfl, ?_⟩
    exact .inr ⟨by simp only [qtB, runB, (Bool.eq_false_iff.2 c11), Bool.and_true, Bool.true_and, Bool.and_false, Bool.false_and, Bool.not_true, Bool.not_false, Bool.or_true, Bool.true_or, Bool.or_false, Bool.false_or], rfl, B.ext⟩
namespace T60
theorem mx : Try.prog.follows .mixedOrders = true := by kernel_rfl
theorem agg_26_5 : aggB Try.prog 26 5 = true := by kernel_rfl
theorem agg_30_3 : aggB Try.prog 30 3 = true := by kernel_rfl
theorem fld_26_0_0 : fldB Try.prog 26 0 0 = true := by kernel_rfl
theorem fld_26_1_1 : fldB Try.prog 26 1 1 = true := by kernel_rfl
theorem fld_30_0_0 : fldB Try.prog 30 0 0 = true := by kernel_rfl
theorem fn_117 : fnB Try.prog 117 = true := by kernel_rfl
theorem fn_41 : fnB Try.prog 41 = true := by kernel_rfl
theorem fn_74 : fnB Try.prog 74 = true := by kernel_rfl
theorem one_2 : oneB Try.prog 2 = true := by kernel_rfl
theorem one_24 : oneB Try.prog 24 = true := by kernel_rfl
theorem sl_24_34_1 : slB Try.prog 24 34 1 = true := by kernel_rfl
end T60
set_option maxRecDepth 100000 in
set_option maxHeartbeats 4000000 in
theorem c_i_RowOf {wd : Int} {hi : Int} {wr : Bool} {asp : Option Addr} {nsp : Nat} {csp : Nat} {Xsp : List Nat} {als : Option Addr} {nls : Nat} {cls : Nat} {Xls : List Nat} {afe : Option Addr} {nfe : Nat} {cfe : Nat} {Xfe : List Nat} {afx : Option Addr} {nfx : Nat} {cfx : Nat} {Xfx : List Nat} {afy : Option Addr} {nfy : Nat} {cfy : Nat} {Xfy : List Nat} {y : Int} {w : World} (qsp : Rd w kF asp nsp Xsp) (qls : Rd w kF als nls Xls) (qfe : Rd w kF afe nfe Xfe) (qfx : Rd w kF afx nfx Xfx) (qfy : Rd w kF afy nfy Xfy) (hbsp : nsp ≤ 9223372036854775806) (hbls : nls ≤ 9223372036854775806) (hbfe : nfe ≤ 9223372036854775806) (hbfx : nfx ≤ 9223372036854775806) (hbfy : nfy ≤ 9223372036854775806) (hcap : nfe ≤ cfe) :
    Calls Try.prog 60 #[.agg #[.int .i64 wd, .int .i64 hi, .bool wr, .slice asp nsp csp, .slice als nls cls], .agg #[.slice afe nfe cfe, .slice afx nfx cfx, .slice afy nfy cfy], .int .i64 y] w (Rt fun v w' => (rowB wd hi wr Xsp Xls Xfe Xfx Xfy y = true ∧ ∃ (a1 : Option Addr) (c1 : Nat), v = .tuple #[.slice a1 wd.toNat c1, .bool true] ∧ New w w' [.ow kF a1 wd.toNat c1 34 (rowS wd Xfe y)]) ∨ (rowB wd hi wr Xsp Xls Xfe Xfx Xfy y = false ∧ v = .tuple #[.slice none 0 0, .bool false] ∧ Ext0 w w')) := by
  have hlsp := qsp.len
  have hlls := qls.len
  have hlfe := qfe.len
  have hlfx := qfx.len
  have hlfy := qfy.len
  have B : Bu w no w [.rd kF asp nsp Xsp, .rd kF als nls Xls, .rd kF afe nfe Xfe, .rd kF afx nfx Xfx, .rd kF afy nfy Xfy] := Bu.ro (All.cons qsp (All.cons qls (All.cons qfe (All.cons qfx (All.cons qfy All.nil))))) rfl
  refine calls_W (n := 33) Try.func60 rfl rfl (Nat.le_of_ble_eq_true rfl) ?_
  refine W_seq ?_
  refine W_region (by kernel_rfl) ?_
  refine s_k rfl (k_boxN (v := .agg #[.int .i64 wd, .int .i64 hi, .bool wr, .slice asp nsp csp, .slice als nls cls]) (cs := [.int .i64 wd, .int .i64 hi, .bool wr, .slice asp nsp csp, .slice als nls cls]) rfl rfl (fun b1 w2 hN3 => ?_))
  replace B := B.new1 hN3
  clear hN3
  refine s_k rfl (k_boxN (v := .agg #[.slice afe nfe cfe, .slice afx nfx cfx, .slice afy nfy cfy]) (cs := [.slice afe nfe cfe, .slice afx nfx cfx, .slice afy nfy cfy]) rfl rfl (fun b4 w5 hN6 => ?_))
  replace B := B.new1 hN6
  clear hN6
  refine s_y (v := .slice none 0 0) rfl (y_assign rfl) ?_
  refine s_y (v := .bool false) rfl (y_assign rfl) ?_
  refine s_nil ?_
  refine W_seq ?_
  refine W_seq ?_
  refine W_region (by kernel_rfl) ?_
  refine s_y (v := .agg #[.int .i64 wd, .int .i64 hi, .bool wr, .slice asp nsp csp, .slice als nls cls]) rfl (y_loadn (b := b1) (o := 0) (vs := [.int .i64 wd, .int .i64 hi, .bool wr, .slice asp nsp csp, .slice als nls cls]) T60.agg_26_5 rfl rfl ((B.b 1 rfl).cells (o := 0) rfl)) ?_
  refine s_y (v := .agg #[.slice afe nfe cfe, .slice afx nfx cfx, .slice afy nfy cfy]) rfl (y_loadn (b := b4) (o := 0) (vs := [.slice afe nfe cfe, .slice afx nfx cfx, .slice afy nfy cfy]) T60.agg_30_3 rfl rfl ((B.b 0 rfl).cells (o := 0) rfl)) ?_
  refine s_k rfl (k_call T60.fn_41 (c_i_IsField (B.r 2 rfl) (B.r 3 rfl) (B.r 4 rfl) (B.r 5 rfl) (B.r 6 rfl) (by omega) (by omega) (by omega) (by omega) (by omega)) rfl ?_)
  rintro v9 w7 ⟨hv10, e8⟩
  replace B := B.ext0 e8
  clear e8
  by_cases c11 : fieldB wd hi wr Xsp Xls Xfe Xfx Xfy = true
  · have hb12 := fieldB_b c11
    obtain rfl : v9 = .bool true := hv10.trans (congrArg Value.bool c11)
    refine s_y (v := .bool false) rfl (y_not rfl rfl) ?_
    refine s_y (v := .bool false) rfl (y_move rfl) ?_
    refine s_y (v := .int .i64 y) rfl (y_move rfl) ?_
    refine s_y (v := .pointer (some ⟨b1, 1, none⟩)) rfl (y_fld (o := 0) T60.fld_26_1_1 rfl) ?_
    refine s_y (v := .int .i64 hi) rfl (y_load T60.one_2 rfl ((B.b 1 rfl).cell (j := 1) rfl)) ?_
    refine s_y (v := .int .i64 (hi - 1)) rfl (y_sub rfl rfl rfl (by omega)) ?_
    refine s_k rfl (k_call T60.fn_74 (c_i_within) rfl ?_)
    rintro v15 w13 ⟨hv16, e14⟩
    replace B := B.ext0 e14
    clear e14
    by_cases c17 : within y 0 (hi - 1) = true
    · have hb18 := within_b c17
      obtain rfl : v15 = .bool true := hv16.trans (congrArg Value.bool c17)
      refine s_y (v := .bool false) rfl (y_not rfl rfl) ?_
      refine s_y (v := .bool false) rfl (y_pick_f rfl rfl) ?_
      refine s_nil ?_
      refine W_if_f (by decide) rfl ?_
      refine W_skip ?_
      refine W_seq ?_
      refine W_region (by kernel_rfl) ?_
      refine s_y (v := .pointer (some ⟨b4, 0, none⟩)) rfl (y_fld (o := 0) T60.fld_30_0_0 rfl) ?_
      refine s_y (v := .slice afe nfe cfe) rfl (y_load T60.one_24 rfl ((B.b 0 rfl).cell (j := 0) rfl)) ?_
      refine s_y (v := .int .i64 y) rfl (y_move rfl) ?_
      refine s_y (v := .pointer (some ⟨b1, 0, none⟩)) rfl (y_fld (o := 0) T60.fld_26_0_0 rfl) ?_
      refine s_y (v := .int .i64 wd) rfl (y_load T60.one_2 rfl ((B.b 1 rfl).cell (j := 0) rfl)) ?_
      have hm19 := mulb (a := y) (b := wd) (by omega) (by omega) (by omega) (by omega)
      refine s_y (v := .int .i64 (y * wd)) rfl (y_mul rfl rfl rfl (by omega)) ?_
      refine s_y (v := .int .i64 y) rfl (y_move rfl) ?_
      refine s_y (v := .int .i64 (y + 1)) rfl (y_add rfl rfl rfl (by omega)) ?_
      refine s_y (v := .pointer (some ⟨b1, 0, none⟩)) rfl (y_fld (o := 0) T60.fld_26_0_0 rfl) ?_
      refine s_y (v := .int .i64 wd) rfl (y_load T60.one_2 rfl ((B.b 1 rfl).cell (j := 0) rfl)) ?_
      have hm20 := mulb (a := y + 1) (b := wd) (by omega) (by omega) (by omega) (by omega)
      refine s_y (v := .int .i64 ((y + 1) * wd)) rfl (y_mul rfl rfl rfl (by omega)) ?_
      have hrb := row_bounds (wd := wd) (hi := hi) (y := y) (by omega) (by omega) (by omega)
      have hr1 : y * wd = wd * y := Int.mul_comm y wd
      have hr2 : (y + 1) * wd = wd * (y + 1) := Int.mul_comm _ wd
      refine s_y (v := .slice (soff afe ((y * wd).toNat * 1)) (((y + 1) * wd).toNat - (y * wd).toNat) (cfe - (y * wd).toNat)) rfl (y_sliceO T60.sl_24_34_1 rfl rfl rfl ((B.r 4 rfl).addr (by omega)) (by omega) (by omega) (by omega) (by omega)) ?_
      refine s_k rfl (k_call T60.fn_117 (c_i_copyOf ((B.r 4 rfl).sub (y * wd).toNat ((y + 1) * wd).toNat (by omega) (by omega)) (by omega)) rfl ?_)
      rintro _ w21 ⟨a22, c23, rfl, hN24⟩
      replace B := B.new1 hN24
      clear hN24
      refine s_y (v := .slice a22 (((y + 1) * wd).toNat - (y * wd).toNat) c23) rfl (y_assign rfl) ?_
      refine s_y (v := .bool true) rfl (y_assign rfl) ?_
      refine s_nil ?_
      refine W_ret ?_
      refine ret2 (v1 := .slice a22 (((y + 1) * wd).toNat - (y * wd).toNat) c23) (v2 := .bool true) rfl rfl rfl rfl rfl ⟨_, rfl, ?_⟩
      have hcond : rowB wd hi wr Xsp Xls Xfe Xfx Xfy y = true := by simp only [rowB, c11, c17, Bool.and_true, Bool.true_and, Bool.and_false, Bool.false_and, Bool.not_true, Bool.not_false, Bool.or_true, Bool.true_or, Bool.or_false, Bool.false_or]
      replace B : Bu w no w21 [.ow kF a22 wd.toNat c23 34 (rowS wd Xfe y), .blk b4 [.slice afe nfe cfe, .slice afx nfx cfx, .slice afy nfy cfy] 30, .blk b1 [.int .i64 wd, .int .i64 hi, .bool wr, .slice asp nsp csp, .slice als nls cls] 26, .rd kF asp nsp Xsp, .rd kF als nls Xls, .rd kF afe nfe Xfe, .rd kF afx nfx Xfx, .rd kF afy nfy Xfy] := B.castX 0 rfl (by omega) (row_i (by omega) (by omega) (by omega) (by omega))
      exact .inl ⟨hcond, ⟨_, _, (by rw [(show ((y + 1) * wd).toNat - (y * wd).toNat = wd.toNat from (by omega))]), B.give [0] rfl rfl rfl⟩⟩
    · obtain rfl : v15 = .bool false := hv16.trans (congrArg Value.bool (Bool.eq_false_iff.2 c17))
      refine s_y (v := .bool true) rfl (y_not rfl rfl) ?_
      refine s_y (v := .bool true) rfl (y_pick_f rfl rfl) ?_
      refine s_nil ?_
      refine W_if_t (by decide) rfl ?_
      refine W_seq ?_
      refine W_region (by kernel_rfl) ?_
      refine s_y (v := .slice none 0 0) rfl (y_assign rfl) ?_
      refine s_y (v := .bool false) rfl (y_assign rfl) ?_
      refine s_nil ?_
      refine W_ret ?_
      refine ret2 (v1 := .slice none 0 0) (v2 := .bool false) rfl rfl rfl rfl rfl ⟨_, rfl, ?_⟩
      exact .inr ⟨by simp only [rowB, c11, (Bool.eq_false_iff.2 c17), Bool.and_true, Bool.true_and, Bool.and_false, Bool.false_and, Bool.not_true, Bool.not_false, Bool.or_true, Bool.true_or, Bool.or_false, Bool.false_or], rfl, B.ext⟩
  · obtain rfl : v9 = .bool false := hv10.trans (congrArg Value.bool (Bool.eq_false_iff.2 c11))
    refine s_y (v := .bool true) rfl (y_not rfl rfl) ?_
    refine s_y (v := .bool true) rfl (y_move rfl) ?_
    refine s_skip rfl ?_
    refine s_skip rfl ?_
    refine s_skip rfl ?_
    refine s_skip rfl ?_
    refine s_skip rfl ?_
    refine s_skip rfl ?_
    refine s_y (v := .bool true) rfl (y_pick_t rfl rfl) ?_
    refine s_nil ?_
    refine W_if_t (by decide) rfl ?_
    refine W_seq ?_
    refine W_region (by kernel_rfl) ?_
    refine s_y (v := .slice none 0 0) rfl (y_assign rfl) ?_
    refine s_y (v := .bool false) rfl (y_assign rfl) ?_
    refine s_nil ?_
    refine W_ret ?_
    refine ret2 (v1 := .slice none 0 0) (v2 := .bool false) rfl rfl rfl rfl rfl ⟨_, rfl, ?_⟩
    exact .inr ⟨by simp only [rowB, (Bool.eq_false_iff.2 c11), Bool.and_true, Bool.true_and, Bool.and_false, Bool.false_and, Bool.not_true, Bool.not_false, Bool.or_true, Bool.true_or, Bool.or_false, Bool.false_or], rfl, B.ext⟩
namespace T61
theorem mx : Try.prog.follows .mixedOrders = true := by kernel_rfl
theorem agg_26_5 : aggB Try.prog 26 5 = true := by kernel_rfl
theorem agg_30_3 : aggB Try.prog 30 3 = true := by kernel_rfl
theorem fld_26_0_0 : fldB Try.prog 26 0 0 = true := by kernel_rfl
theorem fld_26_1_1 : fldB Try.prog 26 1 1 = true := by kernel_rfl
theorem fld_30_0_0 : fldB Try.prog 30 0 0 = true := by kernel_rfl
theorem fn_41 : fnB Try.prog 41 = true := by kernel_rfl
theorem fn_69 : fnB Try.prog 69 = true := by kernel_rfl
theorem fn_74 : fnB Try.prog 74 = true := by kernel_rfl
theorem one_2 : oneB Try.prog 2 = true := by kernel_rfl
theorem one_24 : oneB Try.prog 24 = true := by kernel_rfl
theorem one_34 : oneB Try.prog 34 = true := by kernel_rfl
theorem sl_24_34_1 : slB Try.prog 24 34 1 = true := by kernel_rfl
theorem slt_24 : SlT Try.prog 24 34 1 4 (.float .f32 0) := ⟨by kernel_rfl, by kernel_rfl, rfl, by decide⟩
end T61
set_option maxRecDepth 100000 in
set_option maxHeartbeats 4000000 in
theorem c_i_ColumnOf {wd : Int} {hi : Int} {wr : Bool} {asp : Option Addr} {nsp : Nat} {csp : Nat} {Xsp : List Nat} {als : Option Addr} {nls : Nat} {cls : Nat} {Xls : List Nat} {afe : Option Addr} {nfe : Nat} {cfe : Nat} {Xfe : List Nat} {afx : Option Addr} {nfx : Nat} {cfx : Nat} {Xfx : List Nat} {afy : Option Addr} {nfy : Nat} {cfy : Nat} {Xfy : List Nat} {x : Int} {w : World} (qsp : Rd w kF asp nsp Xsp) (qls : Rd w kF als nls Xls) (qfe : Rd w kF afe nfe Xfe) (qfx : Rd w kF afx nfx Xfx) (qfy : Rd w kF afy nfy Xfy) (hbsp : nsp ≤ 9223372036854775806) (hbls : nls ≤ 9223372036854775806) (hbfe : nfe ≤ 9223372036854775806) (hbfx : nfx ≤ 9223372036854775806) (hbfy : nfy ≤ 9223372036854775806) :
    Calls Try.prog 61 #[.agg #[.int .i64 wd, .int .i64 hi, .bool wr, .slice asp nsp csp, .slice als nls cls], .agg #[.slice afe nfe cfe, .slice afx nfx cfx, .slice afy nfy cfy], .int .i64 x] w (Rt fun v w' => (colB wd hi wr Xsp Xls Xfe Xfx Xfy x = true ∧ ∃ (a1 : Option Addr) (c1 : Nat), v = .tuple #[.slice a1 hi.toNat c1, .bool true] ∧ New w w' [.ow kF a1 hi.toNat c1 34 (colS wd hi Xfe x)]) ∨ (colB wd hi wr Xsp Xls Xfe Xfx Xfy x = false ∧ v = .tuple #[.slice none 0 0, .bool false] ∧ Ext0 w w')) := by
  have hlsp := qsp.len
  have hlls := qls.len
  have hlfe := qfe.len
  have hlfx := qfx.len
  have hlfy := qfy.len
  have B : Bu w no w [.rd kF asp nsp Xsp, .rd kF als nls Xls, .rd kF afe nfe Xfe, .rd kF afx nfx Xfx, .rd kF afy nfy Xfy] := Bu.ro (All.cons qsp (All.cons qls (All.cons qfe (All.cons qfx (All.cons qfy All.nil))))) rfl
  refine calls_W (n := 41) Try.func61 rfl rfl (Nat.le_of_ble_eq_true rfl) ?_
  refine W_seq ?_
  refine W_region (by kernel_rfl) ?_
  refine s_k rfl (k_boxN (v := .agg #[.int .i64 wd, .int .i64 hi, .bool wr, .slice asp nsp csp, .slice als nls cls]) (cs := [.int .i64 wd, .int .i64 hi, .bool wr, .slice asp nsp csp, .slice als nls cls]) rfl rfl (fun b1 w2 hN3 => ?_))
  replace B := B.new1 hN3
  clear hN3
  refine s_k rfl (k_boxN (v := .agg #[.slice afe nfe cfe, .slice afx nfx cfx, .slice afy nfy cfy]) (cs := [.slice afe nfe cfe, .slice afx nfx cfx, .slice afy nfy cfy]) rfl rfl (fun b4 w5 hN6 => ?_))
  replace B := B.new1 hN6
  clear hN6
  refine s_y (v := .slice none 0 0) rfl (y_assign rfl) ?_
  refine s_y (v := .bool false) rfl (y_assign rfl) ?_
  refine s_nil ?_
  refine W_seq ?_
  refine W_seq ?_
  refine W_region (by kernel_rfl) ?_
  refine s_y (v := .agg #[.int .i64 wd, .int .i64 hi, .bool wr, .slice asp nsp csp, .slice als nls cls]) rfl (y_loadn (b := b1) (o := 0) (vs := [.int .i64 wd, .int .i64 hi, .bool wr, .slice asp nsp csp, .slice als nls cls]) T61.agg_26_5 rfl rfl ((B.b 1 rfl).cells (o := 0) rfl)) ?_
  refine s_y (v := .agg #[.slice afe nfe cfe, .slice afx nfx cfx, .slice afy nfy cfy]) rfl (y_loadn (b := b4) (o := 0) (vs := [.slice afe nfe cfe, .slice afx nfx cfx, .slice afy nfy cfy]) T61.agg_30_3 rfl rfl ((B.b 0 rfl).cells (o := 0) rfl)) ?_
  refine s_k rfl (k_call T61.fn_41 (c_i_IsField (B.r 2 rfl) (B.r 3 rfl) (B.r 4 rfl) (B.r 5 rfl) (B.r 6 rfl) (by omega) (by omega) (by omega) (by omega) (by omega)) rfl ?_)
  rintro v9 w7 ⟨hv10, e8⟩
  replace B := B.ext0 e8
  clear e8
  by_cases c11 : fieldB wd hi wr Xsp Xls Xfe Xfx Xfy = true
  · have hb12 := fieldB_b c11
    obtain rfl : v9 = .bool true := hv10.trans (congrArg Value.bool c11)
    refine s_y (v := .bool false) rfl (y_not rfl rfl) ?_
    refine s_y (v := .bool false) rfl (y_move rfl) ?_
    refine s_y (v := .int .i64 x) rfl (y_move rfl) ?_
    refine s_y (v := .pointer (some ⟨b1, 0, none⟩)) rfl (y_fld (o := 0) T61.fld_26_0_0 rfl) ?_
    refine s_y (v := .int .i64 wd) rfl (y_load T61.one_2 rfl ((B.b 1 rfl).cell (j := 0) rfl)) ?_
    refine s_y (v := .int .i64 (wd - 1)) rfl (y_sub rfl rfl rfl (by omega)) ?_
    refine s_k rfl (k_call T61.fn_74 (c_i_within) rfl ?_)
    rintro v15 w13 ⟨hv16, e14⟩
    replace B := B.ext0 e14
    clear e14
    by_cases c17 : within x 0 (wd - 1) = true
    · have hb18 := within_b c17
      obtain rfl : v15 = .bool true := hv16.trans (congrArg Value.bool c17)
      refine s_y (v := .bool false) rfl (y_not rfl rfl) ?_
      refine s_y (v := .bool false) rfl (y_pick_f rfl rfl) ?_
      refine s_nil ?_
      refine W_if_f (by decide) rfl ?_
      refine W_skip ?_
      refine W_seq ?_
      refine W_region (by kernel_rfl) ?_
      refine s_k rfl (k_bsliceO (k := kF) (n := 0) (cells := #[]) (X := []) T61.slt_24 (by decide) (by first | rfl | kernel_rfl) (rfl : Reps kF [] []) rfl (fun b19 w20 hN21 => ?_))
      replace B := B.new1 hN21
      clear hN21
      refine s_y (v := .slice (some ⟨b19, 0, none⟩) 0 0) rfl (y_assign rfl) ?_
      refine s_nil ?_
      refine W_seq ?_
      refine W_seq ?_
      refine W_region (by kernel_rfl) ?_
      refine s_y (v := .pointer (some ⟨b1, 1, none⟩)) rfl (y_fld (o := 0) T61.fld_26_1_1 rfl) ?_
      refine s_y (v := .int .i64 hi) rfl (y_load T61.one_2 rfl ((B.b 2 rfl).cell (j := 1) rfl)) ?_
      refine s_y (v := .int .i64 0) rfl (y_move rfl) ?_
      refine s_nil ?_
      refine W_block ?_
      refine W_loop (fun ρ' w' => ∃ (ρ1 : Env) (k : Int) (a0 : Option Addr) (cc0 : Nat) (nn0 : Nat), ρ' = updL ρ1 [(2, .int .i64 x), (3, .pointer (some ⟨b1, 0, none⟩)), (4, .pointer (some ⟨b4, 0, none⟩)), (6, .slice none 0 0), (7, .bool false), (8, .slice a0 nn0 cc0), (24, .int .i64 hi), (25, .int .i64 k)] ∧ Bu w no w' [.ow kF a0 nn0 cc0 34 (tab k (fun yq => el Xfe (x + wd * yq))), .blk b4 [.slice afe nfe cfe, .slice afx nfx cfx, .slice afy nfy cfy] 30, .blk b1 [.int .i64 wd, .int .i64 hi, .bool wr, .slice asp nsp csp, .slice als nls cls] 26, .rd kF asp nsp Xsp, .rd kF als nls Xls, .rd kF afe nfe Xfe, .rd kF afx nfx Xfx, .rd kF afy nfy Xfy] ∧ (0 ≤ k) ∧ (k ≤ hi)) (fun ρ' _ => (hi - iv (ρ' 25)).toNat) ?_ ?_
      · replace B : Bu w no w20 [.ow kF (some ⟨b19, 0, none⟩) 0 0 34 (tab 0 (fun yq => el Xfe (x + wd * yq))), .blk b4 [.slice afe nfe cfe, .slice afx nfx cfx, .slice afy nfy cfy] 30, .blk b1 [.int .i64 wd, .int .i64 hi, .bool wr, .slice asp nsp csp, .slice als nls cls] 26, .rd kF asp nsp Xsp, .rd kF als nls Xls, .rd kF afe nfe Xfe, .rd kF afx nfx Xfx, .rd kF afy nfy Xfy] := B.castX 0 rfl rfl rfl
        exact ⟨_, 0, (some ⟨b19, 0, none⟩), 0, 0, Fits.eq ⟨rfl, rfl, rfl, rfl, rfl, rfl, rfl, rfl, trivial⟩, B, (Int.le_refl _), (by omega)⟩
      · clear B; rintro _ w22 ⟨ρ23, k, a0, cc0, nn0, rfl, B, h0k, h1k⟩
        have hnn0 := (B.o 0 rfl).len
        rw [tab_length] at hnn0
        refine W_seq ?_
        refine W_region (by kernel_rfl) ?_
        by_cases c24 : k < hi
        · refine s_y (v := .bool true) rfl (y_lss rfl rfl (decide_eq_true c24)) ?_
          refine s_nil ?_
          refine W_seq ?_
          refine W_if_t (by decide) rfl ?_
          refine W_skip ?_
          refine W_seq ?_
          refine W_block ?_
          refine W_seq ?_
          refine W_region (by kernel_rfl) ?_
          refine s_y (v := .int .i64 k) rfl (y_move rfl) ?_
          refine s_y (v := .int .i64 k) rfl (y_assign rfl) ?_
          refine s_nil ?_
          have B0_29 := B
          refine W_draw (inA a0) T61.mx (by kernel_rfl) (fun w27 e28 => ?_)
          have R30 := Ext.refl (inA a0) w22
          replace R30 := R30.trans (Ext0.any e28)
          replace B := B.ext0 e28
          clear e28
          refine m_y (v := .slice a0 nn0 cc0) 0 rfl (by kernel_rfl) rfl rfl (fun w' e' => y_move rfl) ?_
          refine m_y (v := .pointer (some ⟨b4, 0, none⟩)) 1 rfl (by kernel_rfl) rfl rfl (fun w' e' => y_fld (o := 0) T61.fld_30_0_0 rfl) ?_
          refine m_y (v := .slice afe nfe cfe) 2 rfl (by kernel_rfl) rfl rfl (fun w' e' => y_load T61.one_24 rfl ((B0_29.bx 1 0 rfl rfl rfl rfl e' (fun _ h => h)).cell (j := 0) rfl)) ?_
          refine m_y (v := .agg #[.int .i64 wd, .int .i64 hi, .bool wr, .slice asp nsp csp, .slice als nls cls]) 3 rfl (by kernel_rfl) rfl rfl (fun w' e' => y_loadn (b := b1) (o := 0) (vs := [.int .i64 wd, .int .i64 hi, .bool wr, .slice asp nsp csp, .slice als nls cls]) T61.agg_26_5 rfl rfl ((B0_29.bx 2 0 rfl rfl rfl rfl e' (fun _ h => h)).cells (o := 0) rfl)) ?_
          refine m_y (v := .int .i64 x) 4 rfl (by kernel_rfl) rfl rfl (fun w' e' => y_move rfl) ?_
          refine m_y (v := .int .i64 k) 5 rfl (by kernel_rfl) rfl rfl (fun w' e' => y_move rfl) ?_
          refine m_k 6 [7, 8, 9, 10, 11] rfl (by kernel_rfl) rfl rfl (fun w31 e32 => ?_)
          replace R30 := R30.trans (Ext0.any e32)
          replace B := B.ext0 e32
          clear e32
          refine k_call T61.fn_69 (c_i_at (by omega) (by omega) (by omega) (by omega) (by omega) (by omega) (by omega) (by omega)) rfl ?_
          rintro _ w33 ⟨rfl, e34⟩
          replace R30 := R30.trans (Ext0.any e34)
          replace B := B.ext0 e34
          clear e34
          refine ⟨fun _ => R30, ?_⟩
          have hat35 := atI_b (wd := wd) (hi := hi) (x := x) (y := k) (by omega) (by omega)
          refine m_y (v := .pointer (some (sat afe ((atI wd hi x k).toNat * 1)))) 7 rfl (by kernel_rfl) rfl rfl (fun w' e' => y_idx T61.sl_24_34_1 rfl rfl ((B.r 5 rfl).addr (by omega)) (by omega) (by omega)) ?_
          obtain ⟨r37, hr38, hR36⟩ := Rd.atF (B0_29.r 5 rfl) (atI wd hi x k) (by omega) (by omega)
          refine m_y (v := .float .f32 r37) 8 rfl (by kernel_rfl) rfl rfl (fun w' e' => y_load T61.one_34 rfl ((B0_29.rowr 5 0 rfl rfl rfl rfl (by omega) hR36 e' (fun _ h => h)).cell (i := 0) rfl)) ?_
          refine m_k 9 [10, 11] rfl (by kernel_rfl) rfl rfl (fun w42 e43 => ?_)
          replace R30 := R30.trans (Ext0.any e43)
          replace B := B.ext0 e43
          clear e43
          refine k_bsliceO (k := kF) (n := 1) (cells := #[.float .f32 r37]) (X := [el Xfe (atI wd hi x k)]) T61.slt_24 (by decide) (by first | rfl | kernel_rfl) (reps_cons (c := [.float .f32 r37]) ⟨_, rfl, hr38⟩ (rfl : Reps kF [] [])) rfl (fun b39 w40 hN41 => ?_)
          replace R30 := R30.trans (Ext0.any hN41.ext)
          replace B := B.new1 hN41
          clear hN41
          refine ⟨fun _ => R30, ?_⟩
          refine m_k 10 [11] rfl (by kernel_rfl) rfl rfl (fun w48 e49 => ?_)
          replace R30 := R30.trans (Ext0.any e49)
          replace B := B.ext0 e49
          clear e49
          refine k_appO (k := kF) T61.slt_24 rfl rfl rfl (B.o 1 rfl) (B.o 0 rfl).rd (by omega) (by unfold maxLen; omega) (fun a44 c45 w46 hU47 => ?_)
          replace R30 := R30.trans hU47.atA
          replace B : Bu w no w46 [.ow kF a44 (nn0 + 1) c45 34 ((tab k (fun yq => el Xfe (x + wd * yq))) ++ ([el Xfe (atI wd hi x k)])), .ow kF (some ⟨b39, 0, none⟩) 1 1 34 ([el Xfe (atI wd hi x k)]), .blk b4 [.slice afe nfe cfe, .slice afx nfx cfx, .slice afy nfy cfy] 30, .blk b1 [.int .i64 wd, .int .i64 hi, .bool wr, .slice asp nsp csp, .slice als nls cls] 26, .rd kF asp nsp Xsp, .rd kF als nls Xls, .rd kF afe nfe Xfe, .rd kF afx nfx Xfx, .rd kF afy nfy Xfy] := B.upd [1] rfl hU47
          clear hU47
          refine ⟨fun _ => R30, ?_⟩
          refine m_y (v := .slice a44 (nn0 + 1) c45) 11 rfl (by kernel_rfl) rfl rfl (fun w' e' => y_assign rfl) ?_
          refine m_done (by kernel_rfl) (fun w50 e51 => ?_)
          replace B := B.ext0 e51
          clear e51
          clear B0_29 R30
          refine W_region (by kernel_rfl) ?_
          refine s_y (v := .int .i64 (k + 1)) rfl (y_add rfl rfl rfl (by omega)) ?_
          refine s_y (v := .int .i64 (k + 1)) rfl (y_move rfl) ?_
          refine s_nil ?_
          replace B : Bu w no w50 [.ow kF a44 (nn0 + 1) c45 34 (tab (k + 1) (fun yq => el Xfe (x + wd * yq))), .ow kF (some ⟨b39, 0, none⟩) 1 1 34 ([el Xfe (atI wd hi x k)]), .blk b4 [.slice afe nfe cfe, .slice afx nfx cfx, .slice afy nfy cfy] 30, .blk b1 [.int .i64 wd, .int .i64 hi, .bool wr, .slice asp nsp csp, .slice als nls cls] 26, .rd kF asp nsp Xsp, .rd kF als nls Xls, .rd kF afe nfe Xfe, .rd kF afx nfx Xfx, .rd kF afy nfy Xfy] := B.castX 0 rfl rfl (tab_snoc (g := fun yq => el Xfe (x + wd * yq)) (by omega) (congrArg (el Xfe) (atI_in (by omega) (by omega) (by omega) (by omega))))
          refine ⟨⟨_, k + 1, a44, c45, nn0 + 1, Fits.eq ⟨rfl, rfl, rfl, rfl, rfl, rfl, rfl, rfl, trivial⟩, (B.pick [0, 2, 3, 4, 5, 6, 7, 8] rfl rfl), (by omega), (by omega)⟩, ?_⟩
          show (hi - (k + 1)).toNat < (hi - k).toNat
          omega
        · refine s_y (v := .bool false) rfl (y_lss rfl rfl (decide_eq_false c24)) ?_
          refine s_nil ?_
          refine W_seq ?_
          refine W_if_f (by decide) rfl ?_
          refine W_exit ?_
          refine W_seq ?_
          refine W_region (by kernel_rfl) ?_
          refine s_y (v := .slice a0 nn0 cc0) rfl (y_move rfl) ?_
          refine s_y (v := .slice a0 nn0 cc0) rfl (y_assign rfl) ?_
          refine s_y (v := .bool true) rfl (y_assign rfl) ?_
          refine s_nil ?_
          refine W_ret ?_
          refine ret2 (v1 := .slice a0 nn0 cc0) (v2 := .bool true) rfl rfl rfl rfl rfl ⟨_, rfl, ?_⟩
          have hcond : colB wd hi wr Xsp Xls Xfe Xfx Xfy x = true := by simp only [colB, c11, c17, (decide_eq_false c24), Bool.and_true, Bool.true_and, Bool.and_false, Bool.false_and, Bool.not_true, Bool.not_false, Bool.or_true, Bool.true_or, Bool.or_false, Bool.false_or]
          obtain rfl : hi = k := by omega
          replace B : Bu w no w22 [.ow kF a0 hi.toNat cc0 34 (colS wd hi Xfe x), .blk b4 [.slice afe nfe cfe, .slice afx nfx cfx, .slice afy nfy cfy] 30, .blk b1 [.int .i64 wd, .int .i64 hi, .bool wr, .slice asp nsp csp, .slice als nls cls] 26, .rd kF asp nsp Xsp, .rd kF als nls Xls, .rd kF afe nfe Xfe, .rd kF afx nfx Xfx, .rd kF afy nfy Xfy] := B.castX 0 rfl (by omega) rfl
          exact .inl ⟨hcond, ⟨_, _, (by rw [(show nn0 = hi.toNat from (by omega))]), B.give [0] rfl rfl rfl⟩⟩
    · obtain rfl : v15 = .bool false := hv16.trans (congrArg Value.bool (Bool.eq_false_iff.2 c17))
      refine s_y (v := .bool true) rfl (y_not rfl rfl) ?_
      refine s_y (v := .bool true) rfl (y_pick_f rfl rfl) ?_
      refine s_nil ?_
      refine W_if_t (by decide) rfl ?_
      refine W_seq ?_
      refine W_region (by kernel_rfl) ?_
      refine s_y (v := .slice none 0 0) rfl (y_assign rfl) ?_
      refine s_y (v := .bool false) rfl (y_assign rfl) ?_
      refine s_nil ?_
      refine W_ret ?_
      refine ret2 (v1 := .slice none 0 0) (v2 := .bool false) rfl rfl rfl rfl rfl ⟨_, rfl, ?_⟩
      exact .inr ⟨by simp only [colB, c11, (Bool.eq_false_iff.2 c17), Bool.and_true, Bool.true_and, Bool.and_false, Bool.false_and, Bool.not_true, Bool.not_false, Bool.or_true, Bool.true_or, Bool.or_false, Bool.false_or], rfl, B.ext⟩
  · obtain rfl : v9 = .bool false := hv10.trans (congrArg Value.bool (Bool.eq_false_iff.2 c11))
    refine s_y (v := .bool true) rfl (y_not rfl rfl) ?_
    refine s_y (v := .bool true) rfl (y_move rfl) ?_
    refine s_skip rfl ?_
    refine s_skip rfl ?_
    refine s_skip rfl ?_
    refine s_skip rfl ?_
    refine s_skip rfl ?_
    refine s_skip rfl ?_
    refine s_y (v := .bool true) rfl (y_pick_t rfl rfl) ?_
    refine s_nil ?_
    refine W_if_t (by decide) rfl ?_
    refine W_seq ?_
    refine W_region (by kernel_rfl) ?_
    refine s_y (v := .slice none 0 0) rfl (y_assign rfl) ?_
    refine s_y (v := .bool false) rfl (y_assign rfl) ?_
    refine s_nil ?_
    refine W_ret ?_
    refine ret2 (v1 := .slice none 0 0) (v2 := .bool false) rfl rfl rfl rfl rfl ⟨_, rfl, ?_⟩
    exact .inr ⟨by simp only [colB, (Bool.eq_false_iff.2 c11), Bool.and_true, Bool.true_and, Bool.and_false, Bool.false_and, Bool.not_true, Bool.not_false, Bool.or_true, Bool.true_or, Bool.or_false, Bool.false_or], rfl, B.ext⟩
namespace T125
theorem mx : Try.prog.follows .mixedOrders = true := by kernel_rfl
theorem f32b_145 : f32bitsB Try.prog 145 := ⟨_, Try.func145, by kernel_rfl, by kernel_rfl, by kernel_rfl, by kernel_rfl⟩
theorem int_2_i64 : Try.prog.underlying 2 = some (.int .i64) := by kernel_rfl
theorem und_147 : (Try.prog.underlying 147).isSome = true := by kernel_rfl
end T125
set_option maxRecDepth 100000 in
set_option maxHeartbeats 4000000 in
theorem c_s_l01Bits {x : Nat} {X : Nat} {w : World} (hx : Cn .f32 x X) :
    Calls Try.prog 125 #[.float .f32 x] w (Rt fun v w' => v = .int .i64 (bitN X) ∧ Ext0 w w') := by
  have B : Bu w no w [] := Bu.ro All.nil rfl
  refine calls_W (n := 9) Try.func125 rfl rfl (Nat.le_of_ble_eq_true rfl) ?_
  refine W_seq ?_
  refine W_region (by kernel_rfl) ?_
  refine s_y (v := .int .i64 0) rfl (y_assign rfl) ?_
  refine s_nil ?_
  refine W_seq ?_
  refine W_seq ?_
  refine W_region (by kernel_rfl) ?_
  refine s_y (v := .float .f32 x) rfl (y_move rfl) ?_
  refine s_y (v := .float .f32 x) rfl (y_move rfl) ?_
  by_cases c1 : fne .f32 X X = true
  · refine s_y (v := .bool true) rfl (y_fneq rfl rfl (fneC hx hx c1)) ?_
    refine s_nil ?_
    refine W_if_t (by decide) rfl ?_
    refine W_seq ?_
    refine W_region (by kernel_rfl) ?_
    refine s_y (v := .int .i64 2143289344) rfl (y_assign rfl) ?_
    refine s_nil ?_
    refine W_ret ?_
    refine ret1 (v := .int .i64 2143289344) rfl rfl rfl ⟨_, rfl, ?_⟩
    exact ⟨congrArg (Value.int .i64) ((bitN_nan c1)), B.ext⟩
  · refine s_y (v := .bool false) rfl (y_fneq rfl rfl (fneC hx hx (Bool.eq_false_iff.2 c1))) ?_
    refine s_nil ?_
    refine W_if_f (by decide) rfl ?_
    refine W_skip ?_
    refine W_seq ?_
    refine W_region (by kernel_rfl) ?_
    refine s_y (v := .float .f32 x) rfl (y_move rfl) ?_
    refine s_k rfl (k_f32bits T125.f32b_145 rfl ?_)
    have hb2 := wid32 hx.2
    refine s_y (v := .int .i64 ((x : Nat) : Int)) rfl (y_ii T125.und_147 T125.int_2_i64 rfl (IntWalk.i64_in _ (by omega))) ?_
    refine s_y (v := .int .i64 ((x : Nat) : Int)) rfl (y_assign rfl) ?_
    refine s_nil ?_
    refine W_ret ?_
    refine ret1 (v := .int .i64 ((x : Nat) : Int)) rfl rfl rfl ⟨_, rfl, ?_⟩
    exact ⟨congrArg (Value.int .i64) ((bitN_num hx c1)), B.ext⟩
namespace T80
theorem mx : Try.prog.follows .mixedOrders = true := by kernel_rfl
theorem fn_125 : fnB Try.prog 125 = true := by kernel_rfl
end T80
set_option maxRecDepth 100000 in
set_option maxHeartbeats 4000000 in
theorem c_s_l01Same {x : Nat} {X : Nat} {y : Nat} {Y : Nat} {w : World} (hx : Cn .f32 x X) (hy : Cn .f32 y Y) :
    Calls Try.prog 80 #[.float .f32 x, .float .f32 y] w (Rt fun v w' => v = .bool (decide (bitN X = bitN Y)) ∧ Ext0 w w') := by
  have B : Bu w no w [] := Bu.ro All.nil rfl
  refine calls_W (n := 10) Try.func80 rfl rfl (Nat.le_of_ble_eq_true rfl) ?_
  refine W_seq ?_
  refine W_region (by kernel_rfl) ?_
  refine s_y (v := .bool false) rfl (y_assign rfl) ?_
  refine s_nil ?_
  refine W_seq ?_
  refine W_region (by kernel_rfl) ?_
  refine s_y (v := .float .f32 x) rfl (y_move rfl) ?_
  refine s_k rfl (k_call T80.fn_125 (c_s_l01Bits hx) rfl ?_)
  rintro _ w1 ⟨rfl, e2⟩
  replace B := B.ext0 e2
  clear e2
  refine s_y (v := .float .f32 y) rfl (y_move rfl) ?_
  refine s_k rfl (k_call T80.fn_125 (c_s_l01Bits hy) rfl ?_)
  rintro _ w3 ⟨rfl, e4⟩
  replace B := B.ext0 e4
  clear e4
  by_cases c5 : (bitN X) = (bitN Y)
  · refine s_y (v := .bool true) rfl (y_eql rfl rfl (decide_eq_true c5)) ?_
    refine s_y (v := .bool true) rfl (y_assign rfl) ?_
    refine s_nil ?_
    refine W_ret ?_
    refine ret1 (v := .bool true) rfl rfl rfl ⟨_, rfl, ?_⟩
    exact ⟨congrArg Value.bool (by simp only [(decide_eq_true c5), Bool.and_true, Bool.true_and, Bool.and_false, Bool.false_and, Bool.not_true, Bool.not_false, Bool.or_true, Bool.true_or, Bool.or_false, Bool.false_or]), B.ext⟩
  · refine s_y (v := .bool false) rfl (y_eql rfl rfl (decide_eq_false c5)) ?_
    refine s_y (v := .bool false) rfl (y_assign rfl) ?_
    refine s_nil ?_
    refine W_ret ?_
    refine ret1 (v := .bool false) rfl rfl rfl ⟨_, rfl, ?_⟩
    exact ⟨congrArg Value.bool (by simp only [(decide_eq_false c5), Bool.and_true, Bool.true_and, Bool.and_false, Bool.false_and, Bool.not_true, Bool.not_false, Bool.or_true, Bool.true_or, Bool.or_false, Bool.false_or]), B.ext⟩
namespace T21
theorem mx : Try.prog.follows .mixedOrders = true := by kernel_rfl
theorem fn_80 : fnB Try.prog 80 = true := by kernel_rfl
end T21
set_option maxRecDepth 100000 in
set_option maxHeartbeats 4000000 in
theorem c_s_SameNumber {x : Nat} {X : Nat} {y : Nat} {Y : Nat} {w : World} (hx : Cn .f32 x X) (hy : Cn .f32 y Y) :
    Calls Try.prog 21 #[.float .f32 x, .float .f32 y] w (Rt fun v w' => v = .bool (decide (bitN X = bitN Y)) ∧ Ext0 w w') := by
  have B : Bu w no w [] := Bu.ro All.nil rfl
  refine calls_W (n := 8) Try.func21 rfl rfl (Nat.le_of_ble_eq_true rfl) ?_
  refine W_seq ?_
  refine W_region (by kernel_rfl) ?_
  refine s_y (v := .bool false) rfl (y_assign rfl) ?_
  refine s_nil ?_
  refine W_seq ?_
  refine W_region (by kernel_rfl) ?_
  refine s_y (v := .float .f32 x) rfl (y_move rfl) ?_
  refine s_y (v := .float .f32 y) rfl (y_move rfl) ?_
  refine s_k rfl (k_call T21.fn_80 (c_s_l01Same hx hy) rfl ?_)
  rintro v3 w1 ⟨hv4, e2⟩
  replace B := B.ext0 e2
  clear e2
  by_cases c5 : decide (bitN X = bitN Y) = true
  · obtain rfl : v3 = .bool true := hv4.trans (congrArg Value.bool c5)
    refine s_y (v := .bool true) rfl (y_assign rfl) ?_
    refine s_nil ?_
    refine W_ret ?_
    refine ret1 (v := .bool true) rfl rfl rfl ⟨_, rfl, ?_⟩
    exact ⟨congrArg Value.bool (by simp only [c5, Bool.and_true, Bool.true_and, Bool.and_false, Bool.false_and, Bool.not_true, Bool.not_false, Bool.or_true, Bool.true_or, Bool.or_false, Bool.false_or]), B.ext⟩
  · obtain rfl : v3 = .bool false := hv4.trans (congrArg Value.bool (Bool.eq_false_iff.2 c5))
    refine s_y (v := .bool false) rfl (y_assign rfl) ?_
    refine s_nil ?_
    refine W_ret ?_
    refine ret1 (v := .bool false) rfl rfl rfl ⟨_, rfl, ?_⟩
    exact ⟨congrArg Value.bool (by simp only [(Bool.eq_false_iff.2 c5), Bool.and_true, Bool.true_and, Bool.and_false, Bool.false_and, Bool.not_true, Bool.not_false, Bool.or_true, Bool.true_or, Bool.or_false, Bool.false_or]), B.ext⟩
namespace T141
theorem mx : Try.prog.follows .mixedOrders = true := by kernel_rfl
theorem agg_30_3 : aggB Try.prog 30 3 = true := by kernel_rfl
theorem one_117 : oneB Try.prog 117 = true := by kernel_rfl
theorem one_24 : oneB Try.prog 24 = true := by kernel_rfl
theorem slt_24 : SlT Try.prog 24 34 1 4 (.float .f32 0) := ⟨by kernel_rfl, by kernel_rfl, rfl, by decide⟩
theorem sz_24_1 : szB Try.prog 24 1 = true := by kernel_rfl
end T141
set_option maxRecDepth 100000 in
set_option maxHeartbeats 4000000 in
theorem c_i_traceBy_1 {afe : Option Addr} {nfe : Nat} {cfe : Nat} {Xfe : List Nat} {afx : Option Addr} {nfx : Nat} {cfx : Nat} {Xfx : List Nat} {afy : Option Addr} {nfy : Nat} {cfy : Nat} {Xfy : List Nat} {bo : Nat} {bn : Nat} {f : Nat} {us xs : List Value} {FN : Fld → Nat} {aq : Option Addr} {nq cq : Nat} {Xq : List Nat} {w : World} (hfB : fnB Try.prog f = true) (hF : ∀ {w1 : World}, Ext (hasW [.blk bo [.slice aq nq cq] 24, .ow kF aq nq cq 34 Xq]) w w1 → Calls Try.prog f (us ++ ([.agg #[.slice afe nfe cfe, .slice afx nfx cfx, .slice afy nfy cfy]] : List Value) ++ xs).toArray w1 (Rt fun v w2 => (∃ r, v = .float .f32 r ∧ Cn .f32 r (FN (Xfe, Xfx, Xfy))) ∧ Ext0 w1 w2)) (hq : nq ≤ 1048576) (HA : All w [.blk bo [.slice aq nq cq] 24, .ow kF aq nq cq 34 Xq, .rd kF afe nfe Xfe, .rd kF afx nfx Xfx, .rd kF afy nfy Xfy, .sl (some ⟨bn, 0, none⟩) [.func (.func f) us.toArray xs.toArray]]) (HP : Pw [.blk bo [.slice aq nq cq] 24, .ow kF aq nq cq 34 Xq, .rd kF afe nfe Xfe, .rd kF afx nfx Xfx, .rd kF afy nfy Xfy, .sl (some ⟨bn, 0, none⟩) [.func (.func f) us.toArray xs.toArray]]) :
    Calls Try.prog 141 #[.agg #[.slice afe nfe cfe, .slice afx nfx cfx, .slice afy nfy cfy], .pointer (some ⟨bo, 0, none⟩), .pointer (some ⟨bn, 0, none⟩)] w (Rt fun v w' => ∃ (a9 : Option Addr) (c9 : Nat), v = .tuple #[] ∧ Upd w w' [.blk bo [.slice aq nq cq] 24, .ow kF aq nq cq 34 Xq] [.blk bo [.slice a9 (nq + 1) c9] 24, .ow kF a9 (nq + 1) c9 34 (Xq ++ [FN (Xfe, Xfx, Xfy)])]) := by
  have B : Bu w (hasW [.blk bo [.slice aq nq cq] 24, .ow kF aq nq cq 34 Xq]) w [.blk bo [.slice aq nq cq] 24, .ow kF aq nq cq 34 Xq, .rd kF afe nfe Xfe, .rd kF afx nfx Xfx, .rd kF afy nfy Xfy, .sl (some ⟨bn, 0, none⟩) [.func (.func f) us.toArray xs.toArray]] := Bu.initW (W := [.blk bo [.slice aq nq cq] 24, .ow kF aq nq cq 34 Xq]) (R := [.rd kF afe nfe Xfe, .rd kF afx nfx Xfx, .rd kF afy nfy Xfy, .sl (some ⟨bn, 0, none⟩) [.func (.func f) us.toArray xs.toArray]]) HA HP rfl
  have hlq := (B.o 1 rfl).len
  have hlfe := (B.r 2 rfl).len
  have hlfx := (B.r 3 rfl).len
  have hlfy := (B.r 4 rfl).len
  refine calls_W (n := 10) Try.func141 rfl rfl (Nat.le_of_ble_eq_true rfl) ?_
  refine W_seq ?_
  refine W_region (by kernel_rfl) ?_
  refine s_k rfl (k_boxN (v := .agg #[.slice afe nfe cfe, .slice afx nfx cfx, .slice afy nfy cfy]) (cs := [.slice afe nfe cfe, .slice afx nfx cfx, .slice afy nfy cfy]) rfl rfl (fun b1 w2 hN3 => ?_))
  replace B := B.new1 hN3
  clear hN3
  refine s_nil ?_
  have B0_8 := B
  refine W_draw (no) T141.mx (by kernel_rfl) (fun w6 e7 => ?_)
  have R9 := Ext.refl (no) w2
  replace R9 := R9.trans (Ext0.any e7)
  replace B := B.ext0 e7
  clear e7
  refine m_y (v := .slice aq nq cq) 0 rfl (by kernel_rfl) rfl rfl (fun w' e' => y_load T141.one_24 rfl (((B0_8.b 1 rfl).ext0 e').cell (j := 0) rfl)) ?_
  refine m_y (v := .func (.func f) us.toArray xs.toArray) 1 rfl (by kernel_rfl) rfl rfl (fun w' e' => y_load T141.one_117 rfl (((B0_8.s 6 rfl).ext0 e').cell (j := 0) rfl)) ?_
  refine m_y (v := .agg #[.slice afe nfe cfe, .slice afx nfx cfx, .slice afy nfy cfy]) 2 rfl (by kernel_rfl) rfl rfl (fun w' e' => y_loadn (b := b1) (o := 0) (vs := [.slice afe nfe cfe, .slice afx nfx cfx, .slice afy nfy cfy]) T141.agg_30_3 rfl rfl (((B0_8.b 0 rfl).ext0 e').cells (o := 0) rfl)) ?_
  refine m_k 3 [4, 5, 6] rfl (by kernel_rfl) rfl rfl (fun w14 e15 => ?_)
  replace R9 := R9.trans (Ext0.any e15)
  replace B := B.ext0 e15
  clear e15
  refine k_callv hfB rfl (hF B.ext) rfl ?_
  rintro _ w10 ⟨⟨r12, rfl, hr13⟩, e11⟩
  replace R9 := R9.trans (Ext0.any e11)
  replace B := B.ext0 e11
  clear e11
  refine ⟨fun _ => R9, ?_⟩
  refine m_k 4 [5, 6] rfl (by kernel_rfl) rfl rfl (fun w19 e20 => ?_)
  replace R9 := R9.trans (Ext0.any e20)
  replace B := B.ext0 e20
  clear e20
  refine k_bsliceO (k := kF) (n := 1) (cells := #[.float .f32 r12]) (X := [FN (Xfe, Xfx, Xfy)]) T141.slt_24 (by decide) (by first | rfl | kernel_rfl) (reps_cons (c := [.float .f32 r12]) ⟨_, rfl, hr13⟩ (rfl : Reps kF [] [])) rfl (fun b16 w17 hN18 => ?_)
  replace R9 := R9.trans (Ext0.any hN18.ext)
  replace B := B.new1 hN18
  clear hN18
  refine ⟨fun _ => R9, ?_⟩
  refine m_kt 5 [6] rfl (by kernel_rfl) rfl rfl (by kernel_rfl) (fun w25 e26 => ?_)
  replace R9 := R9.trans (Ext0.any e26)
  replace B := B.ext0 e26
  clear e26
  refine k_appO (k := kF) T141.slt_24 rfl rfl rfl (B.o 3 rfl) (B.o 0 rfl).rd (by omega) (by unfold maxLen; omega) (fun a21 c22 w23 hU24 => ?_)
  clear R9
  replace B : Bu w (hasW [.blk bo [.slice aq nq cq] 24, .ow kF aq nq cq 34 Xq]) w23 [.ow kF a21 (nq + 1) c22 34 (Xq ++ ([FN (Xfe, Xfx, Xfy)])), .ow kF (some ⟨b16, 0, none⟩) 1 1 34 ([FN (Xfe, Xfx, Xfy)]), .blk b1 [.slice afe nfe cfe, .slice afx nfx cfx, .slice afy nfy cfy] 30, .blk bo [.slice aq nq cq] 24, .rd kF afe nfe Xfe, .rd kF afx nfx Xfx, .rd kF afy nfy Xfy, .sl (some ⟨bn, 0, none⟩) [.func (.func f) us.toArray xs.toArray]] := B.upd [3] rfl hU24
  clear hU24
  refine m_kt 6 [] rfl (by kernel_rfl) rfl rfl (by kernel_rfl) (fun w29 e30 => ?_)
  replace B := B.ext0 e30
  clear e30
  refine k_stB (v := .slice a21 (nq + 1) c22) (n := 1) (cs' := [.slice a21 (nq + 1) c22]) T141.sz_24_1 rfl rfl rfl (B.b 3 rfl) (by simp [Value.cells, Value.oneCell']) (Nat.le_of_ble_eq_true rfl) rfl (fun w27 hU28 => ?_)
  replace B : Bu w (hasW [.blk bo [.slice aq nq cq] 24, .ow kF aq nq cq 34 Xq]) w27 [.blk bo [.slice a21 (nq + 1) c22] 24, .ow kF a21 (nq + 1) c22 34 (Xq ++ ([FN (Xfe, Xfx, Xfy)])), .ow kF (some ⟨b16, 0, none⟩) 1 1 34 ([FN (Xfe, Xfx, Xfy)]), .blk b1 [.slice afe nfe cfe, .slice afx nfx cfx, .slice afy nfy cfy] 30, .rd kF afe nfe Xfe, .rd kF afx nfx Xfx, .rd kF afy nfy Xfy, .sl (some ⟨bn, 0, none⟩) [.func (.func f) us.toArray xs.toArray]] := B.upd [3] rfl hU28
  clear hU28
  refine m_done (by kernel_rfl) (fun w31 e32 => ?_)
  replace B := B.ext0 e32
  clear e32
  clear B0_8
  refine ret0 rfl ⟨_, rfl, ?_⟩
  exact ⟨_, _, rfl, B.wrote [0, 1] rfl rfl rfl⟩
namespace T71
theorem mx : Try.prog.follows .mixedOrders = true := by kernel_rfl
end T71
end Go.Proofs.Ytgohmocjjmkepaa
