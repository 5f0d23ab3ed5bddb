/- Walks: what the functions under FnFieldsScaled do (part 3). Printed by a program of this claim's author. -/
import Derived.Test.YtgohmocjjmkepaaFieldsScaledW1
set_option linter.unusedSimpArgs false
set_option linter.unusedVariables false
open Go.Wv
namespace Go.Proofs.Ytgohmocjjmkepaa
open Go.Proofs
namespace T131
theorem mx : Try.prog.follows .mixedOrders = true := by kernel_rfl
theorem agg_26_5 : aggB Try.prog 26 5 = true := by kernel_rfl
theorem fld_26_3_3 : fldB Try.prog 26 3 3 = true := by kernel_rfl
theorem fld_26_4_4 : fldB Try.prog 26 4 4 = true := by kernel_rfl
theorem fld_30_0_0 : fldB Try.prog 30 0 0 = true := by kernel_rfl
theorem fld_30_1_1 : fldB Try.prog 30 1 1 = true := by kernel_rfl
theorem fld_30_2_2 : fldB Try.prog 30 2 2 = true := by kernel_rfl
theorem fn_69 : fnB Try.prog 69 = true := by kernel_rfl
theorem one_24 : oneB Try.prog 24 = true := by kernel_rfl
theorem one_34 : oneB Try.prog 34 = true := by kernel_rfl
theorem sl_24_34_1 : slB Try.prog 24 34 1 = true := by kernel_rfl
end T131
set_option maxRecDepth 100000 in
set_option maxHeartbeats 4000000 in
theorem c_i_newValue {wd : Int} {hi : Int} {wr : Bool} {asp : Option Addr} {nsp : Nat} {csp : Nat} {Xsp : List Nat} {als : Option Addr} {nls : Nat} {cls : Nat} {Xls : List Nat} {afe : Option Addr} {nfe : Nat} {cfe : Nat} {Xfe : List Nat} {afx : Option Addr} {nfx : Nat} {cfx : Nat} {Xfx : List Nat} {afy : Option Addr} {nfy : Nat} {cfy : Nat} {Xfy : List Nat} {x : Int} {y : Int} {w : World} (qsp : Rd w kF asp nsp Xsp) (qls : Rd w kF als nls Xls) (qfe : Rd w kF afe nfe Xfe) (qfx : Rd w kF afx nfx Xfx) (qfy : Rd w kF afy nfy Xfy) (h1 : 3 ≤ wd) (h2 : wd ≤ 16) (h3 : 3 ≤ hi) (h4 : hi ≤ 16) (gfe : (nfe : Int) = wd * hi) (gfx : (nfx : Int) = wd * hi) (gfy : (nfy : Int) = wd * hi) (gsp : (nsp : Int) = wd * hi) (gls : (nls : Int) = wd * hi) (p1 : 0 ≤ x) (p2 : x < wd) (p3 : 0 ≤ y) (p4 : y < hi) :
    Calls Try.prog 131 #[.agg #[.int .i64 wd, .int .i64 hi, .bool wr, .slice asp nsp csp, .slice als nls cls], .agg #[.slice afe nfe cfe, .slice afx nfx cfx, .slice afy nfy cfy], .int .i64 x, .int .i64 y] w (Rt fun v w' => (∃ r, v = .float .f32 r ∧ Cn .f32 r (nvV wd hi Xsp Xls (el Xfe (atI wd hi x y)) Xfx Xfy x y)) ∧ Ext0 w w') := by
  have hlsp := qsp.len
  have hlls := qls.len
  have hlfe := qfe.len
  have hlfx := qfx.len
  have hlfy := qfy.len
  have B : Bu w no w [.rd kF asp nsp Xsp, .rd kF als nls Xls, .rd kF afe nfe Xfe, .rd kF afx nfx Xfx, .rd kF afy nfy Xfy] := Bu.ro (All.cons qsp (All.cons qls (All.cons qfe (All.cons qfx (All.cons qfy All.nil))))) rfl
  refine calls_W (n := 66) Try.func131 rfl rfl (Nat.le_of_ble_eq_true rfl) ?_
  refine W_seq ?_
  refine W_region (by kernel_rfl) ?_
  refine s_k rfl (k_boxN (v := .agg #[.int .i64 wd, .int .i64 hi, .bool wr, .slice asp nsp csp, .slice als nls cls]) (cs := [.int .i64 wd, .int .i64 hi, .bool wr, .slice asp nsp csp, .slice als nls cls]) rfl rfl (fun b1 w2 hN3 => ?_))
  replace B := B.new1 hN3
  clear hN3
  refine s_k rfl (k_boxN (v := .agg #[.slice afe nfe cfe, .slice afx nfx cfx, .slice afy nfy cfy]) (cs := [.slice afe nfe cfe, .slice afx nfx cfx, .slice afy nfy cfy]) rfl rfl (fun b4 w5 hN6 => ?_))
  replace B := B.new1 hN6
  clear hN6
  refine s_y (v := .float .f32 0) rfl (y_assign rfl) ?_
  refine s_nil ?_
  refine W_seq ?_
  refine W_region (by kernel_rfl) ?_
  refine s_y (v := .agg #[.int .i64 wd, .int .i64 hi, .bool wr, .slice asp nsp csp, .slice als nls cls]) rfl (y_loadn (b := b1) (o := 0) (vs := [.int .i64 wd, .int .i64 hi, .bool wr, .slice asp nsp csp, .slice als nls cls]) T131.agg_26_5 rfl rfl ((B.b 1 rfl).cells (o := 0) rfl)) ?_
  refine s_y (v := .int .i64 x) rfl (y_move rfl) ?_
  refine s_y (v := .int .i64 y) rfl (y_move rfl) ?_
  refine s_k rfl (k_call T131.fn_69 (c_i_at (by omega) (by omega) (by omega) (by omega) (by omega) (by omega) (by omega) (by omega)) rfl ?_)
  rintro _ w7 ⟨rfl, e8⟩
  replace B := B.ext0 e8
  clear e8
  have hat9 := atI_b (wd := wd) (hi := hi) (x := x) (y := y) (by omega) (by omega)
  refine s_y (v := .int .i64 (atI wd hi x y)) rfl (y_assign rfl) ?_
  refine s_nil ?_
  refine W_seq ?_
  have B0_12 := B
  refine W_drawI (no) (fun ρ' w' => (∃ (ρ1 : Env) (r51 : Nat), ρ' = updL ρ1 [(4, .pointer (some ⟨b1, 0, none⟩)), (5, .pointer (some ⟨b4, 0, none⟩)), (8, .float .f32 0), (9, .int .i64 (atI wd hi x y)), (10, .float .f32 r51)] ∧ Bu w no w' [.blk b4 [.slice afe nfe cfe, .slice afx nfx cfx, .slice afy nfy cfy] 30, .blk b1 [.int .i64 wd, .int .i64 hi, .bool wr, .slice asp nsp csp, .slice als nls cls] 26, .rd kF asp nsp Xsp, .rd kF als nls Xls, .rd kF afe nfe Xfe, .rd kF afx nfx Xfx, .rd kF afy nfy Xfy] ∧ Cn .f32 r51 (fop .sub .f32 (fop .sub .f32 (el Xfy (atI wd hi x y)) (el Xfy (atI wd hi (x - 1) y))) (fop .sub .f32 (el Xfx (atI wd hi x y)) (el Xfx (atI wd hi x (y - 1))))))) T131.mx (by kernel_rfl) (fun w10 e11 => ?_) ?_
  · have R13 := Ext.refl (no) w7
    replace R13 := R13.trans (Ext0.any e11)
    replace B := B.ext0 e11
    clear e11
    refine m_y (v := .pointer (some ⟨b4, 2, none⟩)) 0 rfl (by kernel_rfl) rfl rfl (fun w' e' => y_fld (o := 0) T131.fld_30_2_2 rfl) ?_
    refine m_y (v := .slice afy nfy cfy) 1 rfl (by kernel_rfl) rfl rfl (fun w' e' => y_load T131.one_24 rfl (((B0_12.b 0 rfl).ext0 e').cell (j := 2) rfl)) ?_
    refine m_y (v := .int .i64 (atI wd hi x y)) 2 rfl (by kernel_rfl) rfl rfl (fun w' e' => y_move rfl) ?_
    refine m_y (v := .pointer (some (sat afy ((atI wd hi x y).toNat * 1)))) 3 rfl (by kernel_rfl) rfl rfl (fun w' e' => y_idx T131.sl_24_34_1 rfl rfl ((B.r 6 rfl).addr (by omega)) (by omega) (by omega)) ?_
    obtain ⟨r15, hr16, hR14⟩ := Rd.atF (B0_12.r 6 rfl) (atI wd hi x y) (by omega) (by omega)
    refine m_y (v := .float .f32 r15) 4 rfl (by kernel_rfl) rfl rfl (fun w' e' => y_load T131.one_34 rfl ((hR14.ext0 e').cell (i := 0) rfl)) ?_
    refine m_y (v := .pointer (some ⟨b4, 2, none⟩)) 5 rfl (by kernel_rfl) rfl rfl (fun w' e' => y_fld (o := 0) T131.fld_30_2_2 rfl) ?_
    refine m_y (v := .slice afy nfy cfy) 6 rfl (by kernel_rfl) rfl rfl (fun w' e' => y_load T131.one_24 rfl (((B0_12.b 0 rfl).ext0 e').cell (j := 2) rfl)) ?_
    refine m_y (v := .agg #[.int .i64 wd, .int .i64 hi, .bool wr, .slice asp nsp csp, .slice als nls cls]) 7 rfl (by kernel_rfl) rfl rfl (fun w' e' => y_loadn (b := b1) (o := 0) (vs := [.int .i64 wd, .int .i64 hi, .bool wr, .slice asp nsp csp, .slice als nls cls]) T131.agg_26_5 rfl rfl (((B0_12.b 1 rfl).ext0 e').cells (o := 0) rfl)) ?_
    refine m_y (v := .int .i64 x) 8 rfl (by kernel_rfl) rfl rfl (fun w' e' => y_move rfl) ?_
    refine m_y (v := .int .i64 (x - 1)) 9 rfl (by kernel_rfl) rfl rfl (fun w' e' => y_sub rfl rfl rfl (by omega)) ?_
    refine m_y (v := .int .i64 y) 10 rfl (by kernel_rfl) rfl rfl (fun w' e' => y_move rfl) ?_
    refine m_y (v := .pointer (some ⟨b4, 1, none⟩)) 15 rfl (by kernel_rfl) rfl rfl (fun w' e' => y_fld (o := 0) T131.fld_30_1_1 rfl) ?_
    refine m_y (v := .slice afx nfx cfx) 16 rfl (by kernel_rfl) rfl rfl (fun w' e' => y_load T131.one_24 rfl (((B0_12.b 0 rfl).ext0 e').cell (j := 1) rfl)) ?_
    refine m_y (v := .int .i64 (atI wd hi x y)) 17 rfl (by kernel_rfl) rfl rfl (fun w' e' => y_move rfl) ?_
    refine m_y (v := .pointer (some (sat afx ((atI wd hi x y).toNat * 1)))) 18 rfl (by kernel_rfl) rfl rfl (fun w' e' => y_idx T131.sl_24_34_1 rfl rfl ((B.r 5 rfl).addr (by omega)) (by omega) (by omega)) ?_
    obtain ⟨r18, hr19, hR17⟩ := Rd.atF (B0_12.r 5 rfl) (atI wd hi x y) (by omega) (by omega)
    refine m_y (v := .float .f32 r18) 19 rfl (by kernel_rfl) rfl rfl (fun w' e' => y_load T131.one_34 rfl ((hR17.ext0 e').cell (i := 0) rfl)) ?_
    refine m_y (v := .pointer (some ⟨b4, 1, none⟩)) 20 rfl (by kernel_rfl) rfl rfl (fun w' e' => y_fld (o := 0) T131.fld_30_1_1 rfl) ?_
    refine m_y (v := .slice afx nfx cfx) 21 rfl (by kernel_rfl) rfl rfl (fun w' e' => y_load T131.one_24 rfl (((B0_12.b 0 rfl).ext0 e').cell (j := 1) rfl)) ?_
    refine m_y (v := .agg #[.int .i64 wd, .int .i64 hi, .bool wr, .slice asp nsp csp, .slice als nls cls]) 22 rfl (by kernel_rfl) rfl rfl (fun w' e' => y_loadn (b := b1) (o := 0) (vs := [.int .i64 wd, .int .i64 hi, .bool wr, .slice asp nsp csp, .slice als nls cls]) T131.agg_26_5 rfl rfl (((B0_12.b 1 rfl).ext0 e').cells (o := 0) rfl)) ?_
    refine m_y (v := .int .i64 x) 23 rfl (by kernel_rfl) rfl rfl (fun w' e' => y_move rfl) ?_
    refine m_y (v := .int .i64 y) 24 rfl (by kernel_rfl) rfl rfl (fun w' e' => y_move rfl) ?_
    refine m_y (v := .int .i64 (y - 1)) 25 rfl (by kernel_rfl) rfl rfl (fun w' e' => y_sub rfl rfl rfl (by omega)) ?_
    refine m_k 11 [12, 13, 14, 26, 27, 28, 29, 30, 31] rfl (by kernel_rfl) rfl rfl (fun w20 e21 => ?_)
    replace R13 := R13.trans (Ext0.any e21)
    replace B := B.ext0 e21
    clear e21
    refine k_call T131.fn_69 (c_i_at (by omega) (by omega) (by omega) (by omega) (by omega) (by omega) (by omega) (by omega)) rfl ?_
    rintro _ w22 ⟨rfl, e23⟩
    replace R13 := R13.trans (Ext0.any e23)
    replace B := B.ext0 e23
    clear e23
    refine ⟨fun _ => R13, ?_⟩
    have hat24 := atI_b (wd := wd) (hi := hi) (x := x - 1) (y := y) (by omega) (by omega)
    refine m_y (v := .pointer (some (sat afy ((atI wd hi (x - 1) y).toNat * 1)))) 12 rfl (by kernel_rfl) rfl rfl (fun w' e' => y_idx T131.sl_24_34_1 rfl rfl ((B.r 6 rfl).addr (by omega)) (by omega) (by omega)) ?_
    obtain ⟨r26, hr27, hR25⟩ := Rd.atF (B0_12.r 6 rfl) (atI wd hi (x - 1) y) (by omega) (by omega)
    refine m_y (v := .float .f32 r26) 13 rfl (by kernel_rfl) rfl rfl (fun w' e' => y_load T131.one_34 rfl ((hR25.ext0 e').cell (i := 0) rfl)) ?_
    refine m_ntwo 14 26 (by kernel_rfl) rfl rfl rfl rfl rfl rfl ?_ (fun w28 e29 => ?_)
    · refine ⟨_, fun w' e' => n_arith (by decide) rfl rfl, ?_⟩
      rintro _ ⟨r31, rfl, hr32⟩
      have hc35 := fopC hr32 hr16 hr27
      refine m_k 26 [27, 28, 29, 30, 31] rfl (by kernel_rfl) rfl rfl (fun w36 e37 => ?_)
      replace R13 := R13.trans (Ext0.any e37)
      replace B := B.ext0 e37
      clear e37
      refine k_call T131.fn_69 (c_i_at (by omega) (by omega) (by omega) (by omega) (by omega) (by omega) (by omega) (by omega)) rfl ?_
      rintro _ w38 ⟨rfl, e39⟩
      replace R13 := R13.trans (Ext0.any e39)
      replace B := B.ext0 e39
      clear e39
      refine ⟨fun _ => R13, ?_⟩
      have hat40 := atI_b (wd := wd) (hi := hi) (x := x) (y := y - 1) (by omega) (by omega)
      refine m_y (v := .pointer (some (sat afx ((atI wd hi x (y - 1)).toNat * 1)))) 27 rfl (by kernel_rfl) rfl rfl (fun w' e' => y_idx T131.sl_24_34_1 rfl rfl ((B.r 5 rfl).addr (by omega)) (by omega) (by omega)) ?_
      obtain ⟨r42, hr43, hR41⟩ := Rd.atF (B0_12.r 5 rfl) (atI wd hi x (y - 1)) (by omega) (by omega)
      refine m_y (v := .float .f32 r42) 28 rfl (by kernel_rfl) rfl rfl (fun w' e' => y_load T131.one_34 rfl ((hR41.ext0 e').cell (i := 0) rfl)) ?_
      refine m_n 29 [30, 31] rfl (by kernel_rfl) rfl rfl (fun w' e' => n_arith (by decide) rfl rfl) ?_
      rintro _ ⟨r45, rfl, hr46⟩
      have hc49 := fopC hr46 hr19 hr43
      refine m_n 30 [31] rfl (by kernel_rfl) rfl rfl (fun w' e' => n_arith (by decide) rfl rfl) ?_
      rintro _ ⟨r51, rfl, hr52⟩
      have hc55 := fopC hr52 hc35 hc49
      refine m_y (v := .float .f32 r51) 31 rfl (by kernel_rfl) rfl rfl (fun w' e' => y_assign rfl) ?_
      refine m_done (by kernel_rfl) (fun w56 e57 => ?_)
      replace B := B.ext0 e57
      clear e57
      clear B0_12 R13
      exact ⟨_, r51, Fits.eq ⟨rfl, rfl, rfl, rfl, rfl, trivial⟩, B, hc55⟩
    · replace R13 := R13.trans (Ext0.any e29)
      replace B := B.ext0 e29
      clear e29
      refine k_call T131.fn_69 (c_i_at (by omega) (by omega) (by omega) (by omega) (by omega) (by omega) (by omega) (by omega)) rfl ?_
      rintro _ w58 ⟨rfl, e59⟩
      replace R13 := R13.trans (Ext0.any e59)
      replace B := B.ext0 e59
      clear e59
      refine ⟨fun _ => R13, ?_⟩
      have hat60 := atI_b (wd := wd) (hi := hi) (x := x) (y := y - 1) (by omega) (by omega)
      refine m_y (v := .pointer (some (sat afx ((atI wd hi x (y - 1)).toNat * 1)))) 27 rfl (by kernel_rfl) rfl rfl (fun w' e' => y_idx T131.sl_24_34_1 rfl rfl ((B.r 5 rfl).addr (by omega)) (by omega) (by omega)) ?_
      obtain ⟨r62, hr63, hR61⟩ := Rd.atF (B0_12.r 5 rfl) (atI wd hi x (y - 1)) (by omega) (by omega)
      refine m_y (v := .float .f32 r62) 28 rfl (by kernel_rfl) rfl rfl (fun w' e' => y_load T131.one_34 rfl ((hR61.ext0 e').cell (i := 0) rfl)) ?_
      refine m_n 14 [30, 31] rfl (by kernel_rfl) rfl rfl (fun w' e' => n_arith (by decide) rfl rfl) ?_
      rintro _ ⟨r65, rfl, hr66⟩
      have hc69 := fopC hr66 hr16 hr27
      refine m_n 29 [30, 31] rfl (by kernel_rfl) rfl rfl (fun w' e' => n_arith (by decide) rfl rfl) ?_
      rintro _ ⟨r71, rfl, hr72⟩
      have hc75 := fopC hr72 hr19 hr63
      refine m_n 30 [31] rfl (by kernel_rfl) rfl rfl (fun w' e' => n_arith (by decide) rfl rfl) ?_
      rintro _ ⟨r77, rfl, hr78⟩
      have hc81 := fopC hr78 hc69 hc75
      refine m_y (v := .float .f32 r77) 31 rfl (by kernel_rfl) rfl rfl (fun w' e' => y_assign rfl) ?_
      refine m_done (by kernel_rfl) (fun w82 e83 => ?_)
      replace B := B.ext0 e83
      clear e83
      clear B0_12 R13
      exact ⟨_, r77, Fits.eq ⟨rfl, rfl, rfl, rfl, rfl, trivial⟩, B, hc81⟩
  · clear B; rintro _ w84 (⟨ρ86, r51, rfl, B, hr85⟩)
    have hat87 := atI_b (wd := wd) (hi := hi) (x := x - 1) (y := y) (by omega) (by omega)
    have hat88 := atI_b (wd := wd) (hi := hi) (x := x) (y := y - 1) (by omega) (by omega)
    refine W_seq ?_
    have B0_93 := B
    refine W_draw (no) T131.mx (by kernel_rfl) (fun w91 e92 => ?_)
    have R94 := Ext.refl (no) w84
    replace R94 := R94.trans (Ext0.any e92)
    replace B := B.ext0 e92
    clear e92
    refine m_y (v := .pointer (some ⟨b4, 0, none⟩)) 0 rfl (by kernel_rfl) rfl rfl (fun w' e' => y_fld (o := 0) T131.fld_30_0_0 rfl) ?_
    refine m_y (v := .slice afe nfe cfe) 1 rfl (by kernel_rfl) rfl rfl (fun w' e' => y_load T131.one_24 rfl (((B0_93.b 0 rfl).ext0 e').cell (j := 0) rfl)) ?_
    refine m_y (v := .int .i64 (atI wd hi x y)) 2 rfl (by kernel_rfl) rfl rfl (fun w' e' => y_move rfl) ?_
    refine m_y (v := .pointer (some (sat afe ((atI wd hi x y).toNat * 1)))) 3 rfl (by kernel_rfl) rfl rfl (fun w' e' => y_idx T131.sl_24_34_1 rfl rfl ((B.r 4 rfl).addr (by omega)) (by omega) (by omega)) ?_
    obtain ⟨r96, hr97, hR95⟩ := Rd.atF (B0_93.r 4 rfl) (atI wd hi x y) (by omega) (by omega)
    refine m_y (v := .float .f32 r96) 4 rfl (by kernel_rfl) rfl rfl (fun w' e' => y_load T131.one_34 rfl ((hR95.ext0 e').cell (i := 0) rfl)) ?_
    refine m_y (v := .pointer (some ⟨b1, 4, none⟩)) 5 rfl (by kernel_rfl) rfl rfl (fun w' e' => y_fld (o := 0) T131.fld_26_4_4 rfl) ?_
    refine m_y (v := .slice als nls cls) 6 rfl (by kernel_rfl) rfl rfl (fun w' e' => y_load T131.one_24 rfl (((B0_93.b 1 rfl).ext0 e').cell (j := 4) rfl)) ?_
    refine m_y (v := .int .i64 (atI wd hi x y)) 7 rfl (by kernel_rfl) rfl rfl (fun w' e' => y_move rfl) ?_
    refine m_y (v := .pointer (some (sat als ((atI wd hi x y).toNat * 1)))) 8 rfl (by kernel_rfl) rfl rfl (fun w' e' => y_idx T131.sl_24_34_1 rfl rfl ((B.r 3 rfl).addr (by omega)) (by omega) (by omega)) ?_
    obtain ⟨r99, hr100, hR98⟩ := Rd.atF (B0_93.r 3 rfl) (atI wd hi x y) (by omega) (by omega)
    refine m_y (v := .float .f32 r99) 9 rfl (by kernel_rfl) rfl rfl (fun w' e' => y_load T131.one_34 rfl ((hR98.ext0 e').cell (i := 0) rfl)) ?_
    refine m_y (v := .pointer (some ⟨b1, 3, none⟩)) 12 rfl (by kernel_rfl) rfl rfl (fun w' e' => y_fld (o := 0) T131.fld_26_3_3 rfl) ?_
    refine m_y (v := .slice asp nsp csp) 13 rfl (by kernel_rfl) rfl rfl (fun w' e' => y_load T131.one_24 rfl (((B0_93.b 1 rfl).ext0 e').cell (j := 3) rfl)) ?_
    refine m_y (v := .int .i64 (atI wd hi x y)) 14 rfl (by kernel_rfl) rfl rfl (fun w' e' => y_move rfl) ?_
    refine m_y (v := .pointer (some (sat asp ((atI wd hi x y).toNat * 1)))) 15 rfl (by kernel_rfl) rfl rfl (fun w' e' => y_idx T131.sl_24_34_1 rfl rfl ((B.r 2 rfl).addr (by omega)) (by omega) (by omega)) ?_
    obtain ⟨r102, hr103, hR101⟩ := Rd.atF (B0_93.r 2 rfl) (atI wd hi x y) (by omega) (by omega)
    refine m_y (v := .float .f32 r102) 16 rfl (by kernel_rfl) rfl rfl (fun w' e' => y_load T131.one_34 rfl ((hR101.ext0 e').cell (i := 0) rfl)) ?_
    refine m_y (v := .float .f32 r51) 17 rfl (by kernel_rfl) rfl rfl (fun w' e' => y_move rfl) ?_
    refine m_n 10 [11, 19, 20] rfl (by kernel_rfl) rfl rfl (fun w' e' => n_arith (by decide) rfl rfl) ?_
    rintro _ ⟨r105, rfl, hr106⟩
    have hc109 := fopC hr106 (cnLit (k := .f32) (t := 1065353216) (by kernel_rfl) (by kernel_rfl)) hr100
    refine m_n 11 [19, 20] rfl (by kernel_rfl) rfl rfl (fun w' e' => n_arith (by decide) rfl rfl) ?_
    rintro _ ⟨r111, rfl, hr112⟩
    have hc115 := fopC hr112 hr97 hc109
    refine m_n 18 [19, 20] rfl (by kernel_rfl) rfl rfl (fun w' e' => n_arith (by decide) rfl rfl) ?_
    rintro _ ⟨r117, rfl, hr118⟩
    have hc121 := fopC hr118 hr103 hr85
    refine m_n 19 [20] rfl (by kernel_rfl) rfl rfl (fun w' e' => n_arith (by decide) rfl rfl) ?_
    rintro _ ⟨r123, rfl, hr124⟩
    have hc127 := fopC hr124 hc115 hc121
    refine m_y (v := .float .f32 r123) 20 rfl (by kernel_rfl) rfl rfl (fun w' e' => y_assign rfl) ?_
    refine m_done (by kernel_rfl) (fun w128 e129 => ?_)
    replace B := B.ext0 e129
    clear e129
    clear B0_93 R94
    refine W_ret ?_
    refine ret1 (v := .float .f32 r123) rfl rfl rfl ⟨_, rfl, ?_⟩
    exact ⟨⟨_, rfl, hc127⟩, B.ext⟩
namespace T89
theorem mx : Try.prog.follows .mixedOrders = true := by kernel_rfl
theorem agg_26_5 : aggB Try.prog 26 5 = true := by kernel_rfl
theorem agg_30_3 : aggB Try.prog 30 3 = true := by kernel_rfl
theorem fld_26_0_0 : fldB Try.prog 26 0 0 = true := by kernel_rfl
theorem fld_26_1_1 : fldB Try.prog 26 1 1 = true := by kernel_rfl
theorem fld_30_0_0 : fldB Try.prog 30 0 0 = true := by kernel_rfl
theorem fn_130 : fnB Try.prog 130 = true := by kernel_rfl
theorem fn_131 : fnB Try.prog 131 = true := by kernel_rfl
theorem fn_68 : fnB Try.prog 68 = true := by kernel_rfl
theorem fn_69 : fnB Try.prog 69 = true := by kernel_rfl
theorem fn_98 : fnB Try.prog 98 = true := by kernel_rfl
theorem one_2 : oneB Try.prog 2 = true := by kernel_rfl
theorem one_24 : oneB Try.prog 24 = true := by kernel_rfl
theorem sl_24_34_1 : slB Try.prog 24 34 1 = true := by kernel_rfl
theorem sz_30_3 : szB Try.prog 30 3 = true := by kernel_rfl
theorem sz_34_1 : szB Try.prog 34 1 = true := by kernel_rfl
theorem zero_30 : zeroB Try.prog 30 (.agg #[.slice none 0 0, .slice none 0 0, .slice none 0 0]) := by unfold zeroB; kernel_rfl
end T89
set_option maxRecDepth 100000 in
set_option maxHeartbeats 4000000 in
theorem c_i_stepped {wd : Int} {hi : Int} {wr : Bool} {asp : Option Addr} {nsp : Nat} {csp : Nat} {Xsp : List Nat} {als : Option Addr} {nls : Nat} {cls : Nat} {Xls : List Nat} {afe : Option Addr} {nfe : Nat} {cfe : Nat} {Xfe : List Nat} {afx : Option Addr} {nfx : Nat} {cfx : Nat} {Xfx : List Nat} {afy : Option Addr} {nfy : Nat} {cfy : Nat} {Xfy : List Nat} {w : World} (qsp : Rd w kF asp nsp Xsp) (qls : Rd w kF als nls Xls) (qfe : Rd w kF afe nfe Xfe) (qfx : Rd w kF afx nfx Xfx) (qfy : Rd w kF afy nfy Xfy) (h1 : 3 ≤ wd) (h2 : wd ≤ 16) (h3 : 3 ≤ hi) (h4 : hi ≤ 16) (gfe : (nfe : Int) = wd * hi) (gfx : (nfx : Int) = wd * hi) (gfy : (nfy : Int) = wd * hi) (gsp : (nsp : Int) = wd * hi) (gls : (nls : Int) = wd * hi) :
    Calls Try.prog 89 #[.agg #[.int .i64 wd, .int .i64 hi, .bool wr, .slice asp nsp csp, .slice als nls cls], .agg #[.slice afe nfe cfe, .slice afx nfx cfx, .slice afy nfy cfy]] w (Rt fun v w' => ∃ (a1 : Option Addr) (c1 : Nat) (a2 : Option Addr) (c2 : Nat) (a3 : Option Addr) (c3 : Nat), v = .agg #[.slice a1 nfe c1, .slice a2 nfx c2, .slice a3 nfy c3] ∧ New w w' [.ow kF a1 nfe c1 34 (nwL wd hi wr Xsp Xls Xfe (hxL wd hi wr Xfe Xfx) (hyL wd hi wr Xfe Xfy)), .ow kF a2 nfx c2 34 (hxL wd hi wr Xfe Xfx), .ow kF a3 nfy c3 34 (hyL wd hi wr Xfe Xfy)]) := by
  have hlsp := qsp.len
  have hlls := qls.len
  have hlfe := qfe.len
  have hlfx := qfx.len
  have hlfy := qfy.len
  have B : Bu w no w [.rd kF asp nsp Xsp, .rd kF als nls Xls, .rd kF afe nfe Xfe, .rd kF afx nfx Xfx, .rd kF afy nfy Xfy] := Bu.ro (All.cons qsp (All.cons qls (All.cons qfe (All.cons qfx (All.cons qfy All.nil))))) rfl
  have hwh := mul16 (And.intro (And.intro h1 h2) (And.intro h3 h4))
  refine calls_W (n := 42) Try.func89 rfl rfl (Nat.le_of_ble_eq_true rfl) ?_
  refine W_seq ?_
  refine W_region (by kernel_rfl) ?_
  refine s_k rfl (k_boxN (v := .agg #[.int .i64 wd, .int .i64 hi, .bool wr, .slice asp nsp csp, .slice als nls cls]) (cs := [.int .i64 wd, .int .i64 hi, .bool wr, .slice asp nsp csp, .slice als nls cls]) rfl rfl (fun b1 w2 hN3 => ?_))
  replace B := B.new1 hN3
  clear hN3
  refine s_k rfl (k_boxN (v := .agg #[.slice afe nfe cfe, .slice afx nfx cfx, .slice afy nfy cfy]) (cs := [.slice afe nfe cfe, .slice afx nfx cfx, .slice afy nfy cfy]) rfl rfl (fun b4 w5 hN6 => ?_))
  replace B := B.new1 hN6
  clear hN6
  refine s_k rfl (k_allocN (z := (.agg #[.slice none 0 0, .slice none 0 0, .slice none 0 0])) (cs := [.slice none 0 0, .slice none 0 0, .slice none 0 0]) T89.zero_30 rfl (fun b7 w8 hN9 => ?_))
  replace B := B.new1 hN9
  clear hN9
  refine s_nil ?_
  refine W_seq ?_
  refine W_region (by kernel_rfl) ?_
  refine s_y (v := .agg #[.slice afe nfe cfe, .slice afx nfx cfx, .slice afy nfy cfy]) rfl (y_loadn (b := b4) (o := 0) (vs := [.slice afe nfe cfe, .slice afx nfx cfx, .slice afy nfy cfy]) T89.agg_30_3 rfl rfl ((B.b 1 rfl).cells (o := 0) rfl)) ?_
  refine s_k rfl (k_call T89.fn_68 (c_i_copyField (B.r 5 rfl) (B.r 6 rfl) (B.r 7 rfl) (by omega) (by omega) (by omega)) rfl ?_)
  rintro _ w10 ⟨a11, c12, a13, c14, a15, c16, rfl, hN17⟩
  replace B := B.new3 hN17
  clear hN17
  refine s_k rfl (k_allocN (z := (.agg #[.slice none 0 0, .slice none 0 0, .slice none 0 0])) (cs := [.slice none 0 0, .slice none 0 0, .slice none 0 0]) T89.zero_30 rfl (fun b18 w19 hN20 => ?_))
  replace B := B.new1 hN20
  clear hN20
  refine s_k0 rfl (k_stB (v := .agg #[.slice a11 nfe c12, .slice a13 nfx c14, .slice a15 nfy c16]) (n := 3) (cs' := [.slice a11 nfe c12, .slice a13 nfx c14, .slice a15 nfy c16]) T89.sz_30_3 rfl rfl rfl (B.b 0 rfl) (by simp [Value.cells, Value.oneCell']) (Nat.le_of_ble_eq_true rfl) rfl (fun w21 hU22 => ?_))
  replace B : Bu w no w21 [.blk b18 [.slice a11 nfe c12, .slice a13 nfx c14, .slice a15 nfy c16] 30, .ow kF a11 nfe c12 34 Xfe, .ow kF a13 nfx c14 34 Xfx, .ow kF a15 nfy c16 34 Xfy, .blk b7 [.slice none 0 0, .slice none 0 0, .slice none 0 0] 30, .blk b4 [.slice afe nfe cfe, .slice afx nfx cfx, .slice afy nfy cfy] 30, .blk b1 [.int .i64 wd, .int .i64 hi, .bool wr, .slice asp nsp csp, .slice als nls cls] 26, .rd kF asp nsp Xsp, .rd kF als nls Xls, .rd kF afe nfe Xfe, .rd kF afx nfx Xfx, .rd kF afy nfy Xfy] := B.upd [0] rfl hU22
  clear hU22
  refine s_nil ?_
  refine W_seq ?_
  refine W_region (by kernel_rfl) ?_
  refine s_y (v := .agg #[.int .i64 wd, .int .i64 hi, .bool wr, .slice asp nsp csp, .slice als nls cls]) rfl (y_loadn (b := b1) (o := 0) (vs := [.int .i64 wd, .int .i64 hi, .bool wr, .slice asp nsp csp, .slice als nls cls]) T89.agg_26_5 rfl rfl ((B.b 6 rfl).cells (o := 0) rfl)) ?_
  have Bt := B.weakO 1 rfl
  have Bt := Bt.weakB 0 rfl
  refine s_k rfl (k_call T89.fn_130 (c_i_halfStep (by omega) (by omega) (by omega) (by omega) (by omega) (by omega) (by omega) (Bt.all.pick [2, 3, 1, 0] rfl) (Bt.pw.pick [2, 3, 1, 0] rfl rfl)) rfl ?_)
  rintro _ w23 ⟨rfl, hU24⟩
  replace B : Bu w no w23 [.ow kF a13 nfx c14 34 (hxL wd hi wr Xfe Xfx), .ow kF a15 nfy c16 34 (hyL wd hi wr Xfe Xfy), .blk b18 [.slice a11 nfe c12, .slice a13 nfx c14, .slice a15 nfy c16] 30, .ow kF a11 nfe c12 34 Xfe, .blk b7 [.slice none 0 0, .slice none 0 0, .slice none 0 0] 30, .blk b4 [.slice afe nfe cfe, .slice afx nfx cfx, .slice afy nfy cfy] 30, .blk b1 [.int .i64 wd, .int .i64 hi, .bool wr, .slice asp nsp csp, .slice als nls cls] 26, .rd kF asp nsp Xsp, .rd kF als nls Xls, .rd kF afe nfe Xfe, .rd kF afx nfx Xfx, .rd kF afy nfy Xfy] := B.upd [2, 3] rfl hU24
  clear hU24
  refine s_nil ?_
  refine W_seq ?_
  refine W_seq ?_
  refine W_region (by kernel_rfl) ?_
  refine s_y (v := .pointer (some ⟨b1, 1, none⟩)) rfl (y_fld (o := 0) T89.fld_26_1_1 rfl) ?_
  refine s_y (v := .int .i64 hi) rfl (y_load T89.one_2 rfl ((B.b 6 rfl).cell (j := 1) rfl)) ?_
  refine s_y (v := .int .i64 0) rfl (y_move rfl) ?_
  refine s_nil ?_
  refine W_block ?_
  refine W_loop (fun ρ' w' => ∃ (ρ1 : Env) (py : Int), ρ' = updL ρ1 [(2, .pointer (some ⟨b1, 0, none⟩)), (4, .pointer (some ⟨b7, 0, none⟩)), (5, .pointer (some ⟨b18, 0, none⟩)), (13, .int .i64 hi), (14, .int .i64 py)] ∧ Bu w no w' [.ow kF a11 nfe c12 34 (mix (wd * hi) (wd * py) (fun i => nwF wd hi wr Xsp Xls Xfe (hxL wd hi wr Xfe Xfx) (hyL wd hi wr Xfe Xfy) (i % wd) (i / wd)) Xfe), .ow kF a13 nfx c14 34 (hxL wd hi wr Xfe Xfx), .ow kF a15 nfy c16 34 (hyL wd hi wr Xfe Xfy), .blk b18 [.slice a11 nfe c12, .slice a13 nfx c14, .slice a15 nfy c16] 30, .blk b7 [.slice none 0 0, .slice none 0 0, .slice none 0 0] 30, .blk b4 [.slice afe nfe cfe, .slice afx nfx cfx, .slice afy nfy cfy] 30, .blk b1 [.int .i64 wd, .int .i64 hi, .bool wr, .slice asp nsp csp, .slice als nls cls] 26, .rd kF asp nsp Xsp, .rd kF als nls Xls, .rd kF afe nfe Xfe, .rd kF afx nfx Xfx, .rd kF afy nfy Xfy] ∧ (0 ≤ py) ∧ (py ≤ hi)) (fun ρ' _ => (hi - iv (ρ' 14)).toNat) ?_ ?_
  · replace B : Bu w no w23 [.ow kF a13 nfx c14 34 (hxL wd hi wr Xfe Xfx), .ow kF a15 nfy c16 34 (hyL wd hi wr Xfe Xfy), .blk b18 [.slice a11 nfe c12, .slice a13 nfx c14, .slice a15 nfy c16] 30, .ow kF a11 nfe c12 34 (mix (wd * hi) (wd * 0) (fun i => nwF wd hi wr Xsp Xls Xfe (hxL wd hi wr Xfe Xfx) (hyL wd hi wr Xfe Xfy) (i % wd) (i / wd)) Xfe), .blk b7 [.slice none 0 0, .slice none 0 0, .slice none 0 0] 30, .blk b4 [.slice afe nfe cfe, .slice afx nfx cfx, .slice afy nfy cfy] 30, .blk b1 [.int .i64 wd, .int .i64 hi, .bool wr, .slice asp nsp csp, .slice als nls cls] 26, .rd kF asp nsp Xsp, .rd kF als nls Xls, .rd kF afe nfe Xfe, .rd kF afx nfx Xfx, .rd kF afy nfy Xfy] := B.castX 3 rfl rfl ((mix_zero (by omega)).trans (congrArg (fun q => mix (wd * hi) q (fun i => nwF wd hi wr Xsp Xls Xfe (hxL wd hi wr Xfe Xfx) (hyL wd hi wr Xfe Xfy) (i % wd) (i / wd)) _) (Int.mul_zero wd).symm))
    exact ⟨_, 0, Fits.eq ⟨rfl, rfl, rfl, rfl, rfl, trivial⟩, (B.pick [3, 0, 1, 2, 4, 5, 6, 7, 8, 9, 10, 11] rfl rfl), (Int.le_refl _), (by omega)⟩
  · clear B; rintro _ w25 ⟨ρ26, py, rfl, B, h0py, h1py⟩
    refine W_seq ?_
    refine W_region (by kernel_rfl) ?_
    by_cases c27 : py < hi
    · refine s_y (v := .bool true) rfl (y_lss rfl rfl (decide_eq_true c27)) ?_
      refine s_nil ?_
      refine W_seq ?_
      refine W_if_t (by decide) rfl ?_
      refine W_skip ?_
      refine W_seq ?_
      refine W_block ?_
      refine W_seq ?_
      refine W_region (by kernel_rfl) ?_
      refine s_y (v := .int .i64 py) rfl (y_move rfl) ?_
      refine s_y (v := .int .i64 py) rfl (y_assign rfl) ?_
      refine s_nil ?_
      refine W_seq ?_
      refine W_region (by kernel_rfl) ?_
      refine s_y (v := .pointer (some ⟨b1, 0, none⟩)) rfl (y_fld (o := 0) T89.fld_26_0_0 rfl) ?_
      refine s_y (v := .int .i64 wd) rfl (y_load T89.one_2 rfl ((B.b 6 rfl).cell (j := 0) rfl)) ?_
      refine s_y (v := .int .i64 0) rfl (y_move rfl) ?_
      refine s_nil ?_
      refine W_block ?_
      refine W_loop (fun ρ' w' => ∃ (ρ1 : Env) (px : Int), ρ' = updL ρ1 [(2, .pointer (some ⟨b1, 0, none⟩)), (4, .pointer (some ⟨b7, 0, none⟩)), (5, .pointer (some ⟨b18, 0, none⟩)), (6, .int .i64 py), (13, .int .i64 hi), (14, .int .i64 py), (15, .bool true), (16, .int .i64 py), (17, .pointer (some ⟨b1, 0, none⟩)), (18, .int .i64 wd), (19, .int .i64 px)] ∧ Bu w no w' [.ow kF a11 nfe c12 34 (mix (wd * hi) (wd * py + px) (fun i => nwF wd hi wr Xsp Xls Xfe (hxL wd hi wr Xfe Xfx) (hyL wd hi wr Xfe Xfy) (i % wd) (i / wd)) Xfe), .ow kF a13 nfx c14 34 (hxL wd hi wr Xfe Xfx), .ow kF a15 nfy c16 34 (hyL wd hi wr Xfe Xfy), .blk b18 [.slice a11 nfe c12, .slice a13 nfx c14, .slice a15 nfy c16] 30, .blk b7 [.slice none 0 0, .slice none 0 0, .slice none 0 0] 30, .blk b4 [.slice afe nfe cfe, .slice afx nfx cfx, .slice afy nfy cfy] 30, .blk b1 [.int .i64 wd, .int .i64 hi, .bool wr, .slice asp nsp csp, .slice als nls cls] 26, .rd kF asp nsp Xsp, .rd kF als nls Xls, .rd kF afe nfe Xfe, .rd kF afx nfx Xfx, .rd kF afy nfy Xfy] ∧ (0 ≤ px) ∧ (px ≤ wd)) (fun ρ' _ => (wd - iv (ρ' 19)).toNat) ?_ ?_
      · replace B : Bu w no w25 [.ow kF a11 nfe c12 34 (mix (wd * hi) (wd * py + 0) (fun i => nwF wd hi wr Xsp Xls Xfe (hxL wd hi wr Xfe Xfx) (hyL wd hi wr Xfe Xfy) (i % wd) (i / wd)) Xfe), .ow kF a13 nfx c14 34 (hxL wd hi wr Xfe Xfx), .ow kF a15 nfy c16 34 (hyL wd hi wr Xfe Xfy), .blk b18 [.slice a11 nfe c12, .slice a13 nfx c14, .slice a15 nfy c16] 30, .blk b7 [.slice none 0 0, .slice none 0 0, .slice none 0 0] 30, .blk b4 [.slice afe nfe cfe, .slice afx nfx cfx, .slice afy nfy cfy] 30, .blk b1 [.int .i64 wd, .int .i64 hi, .bool wr, .slice asp nsp csp, .slice als nls cls] 26, .rd kF asp nsp Xsp, .rd kF als nls Xls, .rd kF afe nfe Xfe, .rd kF afx nfx Xfx, .rd kF afy nfy Xfy] := B.castX 0 rfl rfl (congrArg (fun q => mix (wd * hi) q (fun i => nwF wd hi wr Xsp Xls Xfe (hxL wd hi wr Xfe Xfx) (hyL wd hi wr Xfe Xfy) (i % wd) (i / wd)) _) (Int.add_zero _).symm)
        exact ⟨_, 0, Fits.eq ⟨rfl, rfl, rfl, rfl, rfl, rfl, rfl, rfl, rfl, rfl, rfl, trivial⟩, B, (Int.le_refl _), (by omega)⟩
      · clear B; rintro _ w28 ⟨ρ29, px, rfl, B, h0px, h1px⟩
        refine W_seq ?_
        refine W_region (by kernel_rfl) ?_
        by_cases c30 : px < wd
        · refine s_y (v := .bool true) rfl (y_lss rfl rfl (decide_eq_true c30)) ?_
          refine s_nil ?_
          refine W_seq ?_
          refine W_if_t (by decide) rfl ?_
          refine W_skip ?_
          refine W_seq ?_
          refine W_block ?_
          refine W_seq ?_
          refine W_region (by kernel_rfl) ?_
          refine s_y (v := .int .i64 px) rfl (y_move rfl) ?_
          refine s_y (v := .int .i64 px) rfl (y_assign rfl) ?_
          refine s_nil ?_
          refine W_seq ?_
          refine W_region (by kernel_rfl) ?_
          refine s_y (v := .agg #[.int .i64 wd, .int .i64 hi, .bool wr, .slice asp nsp csp, .slice als nls cls]) rfl (y_loadn (b := b1) (o := 0) (vs := [.int .i64 wd, .int .i64 hi, .bool wr, .slice asp nsp csp, .slice als nls cls]) T89.agg_26_5 rfl rfl ((B.b 6 rfl).cells (o := 0) rfl)) ?_
          refine s_y (v := .int .i64 px) rfl (y_move rfl) ?_
          refine s_y (v := .int .i64 py) rfl (y_move rfl) ?_
          refine s_k rfl (k_call T89.fn_98 (c_i_isBorder (by omega) (by omega) (by omega) (by omega)) rfl ?_)
          rintro v33 w31 ⟨hv34, e32⟩
          replace B := B.ext0 e32
          clear e32
          by_cases c35 : bordB wd hi wr px py = true
          · obtain rfl : v33 = .bool true := hv34.trans (congrArg Value.bool c35)
            refine s_y (v := .bool false) rfl (y_not rfl rfl) ?_
            refine s_nil ?_
            refine W_if_f (by decide) rfl ?_
            refine W_skip ?_
            refine W_region (by kernel_rfl) ?_
            refine s_y (v := .int .i64 (px + 1)) rfl (y_add rfl rfl rfl (by omega)) ?_
            refine s_y (v := .int .i64 (px + 1)) rfl (y_move rfl) ?_
            refine s_nil ?_
            replace B : Bu w no w31 [.ow kF a11 nfe c12 34 (mix (wd * hi) (wd * py + (px + 1)) (fun i => nwF wd hi wr Xsp Xls Xfe (hxL wd hi wr Xfe Xfx) (hyL wd hi wr Xfe Xfy) (i % wd) (i / wd)) Xfe), .ow kF a13 nfx c14 34 (hxL wd hi wr Xfe Xfx), .ow kF a15 nfy c16 34 (hyL wd hi wr Xfe Xfy), .blk b18 [.slice a11 nfe c12, .slice a13 nfx c14, .slice a15 nfy c16] 30, .blk b7 [.slice none 0 0, .slice none 0 0, .slice none 0 0] 30, .blk b4 [.slice afe nfe cfe, .slice afx nfx cfx, .slice afy nfy cfy] 30, .blk b1 [.int .i64 wd, .int .i64 hi, .bool wr, .slice asp nsp csp, .slice als nls cls] 26, .rd kF asp nsp Xsp, .rd kF als nls Xls, .rd kF afe nfe Xfe, .rd kF afx nfx Xfx, .rd kF afy nfy Xfy] := B.castX 0 rfl rfl (mix_same (G := nwF wd hi wr Xsp Xls Xfe (hxL wd hi wr Xfe Xfx) (hyL wd hi wr Xfe Xfy)) (by omega) (by omega) (by omega) (by omega) (nw_yes c35))
            refine ⟨⟨_, px + 1, Fits.eq ⟨rfl, rfl, rfl, rfl, rfl, rfl, rfl, rfl, rfl, rfl, rfl, trivial⟩, B, (by omega), (by omega)⟩, ?_⟩
            show (wd - (px + 1)).toNat < (wd - px).toNat
            omega
          · obtain rfl : v33 = .bool false := hv34.trans (congrArg Value.bool (Bool.eq_false_iff.2 c35))
            refine s_y (v := .bool true) rfl (y_not rfl rfl) ?_
            refine s_nil ?_
            refine W_if_t (by decide) rfl ?_
            have B0_40 := B
            refine W_draw (no) T89.mx (by kernel_rfl) (fun w38 e39 => ?_)
            have R41 := Ext.refl (no) w31
            replace R41 := R41.trans (Ext0.any e39)
            replace B := B.ext0 e39
            clear e39
            refine m_y (v := .pointer (some ⟨b18, 0, none⟩)) 0 rfl (by kernel_rfl) rfl rfl (fun w' e' => y_fld (o := 0) T89.fld_30_0_0 rfl) ?_
            refine m_y (v := .slice a11 nfe c12) 1 rfl (by kernel_rfl) rfl rfl (fun w' e' => y_load T89.one_24 rfl (((B0_40.b 3 rfl).ext0 e').cell (j := 0) rfl)) ?_
            refine m_y (v := .agg #[.int .i64 wd, .int .i64 hi, .bool wr, .slice asp nsp csp, .slice als nls cls]) 2 rfl (by kernel_rfl) rfl rfl (fun w' e' => y_loadn (b := b1) (o := 0) (vs := [.int .i64 wd, .int .i64 hi, .bool wr, .slice asp nsp csp, .slice als nls cls]) T89.agg_26_5 rfl rfl (((B0_40.b 6 rfl).ext0 e').cells (o := 0) rfl)) ?_
            refine m_y (v := .int .i64 px) 3 rfl (by kernel_rfl) rfl rfl (fun w' e' => y_move rfl) ?_
            refine m_y (v := .int .i64 py) 4 rfl (by kernel_rfl) rfl rfl (fun w' e' => y_move rfl) ?_
            refine m_y (v := .agg #[.int .i64 wd, .int .i64 hi, .bool wr, .slice asp nsp csp, .slice als nls cls]) 6 rfl (by kernel_rfl) rfl rfl (fun w' e' => y_loadn (b := b1) (o := 0) (vs := [.int .i64 wd, .int .i64 hi, .bool wr, .slice asp nsp csp, .slice als nls cls]) T89.agg_26_5 rfl rfl (((B0_40.b 6 rfl).ext0 e').cells (o := 0) rfl)) ?_
            refine m_y (v := .agg #[.slice a11 nfe c12, .slice a13 nfx c14, .slice a15 nfy c16]) 7 rfl (by kernel_rfl) rfl rfl (fun w' e' => y_loadn (b := b18) (o := 0) (vs := [.slice a11 nfe c12, .slice a13 nfx c14, .slice a15 nfy c16]) T89.agg_30_3 rfl rfl (((B0_40.b 3 rfl).ext0 e').cells (o := 0) rfl)) ?_
            refine m_y (v := .int .i64 px) 8 rfl (by kernel_rfl) rfl rfl (fun w' e' => y_move rfl) ?_
            refine m_y (v := .int .i64 py) 9 rfl (by kernel_rfl) rfl rfl (fun w' e' => y_move rfl) ?_
            refine m_k 5 [10, 11, 12] rfl (by kernel_rfl) rfl rfl (fun w42 e43 => ?_)
            replace R41 := R41.trans (Ext0.any e43)
            replace B := B.ext0 e43
            clear e43
            refine k_call T89.fn_69 (c_i_at (by omega) (by omega) (by omega) (by omega) (by omega) (by omega) (by omega) (by omega)) rfl ?_
            rintro _ w44 ⟨rfl, e45⟩
            replace R41 := R41.trans (Ext0.any e45)
            replace B := B.ext0 e45
            clear e45
            refine ⟨fun _ => R41, ?_⟩
            have hat46 := atI_b (wd := wd) (hi := hi) (x := px) (y := py) (by omega) (by omega)
            refine m_k 10 [11, 12] rfl (by kernel_rfl) rfl rfl (fun w47 e48 => ?_)
            replace R41 := R41.trans (Ext0.any e48)
            replace B := B.ext0 e48
            clear e48
            refine k_call T89.fn_131 (c_i_newValue (B.r 7 rfl) (B.r 8 rfl) ((B.o 0 rfl).rd) ((B.o 1 rfl).rd) ((B.o 2 rfl).rd) (by omega) (by omega) (by omega) (by omega) (by omega) (by omega) (by omega) (by omega) (by omega) (by omega) (by omega) (by omega) (by omega)) rfl ?_
            rintro _ w49 ⟨⟨r51, rfl, hr52⟩, e50⟩
            replace R41 := R41.trans (Ext0.any e50)
            replace B := B.ext0 e50
            clear e50
            refine ⟨fun _ => R41, ?_⟩
            refine m_y (v := .pointer (some (sat a11 ((atI wd hi px py).toNat * 1)))) 11 rfl (by kernel_rfl) rfl rfl (fun w' e' => y_idx T89.sl_24_34_1 rfl rfl ((B.o 0 rfl).rd.addr (by omega)) (by omega) (by omega)) ?_
            refine m_kt 12 [] rfl (by kernel_rfl) rfl rfl (by kernel_rfl) (fun w55 e56 => ?_)
            replace R41 := R41.trans (Ext0.any e56)
            replace B := B.ext0 e56
            clear e56
            refine k_stO (k := kF) (i := atI wd hi px py) (j := 0) (x' := nvV wd hi Xsp Xls (el (mix (wd * hi) (wd * py + px) (fun i => nwF wd hi wr Xsp Xls Xfe (hxL wd hi wr Xfe Xfx) (hyL wd hi wr Xfe Xfy) (i % wd) (i / wd)) Xfe) (atI wd hi px py)) (hxL wd hi wr Xfe Xfx) (hyL wd hi wr Xfe Xfy) px py) (new := [.float .f32 r51]) T89.sz_34_1 rfl rfl rfl rfl rfl (by simp [Value.oneCell']) (by decide) (B.o 0 rfl) (by omega) (by omega) (by decide) (by rintro q ⟨_, rfl, _⟩; exact ⟨_, rfl, hr52⟩) (fun w53 hU54 => ?_)
            clear R41
            replace B : Bu w no w53 [.ow kF a11 nfe c12 34 (put (mix (wd * hi) (wd * py + px) (fun i => nwF wd hi wr Xsp Xls Xfe (hxL wd hi wr Xfe Xfx) (hyL wd hi wr Xfe Xfy) (i % wd) (i / wd)) Xfe) (atI wd hi px py) (nvV wd hi Xsp Xls (el (mix (wd * hi) (wd * py + px) (fun i => nwF wd hi wr Xsp Xls Xfe (hxL wd hi wr Xfe Xfx) (hyL wd hi wr Xfe Xfy) (i % wd) (i / wd)) Xfe) (atI wd hi px py)) (hxL wd hi wr Xfe Xfx) (hyL wd hi wr Xfe Xfy) px py)), .ow kF a13 nfx c14 34 (hxL wd hi wr Xfe Xfx), .ow kF a15 nfy c16 34 (hyL wd hi wr Xfe Xfy), .blk b18 [.slice a11 nfe c12, .slice a13 nfx c14, .slice a15 nfy c16] 30, .blk b7 [.slice none 0 0, .slice none 0 0, .slice none 0 0] 30, .blk b4 [.slice afe nfe cfe, .slice afx nfx cfx, .slice afy nfy cfy] 30, .blk b1 [.int .i64 wd, .int .i64 hi, .bool wr, .slice asp nsp csp, .slice als nls cls] 26, .rd kF asp nsp Xsp, .rd kF als nls Xls, .rd kF afe nfe Xfe, .rd kF afx nfx Xfx, .rd kF afy nfy Xfy] := B.upd [0] rfl hU54
            clear hU54
            refine m_done (by kernel_rfl) (fun w57 e58 => ?_)
            replace B := B.ext0 e58
            clear e58
            clear B0_40
            refine W_region (by kernel_rfl) ?_
            refine s_y (v := .int .i64 (px + 1)) rfl (y_add rfl rfl rfl (by omega)) ?_
            refine s_y (v := .int .i64 (px + 1)) rfl (y_move rfl) ?_
            refine s_nil ?_
            replace B : Bu w no w57 [.ow kF a11 nfe c12 34 (mix (wd * hi) (wd * py + (px + 1)) (fun i => nwF wd hi wr Xsp Xls Xfe (hxL wd hi wr Xfe Xfx) (hyL wd hi wr Xfe Xfy) (i % wd) (i / wd)) Xfe), .ow kF a13 nfx c14 34 (hxL wd hi wr Xfe Xfx), .ow kF a15 nfy c16 34 (hyL wd hi wr Xfe Xfy), .blk b18 [.slice a11 nfe c12, .slice a13 nfx c14, .slice a15 nfy c16] 30, .blk b7 [.slice none 0 0, .slice none 0 0, .slice none 0 0] 30, .blk b4 [.slice afe nfe cfe, .slice afx nfx cfx, .slice afy nfy cfy] 30, .blk b1 [.int .i64 wd, .int .i64 hi, .bool wr, .slice asp nsp csp, .slice als nls cls] 26, .rd kF asp nsp Xsp, .rd kF als nls Xls, .rd kF afe nfe Xfe, .rd kF afx nfx Xfx, .rd kF afy nfy Xfy] := B.castX 0 rfl rfl (mix_cell (G := nwF wd hi wr Xsp Xls Xfe (hxL wd hi wr Xfe Xfx) (hyL wd hi wr Xfe Xfy)) rfl (by omega) (by omega) (by omega) (by omega) rfl (nw_no rfl (by omega) (by omega) (by omega) (by omega) (Bool.eq_false_iff.2 c35)))
            refine ⟨⟨_, px + 1, Fits.eq ⟨rfl, rfl, rfl, rfl, rfl, rfl, rfl, rfl, rfl, rfl, rfl, trivial⟩, B, (by omega), (by omega)⟩, ?_⟩
            show (wd - (px + 1)).toNat < (wd - px).toNat
            omega
        · refine s_y (v := .bool false) rfl (y_lss rfl rfl (decide_eq_false c30)) ?_
          refine s_nil ?_
          refine W_seq ?_
          refine W_if_f (by decide) rfl ?_
          refine W_exit ?_
          refine W_region (by kernel_rfl) ?_
          refine s_y (v := .int .i64 (py + 1)) rfl (y_add rfl rfl rfl (by omega)) ?_
          refine s_y (v := .int .i64 (py + 1)) rfl (y_move rfl) ?_
          refine s_nil ?_
          replace B : Bu w no w28 [.ow kF a11 nfe c12 34 (mix (wd * hi) (wd * (py + 1)) (fun i => nwF wd hi wr Xsp Xls Xfe (hxL wd hi wr Xfe Xfx) (hyL wd hi wr Xfe Xfy) (i % wd) (i / wd)) Xfe), .ow kF a13 nfx c14 34 (hxL wd hi wr Xfe Xfx), .ow kF a15 nfy c16 34 (hyL wd hi wr Xfe Xfy), .blk b18 [.slice a11 nfe c12, .slice a13 nfx c14, .slice a15 nfy c16] 30, .blk b7 [.slice none 0 0, .slice none 0 0, .slice none 0 0] 30, .blk b4 [.slice afe nfe cfe, .slice afx nfx cfx, .slice afy nfy cfy] 30, .blk b1 [.int .i64 wd, .int .i64 hi, .bool wr, .slice asp nsp csp, .slice als nls cls] 26, .rd kF asp nsp Xsp, .rd kF als nls Xls, .rd kF afe nfe Xfe, .rd kF afx nfx Xfx, .rd kF afy nfy Xfy] := B.castX 0 rfl rfl (congrArg (fun q => mix (wd * hi) q (fun i => nwF wd hi wr Xsp Xls Xfe (hxL wd hi wr Xfe Xfx) (hyL wd hi wr Xfe Xfy) (i % wd) (i / wd)) _) (show wd * py + px = wd * (py + 1) by rw [Int.mul_add, Int.mul_one]; omega))
          refine ⟨⟨_, py + 1, Fits.eq ⟨rfl, rfl, rfl, rfl, rfl, trivial⟩, B, (by omega), (by omega)⟩, ?_⟩
          show (hi - (py + 1)).toNat < (hi - py).toNat
          omega
    · refine s_y (v := .bool false) rfl (y_lss rfl rfl (decide_eq_false c27)) ?_
      refine s_nil ?_
      refine W_seq ?_
      refine W_if_f (by decide) rfl ?_
      refine W_exit ?_
      have hye : py = hi := by omega
      subst hye
      replace B : Bu w no w25 [.ow kF a11 nfe c12 34 (tab (wd * py) (fun i => nwF wd py wr Xsp Xls Xfe (hxL wd py wr Xfe Xfx) (hyL wd py wr Xfe Xfy) (i % wd) (i / wd))), .ow kF a13 nfx c14 34 (hxL wd py wr Xfe Xfx), .ow kF a15 nfy c16 34 (hyL wd py wr Xfe Xfy), .blk b18 [.slice a11 nfe c12, .slice a13 nfx c14, .slice a15 nfy c16] 30, .blk b7 [.slice none 0 0, .slice none 0 0, .slice none 0 0] 30, .blk b4 [.slice afe nfe cfe, .slice afx nfx cfx, .slice afy nfy cfy] 30, .blk b1 [.int .i64 wd, .int .i64 py, .bool wr, .slice asp nsp csp, .slice als nls cls] 26, .rd kF asp nsp Xsp, .rd kF als nls Xls, .rd kF afe nfe Xfe, .rd kF afx nfx Xfx, .rd kF afy nfy Xfy] := B.castX 0 rfl rfl mix_all
      refine W_seq ?_
      refine W_region (by kernel_rfl) ?_
      refine s_y (v := .agg #[.slice a11 nfe c12, .slice a13 nfx c14, .slice a15 nfy c16]) rfl (y_loadn (b := b18) (o := 0) (vs := [.slice a11 nfe c12, .slice a13 nfx c14, .slice a15 nfy c16]) T89.agg_30_3 rfl rfl ((B.b 3 rfl).cells (o := 0) rfl)) ?_
      refine s_k0 rfl (k_stB (v := .agg #[.slice a11 nfe c12, .slice a13 nfx c14, .slice a15 nfy c16]) (n := 3) (cs' := [.slice a11 nfe c12, .slice a13 nfx c14, .slice a15 nfy c16]) T89.sz_30_3 rfl rfl rfl (B.b 4 rfl) (by simp [Value.cells, Value.oneCell']) (Nat.le_of_ble_eq_true rfl) rfl (fun w59 hU60 => ?_))
      replace B : Bu w no w59 [.blk b7 [.slice a11 nfe c12, .slice a13 nfx c14, .slice a15 nfy c16] 30, .ow kF a11 nfe c12 34 (tab (wd * py) (fun i => nwF wd py wr Xsp Xls Xfe (hxL wd py wr Xfe Xfx) (hyL wd py wr Xfe Xfy) (i % wd) (i / wd))), .ow kF a13 nfx c14 34 (hxL wd py wr Xfe Xfx), .ow kF a15 nfy c16 34 (hyL wd py wr Xfe Xfy), .blk b18 [.slice a11 nfe c12, .slice a13 nfx c14, .slice a15 nfy c16] 30, .blk b4 [.slice afe nfe cfe, .slice afx nfx cfx, .slice afy nfy cfy] 30, .blk b1 [.int .i64 wd, .int .i64 py, .bool wr, .slice asp nsp csp, .slice als nls cls] 26, .rd kF asp nsp Xsp, .rd kF als nls Xls, .rd kF afe nfe Xfe, .rd kF afx nfx Xfx, .rd kF afy nfy Xfy] := B.upd [4] rfl hU60
      clear hU60
      refine s_nil ?_
      refine W_ret ?_
      refine ret1 (v := .agg #[.slice a11 nfe c12, .slice a13 nfx c14, .slice a15 nfy c16]) rfl rfl ⟨_, [.slice a11 nfe c12, .slice a13 nfx c14, .slice a15 nfy c16], _, rfl, (B.b 0 rfl), T89.agg_30_3, rfl⟩ ⟨_, rfl, ?_⟩
      replace B : Bu w no w59 [.blk b7 [.slice a11 nfe c12, .slice a13 nfx c14, .slice a15 nfy c16] 30, .ow kF a11 nfe c12 34 (nwL wd py wr Xsp Xls Xfe (hxL wd py wr Xfe Xfx) (hyL wd py wr Xfe Xfy)), .ow kF a13 nfx c14 34 (hxL wd py wr Xfe Xfx), .ow kF a15 nfy c16 34 (hyL wd py wr Xfe Xfy), .blk b18 [.slice a11 nfe c12, .slice a13 nfx c14, .slice a15 nfy c16] 30, .blk b4 [.slice afe nfe cfe, .slice afx nfx cfx, .slice afy nfy cfy] 30, .blk b1 [.int .i64 wd, .int .i64 py, .bool wr, .slice asp nsp csp, .slice als nls cls] 26, .rd kF asp nsp Xsp, .rd kF als nls Xls, .rd kF afe nfe Xfe, .rd kF afx nfx Xfx, .rd kF afy nfy Xfy] := B.castX 1 rfl rfl rfl
      exact ⟨_, _, _, _, _, _, rfl, B.give [1, 2, 3] rfl rfl rfl⟩
namespace T71
theorem mx : Try.prog.follows .mixedOrders = true := by kernel_rfl
end T71
namespace T72
theorem mx : Try.prog.follows .mixedOrders = true := by kernel_rfl
end T72
set_option maxRecDepth 100000 in
set_option maxHeartbeats 4000000 in
theorem c_i_RunField_1 {afe : Option Addr} {nfe : Nat} {cfe : Nat} {afx : Option Addr} {nfx : Nat} {cfx : Nat} {afy : Option Addr} {nfy : Nat} {cfy : Nat} {w : World} :
    Calls Try.prog 72 #[.agg #[.slice afe nfe cfe, .slice afx nfx cfx, .slice afy nfy cfy]] w (Rt fun v w' => v = .tuple #[] ∧ Ext0 w w') := by
  have B : Bu w no w [] := Bu.ro All.nil rfl
  refine calls_W (n := 2) Try.func72 rfl rfl (Nat.le_of_ble_eq_true rfl) ?_
  refine W_region (by kernel_rfl) ?_
  refine s_k rfl (k_boxN (v := .agg #[.slice afe nfe cfe, .slice afx nfx cfx, .slice afy nfy cfy]) (cs := [.slice afe nfe cfe, .slice afx nfx cfx, .slice afy nfy cfy]) rfl rfl (fun b1 w2 hN3 => ?_))
  replace B := B.new1 hN3
  clear hN3
  refine s_nil ?_
  refine ret0 rfl ⟨_, rfl, ?_⟩
  exact ⟨rfl, B.ext⟩
namespace T17
theorem mx : Try.prog.follows .mixedOrders = true := by kernel_rfl
theorem agg_26_5 : aggB Try.prog 26 5 = true := by kernel_rfl
theorem agg_30_3 : aggB Try.prog 30 3 = true := by kernel_rfl
theorem fn_41 : fnB Try.prog 41 = true := by kernel_rfl
theorem fn_68 : fnB Try.prog 68 = true := by kernel_rfl
theorem fn_71 : fnB Try.prog 71 = true := by kernel_rfl
theorem fn_72 : fnB Try.prog 72 = true := by kernel_rfl
theorem fn_74 : fnB Try.prog 74 = true := by kernel_rfl
theorem fn_89 : fnB Try.prog 89 = true := by kernel_rfl
theorem sz_30_3 : szB Try.prog 30 3 = true := by kernel_rfl
theorem zero_30 : zeroB Try.prog 30 (.agg #[.slice none 0 0, .slice none 0 0, .slice none 0 0]) := by unfold zeroB; kernel_rfl
end T17
set_option maxRecDepth 100000 in
set_option maxHeartbeats 4000000 in
theorem c_i_run_none {wd : Int} {hi : Int} {wr : Bool} {asp : Option Addr} {nsp : Nat} {csp : Nat} {Xsp : List Nat} {als : Option Addr} {nls : Nat} {cls : Nat} {Xls : List Nat} {afe : Option Addr} {nfe : Nat} {cfe : Nat} {Xfe : List Nat} {afx : Option Addr} {nfx : Nat} {cfx : Nat} {Xfx : List Nat} {afy : Option Addr} {nfy : Nat} {cfy : Nat} {Xfy : List Nat} {m : Int} {w : World} (qsp : Rd w kF asp nsp Xsp) (qls : Rd w kF als nls Xls) (qfe : Rd w kF afe nfe Xfe) (qfx : Rd w kF afx nfx Xfx) (qfy : Rd w kF afy nfy Xfy) (hbsp : nsp ≤ 9223372036854775806) (hbls : nls ≤ 9223372036854775806) (hbfe : nfe ≤ 9223372036854775806) (hbfx : nfx ≤ 9223372036854775806) (hbfy : nfy ≤ 9223372036854775806) :
    Calls Try.prog 71 #[.agg #[.int .i64 wd, .int .i64 hi, .bool wr, .slice asp nsp csp, .slice als nls cls], .agg #[.slice afe nfe cfe, .slice afx nfx cfx, .slice afy nfy cfy], .int .i64 m, .func (.func 72) #[] #[]] w (Rt fun v w' => (runB wd hi wr Xsp Xls Xfe Xfx Xfy m = true ∧ ∃ (a1 : Option Addr) (c1 : Nat) (a2 : Option Addr) (c2 : Nat) (a3 : Option Addr) (c3 : Nat), v = .tuple #[.agg #[.slice a1 nfe c1, .slice a2 nfx c2, .slice a3 nfy c3], .bool true] ∧ New w w' [.ow kF a1 nfe c1 34 ((rnT wd hi wr Xsp Xls (Xfe, Xfx, Xfy) (Int.toNat m)).1), .ow kF a2 nfx c2 34 ((rnT wd hi wr Xsp Xls (Xfe, Xfx, Xfy) (Int.toNat m)).2.1), .ow kF a3 nfy c3 34 ((rnT wd hi wr Xsp Xls (Xfe, Xfx, Xfy) (Int.toNat m)).2.2)]) ∨ (runB wd hi wr Xsp Xls Xfe Xfx Xfy m = false ∧ v = .tuple #[.agg #[.slice none 0 0, .slice none 0 0, .slice none 0 0], .bool false] ∧ Ext0 w w')) := by
  have hlsp := qsp.len
  have hlls := qls.len
  have hlfe := qfe.len
  have hlfx := qfx.len
  have hlfy := qfy.len
  have B : Bu w no w [.rd kF asp nsp Xsp, .rd kF als nls Xls, .rd kF afe nfe Xfe, .rd kF afx nfx Xfx, .rd kF afy nfy Xfy] := Bu.ro (All.cons qsp (All.cons qls (All.cons qfe (All.cons qfx (All.cons qfy All.nil))))) rfl
  refine calls_W (n := 34) Try.func71 rfl rfl (Nat.le_of_ble_eq_true rfl) ?_
  refine W_seq ?_
  refine W_region (by kernel_rfl) ?_
  refine s_k rfl (k_boxN (v := .agg #[.int .i64 wd, .int .i64 hi, .bool wr, .slice asp nsp csp, .slice als nls cls]) (cs := [.int .i64 wd, .int .i64 hi, .bool wr, .slice asp nsp csp, .slice als nls cls]) rfl rfl (fun b1 w2 hN3 => ?_))
  replace B := B.new1 hN3
  clear hN3
  refine s_k rfl (k_boxN (v := .agg #[.slice afe nfe cfe, .slice afx nfx cfx, .slice afy nfy cfy]) (cs := [.slice afe nfe cfe, .slice afx nfx cfx, .slice afy nfy cfy]) rfl rfl (fun b4 w5 hN6 => ?_))
  replace B := B.new1 hN6
  clear hN6
  refine s_k rfl (k_allocN (z := (.agg #[.slice none 0 0, .slice none 0 0, .slice none 0 0])) (cs := [.slice none 0 0, .slice none 0 0, .slice none 0 0]) T17.zero_30 rfl (fun b7 w8 hN9 => ?_))
  replace B := B.new1 hN9
  clear hN9
  refine s_y (v := .bool false) rfl (y_assign rfl) ?_
  refine s_nil ?_
  refine W_seq ?_
  refine W_seq ?_
  refine W_region (by kernel_rfl) ?_
  refine s_y (v := .agg #[.int .i64 wd, .int .i64 hi, .bool wr, .slice asp nsp csp, .slice als nls cls]) rfl (y_loadn (b := b1) (o := 0) (vs := [.int .i64 wd, .int .i64 hi, .bool wr, .slice asp nsp csp, .slice als nls cls]) T17.agg_26_5 rfl rfl ((B.b 2 rfl).cells (o := 0) rfl)) ?_
  refine s_y (v := .agg #[.slice afe nfe cfe, .slice afx nfx cfx, .slice afy nfy cfy]) rfl (y_loadn (b := b4) (o := 0) (vs := [.slice afe nfe cfe, .slice afx nfx cfx, .slice afy nfy cfy]) T17.agg_30_3 rfl rfl ((B.b 1 rfl).cells (o := 0) rfl)) ?_
  refine s_k rfl (k_call T17.fn_41 (c_i_IsField (B.r 3 rfl) (B.r 4 rfl) (B.r 5 rfl) (B.r 6 rfl) (B.r 7 rfl) (by omega) (by omega) (by omega) (by omega) (by omega)) rfl ?_)
  rintro v12 w10 ⟨hv13, e11⟩
  replace B := B.ext0 e11
  clear e11
  by_cases c14 : fieldB wd hi wr Xsp Xls Xfe Xfx Xfy = true
  · have hb15 := fieldB_b c14
    obtain rfl : v12 = .bool true := hv13.trans (congrArg Value.bool c14)
    refine s_y (v := .bool false) rfl (y_not rfl rfl) ?_
    refine s_y (v := .bool false) rfl (y_move rfl) ?_
    refine s_y (v := .int .i64 m) rfl (y_move rfl) ?_
    refine s_k rfl (k_call T17.fn_74 (c_i_within) rfl ?_)
    rintro v18 w16 ⟨hv19, e17⟩
    replace B := B.ext0 e17
    clear e17
    by_cases c20 : within m 0 64 = true
    · have hb21 := within_b c20
      obtain rfl : v18 = .bool true := hv19.trans (congrArg Value.bool c20)
      refine s_y (v := .bool false) rfl (y_not rfl rfl) ?_
      refine s_y (v := .bool false) rfl (y_pick_f rfl rfl) ?_
      refine s_nil ?_
      refine W_if_f (by decide) rfl ?_
      refine W_skip ?_
      refine W_seq ?_
      refine W_region (by kernel_rfl) ?_
      refine s_y (v := .agg #[.slice afe nfe cfe, .slice afx nfx cfx, .slice afy nfy cfy]) rfl (y_loadn (b := b4) (o := 0) (vs := [.slice afe nfe cfe, .slice afx nfx cfx, .slice afy nfy cfy]) T17.agg_30_3 rfl rfl ((B.b 1 rfl).cells (o := 0) rfl)) ?_
      refine s_k rfl (k_call T17.fn_68 (c_i_copyField (B.r 5 rfl) (B.r 6 rfl) (B.r 7 rfl) (by omega) (by omega) (by omega)) rfl ?_)
      rintro _ w22 ⟨a23, c24, a25, c26, a27, c28, rfl, hN29⟩
      replace B := B.new3 hN29
      clear hN29
      refine s_k rfl (k_allocN (z := (.agg #[.slice none 0 0, .slice none 0 0, .slice none 0 0])) (cs := [.slice none 0 0, .slice none 0 0, .slice none 0 0]) T17.zero_30 rfl (fun b30 w31 hN32 => ?_))
      replace B := B.new1 hN32
      clear hN32
      refine s_k0 rfl (k_stB (v := .agg #[.slice a23 nfe c24, .slice a25 nfx c26, .slice a27 nfy c28]) (n := 3) (cs' := [.slice a23 nfe c24, .slice a25 nfx c26, .slice a27 nfy c28]) T17.sz_30_3 rfl rfl rfl (B.b 0 rfl) (by simp [Value.cells, Value.oneCell']) (Nat.le_of_ble_eq_true rfl) rfl (fun w33 hU34 => ?_))
      replace B : Bu w no w33 [.blk b30 [.slice a23 nfe c24, .slice a25 nfx c26, .slice a27 nfy c28] 30, .ow kF a23 nfe c24 34 Xfe, .ow kF a25 nfx c26 34 Xfx, .ow kF a27 nfy c28 34 Xfy, .blk b7 [.slice none 0 0, .slice none 0 0, .slice none 0 0] 30, .blk b4 [.slice afe nfe cfe, .slice afx nfx cfx, .slice afy nfy cfy] 30, .blk b1 [.int .i64 wd, .int .i64 hi, .bool wr, .slice asp nsp csp, .slice als nls cls] 26, .rd kF asp nsp Xsp, .rd kF als nls Xls, .rd kF afe nfe Xfe, .rd kF afx nfx Xfx, .rd kF afy nfy Xfy] := B.upd [0] rfl hU34
      clear hU34
      refine s_nil ?_
      refine W_seq ?_
      refine W_seq ?_
      refine W_region (by kernel_rfl) ?_
      refine s_y (v := .int .i64 m) rfl (y_move rfl) ?_
      refine s_y (v := .int .i64 0) rfl (y_move rfl) ?_
      refine s_nil ?_
      refine W_block ?_
      refine W_loop (fun ρ' w' => ∃ (ρ1 : Env) (k : Int) (A1 : Option Addr) (A2 : Option Addr) (A3 : Option Addr) (C1 : Nat) (C2 : Nat) (C3 : Nat), ρ' = updL ρ1 [(3, .func (.func 72) #[] #[]), (4, .pointer (some ⟨b1, 0, none⟩)), (8, .pointer (some ⟨b7, 0, none⟩)), (9, .bool false), (10, .pointer (some ⟨b30, 0, none⟩)), (23, .int .i64 m), (24, .int .i64 k)] ∧ Bu w no w' [.ow kF A1 nfe C1 34 ((rnT wd hi wr Xsp Xls (Xfe, Xfx, Xfy) (Int.toNat k)).1), .ow kF A2 nfx C2 34 ((rnT wd hi wr Xsp Xls (Xfe, Xfx, Xfy) (Int.toNat k)).2.1), .ow kF A3 nfy C3 34 ((rnT wd hi wr Xsp Xls (Xfe, Xfx, Xfy) (Int.toNat k)).2.2), .blk b30 [.slice A1 nfe C1, .slice A2 nfx C2, .slice A3 nfy C3] 30, .blk b7 [.slice none 0 0, .slice none 0 0, .slice none 0 0] 30, .blk b4 [.slice afe nfe cfe, .slice afx nfx cfx, .slice afy nfy cfy] 30, .blk b1 [.int .i64 wd, .int .i64 hi, .bool wr, .slice asp nsp csp, .slice als nls cls] 26, .rd kF asp nsp Xsp, .rd kF als nls Xls, .rd kF afe nfe Xfe, .rd kF afx nfx Xfx, .rd kF afy nfy Xfy] ∧ (0 ≤ k) ∧ (k ≤ m)) (fun ρ' _ => (m - iv (ρ' 24)).toNat) ?_ ?_
      · replace B : Bu w no w33 [.blk b30 [.slice a23 nfe c24, .slice a25 nfx c26, .slice a27 nfy c28] 30, .ow kF a23 nfe c24 34 ((rnT wd hi wr Xsp Xls (Xfe, Xfx, Xfy) (Int.toNat 0)).1), .ow kF a25 nfx c26 34 Xfx, .ow kF a27 nfy c28 34 Xfy, .blk b7 [.slice none 0 0, .slice none 0 0, .slice none 0 0] 30, .blk b4 [.slice afe nfe cfe, .slice afx nfx cfx, .slice afy nfy cfy] 30, .blk b1 [.int .i64 wd, .int .i64 hi, .bool wr, .slice asp nsp csp, .slice als nls cls] 26, .rd kF asp nsp Xsp, .rd kF als nls Xls, .rd kF afe nfe Xfe, .rd kF afx nfx Xfx, .rd kF afy nfy Xfy] := B.castX 1 rfl rfl rfl
        replace B : Bu w no w33 [.blk b30 [.slice a23 nfe c24, .slice a25 nfx c26, .slice a27 nfy c28] 30, .ow kF a23 nfe c24 34 ((rnT wd hi wr Xsp Xls (Xfe, Xfx, Xfy) (Int.toNat 0)).1), .ow kF a25 nfx c26 34 ((rnT wd hi wr Xsp Xls (Xfe, Xfx, Xfy) (Int.toNat 0)).2.1), .ow kF a27 nfy c28 34 Xfy, .blk b7 [.slice none 0 0, .slice none 0 0, .slice none 0 0] 30, .blk b4 [.slice afe nfe cfe, .slice afx nfx cfx, .slice afy nfy cfy] 30, .blk b1 [.int .i64 wd, .int .i64 hi, .bool wr, .slice asp nsp csp, .slice als nls cls] 26, .rd kF asp nsp Xsp, .rd kF als nls Xls, .rd kF afe nfe Xfe, .rd kF afx nfx Xfx, .rd kF afy nfy Xfy] := B.castX 2 rfl rfl rfl
        replace B : Bu w no w33 [.blk b30 [.slice a23 nfe c24, .slice a25 nfx c26, .slice a27 nfy c28] 30, .ow kF a23 nfe c24 34 ((rnT wd hi wr Xsp Xls (Xfe, Xfx, Xfy) (Int.toNat 0)).1), .ow kF a25 nfx c26 34 ((rnT wd hi wr Xsp Xls (Xfe, Xfx, Xfy) (Int.toNat 0)).2.1), .ow kF a27 nfy c28 34 ((rnT wd hi wr Xsp Xls (Xfe, Xfx, Xfy) (Int.toNat 0)).2.2), .blk b7 [.slice none 0 0, .slice none 0 0, .slice none 0 0] 30, .blk b4 [.slice afe nfe cfe, .slice afx nfx cfx, .slice afy nfy cfy] 30, .blk b1 [.int .i64 wd, .int .i64 hi, .bool wr, .slice asp nsp csp, .slice als nls cls] 26, .rd kF asp nsp Xsp, .rd kF als nls Xls, .rd kF afe nfe Xfe, .rd kF afx nfx Xfx, .rd kF afy nfy Xfy] := B.castX 3 rfl rfl rfl
        exact ⟨_, 0, a23, a25, a27, c24, c26, c28, Fits.eq ⟨rfl, rfl, rfl, rfl, rfl, rfl, rfl, trivial⟩, (B.pick [1, 2, 3, 0, 4, 5, 6, 7, 8, 9, 10, 11] rfl rfl), (Int.le_refl _), (by omega)⟩
      · clear B; rintro _ w35 ⟨ρ36, k, A1, A2, A3, C1, C2, C3, rfl, B, h0k, h1k⟩
        refine W_seq ?_
        refine W_region (by kernel_rfl) ?_
        by_cases c37 : k < m
        · refine s_y (v := .bool true) rfl (y_lss rfl rfl (decide_eq_true c37)) ?_
          refine s_nil ?_
          refine W_seq ?_
          refine W_if_t (by decide) rfl ?_
          refine W_skip ?_
          refine W_seq ?_
          refine W_block ?_
          refine W_seq ?_
          refine W_region (by kernel_rfl) ?_
          refine s_y (v := .agg #[.int .i64 wd, .int .i64 hi, .bool wr, .slice asp nsp csp, .slice als nls cls]) rfl (y_loadn (b := b1) (o := 0) (vs := [.int .i64 wd, .int .i64 hi, .bool wr, .slice asp nsp csp, .slice als nls cls]) T17.agg_26_5 rfl rfl ((B.b 6 rfl).cells (o := 0) rfl)) ?_
          refine s_y (v := .agg #[.slice A1 nfe C1, .slice A2 nfx C2, .slice A3 nfy C3]) rfl (y_loadn (b := b30) (o := 0) (vs := [.slice A1 nfe C1, .slice A2 nfx C2, .slice A3 nfy C3]) T17.agg_30_3 rfl rfl ((B.b 3 rfl).cells (o := 0) rfl)) ?_
          refine s_k rfl (k_call T17.fn_89 (c_i_stepped (B.r 7 rfl) (B.r 8 rfl) ((B.o 0 rfl).rd) ((B.o 1 rfl).rd) ((B.o 2 rfl).rd) (by omega) (by omega) (by omega) (by omega) (by omega) (by omega) (by omega) (by omega) (by omega)) rfl ?_)
          rintro _ w38 ⟨a39, c40, a41, c42, a43, c44, rfl, hN45⟩
          replace B := B.new3 hN45
          clear hN45
          refine s_k0 rfl (k_stB (v := .agg #[.slice a39 nfe c40, .slice a41 nfx c42, .slice a43 nfy c44]) (n := 3) (cs' := [.slice a39 nfe c40, .slice a41 nfx c42, .slice a43 nfy c44]) T17.sz_30_3 rfl rfl rfl (B.b 6 rfl) (by simp [Value.cells, Value.oneCell']) (Nat.le_of_ble_eq_true rfl) rfl (fun w46 hU47 => ?_))
          replace B : Bu w no w46 [.blk b30 [.slice a39 nfe c40, .slice a41 nfx c42, .slice a43 nfy c44] 30, .ow kF a39 nfe c40 34 (nwL wd hi wr Xsp Xls ((rnT wd hi wr Xsp Xls (Xfe, Xfx, Xfy) (Int.toNat k)).1) (hxL wd hi wr ((rnT wd hi wr Xsp Xls (Xfe, Xfx, Xfy) (Int.toNat k)).1) ((rnT wd hi wr Xsp Xls (Xfe, Xfx, Xfy) (Int.toNat k)).2.1)) (hyL wd hi wr ((rnT wd hi wr Xsp Xls (Xfe, Xfx, Xfy) (Int.toNat k)).1) ((rnT wd hi wr Xsp Xls (Xfe, Xfx, Xfy) (Int.toNat k)).2.2))), .ow kF a41 nfx c42 34 (hxL wd hi wr ((rnT wd hi wr Xsp Xls (Xfe, Xfx, Xfy) (Int.toNat k)).1) ((rnT wd hi wr Xsp Xls (Xfe, Xfx, Xfy) (Int.toNat k)).2.1)), .ow kF a43 nfy c44 34 (hyL wd hi wr ((rnT wd hi wr Xsp Xls (Xfe, Xfx, Xfy) (Int.toNat k)).1) ((rnT wd hi wr Xsp Xls (Xfe, Xfx, Xfy) (Int.toNat k)).2.2)), .ow kF A1 nfe C1 34 ((rnT wd hi wr Xsp Xls (Xfe, Xfx, Xfy) (Int.toNat k)).1), .ow kF A2 nfx C2 34 ((rnT wd hi wr Xsp Xls (Xfe, Xfx, Xfy) (Int.toNat k)).2.1), .ow kF A3 nfy C3 34 ((rnT wd hi wr Xsp Xls (Xfe, Xfx, Xfy) (Int.toNat k)).2.2), .blk b7 [.slice none 0 0, .slice none 0 0, .slice none 0 0] 30, .blk b4 [.slice afe nfe cfe, .slice afx nfx cfx, .slice afy nfy cfy] 30, .blk b1 [.int .i64 wd, .int .i64 hi, .bool wr, .slice asp nsp csp, .slice als nls cls] 26, .rd kF asp nsp Xsp, .rd kF als nls Xls, .rd kF afe nfe Xfe, .rd kF afx nfx Xfx, .rd kF afy nfy Xfy] := B.upd [6] rfl hU47
          clear hU47
          refine s_nil ?_
          refine W_region (by kernel_rfl) ?_
          refine s_y (v := .func (.func 72) #[] #[]) rfl (y_move rfl) ?_
          refine s_y (v := .agg #[.slice a39 nfe c40, .slice a41 nfx c42, .slice a43 nfy c44]) rfl (y_loadn (b := b30) (o := 0) (vs := [.slice a39 nfe c40, .slice a41 nfx c42, .slice a43 nfy c44]) T17.agg_30_3 rfl rfl ((B.b 0 rfl).cells (o := 0) rfl)) ?_
          refine s_k rfl (k_callv (us := []) (vs := [.agg #[.slice a39 nfe c40, .slice a41 nfx c42, .slice a43 nfy c44]]) (xs := []) T17.fn_72 rfl (c_i_RunField_1) rfl ?_)
          rintro _ w48 ⟨rfl, e49⟩
          replace B := B.ext0 e49
          clear e49
          refine s_nil ?_
          refine W_region (by kernel_rfl) ?_
          refine s_y (v := .int .i64 (k + 1)) rfl (y_add rfl rfl rfl (by omega)) ?_
          refine s_y (v := .int .i64 (k + 1)) rfl (y_move rfl) ?_
          refine s_nil ?_
          replace B : Bu w no w48 [.blk b30 [.slice a39 nfe c40, .slice a41 nfx c42, .slice a43 nfy c44] 30, .ow kF a39 nfe c40 34 ((rnT wd hi wr Xsp Xls (Xfe, Xfx, Xfy) (Int.toNat (k + 1))).1), .ow kF a41 nfx c42 34 (hxL wd hi wr ((rnT wd hi wr Xsp Xls (Xfe, Xfx, Xfy) (Int.toNat k)).1) ((rnT wd hi wr Xsp Xls (Xfe, Xfx, Xfy) (Int.toNat k)).2.1)), .ow kF a43 nfy c44 34 (hyL wd hi wr ((rnT wd hi wr Xsp Xls (Xfe, Xfx, Xfy) (Int.toNat k)).1) ((rnT wd hi wr Xsp Xls (Xfe, Xfx, Xfy) (Int.toNat k)).2.2)), .ow kF A1 nfe C1 34 ((rnT wd hi wr Xsp Xls (Xfe, Xfx, Xfy) (Int.toNat k)).1), .ow kF A2 nfx C2 34 ((rnT wd hi wr Xsp Xls (Xfe, Xfx, Xfy) (Int.toNat k)).2.1), .ow kF A3 nfy C3 34 ((rnT wd hi wr Xsp Xls (Xfe, Xfx, Xfy) (Int.toNat k)).2.2), .blk b7 [.slice none 0 0, .slice none 0 0, .slice none 0 0] 30, .blk b4 [.slice afe nfe cfe, .slice afx nfx cfx, .slice afy nfy cfy] 30, .blk b1 [.int .i64 wd, .int .i64 hi, .bool wr, .slice asp nsp csp, .slice als nls cls] 26, .rd kF asp nsp Xsp, .rd kF als nls Xls, .rd kF afe nfe Xfe, .rd kF afx nfx Xfx, .rd kF afy nfy Xfy] := B.castX 1 rfl rfl (congrArg (fun q : Fld => q.1) (rnT_next (by omega)))
          replace B : Bu w no w48 [.blk b30 [.slice a39 nfe c40, .slice a41 nfx c42, .slice a43 nfy c44] 30, .ow kF a39 nfe c40 34 ((rnT wd hi wr Xsp Xls (Xfe, Xfx, Xfy) (Int.toNat (k + 1))).1), .ow kF a41 nfx c42 34 ((rnT wd hi wr Xsp Xls (Xfe, Xfx, Xfy) (Int.toNat (k + 1))).2.1), .ow kF a43 nfy c44 34 (hyL wd hi wr ((rnT wd hi wr Xsp Xls (Xfe, Xfx, Xfy) (Int.toNat k)).1) ((rnT wd hi wr Xsp Xls (Xfe, Xfx, Xfy) (Int.toNat k)).2.2)), .ow kF A1 nfe C1 34 ((rnT wd hi wr Xsp Xls (Xfe, Xfx, Xfy) (Int.toNat k)).1), .ow kF A2 nfx C2 34 ((rnT wd hi wr Xsp Xls (Xfe, Xfx, Xfy) (Int.toNat k)).2.1), .ow kF A3 nfy C3 34 ((rnT wd hi wr Xsp Xls (Xfe, Xfx, Xfy) (Int.toNat k)).2.2), .blk b7 [.slice none 0 0, .slice none 0 0, .slice none 0 0] 30, .blk b4 [.slice afe nfe cfe, .slice afx nfx cfx, .slice afy nfy cfy] 30, .blk b1 [.int .i64 wd, .int .i64 hi, .bool wr, .slice asp nsp csp, .slice als nls cls] 26, .rd kF asp nsp Xsp, .rd kF als nls Xls, .rd kF afe nfe Xfe, .rd kF afx nfx Xfx, .rd kF afy nfy Xfy] := B.castX 2 rfl rfl (congrArg (fun q : Fld => q.2.1) (rnT_next (by omega)))
          replace B : Bu w no w48 [.blk b30 [.slice a39 nfe c40, .slice a41 nfx c42, .slice a43 nfy c44] 30, .ow kF a39 nfe c40 34 ((rnT wd hi wr Xsp Xls (Xfe, Xfx, Xfy) (Int.toNat (k + 1))).1), .ow kF a41 nfx c42 34 ((rnT wd hi wr Xsp Xls (Xfe, Xfx, Xfy) (Int.toNat (k + 1))).2.1), .ow kF a43 nfy c44 34 ((rnT wd hi wr Xsp Xls (Xfe, Xfx, Xfy) (Int.toNat (k + 1))).2.2), .ow kF A1 nfe C1 34 ((rnT wd hi wr Xsp Xls (Xfe, Xfx, Xfy) (Int.toNat k)).1), .ow kF A2 nfx C2 34 ((rnT wd hi wr Xsp Xls (Xfe, Xfx, Xfy) (Int.toNat k)).2.1), .ow kF A3 nfy C3 34 ((rnT wd hi wr Xsp Xls (Xfe, Xfx, Xfy) (Int.toNat k)).2.2), .blk b7 [.slice none 0 0, .slice none 0 0, .slice none 0 0] 30, .blk b4 [.slice afe nfe cfe, .slice afx nfx cfx, .slice afy nfy cfy] 30, .blk b1 [.int .i64 wd, .int .i64 hi, .bool wr, .slice asp nsp csp, .slice als nls cls] 26, .rd kF asp nsp Xsp, .rd kF als nls Xls, .rd kF afe nfe Xfe, .rd kF afx nfx Xfx, .rd kF afy nfy Xfy] := B.castX 3 rfl rfl (congrArg (fun q : Fld => q.2.2) (rnT_next (by omega)))
          refine ⟨⟨_, k + 1, a39, a41, a43, c40, c42, c44, Fits.eq ⟨rfl, rfl, rfl, rfl, rfl, rfl, rfl, trivial⟩, (B.pick [1, 2, 3, 0, 7, 8, 9, 10, 11, 12, 13, 14] rfl rfl), (by omega), (by omega)⟩, ?_⟩
          show (m - (k + 1)).toNat < (m - k).toNat
          omega
        · refine s_y (v := .bool false) rfl (y_lss rfl rfl (decide_eq_false c37)) ?_
          refine s_nil ?_
          refine W_seq ?_
          refine W_if_f (by decide) rfl ?_
          refine W_exit ?_
          have hkm : k = m := by omega
          subst k
          refine W_seq ?_
          refine W_region (by kernel_rfl) ?_
          refine s_y (v := .agg #[.slice A1 nfe C1, .slice A2 nfx C2, .slice A3 nfy C3]) rfl (y_loadn (b := b30) (o := 0) (vs := [.slice A1 nfe C1, .slice A2 nfx C2, .slice A3 nfy C3]) T17.agg_30_3 rfl rfl ((B.b 3 rfl).cells (o := 0) rfl)) ?_
          refine s_k0 rfl (k_stB (v := .agg #[.slice A1 nfe C1, .slice A2 nfx C2, .slice A3 nfy C3]) (n := 3) (cs' := [.slice A1 nfe C1, .slice A2 nfx C2, .slice A3 nfy C3]) T17.sz_30_3 rfl rfl rfl (B.b 4 rfl) (by simp [Value.cells, Value.oneCell']) (Nat.le_of_ble_eq_true rfl) rfl (fun w50 hU51 => ?_))
          replace B : Bu w no w50 [.blk b7 [.slice A1 nfe C1, .slice A2 nfx C2, .slice A3 nfy C3] 30, .ow kF A1 nfe C1 34 ((rnT wd hi wr Xsp Xls (Xfe, Xfx, Xfy) (Int.toNat m)).1), .ow kF A2 nfx C2 34 ((rnT wd hi wr Xsp Xls (Xfe, Xfx, Xfy) (Int.toNat m)).2.1), .ow kF A3 nfy C3 34 ((rnT wd hi wr Xsp Xls (Xfe, Xfx, Xfy) (Int.toNat m)).2.2), .blk b30 [.slice A1 nfe C1, .slice A2 nfx C2, .slice A3 nfy C3] 30, .blk b4 [.slice afe nfe cfe, .slice afx nfx cfx, .slice afy nfy cfy] 30, .blk b1 [.int .i64 wd, .int .i64 hi, .bool wr, .slice asp nsp csp, .slice als nls cls] 26, .rd kF asp nsp Xsp, .rd kF als nls Xls, .rd kF afe nfe Xfe, .rd kF afx nfx Xfx, .rd kF afy nfy Xfy] := B.upd [4] rfl hU51
          clear hU51
          refine s_y (v := .bool true) rfl (y_assign rfl) ?_
          refine s_nil ?_
          refine W_ret ?_
          refine ret2 (v1 := .agg #[.slice A1 nfe C1, .slice A2 nfx C2, .slice A3 nfy C3]) (v2 := .bool true) rfl rfl rfl ⟨_, [.slice A1 nfe C1, .slice A2 nfx C2, .slice A3 nfy C3], _, rfl, (B.b 0 rfl), T17.agg_30_3, rfl⟩ rfl ⟨_, rfl, ?_⟩
          have hcond : runB wd hi wr Xsp Xls Xfe Xfx Xfy m = true := by simp only [runB, c14, c20, (decide_eq_false c37), Bool.and_true, Bool.true_and, Bool.and_false, Bool.false_and, Bool.not_true, Bool.not_false, Bool.or_true, Bool.true_or, Bool.or_false, Bool.false_or]
          exact .inl ⟨hcond, ⟨_, _, _, _, _, _, rfl, B.give [1, 2, 3] rfl rfl rfl⟩⟩
    · obtain rfl : v18 = .bool false := hv19.trans (congrArg Value.bool (Bool.eq_false_iff.2 c20))
      refine s_y (v := .bool true) rfl (y_not rfl rfl) ?_
      refine s_y (v := .bool true) rfl (y_pick_f rfl rfl) ?_
      refine s_nil ?_
      refine W_if_t (by decide) rfl ?_
      refine W_seq ?_
      refine W_region (by kernel_rfl) ?_
      refine s_y (v := .agg #[.slice none 0 0, .slice none 0 0, .slice none 0 0]) rfl (y_build (cells := #[.slice none 0 0, .slice none 0 0, .slice none 0 0]) (by kernel_rfl)) ?_
      refine s_k0 rfl (k_stB (v := .agg #[.slice none 0 0, .slice none 0 0, .slice none 0 0]) (n := 3) (cs' := [.slice none 0 0, .slice none 0 0, .slice none 0 0]) T17.sz_30_3 rfl rfl rfl (B.b 0 rfl) (by simp [Value.cells, Value.oneCell']) (Nat.le_of_ble_eq_true rfl) rfl (fun w52 hU53 => ?_))
      replace B : Bu w no w52 [.blk b7 [.slice none 0 0, .slice none 0 0, .slice none 0 0] 30, .blk b4 [.slice afe nfe cfe, .slice afx nfx cfx, .slice afy nfy cfy] 30, .blk b1 [.int .i64 wd, .int .i64 hi, .bool wr, .slice asp nsp csp, .slice als nls cls] 26, .rd kF asp nsp Xsp, .rd kF als nls Xls, .rd kF afe nfe Xfe, .rd kF afx nfx Xfx, .rd kF afy nfy Xfy] := B.upd [0] rfl hU53
      clear hU53
      refine s_y (v := .bool false) rfl (y_assign rfl) ?_
      refine s_nil ?_
      refine W_ret ?_
      refine ret2 (v1 := .agg #[.slice none 0 0, .slice none 0 0, .slice none 0 0]) (v2 := .bool false) rfl rfl rfl ⟨_, [.slice none 0 0, .slice none 0 0, .slice none 0 0], _, rfl, (B.b 0 rfl), T17.agg_30_3, rfl⟩ rfl ⟨_, rfl, ?_⟩
      exact .inr ⟨by simp only [runB, c14, (Bool.eq_false_iff.2 c20), Bool.and_true, Bool.true_and, Bool.and_false, Bool.false_and, Bool.not_true, Bool.not_false, Bool.or_true, Bool.true_or, Bool.or_false, Bool.false_or], rfl, B.ext⟩
  · obtain rfl : v12 = .bool false := hv13.trans (congrArg Value.bool (Bool.eq_false_iff.2 c14))
    refine s_y (v := .bool true) rfl (y_not rfl rfl) ?_
    refine s_y (v := .bool true) rfl (y_move rfl) ?_
    refine s_skip rfl ?_
    refine s_skip rfl ?_
    refine s_skip rfl ?_
    refine s_y (v := .bool true) rfl (y_pick_t rfl rfl) ?_
    refine s_nil ?_
    refine W_if_t (by decide) rfl ?_
    refine W_seq ?_
    refine W_region (by kernel_rfl) ?_
    refine s_y (v := .agg #[.slice none 0 0, .slice none 0 0, .slice none 0 0]) rfl (y_build (cells := #[.slice none 0 0, .slice none 0 0, .slice none 0 0]) (by kernel_rfl)) ?_
    refine s_k0 rfl (k_stB (v := .agg #[.slice none 0 0, .slice none 0 0, .slice none 0 0]) (n := 3) (cs' := [.slice none 0 0, .slice none 0 0, .slice none 0 0]) T17.sz_30_3 rfl rfl rfl (B.b 0 rfl) (by simp [Value.cells, Value.oneCell']) (Nat.le_of_ble_eq_true rfl) rfl (fun w54 hU55 => ?_))
    replace B : Bu w no w54 [.blk b7 [.slice none 0 0, .slice none 0 0, .slice none 0 0] 30, .blk b4 [.slice afe nfe cfe, .slice afx nfx cfx, .slice afy nfy cfy] 30, .blk b1 [.int .i64 wd, .int .i64 hi, .bool wr, .slice asp nsp csp, .slice als nls cls] 26, .rd kF asp nsp Xsp, .rd kF als nls Xls, .rd kF afe nfe Xfe, .rd kF afx nfx Xfx, .rd kF afy nfy Xfy] := B.upd [0] rfl hU55
    clear hU55
    refine s_y (v := .bool false) rfl (y_assign rfl) ?_
    refine s_nil ?_
    refine W_ret ?_
    refine ret2 (v1 := .agg #[.slice none 0 0, .slice none 0 0, .slice none 0 0]) (v2 := .bool false) rfl rfl rfl ⟨_, [.slice none 0 0, .slice none 0 0, .slice none 0 0], _, rfl, (B.b 0 rfl), T17.agg_30_3, rfl⟩ rfl ⟨_, rfl, ?_⟩
    exact .inr ⟨by simp only [runB, (Bool.eq_false_iff.2 c14), Bool.and_true, Bool.true_and, Bool.and_false, Bool.false_and, Bool.not_true, Bool.not_false, Bool.or_true, Bool.true_or, Bool.or_false, Bool.false_or], rfl, B.ext⟩
set_option maxRecDepth 100000 in
set_option maxHeartbeats 4000000 in
theorem c_i_RunField {wd : Int} {hi : Int} {wr : Bool} {asp : Option Addr} {nsp : Nat} {csp : Nat} {Xsp : List Nat} {als : Option Addr} {nls : Nat} {cls : Nat} {Xls : List Nat} {afe : Option Addr} {nfe : Nat} {cfe : Nat} {Xfe : List Nat} {afx : Option Addr} {nfx : Nat} {cfx : Nat} {Xfx : List Nat} {afy : Option Addr} {nfy : Nat} {cfy : Nat} {Xfy : List Nat} {m : Int} {w : World} (qsp : Rd w kF asp nsp Xsp) (qls : Rd w kF als nls Xls) (qfe : Rd w kF afe nfe Xfe) (qfx : Rd w kF afx nfx Xfx) (qfy : Rd w kF afy nfy Xfy) (hbsp : nsp ≤ 9223372036854775806) (hbls : nls ≤ 9223372036854775806) (hbfe : nfe ≤ 9223372036854775806) (hbfx : nfx ≤ 9223372036854775806) (hbfy : nfy ≤ 9223372036854775806) :
    Calls Try.prog 17 #[.agg #[.int .i64 wd, .int .i64 hi, .bool wr, .slice asp nsp csp, .slice als nls cls], .agg #[.slice afe nfe cfe, .slice afx nfx cfx, .slice afy nfy cfy], .int .i64 m] w (Rt fun v w' => (runB wd hi wr Xsp Xls Xfe Xfx Xfy m = true ∧ ∃ (a1 : Option Addr) (c1 : Nat) (a2 : Option Addr) (c2 : Nat) (a3 : Option Addr) (c3 : Nat), v = .tuple #[.agg #[.slice a1 nfe c1, .slice a2 nfx c2, .slice a3 nfy c3], .bool true] ∧ New w w' [.ow kF a1 nfe c1 34 ((rnT wd hi wr Xsp Xls (Xfe, Xfx, Xfy) (Int.toNat m)).1), .ow kF a2 nfx c2 34 ((rnT wd hi wr Xsp Xls (Xfe, Xfx, Xfy) (Int.toNat m)).2.1), .ow kF a3 nfy c3 34 ((rnT wd hi wr Xsp Xls (Xfe, Xfx, Xfy) (Int.toNat m)).2.2)]) ∨ (runB wd hi wr Xsp Xls Xfe Xfx Xfy m = false ∧ v = .tuple #[.agg #[.slice none 0 0, .slice none 0 0, .slice none 0 0], .bool false] ∧ Ext0 w w')) := by
  have hlsp := qsp.len
  have hlls := qls.len
  have hlfe := qfe.len
  have hlfx := qfx.len
  have hlfy := qfy.len
  have B : Bu w no w [.rd kF asp nsp Xsp, .rd kF als nls Xls, .rd kF afe nfe Xfe, .rd kF afx nfx Xfx, .rd kF afy nfy Xfy] := Bu.ro (All.cons qsp (All.cons qls (All.cons qfe (All.cons qfx (All.cons qfy All.nil))))) rfl
  refine calls_W (n := 14) Try.func17 rfl rfl (Nat.le_of_ble_eq_true rfl) ?_
  refine W_seq ?_
  refine W_region (by kernel_rfl) ?_
  refine s_k rfl (k_boxN (v := .agg #[.int .i64 wd, .int .i64 hi, .bool wr, .slice asp nsp csp, .slice als nls cls]) (cs := [.int .i64 wd, .int .i64 hi, .bool wr, .slice asp nsp csp, .slice als nls cls]) rfl rfl (fun b1 w2 hN3 => ?_))
  replace B := B.new1 hN3
  clear hN3
  refine s_k rfl (k_boxN (v := .agg #[.slice afe nfe cfe, .slice afx nfx cfx, .slice afy nfy cfy]) (cs := [.slice afe nfe cfe, .slice afx nfx cfx, .slice afy nfy cfy]) rfl rfl (fun b4 w5 hN6 => ?_))
  replace B := B.new1 hN6
  clear hN6
  refine s_k rfl (k_allocN (z := (.agg #[.slice none 0 0, .slice none 0 0, .slice none 0 0])) (cs := [.slice none 0 0, .slice none 0 0, .slice none 0 0]) T17.zero_30 rfl (fun b7 w8 hN9 => ?_))
  replace B := B.new1 hN9
  clear hN9
  refine s_y (v := .bool false) rfl (y_assign rfl) ?_
  refine s_nil ?_
  refine W_seq ?_
  refine W_region (by kernel_rfl) ?_
  refine s_y (v := .agg #[.int .i64 wd, .int .i64 hi, .bool wr, .slice asp nsp csp, .slice als nls cls]) rfl (y_loadn (b := b1) (o := 0) (vs := [.int .i64 wd, .int .i64 hi, .bool wr, .slice asp nsp csp, .slice als nls cls]) T17.agg_26_5 rfl rfl ((B.b 2 rfl).cells (o := 0) rfl)) ?_
  refine s_y (v := .agg #[.slice afe nfe cfe, .slice afx nfx cfx, .slice afy nfy cfy]) rfl (y_loadn (b := b4) (o := 0) (vs := [.slice afe nfe cfe, .slice afx nfx cfx, .slice afy nfy cfy]) T17.agg_30_3 rfl rfl ((B.b 1 rfl).cells (o := 0) rfl)) ?_
  refine s_y (v := .int .i64 m) rfl (y_move rfl) ?_
  refine s_k rfl (k_call T17.fn_71 (c_i_run_none (B.r 3 rfl) (B.r 4 rfl) (B.r 5 rfl) (B.r 6 rfl) (B.r 7 rfl) (by omega) (by omega) (by omega) (by omega) (by omega)) rfl ?_)
  rintro v12 w10 hx11
  by_cases c13 : runB wd hi wr Xsp Xls Xfe Xfx Xfy m = true
  · have hb14 := runB_b c13
    obtain ⟨a15, c16, a17, c18, a19, c20, rfl, hN21⟩ := (hx11.resolve_right (fun hz => by rw [c13] at hz; cases hz.1)).2
    clear hx11
    replace B := B.new3 hN21
    clear hN21
    refine s_y (v := .agg #[.slice a15 nfe c16, .slice a17 nfx c18, .slice a19 nfy c20]) rfl (y_extract rfl rfl) ?_
    refine s_y (v := .bool true) rfl (y_extract rfl rfl) ?_
    refine s_k0 rfl (k_stB (v := .agg #[.slice a15 nfe c16, .slice a17 nfx c18, .slice a19 nfy c20]) (n := 3) (cs' := [.slice a15 nfe c16, .slice a17 nfx c18, .slice a19 nfy c20]) T17.sz_30_3 rfl rfl rfl (B.b 3 rfl) (by simp [Value.cells, Value.oneCell']) (Nat.le_of_ble_eq_true rfl) rfl (fun w22 hU23 => ?_))
    replace B : Bu w no w22 [.blk b7 [.slice a15 nfe c16, .slice a17 nfx c18, .slice a19 nfy c20] 30, .ow kF a15 nfe c16 34 ((rnT wd hi wr Xsp Xls (Xfe, Xfx, Xfy) (Int.toNat m)).1), .ow kF a17 nfx c18 34 ((rnT wd hi wr Xsp Xls (Xfe, Xfx, Xfy) (Int.toNat m)).2.1), .ow kF a19 nfy c20 34 ((rnT wd hi wr Xsp Xls (Xfe, Xfx, Xfy) (Int.toNat m)).2.2), .blk b4 [.slice afe nfe cfe, .slice afx nfx cfx, .slice afy nfy cfy] 30, .blk b1 [.int .i64 wd, .int .i64 hi, .bool wr, .slice asp nsp csp, .slice als nls cls] 26, .rd kF asp nsp Xsp, .rd kF als nls Xls, .rd kF afe nfe Xfe, .rd kF afx nfx Xfx, .rd kF afy nfy Xfy] := B.upd [3] rfl hU23
    clear hU23
    refine s_y (v := .bool true) rfl (y_assign rfl) ?_
    refine s_nil ?_
    refine W_ret ?_
    refine ret2 (v1 := .agg #[.slice a15 nfe c16, .slice a17 nfx c18, .slice a19 nfy c20]) (v2 := .bool true) rfl rfl rfl ⟨_, [.slice a15 nfe c16, .slice a17 nfx c18, .slice a19 nfy c20], _, rfl, (B.b 0 rfl), T17.agg_30_3, rfl⟩ rfl ⟨_, rfl, ?_⟩
    have hcond : runB wd hi wr Xsp Xls Xfe Xfx Xfy m = true := by simp only [c13, Bool.and_true, Bool.true_and, Bool.and_false, Bool.false_and, Bool.not_true, Bool.not_false, Bool.or_true, Bool.true_or, Bool.or_false, Bool.false_or]
    exact .inl ⟨hcond, ⟨_, _, _, _, _, _, rfl, B.give [1, 2, 3] rfl rfl rfl⟩⟩
  · obtain ⟨_, rfl, e24⟩ := hx11.resolve_left (fun hz => c13 hz.1)
    clear hx11
    replace B := B.ext0 e24
    clear e24
    refine s_y (v := .agg #[.slice none 0 0, .slice none 0 0, .slice none 0 0]) rfl (y_extract rfl rfl) ?_
    refine s_y (v := .bool false) rfl (y_extract rfl rfl) ?_
    refine s_k0 rfl (k_stB (v := .agg #[.slice none 0 0, .slice none 0 0, .slice none 0 0]) (n := 3) (cs' := [.slice none 0 0, .slice none 0 0, .slice none 0 0]) T17.sz_30_3 rfl rfl rfl (B.b 0 rfl) (by simp [Value.cells, Value.oneCell']) (Nat.le_of_ble_eq_true rfl) rfl (fun w25 hU26 => ?_))
    replace B : Bu w no w25 [.blk b7 [.slice none 0 0, .slice none 0 0, .slice none 0 0] 30, .blk b4 [.slice afe nfe cfe, .slice afx nfx cfx, .slice afy nfy cfy] 30, .blk b1 [.int .i64 wd, .int .i64 hi, .bool wr, .slice asp nsp csp, .slice als nls cls] 26, .rd kF asp nsp Xsp, .rd kF als nls Xls, .rd kF afe nfe Xfe, .rd kF afx nfx Xfx, .rd kF afy nfy Xfy] := B.upd [0] rfl hU26
    clear hU26
    refine s_y (v := .bool false) rfl (y_assign rfl) ?_
    refine s_nil ?_
    refine W_ret ?_
    refine ret2 (v1 := .agg #[.slice none 0 0, .slice none 0 0, .slice none 0 0]) (v2 := .bool false) rfl rfl rfl ⟨_, [.slice none 0 0, .slice none 0 0, .slice none 0 0], _, rfl, (B.b 0 rfl), T17.agg_30_3, rfl⟩ rfl ⟨_, rfl, ?_⟩
    exact .inr ⟨by simp only [(Bool.eq_false_iff.2 c13), Bool.and_true, Bool.true_and, Bool.and_false, Bool.false_and, Bool.not_true, Bool.not_false, Bool.or_true, Bool.true_or, Bool.or_false, Bool.false_or], rfl, B.ext⟩
namespace T96
theorem mx : Try.prog.follows .mixedOrders = true := by kernel_rfl
theorem one_34 : oneB Try.prog 34 = true := by kernel_rfl
end T96
set_option maxRecDepth 100000 in
set_option maxHeartbeats 4000000 in
theorem c_i_ScaleField_1 {r : Nat} {R : Nat} {r2 : Nat} {R2 : Nat} {b : Nat} {s : Nat} {S : Nat} {w : World} (h1 : Cn .f32 r R) (h2 : Cn .f32 r2 R2) (hs : Cn .f32 s S) (Pb : Sl w (some ⟨b, 0, none⟩) [.float .f32 s]) :
    Calls Try.prog 96 #[.float .f32 r, .float .f32 r2, .pointer (some ⟨b, 0, none⟩)] w (Rt fun v w' => (∃ r, v = .float .f32 r ∧ Cn .f32 r (fop .mul .f32 R S)) ∧ Ext0 w w') := by
  have B : Bu w no w [.sl (some ⟨b, 0, none⟩) [.float .f32 s]] := Bu.ro (All.cons Pb All.nil) rfl
  refine calls_W (n := 9) Try.func96 rfl rfl (Nat.le_of_ble_eq_true rfl) ?_
  refine W_seq ?_
  refine W_region (by kernel_rfl) ?_
  refine s_y (v := .float .f32 0) rfl (y_assign rfl) ?_
  refine s_nil ?_
  refine W_seq ?_
  refine W_region (by kernel_rfl) ?_
  refine s_y (v := .float .f32 r) rfl (y_move rfl) ?_
  refine s_y (v := .float .f32 s) rfl (y_load T96.one_34 rfl ((B.s 0 rfl).cell (j := 0) rfl)) ?_
  refine s_n rfl (n_arith (by decide) rfl rfl) ?_
  rintro _ w4 e5 ⟨r2, rfl, hr3⟩
  replace B := B.ext0 e5
  clear e5
  have hc6 := fopC hr3 h1 hs
  refine s_y (v := .float .f32 r2) rfl (y_assign rfl) ?_
  refine s_nil ?_
  refine W_ret ?_
  refine ret1 (v := .float .f32 r2) rfl rfl rfl ⟨_, rfl, ?_⟩
  exact ⟨⟨_, rfl, hc6⟩, B.ext⟩
namespace T97
theorem mx : Try.prog.follows .mixedOrders = true := by kernel_rfl
theorem one_34 : oneB Try.prog 34 = true := by kernel_rfl
theorem sl_24_34_1 : slB Try.prog 24 34 1 = true := by kernel_rfl
theorem slt_24 : SlT Try.prog 24 34 1 4 (.float .f32 0) := ⟨by kernel_rfl, by kernel_rfl, rfl, by decide⟩
end T97
set_option maxRecDepth 100000 in
set_option maxHeartbeats 4000000 in
theorem c_i_both {aa : Option Addr} {na : Nat} {ca : Nat} {Xa : List Nat} {ab : Option Addr} {nb : Nat} {cb : Nat} {Xb : List Nat} {f : Nat} {us xs : List Value} {FM : Nat → Nat → Nat} {w : World} (qa : Rd w kF aa na Xa) (qb : Rd w kF ab nb Xb) (hfB : fnB Try.prog f = true) (hF : ∀ r R r2 R2 {w1}, Ext0 w w1 → Cn .f32 r R → Cn .f32 r2 R2 → Calls Try.prog f (us ++ ([.float .f32 r, .float .f32 r2] : List Value) ++ xs).toArray w1 (Rt fun v w2 => (∃ q, v = .float .f32 q ∧ Cn .f32 q (FM R R2)) ∧ Ext0 w1 w2)) (hab : nb = na) (hb : na ≤ 1048576) :
    Calls Try.prog 97 #[.slice aa na ca, .slice ab nb cb, .func (.func f) us.toArray xs.toArray] w (Rt fun v w' => ∃ (a1 : Option Addr) (c1 : Nat), v = .slice a1 na c1 ∧ New w w' [.ow kF a1 na c1 34 (zipL na FM Xa Xb)]) := by
  have hla := qa.len
  have hlb := qb.len
  have B : Bu w no w [.rd kF aa na Xa, .rd kF ab nb Xb] := Bu.ro (All.cons qa (All.cons qb All.nil)) rfl
  refine calls_W (n := 30) Try.func97 rfl rfl (Nat.le_of_ble_eq_true rfl) ?_
  refine W_seq ?_
  refine W_region (by kernel_rfl) ?_
  refine s_y (v := .slice none 0 0) rfl (y_assign rfl) ?_
  refine s_nil ?_
  refine W_seq ?_
  refine W_region (by kernel_rfl) ?_
  refine s_k rfl (k_bsliceO (k := kF) (n := 0) (cells := #[]) (X := []) T97.slt_24 (by decide) (by first | rfl | kernel_rfl) (rfl : Reps kF [] []) rfl (fun b1 w2 hN3 => ?_))
  replace B := B.new1 hN3
  clear hN3
  refine s_y (v := .slice (some ⟨b1, 0, none⟩) 0 0) rfl (y_assign rfl) ?_
  refine s_nil ?_
  refine W_seq ?_
  refine W_seq ?_
  refine W_region (by kernel_rfl) ?_
  refine s_y (v := .slice aa na ca) rfl (y_move rfl) ?_
  refine s_y (v := .int .i64 ((na : Nat) : Int)) rfl (y_len T97.sl_24_34_1 rfl rfl) ?_
  refine s_y (v := .int .i64 0) rfl (y_move rfl) ?_
  refine s_nil ?_
  refine W_block ?_
  refine W_loop (fun ρ' w' => ∃ (ρ1 : Env) (k : Int) (a0 : Option Addr) (cc0 : Nat) (nn0 : Nat), ρ' = updL ρ1 [(1, .slice ab nb cb), (2, .func (.func f) us.toArray xs.toArray), (6, .slice none 0 0), (7, .slice a0 nn0 cc0), (11, .slice aa na ca), (12, .int .i64 ((na : Nat) : Int)), (13, .int .i64 k)] ∧ Bu w no w' [.ow kF a0 nn0 cc0 34 (tab k (fun i => FM (el Xa i) (el Xb i))), .rd kF aa na Xa, .rd kF ab nb Xb] ∧ (0 ≤ k) ∧ (k ≤ (na : Int))) (fun ρ' _ => ((na : Int) - iv (ρ' 13)).toNat) ?_ ?_
  · replace B : Bu w no w2 [.ow kF (some ⟨b1, 0, none⟩) 0 0 34 (tab 0 (fun i => FM (el Xa i) (el Xb i))), .rd kF aa na Xa, .rd kF ab nb Xb] := B.castX 0 rfl rfl rfl
    exact ⟨_, 0, (some ⟨b1, 0, none⟩), 0, 0, Fits.eq ⟨rfl, rfl, rfl, rfl, rfl, rfl, rfl, trivial⟩, B, (Int.le_refl _), (by omega)⟩
  · clear B; rintro _ w4 ⟨ρ5, k, a0, cc0, nn0, rfl, B, h0k, h1k⟩
    have hnn0 := (B.o 0 rfl).len
    rw [tab_length] at hnn0
    refine W_seq ?_
    refine W_region (by kernel_rfl) ?_
    by_cases c6 : k < ((na : Nat) : Int)
    · refine s_y (v := .bool true) rfl (y_lss rfl rfl (decide_eq_true c6)) ?_
      refine s_nil ?_
      refine W_seq ?_
      refine W_if_t (by decide) rfl ?_
      refine W_skip ?_
      refine W_seq ?_
      refine W_block ?_
      refine W_seq ?_
      refine W_region (by kernel_rfl) ?_
      refine s_y (v := .int .i64 k) rfl (y_move rfl) ?_
      refine s_y (v := .pointer (some (sat aa ((k).toNat * 1)))) rfl (y_idx T97.sl_24_34_1 rfl rfl ((B.r 1 rfl).addr (by omega)) (by omega) (by omega)) ?_
      obtain ⟨r8, hr9, hR7⟩ := Rd.atF (B.r 1 rfl) k (by omega) (by omega)
      refine s_y (v := .float .f32 r8) rfl (y_load T97.one_34 rfl (hR7.cell (i := 0) rfl)) ?_
      refine s_y (v := .int .i64 k) rfl (y_assign rfl) ?_
      refine s_y (v := .float .f32 r8) rfl (y_assign rfl) ?_
      refine s_nil ?_
      refine W_region (by kernel_rfl) ?_
      refine s_y (v := .slice a0 nn0 cc0) rfl (y_move rfl) ?_
      refine s_y (v := .func (.func f) us.toArray xs.toArray) rfl (y_move rfl) ?_
      refine s_y (v := .float .f32 r8) rfl (y_move rfl) ?_
      refine s_y (v := .slice ab nb cb) rfl (y_move rfl) ?_
      refine s_y (v := .int .i64 k) rfl (y_move rfl) ?_
      refine s_y (v := .pointer (some (sat ab ((k).toNat * 1)))) rfl (y_idx T97.sl_24_34_1 rfl rfl ((B.r 2 rfl).addr (by omega)) (by omega) (by omega)) ?_
      obtain ⟨r11, hr12, hR10⟩ := Rd.atF (B.r 2 rfl) k (by omega) (by omega)
      refine s_y (v := .float .f32 r11) rfl (y_load T97.one_34 rfl (hR10.cell (i := 0) rfl)) ?_
      refine s_k rfl (k_callv hfB rfl (hF r8 (el Xa k) r11 (el Xb k) B.ext hr9 hr12) rfl ?_)
      rintro _ w13 ⟨⟨r15, rfl, hr16⟩, e14⟩
      replace B := B.ext0 e14
      clear e14
      refine s_k rfl (k_bsliceO (k := kF) (n := 1) (cells := #[.float .f32 r15]) (X := [FM (el Xa k) (el Xb k)]) T97.slt_24 (by decide) (by first | rfl | kernel_rfl) (reps_cons (c := [.float .f32 r15]) ⟨_, rfl, hr16⟩ (rfl : Reps kF [] [])) rfl (fun b17 w18 hN19 => ?_))
      replace B := B.new1 hN19
      clear hN19
      refine s_k rfl (k_appO (k := kF) T97.slt_24 rfl rfl rfl (B.o 1 rfl) (B.o 0 rfl).rd (by omega) (by unfold maxLen; omega) (fun a20 c21 w22 hU23 => ?_))
      replace B : Bu w no w22 [.ow kF a20 (nn0 + 1) c21 34 ((tab k (fun i => FM (el Xa i) (el Xb i))) ++ ([FM (el Xa k) (el Xb k)])), .ow kF (some ⟨b17, 0, none⟩) 1 1 34 ([FM (el Xa k) (el Xb k)]), .rd kF aa na Xa, .rd kF ab nb Xb] := B.upd [1] rfl hU23
      clear hU23
      refine s_y (v := .slice a20 (nn0 + 1) c21) rfl (y_assign rfl) ?_
      refine s_nil ?_
      refine W_region (by kernel_rfl) ?_
      refine s_y (v := .int .i64 (k + 1)) rfl (y_add rfl rfl rfl (by omega)) ?_
      refine s_y (v := .int .i64 (k + 1)) rfl (y_move rfl) ?_
      refine s_nil ?_
      replace B : Bu w no w22 [.ow kF a20 (nn0 + 1) c21 34 (tab (k + 1) (fun i => FM (el Xa i) (el Xb i))), .ow kF (some ⟨b17, 0, none⟩) 1 1 34 ([FM (el Xa k) (el Xb k)]), .rd kF aa na Xa, .rd kF ab nb Xb] := B.castX 0 rfl rfl (tab_snoc (g := fun i => FM (el Xa i) (el Xb i)) (by omega) rfl)
      refine ⟨⟨_, k + 1, a20, c21, nn0 + 1, Fits.eq ⟨rfl, rfl, rfl, rfl, rfl, rfl, rfl, trivial⟩, (B.pick [0, 2, 3] rfl rfl), (by omega), (by omega)⟩, ?_⟩
      show ((na : Int) - (k + 1)).toNat < ((na : Int) - k).toNat
      omega
    · refine s_y (v := .bool false) rfl (y_lss rfl rfl (decide_eq_false c6)) ?_
      refine s_nil ?_
      refine W_seq ?_
      refine W_if_f (by decide) rfl ?_
      refine W_exit ?_
      refine W_seq ?_
      refine W_region (by kernel_rfl) ?_
      refine s_y (v := .slice a0 nn0 cc0) rfl (y_move rfl) ?_
      refine s_y (v := .slice a0 nn0 cc0) rfl (y_assign rfl) ?_
      refine s_nil ?_
      refine W_ret ?_
      refine ret1 (v := .slice a0 nn0 cc0) rfl rfl rfl ⟨_, rfl, ?_⟩
      obtain rfl : k = (na : Int) := by omega
      replace B : Bu w no w4 [.ow kF a0 na cc0 34 (zipL na FM Xa Xb), .rd kF aa na Xa, .rd kF ab nb Xb] := B.castX 0 rfl (by omega) rfl
      exact ⟨_, _, (by rw [(show nn0 = na from (by omega))]), B.give [0] rfl rfl rfl⟩
namespace T70
theorem mx : Try.prog.follows .mixedOrders = true := by kernel_rfl
theorem agg_26_5 : aggB Try.prog 26 5 = true := by kernel_rfl
theorem agg_30_3 : aggB Try.prog 30 3 = true := by kernel_rfl
theorem fn_41 : fnB Try.prog 41 = true := by kernel_rfl
theorem sz_30_3 : szB Try.prog 30 3 = true := by kernel_rfl
theorem zero_30 : zeroB Try.prog 30 (.agg #[.slice none 0 0, .slice none 0 0, .slice none 0 0]) := by unfold zeroB; kernel_rfl
end T70
set_option maxRecDepth 100000 in
set_option maxHeartbeats 4000000 in
theorem c_i_validField {wd : Int} {hi : Int} {wr : Bool} {asp : Option Addr} {nsp : Nat} {csp : Nat} {Xsp : List Nat} {als : Option Addr} {nls : Nat} {cls : Nat} {Xls : List Nat} {afe : Option Addr} {nfe : Nat} {cfe : Nat} {Xfe : List Nat} {afx : Option Addr} {nfx : Nat} {cfx : Nat} {Xfx : List Nat} {afy : Option Addr} {nfy : Nat} {cfy : Nat} {Xfy : List Nat} {w : World} (qsp : Rd w kF asp nsp Xsp) (qls : Rd w kF als nls Xls) (qfe : Rd w kF afe nfe Xfe) (qfx : Rd w kF afx nfx Xfx) (qfy : Rd w kF afy nfy Xfy) (hbsp : nsp ≤ 9223372036854775806) (hbls : nls ≤ 9223372036854775806) (hbfe : nfe ≤ 9223372036854775806) (hbfx : nfx ≤ 9223372036854775806) (hbfy : nfy ≤ 9223372036854775806) :
    Calls Try.prog 70 #[.agg #[.int .i64 wd, .int .i64 hi, .bool wr, .slice asp nsp csp, .slice als nls cls], .agg #[.slice afe nfe cfe, .slice afx nfx cfx, .slice afy nfy cfy]] w (Rt fun v w' => (fieldB wd hi wr Xsp Xls Xfe Xfx Xfy = true ∧ v = .tuple #[.agg #[.slice afe nfe cfe, .slice afx nfx cfx, .slice afy nfy cfy], .bool true] ∧ Ext0 w w') ∨ (fieldB wd hi wr Xsp Xls Xfe Xfx Xfy = false ∧ v = .tuple #[.agg #[.slice none 0 0, .slice none 0 0, .slice none 0 0], .bool false] ∧ Ext0 w w')) := by
  have hlsp := qsp.len
  have hlls := qls.len
  have hlfe := qfe.len
  have hlfx := qfx.len
  have hlfy := qfy.len
  have B : Bu w no w [.rd kF asp nsp Xsp, .rd kF als nls Xls, .rd kF afe nfe Xfe, .rd kF afx nfx Xfx, .rd kF afy nfy Xfy] := Bu.ro (All.cons qsp (All.cons qls (All.cons qfe (All.cons qfx (All.cons qfy All.nil))))) rfl
  refine calls_W (n := 12) Try.func70 rfl rfl (Nat.le_of_ble_eq_true rfl) ?_
  refine W_seq ?_
  refine W_region (by kernel_rfl) ?_
  refine s_k rfl (k_boxN (v := .agg #[.int .i64 wd, .int .i64 hi, .bool wr, .slice asp nsp csp, .slice als nls cls]) (cs := [.int .i64 wd, .int .i64 hi, .bool wr, .slice asp nsp csp, .slice als nls cls]) rfl rfl (fun b1 w2 hN3 => ?_))
  replace B := B.new1 hN3
  clear hN3
  refine s_k rfl (k_boxN (v := .agg #[.slice afe nfe cfe, .slice afx nfx cfx, .slice afy nfy cfy]) (cs := [.slice afe nfe cfe, .slice afx nfx cfx, .slice afy nfy cfy]) rfl rfl (fun b4 w5 hN6 => ?_))
  replace B := B.new1 hN6
  clear hN6
  refine s_k rfl (k_allocN (z := (.agg #[.slice none 0 0, .slice none 0 0, .slice none 0 0])) (cs := [.slice none 0 0, .slice none 0 0, .slice none 0 0]) T70.zero_30 rfl (fun b7 w8 hN9 => ?_))
  replace B := B.new1 hN9
  clear hN9
  refine s_y (v := .bool false) rfl (y_assign rfl) ?_
  refine s_nil ?_
  refine W_seq ?_
  refine W_seq ?_
  refine W_region (by kernel_rfl) ?_
  refine s_y (v := .agg #[.int .i64 wd, .int .i64 hi, .bool wr, .slice asp nsp csp, .slice als nls cls]) rfl (y_loadn (b := b1) (o := 0) (vs := [.int .i64 wd, .int .i64 hi, .bool wr, .slice asp nsp csp, .slice als nls cls]) T70.agg_26_5 rfl rfl ((B.b 2 rfl).cells (o := 0) rfl)) ?_
  refine s_y (v := .agg #[.slice afe nfe cfe, .slice afx nfx cfx, .slice afy nfy cfy]) rfl (y_loadn (b := b4) (o := 0) (vs := [.slice afe nfe cfe, .slice afx nfx cfx, .slice afy nfy cfy]) T70.agg_30_3 rfl rfl ((B.b 1 rfl).cells (o := 0) rfl)) ?_
  refine s_k rfl (k_call T70.fn_41 (c_i_IsField (B.r 3 rfl) (B.r 4 rfl) (B.r 5 rfl) (B.r 6 rfl) (B.r 7 rfl) (by omega) (by omega) (by omega) (by omega) (by omega)) rfl ?_)
  rintro v12 w10 ⟨hv13, e11⟩
  replace B := B.ext0 e11
  clear e11
  by_cases c14 : fieldB wd hi wr Xsp Xls Xfe Xfx Xfy = true
  · have hb15 := fieldB_b c14
    obtain rfl : v12 = .bool true := hv13.trans (congrArg Value.bool c14)
    refine s_y (v := .bool false) rfl (y_not rfl rfl) ?_
    refine s_nil ?_
    refine W_if_f (by decide) rfl ?_
    refine W_skip ?_
    refine W_seq ?_
    refine W_region (by kernel_rfl) ?_
    refine s_y (v := .agg #[.slice afe nfe cfe, .slice afx nfx cfx, .slice afy nfy cfy]) rfl (y_loadn (b := b4) (o := 0) (vs := [.slice afe nfe cfe, .slice afx nfx cfx, .slice afy nfy cfy]) T70.agg_30_3 rfl rfl ((B.b 1 rfl).cells (o := 0) rfl)) ?_
    refine s_k0 rfl (k_stB (v := .agg #[.slice afe nfe cfe, .slice afx nfx cfx, .slice afy nfy cfy]) (n := 3) (cs' := [.slice afe nfe cfe, .slice afx nfx cfx, .slice afy nfy cfy]) T70.sz_30_3 rfl rfl rfl (B.b 0 rfl) (by simp [Value.cells, Value.oneCell']) (Nat.le_of_ble_eq_true rfl) rfl (fun w16 hU17 => ?_))
    replace B : Bu w no w16 [.blk b7 [.slice afe nfe cfe, .slice afx nfx cfx, .slice afy nfy cfy] 30, .blk b4 [.slice afe nfe cfe, .slice afx nfx cfx, .slice afy nfy cfy] 30, .blk b1 [.int .i64 wd, .int .i64 hi, .bool wr, .slice asp nsp csp, .slice als nls cls] 26, .rd kF asp nsp Xsp, .rd kF als nls Xls, .rd kF afe nfe Xfe, .rd kF afx nfx Xfx, .rd kF afy nfy Xfy] := B.upd [0] rfl hU17
    clear hU17
    refine s_y (v := .bool true) rfl (y_assign rfl) ?_
    refine s_nil ?_
    refine W_ret ?_
    refine ret2 (v1 := .agg #[.slice afe nfe cfe, .slice afx nfx cfx, .slice afy nfy cfy]) (v2 := .bool true) rfl rfl rfl ⟨_, [.slice afe nfe cfe, .slice afx nfx cfx, .slice afy nfy cfy], _, rfl, (B.b 0 rfl), T70.agg_30_3, rfl⟩ rfl ⟨_, rfl, ?_⟩
    have hcond : fieldB wd hi wr Xsp Xls Xfe Xfx Xfy = true := by simp only [c14, Bool.and_true, Bool.true_and, Bool.and_false, Bool.false_and, Bool.not_true, Bool.not_false, Bool.or_true, Bool.true_or, Bool.or_false, Bool.false_or]
    exact .inl ⟨hcond, ⟨rfl, B.ext⟩⟩
  · obtain rfl : v12 = .bool false := hv13.trans (congrArg Value.bool (Bool.eq_false_iff.2 c14))
    refine s_y (v := .bool true) rfl (y_not rfl rfl) ?_
    refine s_nil ?_
    refine W_if_t (by decide) rfl ?_
    refine W_seq ?_
    refine W_region (by kernel_rfl) ?_
    refine s_y (v := .agg #[.slice none 0 0, .slice none 0 0, .slice none 0 0]) rfl (y_build (cells := #[.slice none 0 0, .slice none 0 0, .slice none 0 0]) (by kernel_rfl)) ?_
    refine s_k0 rfl (k_stB (v := .agg #[.slice none 0 0, .slice none 0 0, .slice none 0 0]) (n := 3) (cs' := [.slice none 0 0, .slice none 0 0, .slice none 0 0]) T70.sz_30_3 rfl rfl rfl (B.b 0 rfl) (by simp [Value.cells, Value.oneCell']) (Nat.le_of_ble_eq_true rfl) rfl (fun w18 hU19 => ?_))
    replace B : Bu w no w18 [.blk b7 [.slice none 0 0, .slice none 0 0, .slice none 0 0] 30, .blk b4 [.slice afe nfe cfe, .slice afx nfx cfx, .slice afy nfy cfy] 30, .blk b1 [.int .i64 wd, .int .i64 hi, .bool wr, .slice asp nsp csp, .slice als nls cls] 26, .rd kF asp nsp Xsp, .rd kF als nls Xls, .rd kF afe nfe Xfe, .rd kF afx nfx Xfx, .rd kF afy nfy Xfy] := B.upd [0] rfl hU19
    clear hU19
    refine s_y (v := .bool false) rfl (y_assign rfl) ?_
    refine s_nil ?_
    refine W_ret ?_
    refine ret2 (v1 := .agg #[.slice none 0 0, .slice none 0 0, .slice none 0 0]) (v2 := .bool false) rfl rfl rfl ⟨_, [.slice none 0 0, .slice none 0 0, .slice none 0 0], _, rfl, (B.b 0 rfl), T70.agg_30_3, rfl⟩ rfl ⟨_, rfl, ?_⟩
    exact .inr ⟨by simp only [(Bool.eq_false_iff.2 c14), Bool.and_true, Bool.true_and, Bool.and_false, Bool.false_and, Bool.not_true, Bool.not_false, Bool.or_true, Bool.true_or, Bool.or_false, Bool.false_or], rfl, B.ext⟩
namespace T40
theorem mx : Try.prog.follows .mixedOrders = true := by kernel_rfl
theorem agg_26_5 : aggB Try.prog 26 5 = true := by kernel_rfl
theorem agg_30_3 : aggB Try.prog 30 3 = true := by kernel_rfl
theorem fld_30_0_0 : fldB Try.prog 30 0 0 = true := by kernel_rfl
theorem fld_30_1_1 : fldB Try.prog 30 1 1 = true := by kernel_rfl
theorem fld_30_2_2 : fldB Try.prog 30 2 2 = true := by kernel_rfl
theorem fn_41 : fnB Try.prog 41 = true := by kernel_rfl
theorem fn_70 : fnB Try.prog 70 = true := by kernel_rfl
theorem fn_96 : fnB Try.prog 96 = true := by kernel_rfl
theorem fn_97 : fnB Try.prog 97 = true := by kernel_rfl
theorem one_24 : oneB Try.prog 24 = true := by kernel_rfl
theorem sz_30_3 : szB Try.prog 30 3 = true := by kernel_rfl
theorem zero_30 : zeroB Try.prog 30 (.agg #[.slice none 0 0, .slice none 0 0, .slice none 0 0]) := by unfold zeroB; kernel_rfl
end T40
set_option maxRecDepth 100000 in
set_option maxHeartbeats 4000000 in
theorem c_i_ScaleField {wd : Int} {hi : Int} {wr : Bool} {asp : Option Addr} {nsp : Nat} {csp : Nat} {Xsp : List Nat} {als : Option Addr} {nls : Nat} {cls : Nat} {Xls : List Nat} {afe : Option Addr} {nfe : Nat} {cfe : Nat} {Xfe : List Nat} {afx : Option Addr} {nfx : Nat} {cfx : Nat} {Xfx : List Nat} {afy : Option Addr} {nfy : Nat} {cfy : Nat} {Xfy : List Nat} {sv : Nat} {S : Nat} {w : World} (qsp : Rd w kF asp nsp Xsp) (qls : Rd w kF als nls Xls) (qfe : Rd w kF afe nfe Xfe) (qfx : Rd w kF afx nfx Xfx) (qfy : Rd w kF afy nfy Xfy) (hsv : Cn .f32 sv S) (hbsp : nsp ≤ 9223372036854775806) (hbls : nls ≤ 9223372036854775806) (hbfe : nfe ≤ 9223372036854775806) (hbfx : nfx ≤ 9223372036854775806) (hbfy : nfy ≤ 9223372036854775806) :
    Calls Try.prog 40 #[.agg #[.int .i64 wd, .int .i64 hi, .bool wr, .slice asp nsp csp, .slice als nls cls], .agg #[.slice afe nfe cfe, .slice afx nfx cfx, .slice afy nfy cfy], .float .f32 sv] w (Rt fun v w' => (sclB wd hi wr Xsp Xls Xfe Xfx Xfy S = true ∧ ∃ (a1 : Option Addr) (c1 : Nat) (a2 : Option Addr) (c2 : Nat) (a3 : Option Addr) (c3 : Nat), v = .tuple #[.agg #[.slice a1 ((wd * hi).toNat) c1, .slice a2 ((wd * hi).toNat) c2, .slice a3 ((wd * hi).toNat) c3], .bool true] ∧ New w w' [.ow kF a1 ((wd * hi).toNat) c1 34 (mulL (wd * hi) Xfe S), .ow kF a2 ((wd * hi).toNat) c2 34 (mulL (wd * hi) Xfx S), .ow kF a3 ((wd * hi).toNat) c3 34 (mulL (wd * hi) Xfy S)]) ∨ (sclB wd hi wr Xsp Xls Xfe Xfx Xfy S = false ∧ v = .tuple #[.agg #[.slice none 0 0, .slice none 0 0, .slice none 0 0], .bool false] ∧ Ext0 w w')) := by
  have hlsp := qsp.len
  have hlls := qls.len
  have hlfe := qfe.len
  have hlfx := qfx.len
  have hlfy := qfy.len
  have B : Bu w no w [.rd kF asp nsp Xsp, .rd kF als nls Xls, .rd kF afe nfe Xfe, .rd kF afx nfx Xfx, .rd kF afy nfy Xfy] := Bu.ro (All.cons qsp (All.cons qls (All.cons qfe (All.cons qfx (All.cons qfy All.nil))))) rfl
  refine calls_W (n := 38) Try.func40 rfl rfl (Nat.le_of_ble_eq_true rfl) ?_
  refine W_seq ?_
  refine W_region (by kernel_rfl) ?_
  refine s_k rfl (k_boxN (v := .agg #[.int .i64 wd, .int .i64 hi, .bool wr, .slice asp nsp csp, .slice als nls cls]) (cs := [.int .i64 wd, .int .i64 hi, .bool wr, .slice asp nsp csp, .slice als nls cls]) rfl rfl (fun b1 w2 hN3 => ?_))
  replace B := B.new1 hN3
  clear hN3
  refine s_k rfl (k_boxN (v := .agg #[.slice afe nfe cfe, .slice afx nfx cfx, .slice afy nfy cfy]) (cs := [.slice afe nfe cfe, .slice afx nfx cfx, .slice afy nfy cfy]) rfl rfl (fun b4 w5 hN6 => ?_))
  replace B := B.new1 hN6
  clear hN6
  refine s_k rfl (k_boxN (v := .float .f32 sv) (cs := [.float .f32 sv]) rfl rfl (fun b7 w8 hN9 => ?_))
  replace B := B.new1 hN9
  clear hN9
  refine s_k rfl (k_allocN (z := (.agg #[.slice none 0 0, .slice none 0 0, .slice none 0 0])) (cs := [.slice none 0 0, .slice none 0 0, .slice none 0 0]) T40.zero_30 rfl (fun b10 w11 hN12 => ?_))
  replace B := B.new1 hN12
  clear hN12
  refine s_y (v := .bool false) rfl (y_assign rfl) ?_
  refine s_nil ?_
  refine W_seq ?_
  refine W_seq ?_
  refine W_region (by kernel_rfl) ?_
  refine s_y (v := .agg #[.int .i64 wd, .int .i64 hi, .bool wr, .slice asp nsp csp, .slice als nls cls]) rfl (y_loadn (b := b1) (o := 0) (vs := [.int .i64 wd, .int .i64 hi, .bool wr, .slice asp nsp csp, .slice als nls cls]) T40.agg_26_5 rfl rfl ((B.b 3 rfl).cells (o := 0) rfl)) ?_
  refine s_y (v := .agg #[.slice afe nfe cfe, .slice afx nfx cfx, .slice afy nfy cfy]) rfl (y_loadn (b := b4) (o := 0) (vs := [.slice afe nfe cfe, .slice afx nfx cfx, .slice afy nfy cfy]) T40.agg_30_3 rfl rfl ((B.b 2 rfl).cells (o := 0) rfl)) ?_
  refine s_k rfl (k_call T40.fn_41 (c_i_IsField (B.r 4 rfl) (B.r 5 rfl) (B.r 6 rfl) (B.r 7 rfl) (B.r 8 rfl) (by omega) (by omega) (by omega) (by omega) (by omega)) rfl ?_)
  rintro v15 w13 ⟨hv16, e14⟩
  replace B := B.ext0 e14
  clear e14
  by_cases c17 : fieldB wd hi wr Xsp Xls Xfe Xfx Xfy = true
  · have hb18 := fieldB_b c17
    obtain rfl : v15 = .bool true := hv16.trans (congrArg Value.bool c17)
    refine s_y (v := .bool false) rfl (y_not rfl rfl) ?_
    refine s_nil ?_
    refine W_if_f (by decide) rfl ?_
    refine W_skip ?_
    refine W_seq ?_
    refine W_region (by kernel_rfl) ?_
    refine s_y (v := .func (.func 96) #[] #[.pointer (some ⟨b7, 0, none⟩)]) rfl (y_func rfl rfl) ?_
    refine s_y (v := .func (.func 96) #[] #[.pointer (some ⟨b7, 0, none⟩)]) rfl (y_assign rfl) ?_
    refine s_nil ?_
    refine W_seq ?_
    have B0_23 := B
    refine W_draw (at1 b10) T40.mx (by kernel_rfl) (fun w21 e22 => ?_)
    have R24 := Ext.refl (at1 b10) w13
    replace R24 := R24.trans (Ext0.any e22)
    replace B := B.ext0 e22
    clear e22
    refine m_y (v := .agg #[.int .i64 wd, .int .i64 hi, .bool wr, .slice asp nsp csp, .slice als nls cls]) 0 rfl (by kernel_rfl) rfl rfl (fun w' e' => y_loadn (b := b1) (o := 0) (vs := [.int .i64 wd, .int .i64 hi, .bool wr, .slice asp nsp csp, .slice als nls cls]) T40.agg_26_5 rfl rfl ((B0_23.bx 3 0 rfl rfl rfl rfl e' (fun _ h => h)).cells (o := 0) rfl)) ?_
    refine m_y (v := .pointer (some ⟨b4, 0, none⟩)) 1 rfl (by kernel_rfl) rfl rfl (fun w' e' => y_fld (o := 0) T40.fld_30_0_0 rfl) ?_
    refine m_y (v := .slice afe nfe cfe) 2 rfl (by kernel_rfl) rfl rfl (fun w' e' => y_load T40.one_24 rfl ((B0_23.bx 2 0 rfl rfl rfl rfl e' (fun _ h => h)).cell (j := 0) rfl)) ?_
    refine m_y (v := .pointer (some ⟨b4, 0, none⟩)) 3 rfl (by kernel_rfl) rfl rfl (fun w' e' => y_fld (o := 0) T40.fld_30_0_0 rfl) ?_
    refine m_y (v := .slice afe nfe cfe) 4 rfl (by kernel_rfl) rfl rfl (fun w' e' => y_load T40.one_24 rfl ((B0_23.bx 2 0 rfl rfl rfl rfl e' (fun _ h => h)).cell (j := 0) rfl)) ?_
    refine m_y (v := .func (.func 96) #[] #[.pointer (some ⟨b7, 0, none⟩)]) 5 rfl (by kernel_rfl) rfl rfl (fun w' e' => y_move rfl) ?_
    refine m_y (v := .pointer (some ⟨b4, 1, none⟩)) 7 rfl (by kernel_rfl) rfl rfl (fun w' e' => y_fld (o := 0) T40.fld_30_1_1 rfl) ?_
    refine m_y (v := .slice afx nfx cfx) 8 rfl (by kernel_rfl) rfl rfl (fun w' e' => y_load T40.one_24 rfl ((B0_23.bx 2 0 rfl rfl rfl rfl e' (fun _ h => h)).cell (j := 1) rfl)) ?_
    refine m_y (v := .pointer (some ⟨b4, 1, none⟩)) 9 rfl (by kernel_rfl) rfl rfl (fun w' e' => y_fld (o := 0) T40.fld_30_1_1 rfl) ?_
    refine m_y (v := .slice afx nfx cfx) 10 rfl (by kernel_rfl) rfl rfl (fun w' e' => y_load T40.one_24 rfl ((B0_23.bx 2 0 rfl rfl rfl rfl e' (fun _ h => h)).cell (j := 1) rfl)) ?_
    refine m_y (v := .func (.func 96) #[] #[.pointer (some ⟨b7, 0, none⟩)]) 11 rfl (by kernel_rfl) rfl rfl (fun w' e' => y_move rfl) ?_
    refine m_y (v := .pointer (some ⟨b4, 2, none⟩)) 13 rfl (by kernel_rfl) rfl rfl (fun w' e' => y_fld (o := 0) T40.fld_30_2_2 rfl) ?_
    refine m_y (v := .slice afy nfy cfy) 14 rfl (by kernel_rfl) rfl rfl (fun w' e' => y_load T40.one_24 rfl ((B0_23.bx 2 0 rfl rfl rfl rfl e' (fun _ h => h)).cell (j := 2) rfl)) ?_
    refine m_y (v := .pointer (some ⟨b4, 2, none⟩)) 15 rfl (by kernel_rfl) rfl rfl (fun w' e' => y_fld (o := 0) T40.fld_30_2_2 rfl) ?_
    refine m_y (v := .slice afy nfy cfy) 16 rfl (by kernel_rfl) rfl rfl (fun w' e' => y_load T40.one_24 rfl ((B0_23.bx 2 0 rfl rfl rfl rfl e' (fun _ h => h)).cell (j := 2) rfl)) ?_
    refine m_y (v := .func (.func 96) #[] #[.pointer (some ⟨b7, 0, none⟩)]) 17 rfl (by kernel_rfl) rfl rfl (fun w' e' => y_move rfl) ?_
    refine m_k 6 [12, 18, 19, 20, 21, 22, 23, 24] rfl (by kernel_rfl) rfl rfl (fun w25 e26 => ?_)
    replace R24 := R24.trans (Ext0.any e26)
    replace B := B.ext0 e26
    clear e26
    refine k_call T40.fn_97 (c_i_both (f := 96) (us := []) (xs := [.pointer (some ⟨b7, 0, none⟩)]) (FM := (fun a _ => fop .mul .f32 a S)) (B.r 6 rfl) (B.r 6 rfl) T40.fn_96 (fun r R r2 R2 w1 he h1 h2 => (c_i_ScaleField_1 h1 h2 hsv ((B.b 1 rfl).sl.ext0 he))) rfl (by omega)) rfl ?_
    rintro _ w27 ⟨a28, c29, rfl, hN30⟩
    replace R24 := R24.trans (Ext0.any hN30.ext)
    replace B := B.new1 hN30
    clear hN30
    refine ⟨fun _ => R24, ?_⟩
    refine m_k 12 [18, 19, 20, 21, 22, 23, 24] rfl (by kernel_rfl) rfl rfl (fun w31 e32 => ?_)
    replace R24 := R24.trans (Ext0.any e32)
    replace B := B.ext0 e32
    clear e32
    refine k_call T40.fn_97 (c_i_both (f := 96) (us := []) (xs := [.pointer (some ⟨b7, 0, none⟩)]) (FM := (fun a _ => fop .mul .f32 a S)) (B.r 8 rfl) (B.r 8 rfl) T40.fn_96 (fun r R r2 R2 w1 he h1 h2 => (c_i_ScaleField_1 h1 h2 hsv ((B.b 2 rfl).sl.ext0 he))) rfl (by omega)) rfl ?_
    rintro _ w33 ⟨a34, c35, rfl, hN36⟩
    replace R24 := R24.trans (Ext0.any hN36.ext)
    replace B := B.new1 hN36
    clear hN36
    refine ⟨fun _ => R24, ?_⟩
    refine m_k 18 [19, 20, 21, 22, 23, 24] rfl (by kernel_rfl) rfl rfl (fun w37 e38 => ?_)
    replace R24 := R24.trans (Ext0.any e38)
    replace B := B.ext0 e38
    clear e38
    refine k_call T40.fn_97 (c_i_both (f := 96) (us := []) (xs := [.pointer (some ⟨b7, 0, none⟩)]) (FM := (fun a _ => fop .mul .f32 a S)) (B.r 10 rfl) (B.r 10 rfl) T40.fn_96 (fun r R r2 R2 w1 he h1 h2 => (c_i_ScaleField_1 h1 h2 hsv ((B.b 3 rfl).sl.ext0 he))) rfl (by omega)) rfl ?_
    rintro _ w39 ⟨a40, c41, rfl, hN42⟩
    replace R24 := R24.trans (Ext0.any hN42.ext)
    replace B := B.new1 hN42
    clear hN42
    refine ⟨fun _ => R24, ?_⟩
    refine m_y (v := .agg #[.slice a28 nfe c29, .slice a34 nfx c35, .slice a40 nfy c41]) 19 rfl (by kernel_rfl) rfl rfl (fun w' e' => y_build (cells := #[.slice a28 nfe c29, .slice a34 nfx c35, .slice a40 nfy c41]) (by kernel_rfl)) ?_
    refine m_k 20 [21, 22, 23, 24] rfl (by kernel_rfl) rfl rfl (fun w43 e44 => ?_)
    replace R24 := R24.trans (Ext0.any e44)
    replace B := B.ext0 e44
    clear e44
    refine k_call T40.fn_70 (c_i_validField (B.r 7 rfl) (B.r 8 rfl) ((B.o 2 rfl).rd) ((B.o 1 rfl).rd) ((B.o 0 rfl).rd) (by omega) (by omega) (by omega) (by omega) (by omega)) rfl ?_
    rintro v47 w45 hx46
    by_cases c48 : fieldB wd hi wr Xsp Xls (zipL nfe (fun a _ => fop .mul .f32 a S) Xfe Xfe) (zipL nfx (fun a _ => fop .mul .f32 a S) Xfx Xfx) (zipL nfy (fun a _ => fop .mul .f32 a S) Xfy Xfy) = true
    · have hb49 := fieldB_b c48
      obtain ⟨rfl, e50⟩ := (hx46.resolve_right (fun hz => by rw [c48] at hz; cases hz.1)).2
      clear hx46
      replace R24 := R24.trans (Ext0.any e50)
      replace B := B.ext0 e50
      clear e50
      refine ⟨fun _ => R24, ?_⟩
      refine m_y (v := .agg #[.slice a28 nfe c29, .slice a34 nfx c35, .slice a40 nfy c41]) 21 rfl (by kernel_rfl) rfl rfl (fun w' e' => y_extract rfl rfl) ?_
      refine m_y (v := .bool true) 22 rfl (by kernel_rfl) rfl rfl (fun w' e' => y_extract rfl rfl) ?_
      refine m_k 23 [24] rfl (by kernel_rfl) rfl rfl (fun w53 e54 => ?_)
      replace R24 := R24.trans (Ext0.any e54)
      replace B := B.ext0 e54
      clear e54
      refine k_stB (v := .agg #[.slice a28 nfe c29, .slice a34 nfx c35, .slice a40 nfy c41]) (n := 3) (cs' := [.slice a28 nfe c29, .slice a34 nfx c35, .slice a40 nfy c41]) T40.sz_30_3 rfl rfl rfl (B.b 3 rfl) (by simp [Value.cells, Value.oneCell']) (Nat.le_of_ble_eq_true rfl) rfl (fun w51 hU52 => ?_)
      replace R24 := R24.trans hU52.at1
      replace B : Bu w no w51 [.blk b10 [.slice a28 nfe c29, .slice a34 nfx c35, .slice a40 nfy c41] 30, .ow kF a40 nfy c41 34 (zipL nfy (fun a _ => fop .mul .f32 a S) Xfy Xfy), .ow kF a34 nfx c35 34 (zipL nfx (fun a _ => fop .mul .f32 a S) Xfx Xfx), .ow kF a28 nfe c29 34 (zipL nfe (fun a _ => fop .mul .f32 a S) Xfe Xfe), .blk b7 [.float .f32 sv] 34, .blk b4 [.slice afe nfe cfe, .slice afx nfx cfx, .slice afy nfy cfy] 30, .blk b1 [.int .i64 wd, .int .i64 hi, .bool wr, .slice asp nsp csp, .slice als nls cls] 26, .rd kF asp nsp Xsp, .rd kF als nls Xls, .rd kF afe nfe Xfe, .rd kF afx nfx Xfx, .rd kF afy nfy Xfy] := B.upd [3] rfl hU52
      clear hU52
      refine ⟨fun _ => R24, ?_⟩
      refine m_y (v := .bool true) 24 rfl (by kernel_rfl) rfl rfl (fun w' e' => y_assign rfl) ?_
      refine m_done (by kernel_rfl) (fun w55 e56 => ?_)
      replace B := B.ext0 e56
      clear e56
      clear B0_23 R24
      refine W_ret ?_
      refine ret2 (v1 := .agg #[.slice a28 nfe c29, .slice a34 nfx c35, .slice a40 nfy c41]) (v2 := .bool true) rfl rfl rfl ⟨_, [.slice a28 nfe c29, .slice a34 nfx c35, .slice a40 nfy c41], _, rfl, (B.b 0 rfl), T40.agg_30_3, rfl⟩ rfl ⟨_, rfl, ?_⟩
      have hlast := (sclB_i (by omega) (by omega) (by omega)).trans c48
      have hcond : sclB wd hi wr Xsp Xls Xfe Xfx Xfy S = true := by simp only [sclB, hlast, c17, c48, Bool.and_true, Bool.true_and, Bool.and_false, Bool.false_and, Bool.not_true, Bool.not_false, Bool.or_true, Bool.true_or, Bool.or_false, Bool.false_or]
      replace B : Bu w no w55 [.blk b10 [.slice a28 nfe c29, .slice a34 nfx c35, .slice a40 nfy c41] 30, .ow kF a40 nfy c41 34 (zipL nfy (fun a _ => fop .mul .f32 a S) Xfy Xfy), .ow kF a34 nfx c35 34 (zipL nfx (fun a _ => fop .mul .f32 a S) Xfx Xfx), .ow kF a28 ((wd * hi).toNat) c29 34 (mulL (wd * hi) Xfe S), .blk b7 [.float .f32 sv] 34, .blk b4 [.slice afe nfe cfe, .slice afx nfx cfx, .slice afy nfy cfy] 30, .blk b1 [.int .i64 wd, .int .i64 hi, .bool wr, .slice asp nsp csp, .slice als nls cls] 26, .rd kF asp nsp Xsp, .rd kF als nls Xls, .rd kF afe nfe Xfe, .rd kF afx nfx Xfx, .rd kF afy nfy Xfy] := B.castX 3 rfl (by omega) (congrArg (fun q => mulL q _ _) (by omega))
      replace B : Bu w no w55 [.blk b10 [.slice a28 nfe c29, .slice a34 nfx c35, .slice a40 nfy c41] 30, .ow kF a40 nfy c41 34 (zipL nfy (fun a _ => fop .mul .f32 a S) Xfy Xfy), .ow kF a34 ((wd * hi).toNat) c35 34 (mulL (wd * hi) Xfx S), .ow kF a28 ((wd * hi).toNat) c29 34 (mulL (wd * hi) Xfe S), .blk b7 [.float .f32 sv] 34, .blk b4 [.slice afe nfe cfe, .slice afx nfx cfx, .slice afy nfy cfy] 30, .blk b1 [.int .i64 wd, .int .i64 hi, .bool wr, .slice asp nsp csp, .slice als nls cls] 26, .rd kF asp nsp Xsp, .rd kF als nls Xls, .rd kF afe nfe Xfe, .rd kF afx nfx Xfx, .rd kF afy nfy Xfy] := B.castX 2 rfl (by omega) (congrArg (fun q => mulL q _ _) (by omega))
      replace B : Bu w no w55 [.blk b10 [.slice a28 nfe c29, .slice a34 nfx c35, .slice a40 nfy c41] 30, .ow kF a40 ((wd * hi).toNat) c41 34 (mulL (wd * hi) Xfy S), .ow kF a34 ((wd * hi).toNat) c35 34 (mulL (wd * hi) Xfx S), .ow kF a28 ((wd * hi).toNat) c29 34 (mulL (wd * hi) Xfe S), .blk b7 [.float .f32 sv] 34, .blk b4 [.slice afe nfe cfe, .slice afx nfx cfx, .slice afy nfy cfy] 30, .blk b1 [.int .i64 wd, .int .i64 hi, .bool wr, .slice asp nsp csp, .slice als nls cls] 26, .rd kF asp nsp Xsp, .rd kF als nls Xls, .rd kF afe nfe Xfe, .rd kF afx nfx Xfx, .rd kF afy nfy Xfy] := B.castX 1 rfl (by omega) (congrArg (fun q => mulL q _ _) (by omega))
      exact .inl ⟨hcond, ⟨_, _, _, _, _, _, (by rw [(show nfe = (wd * hi).toNat from (by omega)), (show nfx = (wd * hi).toNat from (by omega)), (show nfy = (wd * hi).toNat from (by omega))]), B.give [3, 2, 1] rfl rfl rfl⟩⟩
    · obtain ⟨_, rfl, e57⟩ := hx46.resolve_left (fun hz => c48 hz.1)
      clear hx46
      replace R24 := R24.trans (Ext0.any e57)
      replace B := B.ext0 e57
      clear e57
      refine ⟨fun _ => R24, ?_⟩
      refine m_y (v := .agg #[.slice none 0 0, .slice none 0 0, .slice none 0 0]) 21 rfl (by kernel_rfl) rfl rfl (fun w' e' => y_extract rfl rfl) ?_
      refine m_y (v := .bool false) 22 rfl (by kernel_rfl) rfl rfl (fun w' e' => y_extract rfl rfl) ?_
      refine m_k 23 [24] rfl (by kernel_rfl) rfl rfl (fun w60 e61 => ?_)
      replace R24 := R24.trans (Ext0.any e61)
      replace B := B.ext0 e61
      clear e61
      refine k_stB (v := .agg #[.slice none 0 0, .slice none 0 0, .slice none 0 0]) (n := 3) (cs' := [.slice none 0 0, .slice none 0 0, .slice none 0 0]) T40.sz_30_3 rfl rfl rfl (B.b 3 rfl) (by simp [Value.cells, Value.oneCell']) (Nat.le_of_ble_eq_true rfl) rfl (fun w58 hU59 => ?_)
      replace R24 := R24.trans hU59.at1
      replace B : Bu w no w58 [.blk b10 [.slice none 0 0, .slice none 0 0, .slice none 0 0] 30, .ow kF a40 nfy c41 34 (zipL nfy (fun a _ => fop .mul .f32 a S) Xfy Xfy), .ow kF a34 nfx c35 34 (zipL nfx (fun a _ => fop .mul .f32 a S) Xfx Xfx), .ow kF a28 nfe c29 34 (zipL nfe (fun a _ => fop .mul .f32 a S) Xfe Xfe), .blk b7 [.float .f32 sv] 34, .blk b4 [.slice afe nfe cfe, .slice afx nfx cfx, .slice afy nfy cfy] 30, .blk b1 [.int .i64 wd, .int .i64 hi, .bool wr, .slice asp nsp csp, .slice als nls cls] 26, .rd kF asp nsp Xsp, .rd kF als nls Xls, .rd kF afe nfe Xfe, .rd kF afx nfx Xfx, .rd kF afy nfy Xfy] := B.upd [3] rfl hU59
      clear hU59
      refine ⟨fun _ => R24, ?_⟩
      refine m_y (v := .bool false) 24 rfl (by kernel_rfl) rfl rfl (fun w' e' => y_assign rfl) ?_
      refine m_done (by kernel_rfl) (fun w62 e63 => ?_)
      replace B := B.ext0 e63
      clear e63
      clear B0_23 R24
      refine W_ret ?_
      refine ret2 (v1 := .agg #[.slice none 0 0, .slice none 0 0, .slice none 0 0]) (v2 := .bool false) rfl rfl rfl ⟨_, [.slice none 0 0, .slice none 0 0, .slice none 0 0], _, rfl, (B.b 0 rfl), T40.agg_30_3, rfl⟩ rfl ⟨_, rfl, ?_⟩
      have hlast := (sclB_i (by omega) (by omega) (by omega)).trans (Bool.eq_false_iff.2 c48)
      exact .inr ⟨by simp only [sclB, hlast, c17, (Bool.eq_false_iff.2 c48), Bool.and_true, Bool.true_and, Bool.and_false, Bool.false_and, Bool.not_true, Bool.not_false, Bool.or_true, Bool.true_or, Bool.or_false, Bool.false_or], rfl, B.ext⟩
  · obtain rfl : v15 = .bool false := hv16.trans (congrArg Value.bool (Bool.eq_false_iff.2 c17))
    refine s_y (v := .bool true) rfl (y_not rfl rfl) ?_
    refine s_nil ?_
    refine W_if_t (by decide) rfl ?_
    refine W_seq ?_
    refine W_region (by kernel_rfl) ?_
    refine s_y (v := .agg #[.slice none 0 0, .slice none 0 0, .slice none 0 0]) rfl (y_build (cells := #[.slice none 0 0, .slice none 0 0, .slice none 0 0]) (by kernel_rfl)) ?_
    refine s_k0 rfl (k_stB (v := .agg #[.slice none 0 0, .slice none 0 0, .slice none 0 0]) (n := 3) (cs' := [.slice none 0 0, .slice none 0 0, .slice none 0 0]) T40.sz_30_3 rfl rfl rfl (B.b 0 rfl) (by simp [Value.cells, Value.oneCell']) (Nat.le_of_ble_eq_true rfl) rfl (fun w64 hU65 => ?_))
    replace B : Bu w no w64 [.blk b10 [.slice none 0 0, .slice none 0 0, .slice none 0 0] 30, .blk b7 [.float .f32 sv] 34, .blk b4 [.slice afe nfe cfe, .slice afx nfx cfx, .slice afy nfy cfy] 30, .blk b1 [.int .i64 wd, .int .i64 hi, .bool wr, .slice asp nsp csp, .slice als nls cls] 26, .rd kF asp nsp Xsp, .rd kF als nls Xls, .rd kF afe nfe Xfe, .rd kF afx nfx Xfx, .rd kF afy nfy Xfy] := B.upd [0] rfl hU65
    clear hU65
    refine s_y (v := .bool false) rfl (y_assign rfl) ?_
    refine s_nil ?_
    refine W_ret ?_
    refine ret2 (v1 := .agg #[.slice none 0 0, .slice none 0 0, .slice none 0 0]) (v2 := .bool false) rfl rfl rfl ⟨_, [.slice none 0 0, .slice none 0 0, .slice none 0 0], _, rfl, (B.b 0 rfl), T40.agg_30_3, rfl⟩ rfl ⟨_, rfl, ?_⟩
    exact .inr ⟨by simp only [sclB, (Bool.eq_false_iff.2 c17), Bool.and_true, Bool.true_and, Bool.and_false, Bool.false_and, Bool.not_true, Bool.not_false, Bool.or_true, Bool.true_or, Bool.or_false, Bool.false_or], rfl, B.ext⟩
namespace T101
theorem mx : Try.prog.follows .mixedOrders = true := by kernel_rfl
end T101
set_option maxRecDepth 100000 in
set_option maxHeartbeats 4000000 in
theorem c_i_AddFields_1 {r : Nat} {R : Nat} {r2 : Nat} {R2 : Nat} {w : World} (h1 : Cn .f32 r R) (h2 : Cn .f32 r2 R2) :
    Calls Try.prog 101 #[.float .f32 r, .float .f32 r2] w (Rt fun v w' => (∃ r, v = .float .f32 r ∧ Cn .f32 r (fop .add .f32 R R2)) ∧ Ext0 w w') := by
  have B : Bu w no w [] := Bu.ro All.nil rfl
  refine calls_W (n := 8) Try.func101 rfl rfl (Nat.le_of_ble_eq_true rfl) ?_
  refine W_seq ?_
  refine W_region (by kernel_rfl) ?_
  refine s_y (v := .float .f32 0) rfl (y_assign rfl) ?_
  refine s_nil ?_
  refine W_seq ?_
  refine W_region (by kernel_rfl) ?_
  refine s_y (v := .float .f32 r) rfl (y_move rfl) ?_
  refine s_y (v := .float .f32 r2) rfl (y_move rfl) ?_
  refine s_n rfl (n_arith (by decide) rfl rfl) ?_
  rintro _ w4 e5 ⟨r2, rfl, hr3⟩
  replace B := B.ext0 e5
  clear e5
  have hc6 := fopC hr3 h1 h2
  refine s_y (v := .float .f32 r2) rfl (y_assign rfl) ?_
  refine s_nil ?_
  refine W_ret ?_
  refine ret1 (v := .float .f32 r2) rfl rfl rfl ⟨_, rfl, ?_⟩
  exact ⟨⟨_, rfl, hc6⟩, B.ext⟩
namespace T49
theorem mx : Try.prog.follows .mixedOrders = true := by kernel_rfl
theorem agg_26_5 : aggB Try.prog 26 5 = true := by kernel_rfl
theorem agg_30_3 : aggB Try.prog 30 3 = true := by kernel_rfl
theorem fld_30_0_0 : fldB Try.prog 30 0 0 = true := by kernel_rfl
theorem fld_30_1_1 : fldB Try.prog 30 1 1 = true := by kernel_rfl
theorem fld_30_2_2 : fldB Try.prog 30 2 2 = true := by kernel_rfl
theorem fn_101 : fnB Try.prog 101 = true := by kernel_rfl
theorem fn_41 : fnB Try.prog 41 = true := by kernel_rfl
theorem fn_70 : fnB Try.prog 70 = true := by kernel_rfl
theorem fn_97 : fnB Try.prog 97 = true := by kernel_rfl
theorem one_24 : oneB Try.prog 24 = true := by kernel_rfl
theorem sz_30_3 : szB Try.prog 30 3 = true := by kernel_rfl
theorem zero_30 : zeroB Try.prog 30 (.agg #[.slice none 0 0, .slice none 0 0, .slice none 0 0]) := by unfold zeroB; kernel_rfl
end T49
set_option maxRecDepth 100000 in
set_option maxHeartbeats 4000000 in
theorem c_i_AddFields {wd : Int} {hi : Int} {wr : Bool} {asp : Option Addr} {nsp : Nat} {csp : Nat} {Xsp : List Nat} {als : Option Addr} {nls : Nat} {cls : Nat} {Xls : List Nat} {afe : Option Addr} {nfe : Nat} {cfe : Nat} {Xfe : List Nat} {afx : Option Addr} {nfx : Nat} {cfx : Nat} {Xfx : List Nat} {afy : Option Addr} {nfy : Nat} {cfy : Nat} {Xfy : List Nat} {afe2 : Option Addr} {nfe2 : Nat} {cfe2 : Nat} {Xfe2 : List Nat} {afx2 : Option Addr} {nfx2 : Nat} {cfx2 : Nat} {Xfx2 : List Nat} {afy2 : Option Addr} {nfy2 : Nat} {cfy2 : Nat} {Xfy2 : List Nat} {w : World} (qsp : Rd w kF asp nsp Xsp) (qls : Rd w kF als nls Xls) (qfe : Rd w kF afe nfe Xfe) (qfx : Rd w kF afx nfx Xfx) (qfy : Rd w kF afy nfy Xfy) (qfe2 : Rd w kF afe2 nfe2 Xfe2) (qfx2 : Rd w kF afx2 nfx2 Xfx2) (qfy2 : Rd w kF afy2 nfy2 Xfy2) (hbsp : nsp ≤ 9223372036854775806) (hbls : nls ≤ 9223372036854775806) (hbfe : nfe ≤ 9223372036854775806) (hbfx : nfx ≤ 9223372036854775806) (hbfy : nfy ≤ 9223372036854775806) (hbfe2 : nfe2 ≤ 9223372036854775806) (hbfx2 : nfx2 ≤ 9223372036854775806) (hbfy2 : nfy2 ≤ 9223372036854775806) :
    Calls Try.prog 49 #[.agg #[.int .i64 wd, .int .i64 hi, .bool wr, .slice asp nsp csp, .slice als nls cls], .agg #[.slice afe nfe cfe, .slice afx nfx cfx, .slice afy nfy cfy], .agg #[.slice afe2 nfe2 cfe2, .slice afx2 nfx2 cfx2, .slice afy2 nfy2 cfy2]] w (Rt fun v w' => (addB wd hi wr Xsp Xls Xfe Xfx Xfy Xfe2 Xfx2 Xfy2 = true ∧ ∃ (a1 : Option Addr) (c1 : Nat) (a2 : Option Addr) (c2 : Nat) (a3 : Option Addr) (c3 : Nat), v = .tuple #[.agg #[.slice a1 ((wd * hi).toNat) c1, .slice a2 ((wd * hi).toNat) c2, .slice a3 ((wd * hi).toNat) c3], .bool true] ∧ New w w' [.ow kF a1 ((wd * hi).toNat) c1 34 (addL (wd * hi) Xfe Xfe2), .ow kF a2 ((wd * hi).toNat) c2 34 (addL (wd * hi) Xfx Xfx2), .ow kF a3 ((wd * hi).toNat) c3 34 (addL (wd * hi) Xfy Xfy2)]) ∨ (addB wd hi wr Xsp Xls Xfe Xfx Xfy Xfe2 Xfx2 Xfy2 = false ∧ v = .tuple #[.agg #[.slice none 0 0, .slice none 0 0, .slice none 0 0], .bool false] ∧ Ext0 w w')) := by
  have hlsp := qsp.len
  have hlls := qls.len
  have hlfe := qfe.len
  have hlfx := qfx.len
  have hlfy := qfy.len
  have hlfe2 := qfe2.len
  have hlfx2 := qfx2.len
  have hlfy2 := qfy2.len
  have B : Bu w no w [.rd kF asp nsp Xsp, .rd kF als nls Xls, .rd kF afe nfe Xfe, .rd kF afx nfx Xfx, .rd kF afy nfy Xfy, .rd kF afe2 nfe2 Xfe2, .rd kF afx2 nfx2 Xfx2, .rd kF afy2 nfy2 Xfy2] := Bu.ro (All.cons qsp (All.cons qls (All.cons qfe (All.cons qfx (All.cons qfy (All.cons qfe2 (All.cons qfx2 (All.cons qfy2 All.nil)))))))) rfl
  refine calls_W (n := 43) Try.func49 rfl rfl (Nat.le_of_ble_eq_true rfl) ?_
  refine W_seq ?_
  refine W_region (by kernel_rfl) ?_
  refine s_k rfl (k_boxN (v := .agg #[.int .i64 wd, .int .i64 hi, .bool wr, .slice asp nsp csp, .slice als nls cls]) (cs := [.int .i64 wd, .int .i64 hi, .bool wr, .slice asp nsp csp, .slice als nls cls]) rfl rfl (fun b1 w2 hN3 => ?_))
  replace B := B.new1 hN3
  clear hN3
  refine s_k rfl (k_boxN (v := .agg #[.slice afe nfe cfe, .slice afx nfx cfx, .slice afy nfy cfy]) (cs := [.slice afe nfe cfe, .slice afx nfx cfx, .slice afy nfy cfy]) rfl rfl (fun b4 w5 hN6 => ?_))
  replace B := B.new1 hN6
  clear hN6
  refine s_k rfl (k_boxN (v := .agg #[.slice afe2 nfe2 cfe2, .slice afx2 nfx2 cfx2, .slice afy2 nfy2 cfy2]) (cs := [.slice afe2 nfe2 cfe2, .slice afx2 nfx2 cfx2, .slice afy2 nfy2 cfy2]) rfl rfl (fun b7 w8 hN9 => ?_))
  replace B := B.new1 hN9
  clear hN9
  refine s_k rfl (k_allocN (z := (.agg #[.slice none 0 0, .slice none 0 0, .slice none 0 0])) (cs := [.slice none 0 0, .slice none 0 0, .slice none 0 0]) T49.zero_30 rfl (fun b10 w11 hN12 => ?_))
  replace B := B.new1 hN12
  clear hN12
  refine s_y (v := .bool false) rfl (y_assign rfl) ?_
  refine s_nil ?_
  refine W_seq ?_
  refine W_seq ?_
  refine W_region (by kernel_rfl) ?_
  refine s_y (v := .agg #[.int .i64 wd, .int .i64 hi, .bool wr, .slice asp nsp csp, .slice als nls cls]) rfl (y_loadn (b := b1) (o := 0) (vs := [.int .i64 wd, .int .i64 hi, .bool wr, .slice asp nsp csp, .slice als nls cls]) T49.agg_26_5 rfl rfl ((B.b 3 rfl).cells (o := 0) rfl)) ?_
  refine s_y (v := .agg #[.slice afe nfe cfe, .slice afx nfx cfx, .slice afy nfy cfy]) rfl (y_loadn (b := b4) (o := 0) (vs := [.slice afe nfe cfe, .slice afx nfx cfx, .slice afy nfy cfy]) T49.agg_30_3 rfl rfl ((B.b 2 rfl).cells (o := 0) rfl)) ?_
  refine s_k rfl (k_call T49.fn_41 (c_i_IsField (B.r 4 rfl) (B.r 5 rfl) (B.r 6 rfl) (B.r 7 rfl) (B.r 8 rfl) (by omega) (by omega) (by omega) (by omega) (by omega)) rfl ?_)
  rintro v15 w13 ⟨hv16, e14⟩
  replace B := B.ext0 e14
  clear e14
  by_cases c17 : fieldB wd hi wr Xsp Xls Xfe Xfx Xfy = true
  · have hb18 := fieldB_b c17
    obtain rfl : v15 = .bool true := hv16.trans (congrArg Value.bool c17)
    refine s_y (v := .bool false) rfl (y_not rfl rfl) ?_
    refine s_y (v := .bool false) rfl (y_move rfl) ?_
    refine s_y (v := .agg #[.int .i64 wd, .int .i64 hi, .bool wr, .slice asp nsp csp, .slice als nls cls]) rfl (y_loadn (b := b1) (o := 0) (vs := [.int .i64 wd, .int .i64 hi, .bool wr, .slice asp nsp csp, .slice als nls cls]) T49.agg_26_5 rfl rfl ((B.b 3 rfl).cells (o := 0) rfl)) ?_
    refine s_y (v := .agg #[.slice afe2 nfe2 cfe2, .slice afx2 nfx2 cfx2, .slice afy2 nfy2 cfy2]) rfl (y_loadn (b := b7) (o := 0) (vs := [.slice afe2 nfe2 cfe2, .slice afx2 nfx2 cfx2, .slice afy2 nfy2 cfy2]) T49.agg_30_3 rfl rfl ((B.b 1 rfl).cells (o := 0) rfl)) ?_
    refine s_k rfl (k_call T49.fn_41 (c_i_IsField (B.r 4 rfl) (B.r 5 rfl) (B.r 9 rfl) (B.r 10 rfl) (B.r 11 rfl) (by omega) (by omega) (by omega) (by omega) (by omega)) rfl ?_)
    rintro v21 w19 ⟨hv22, e20⟩
    replace B := B.ext0 e20
    clear e20
    by_cases c23 : fieldB wd hi wr Xsp Xls Xfe2 Xfx2 Xfy2 = true
    · have hb24 := fieldB_b c23
      obtain rfl : v21 = .bool true := hv22.trans (congrArg Value.bool c23)
      refine s_y (v := .bool false) rfl (y_not rfl rfl) ?_
      refine s_y (v := .bool false) rfl (y_pick_f rfl rfl) ?_
      refine s_nil ?_
      refine W_if_f (by decide) rfl ?_
      refine W_skip ?_
      refine W_seq ?_
      refine W_region (by kernel_rfl) ?_
      refine s_y (v := .func (.func 101) #[] #[]) rfl (y_assign rfl) ?_
      refine s_nil ?_
      refine W_seq ?_
      have B0_29 := B
      refine W_draw (at1 b10) T49.mx (by kernel_rfl) (fun w27 e28 => ?_)
      have R30 := Ext.refl (at1 b10) w19
      replace R30 := R30.trans (Ext0.any e28)
      replace B := B.ext0 e28
      clear e28
      refine m_y (v := .agg #[.int .i64 wd, .int .i64 hi, .bool wr, .slice asp nsp csp, .slice als nls cls]) 0 rfl (by kernel_rfl) rfl rfl (fun w' e' => y_loadn (b := b1) (o := 0) (vs := [.int .i64 wd, .int .i64 hi, .bool wr, .slice asp nsp csp, .slice als nls cls]) T49.agg_26_5 rfl rfl ((B0_29.bx 3 0 rfl rfl rfl rfl e' (fun _ h => h)).cells (o := 0) rfl)) ?_
      refine m_y (v := .pointer (some ⟨b4, 0, none⟩)) 1 rfl (by kernel_rfl) rfl rfl (fun w' e' => y_fld (o := 0) T49.fld_30_0_0 rfl) ?_
      refine m_y (v := .slice afe nfe cfe) 2 rfl (by kernel_rfl) rfl rfl (fun w' e' => y_load T49.one_24 rfl ((B0_29.bx 2 0 rfl rfl rfl rfl e' (fun _ h => h)).cell (j := 0) rfl)) ?_
      refine m_y (v := .pointer (some ⟨b7, 0, none⟩)) 3 rfl (by kernel_rfl) rfl rfl (fun w' e' => y_fld (o := 0) T49.fld_30_0_0 rfl) ?_
      refine m_y (v := .slice afe2 nfe2 cfe2) 4 rfl (by kernel_rfl) rfl rfl (fun w' e' => y_load T49.one_24 rfl ((B0_29.bx 1 0 rfl rfl rfl rfl e' (fun _ h => h)).cell (j := 0) rfl)) ?_
      refine m_y (v := .func (.func 101) #[] #[]) 5 rfl (by kernel_rfl) rfl rfl (fun w' e' => y_move rfl) ?_
      refine m_y (v := .pointer (some ⟨b4, 1, none⟩)) 7 rfl (by kernel_rfl) rfl rfl (fun w' e' => y_fld (o := 0) T49.fld_30_1_1 rfl) ?_
      refine m_y (v := .slice afx nfx cfx) 8 rfl (by kernel_rfl) rfl rfl (fun w' e' => y_load T49.one_24 rfl ((B0_29.bx 2 0 rfl rfl rfl rfl e' (fun _ h => h)).cell (j := 1) rfl)) ?_
      refine m_y (v := .pointer (some ⟨b7, 1, none⟩)) 9 rfl (by kernel_rfl) rfl rfl (fun w' e' => y_fld (o := 0) T49.fld_30_1_1 rfl) ?_
      refine m_y (v := .slice afx2 nfx2 cfx2) 10 rfl (by kernel_rfl) rfl rfl (fun w' e' => y_load T49.one_24 rfl ((B0_29.bx 1 0 rfl rfl rfl rfl e' (fun _ h => h)).cell (j := 1) rfl)) ?_
      refine m_y (v := .func (.func 101) #[] #[]) 11 rfl (by kernel_rfl) rfl rfl (fun w' e' => y_move rfl) ?_
      refine m_y (v := .pointer (some ⟨b4, 2, none⟩)) 13 rfl (by kernel_rfl) rfl rfl (fun w' e' => y_fld (o := 0) T49.fld_30_2_2 rfl) ?_
      refine m_y (v := .slice afy nfy cfy) 14 rfl (by kernel_rfl) rfl rfl (fun w' e' => y_load T49.one_24 rfl ((B0_29.bx 2 0 rfl rfl rfl rfl e' (fun _ h => h)).cell (j := 2) rfl)) ?_
      refine m_y (v := .pointer (some ⟨b7, 2, none⟩)) 15 rfl (by kernel_rfl) rfl rfl (fun w' e' => y_fld (o := 0) T49.fld_30_2_2 rfl) ?_
      refine m_y (v := .slice afy2 nfy2 cfy2) 16 rfl (by kernel_rfl) rfl rfl (fun w' e' => y_load T49.one_24 rfl ((B0_29.bx 1 0 rfl rfl rfl rfl e' (fun _ h => h)).cell (j := 2) rfl)) ?_
      refine m_y (v := .func (.func 101) #[] #[]) 17 rfl (by kernel_rfl) rfl rfl (fun w' e' => y_move rfl) ?_
      refine m_k 6 [12, 18, 19, 20, 21, 22, 23, 24] rfl (by kernel_rfl) rfl rfl (fun w31 e32 => ?_)
      replace R30 := R30.trans (Ext0.any e32)
      replace B := B.ext0 e32
      clear e32
      refine k_call T49.fn_97 (c_i_both (f := 101) (us := []) (xs := []) (FM := (fun a b => fop .add .f32 a b)) (B.r 6 rfl) (B.r 9 rfl) T49.fn_101 (fun r R r2 R2 w1 he h1 h2 => (c_i_AddFields_1 h1 h2)) (by omega) (by omega)) rfl ?_
      rintro _ w33 ⟨a34, c35, rfl, hN36⟩
      replace R30 := R30.trans (Ext0.any hN36.ext)
      replace B := B.new1 hN36
      clear hN36
      refine ⟨fun _ => R30, ?_⟩
      refine m_k 12 [18, 19, 20, 21, 22, 23, 24] rfl (by kernel_rfl) rfl rfl (fun w37 e38 => ?_)
      replace R30 := R30.trans (Ext0.any e38)
      replace B := B.ext0 e38
      clear e38
      refine k_call T49.fn_97 (c_i_both (f := 101) (us := []) (xs := []) (FM := (fun a b => fop .add .f32 a b)) (B.r 8 rfl) (B.r 11 rfl) T49.fn_101 (fun r R r2 R2 w1 he h1 h2 => (c_i_AddFields_1 h1 h2)) (by omega) (by omega)) rfl ?_
      rintro _ w39 ⟨a40, c41, rfl, hN42⟩
      replace R30 := R30.trans (Ext0.any hN42.ext)
      replace B := B.new1 hN42
      clear hN42
      refine ⟨fun _ => R30, ?_⟩
      refine m_k 18 [19, 20, 21, 22, 23, 24] rfl (by kernel_rfl) rfl rfl (fun w43 e44 => ?_)
      replace R30 := R30.trans (Ext0.any e44)
      replace B := B.ext0 e44
      clear e44
      refine k_call T49.fn_97 (c_i_both (f := 101) (us := []) (xs := []) (FM := (fun a b => fop .add .f32 a b)) (B.r 10 rfl) (B.r 13 rfl) T49.fn_101 (fun r R r2 R2 w1 he h1 h2 => (c_i_AddFields_1 h1 h2)) (by omega) (by omega)) rfl ?_
      rintro _ w45 ⟨a46, c47, rfl, hN48⟩
      replace R30 := R30.trans (Ext0.any hN48.ext)
      replace B := B.new1 hN48
      clear hN48
      refine ⟨fun _ => R30, ?_⟩
      refine m_y (v := .agg #[.slice a34 nfe c35, .slice a40 nfx c41, .slice a46 nfy c47]) 19 rfl (by kernel_rfl) rfl rfl (fun w' e' => y_build (cells := #[.slice a34 nfe c35, .slice a40 nfx c41, .slice a46 nfy c47]) (by kernel_rfl)) ?_
      refine m_k 20 [21, 22, 23, 24] rfl (by kernel_rfl) rfl rfl (fun w49 e50 => ?_)
      replace R30 := R30.trans (Ext0.any e50)
      replace B := B.ext0 e50
      clear e50
      refine k_call T49.fn_70 (c_i_validField (B.r 7 rfl) (B.r 8 rfl) ((B.o 2 rfl).rd) ((B.o 1 rfl).rd) ((B.o 0 rfl).rd) (by omega) (by omega) (by omega) (by omega) (by omega)) rfl ?_
      rintro v53 w51 hx52
      by_cases c54 : fieldB wd hi wr Xsp Xls (zipL nfe (fun a b => fop .add .f32 a b) Xfe Xfe2) (zipL nfx (fun a b => fop .add .f32 a b) Xfx Xfx2) (zipL nfy (fun a b => fop .add .f32 a b) Xfy Xfy2) = true
      · have hb55 := fieldB_b c54
        obtain ⟨rfl, e56⟩ := (hx52.resolve_right (fun hz => by rw [c54] at hz; cases hz.1)).2
        clear hx52
        replace R30 := R30.trans (Ext0.any e56)
        replace B := B.ext0 e56
        clear e56
        refine ⟨fun _ => R30, ?_⟩
        refine m_y (v := .agg #[.slice a34 nfe c35, .slice a40 nfx c41, .slice a46 nfy c47]) 21 rfl (by kernel_rfl) rfl rfl (fun w' e' => y_extract rfl rfl) ?_
        refine m_y (v := .bool true) 22 rfl (by kernel_rfl) rfl rfl (fun w' e' => y_extract rfl rfl) ?_
        refine m_k 23 [24] rfl (by kernel_rfl) rfl rfl (fun w59 e60 => ?_)
        replace R30 := R30.trans (Ext0.any e60)
        replace B := B.ext0 e60
        clear e60
        refine k_stB (v := .agg #[.slice a34 nfe c35, .slice a40 nfx c41, .slice a46 nfy c47]) (n := 3) (cs' := [.slice a34 nfe c35, .slice a40 nfx c41, .slice a46 nfy c47]) T49.sz_30_3 rfl rfl rfl (B.b 3 rfl) (by simp [Value.cells, Value.oneCell']) (Nat.le_of_ble_eq_true rfl) rfl (fun w57 hU58 => ?_)
        replace R30 := R30.trans hU58.at1
        replace B : Bu w no w57 [.blk b10 [.slice a34 nfe c35, .slice a40 nfx c41, .slice a46 nfy c47] 30, .ow kF a46 nfy c47 34 (zipL nfy (fun a b => fop .add .f32 a b) Xfy Xfy2), .ow kF a40 nfx c41 34 (zipL nfx (fun a b => fop .add .f32 a b) Xfx Xfx2), .ow kF a34 nfe c35 34 (zipL nfe (fun a b => fop .add .f32 a b) Xfe Xfe2), .blk b7 [.slice afe2 nfe2 cfe2, .slice afx2 nfx2 cfx2, .slice afy2 nfy2 cfy2] 30, .blk b4 [.slice afe nfe cfe, .slice afx nfx cfx, .slice afy nfy cfy] 30, .blk b1 [.int .i64 wd, .int .i64 hi, .bool wr, .slice asp nsp csp, .slice als nls cls] 26, .rd kF asp nsp Xsp, .rd kF als nls Xls, .rd kF afe nfe Xfe, .rd kF afx nfx Xfx, .rd kF afy nfy Xfy, .rd kF afe2 nfe2 Xfe2, .rd kF afx2 nfx2 Xfx2, .rd kF afy2 nfy2 Xfy2] := B.upd [3] rfl hU58
        clear hU58
        refine ⟨fun _ => R30, ?_⟩
        refine m_y (v := .bool true) 24 rfl (by kernel_rfl) rfl rfl (fun w' e' => y_assign rfl) ?_
        refine m_done (by kernel_rfl) (fun w61 e62 => ?_)
        replace B := B.ext0 e62
        clear e62
        clear B0_29 R30
        refine W_ret ?_
        refine ret2 (v1 := .agg #[.slice a34 nfe c35, .slice a40 nfx c41, .slice a46 nfy c47]) (v2 := .bool true) rfl rfl rfl ⟨_, [.slice a34 nfe c35, .slice a40 nfx c41, .slice a46 nfy c47], _, rfl, (B.b 0 rfl), T49.agg_30_3, rfl⟩ rfl ⟨_, rfl, ?_⟩
        have hlast := (addB_i (by omega) (by omega) (by omega)).trans c54
        have hcond : addB wd hi wr Xsp Xls Xfe Xfx Xfy Xfe2 Xfx2 Xfy2 = true := by simp only [addB, hlast, c17, c23, c54, Bool.and_true, Bool.true_and, Bool.and_false, Bool.false_and, Bool.not_true, Bool.not_false, Bool.or_true, Bool.true_or, Bool.or_false, Bool.false_or]
        replace B : Bu w no w61 [.blk b10 [.slice a34 nfe c35, .slice a40 nfx c41, .slice a46 nfy c47] 30, .ow kF a46 nfy c47 34 (zipL nfy (fun a b => fop .add .f32 a b) Xfy Xfy2), .ow kF a40 nfx c41 34 (zipL nfx (fun a b => fop .add .f32 a b) Xfx Xfx2), .ow kF a34 ((wd * hi).toNat) c35 34 (addL (wd * hi) Xfe Xfe2), .blk b7 [.slice afe2 nfe2 cfe2, .slice afx2 nfx2 cfx2, .slice afy2 nfy2 cfy2] 30, .blk b4 [.slice afe nfe cfe, .slice afx nfx cfx, .slice afy nfy cfy] 30, .blk b1 [.int .i64 wd, .int .i64 hi, .bool wr, .slice asp nsp csp, .slice als nls cls] 26, .rd kF asp nsp Xsp, .rd kF als nls Xls, .rd kF afe nfe Xfe, .rd kF afx nfx Xfx, .rd kF afy nfy Xfy, .rd kF afe2 nfe2 Xfe2, .rd kF afx2 nfx2 Xfx2, .rd kF afy2 nfy2 Xfy2] := B.castX 3 rfl (by omega) (congrArg (fun q => addL q _ _) (by omega))
        replace B : Bu w no w61 [.blk b10 [.slice a34 nfe c35, .slice a40 nfx c41, .slice a46 nfy c47] 30, .ow kF a46 nfy c47 34 (zipL nfy (fun a b => fop .add .f32 a b) Xfy Xfy2), .ow kF a40 ((wd * hi).toNat) c41 34 (addL (wd * hi) Xfx Xfx2), .ow kF a34 ((wd * hi).toNat) c35 34 (addL (wd * hi) Xfe Xfe2), .blk b7 [.slice afe2 nfe2 cfe2, .slice afx2 nfx2 cfx2, .slice afy2 nfy2 cfy2] 30, .blk b4 [.slice afe nfe cfe, .slice afx nfx cfx, .slice afy nfy cfy] 30, .blk b1 [.int .i64 wd, .int .i64 hi, .bool wr, .slice asp nsp csp, .slice als nls cls] 26, .rd kF asp nsp Xsp, .rd kF als nls Xls, .rd kF afe nfe Xfe, .rd kF afx nfx Xfx, .rd kF afy nfy Xfy, .rd kF afe2 nfe2 Xfe2, .rd kF afx2 nfx2 Xfx2, .rd kF afy2 nfy2 Xfy2] := B.castX 2 rfl (by omega) (congrArg (fun q => addL q _ _) (by omega))
        replace B : Bu w no w61 [.blk b10 [.slice a34 nfe c35, .slice a40 nfx c41, .slice a46 nfy c47] 30, .ow kF a46 ((wd * hi).toNat) c47 34 (addL (wd * hi) Xfy Xfy2), .ow kF a40 ((wd * hi).toNat) c41 34 (addL (wd * hi) Xfx Xfx2), .ow kF a34 ((wd * hi).toNat) c35 34 (addL (wd * hi) Xfe Xfe2), .blk b7 [.slice afe2 nfe2 cfe2, .slice afx2 nfx2 cfx2, .slice afy2 nfy2 cfy2] 30, .blk b4 [.slice afe nfe cfe, .slice afx nfx cfx, .slice afy nfy cfy] 30, .blk b1 [.int .i64 wd, .int .i64 hi, .bool wr, .slice asp nsp csp, .slice als nls cls] 26, .rd kF asp nsp Xsp, .rd kF als nls Xls, .rd kF afe nfe Xfe, .rd kF afx nfx Xfx, .rd kF afy nfy Xfy, .rd kF afe2 nfe2 Xfe2, .rd kF afx2 nfx2 Xfx2, .rd kF afy2 nfy2 Xfy2] := B.castX 1 rfl (by omega) (congrArg (fun q => addL q _ _) (by omega))
        exact .inl ⟨hcond, ⟨_, _, _, _, _, _, (by rw [(show nfe = (wd * hi).toNat from (by omega)), (show nfx = (wd * hi).toNat from (by omega)), (show nfy = (wd * hi).toNat from (by omega))]), B.give [3, 2, 1] rfl rfl rfl⟩⟩
      · obtain ⟨_, rfl, e63⟩ := hx52.resolve_left (fun hz => c54 hz.1)
        clear hx52
        replace R30 := R30.trans (Ext0.any e63)
        replace B := B.ext0 e63
        clear e63
        refine ⟨fun _ => R30, ?_⟩
        refine m_y (v := .agg #[.slice none 0 0, .slice none 0 0, .slice none 0 0]) 21 rfl (by kernel_rfl) rfl rfl (fun w' e' => y_extract rfl rfl) ?_
        refine m_y (v := .bool false) 22 rfl (by kernel_rfl) rfl rfl (fun w' e' => y_extract rfl rfl) ?_
        refine m_k 23 [24] rfl (by kernel_rfl) rfl rfl (fun w66 e67 => ?_)
        replace R30 := R30.trans (Ext0.any e67)
        replace B := B.ext0 e67
        clear e67
        refine k_stB (v := .agg #[.slice none 0 0, .slice none 0 0, .slice none 0 0]) (n := 3) (cs' := [.slice none 0 0, .slice none 0 0, .slice none 0 0]) T49.sz_30_3 rfl rfl rfl (B.b 3 rfl) (by simp [Value.cells, Value.oneCell']) (Nat.le_of_ble_eq_true rfl) rfl (fun w64 hU65 => ?_)
        replace R30 := R30.trans hU65.at1
        replace B : Bu w no w64 [.blk b10 [.slice none 0 0, .slice none 0 0, .slice none 0 0] 30, .ow kF a46 nfy c47 34 (zipL nfy (fun a b => fop .add .f32 a b) Xfy Xfy2), .ow kF a40 nfx c41 34 (zipL nfx (fun a b => fop .add .f32 a b) Xfx Xfx2), .ow kF a34 nfe c35 34 (zipL nfe (fun a b => fop .add .f32 a b) Xfe Xfe2), .blk b7 [.slice afe2 nfe2 cfe2, .slice afx2 nfx2 cfx2, .slice afy2 nfy2 cfy2] 30, .blk b4 [.slice afe nfe cfe, .slice afx nfx cfx, .slice afy nfy cfy] 30, .blk b1 [.int .i64 wd, .int .i64 hi, .bool wr, .slice asp nsp csp, .slice als nls cls] 26, .rd kF asp nsp Xsp, .rd kF als nls Xls, .rd kF afe nfe Xfe, .rd kF afx nfx Xfx, .rd kF afy nfy Xfy, .rd kF afe2 nfe2 Xfe2, .rd kF afx2 nfx2 Xfx2, .rd kF afy2 nfy2 Xfy2] := B.upd [3] rfl hU65
        clear hU65
        refine ⟨fun _ => R30, ?_⟩
        refine m_y (v := .bool false) 24 rfl (by kernel_rfl) rfl rfl (fun w' e' => y_assign rfl) ?_
        refine m_done (by kernel_rfl) (fun w68 e69 => ?_)
        replace B := B.ext0 e69
        clear e69
        clear B0_29 R30
        refine W_ret ?_
        refine ret2 (v1 := .agg #[.slice none 0 0, .slice none 0 0, .slice none 0 0]) (v2 := .bool false) rfl rfl rfl ⟨_, [.slice none 0 0, .slice none 0 0, .slice none 0 0], _, rfl, (B.b 0 rfl), T49.agg_30_3, rfl⟩ rfl ⟨_, rfl, ?_⟩
        have hlast := (addB_i (by omega) (by omega) (by omega)).trans (Bool.eq_false_iff.2 c54)
        exact .inr ⟨by simp only [addB, hlast, c17, c23, (Bool.eq_false_iff.2 c54), Bool.and_true, Bool.true_and, Bool.and_false, Bool.false_and, Bool.not_true, Bool.not_false, Bool.or_true, Bool.true_or, Bool.or_false, Bool.false_or], rfl, B.ext⟩
    · obtain rfl : v21 = .bool false := hv22.trans (congrArg Value.bool (Bool.eq_false_iff.2 c23))
      refine s_y (v := .bool true) rfl (y_not rfl rfl) ?_
      refine s_y (v := .bool true) rfl (y_pick_f rfl rfl) ?_
      refine s_nil ?_
      refine W_if_t (by decide) rfl ?_
      refine W_seq ?_
      refine W_region (by kernel_rfl) ?_
      refine s_y (v := .agg #[.slice none 0 0, .slice none 0 0, .slice none 0 0]) rfl (y_build (cells := #[.slice none 0 0, .slice none 0 0, .slice none 0 0]) (by kernel_rfl)) ?_
      refine s_k0 rfl (k_stB (v := .agg #[.slice none 0 0, .slice none 0 0, .slice none 0 0]) (n := 3) (cs' := [.slice none 0 0, .slice none 0 0, .slice none 0 0]) T49.sz_30_3 rfl rfl rfl (B.b 0 rfl) (by simp [Value.cells, Value.oneCell']) (Nat.le_of_ble_eq_true rfl) rfl (fun w70 hU71 => ?_))
      replace B : Bu w no w70 [.blk b10 [.slice none 0 0, .slice none 0 0, .slice none 0 0] 30, .blk b7 [.slice afe2 nfe2 cfe2, .slice afx2 nfx2 cfx2, .slice afy2 nfy2 cfy2] 30, .blk b4 [.slice afe nfe cfe, .slice afx nfx cfx, .slice afy nfy cfy] 30, .blk b1 [.int .i64 wd, .int .i64 hi, .bool wr, .slice asp nsp csp, .slice als nls cls] 26, .rd kF asp nsp Xsp, .rd kF als nls Xls, .rd kF afe nfe Xfe, .rd kF afx nfx Xfx, .rd kF afy nfy Xfy, .rd kF afe2 nfe2 Xfe2, .rd kF afx2 nfx2 Xfx2, .rd kF afy2 nfy2 Xfy2] := B.upd [0] rfl hU71
      clear hU71
      refine s_y (v := .bool false) rfl (y_assign rfl) ?_
      refine s_nil ?_
      refine W_ret ?_
      refine ret2 (v1 := .agg #[.slice none 0 0, .slice none 0 0, .slice none 0 0]) (v2 := .bool false) rfl rfl rfl ⟨_, [.slice none 0 0, .slice none 0 0, .slice none 0 0], _, rfl, (B.b 0 rfl), T49.agg_30_3, rfl⟩ rfl ⟨_, rfl, ?_⟩
      exact .inr ⟨by simp only [addB, c17, (Bool.eq_false_iff.2 c23), Bool.and_true, Bool.true_and, Bool.and_false, Bool.false_and, Bool.not_true, Bool.not_false, Bool.or_true, Bool.true_or, Bool.or_false, Bool.false_or], rfl, B.ext⟩
  · obtain rfl : v15 = .bool false := hv16.trans (congrArg Value.bool (Bool.eq_false_iff.2 c17))
    refine s_y (v := .bool true) rfl (y_not rfl rfl) ?_
    refine s_y (v := .bool true) rfl (y_move rfl) ?_
    refine s_skip rfl ?_
    refine s_skip rfl ?_
    refine s_skip rfl ?_
    refine s_skip rfl ?_
    refine s_y (v := .bool true) rfl (y_pick_t rfl rfl) ?_
    refine s_nil ?_
    refine W_if_t (by decide) rfl ?_
    refine W_seq ?_
    refine W_region (by kernel_rfl) ?_
    refine s_y (v := .agg #[.slice none 0 0, .slice none 0 0, .slice none 0 0]) rfl (y_build (cells := #[.slice none 0 0, .slice none 0 0, .slice none 0 0]) (by kernel_rfl)) ?_
    refine s_k0 rfl (k_stB (v := .agg #[.slice none 0 0, .slice none 0 0, .slice none 0 0]) (n := 3) (cs' := [.slice none 0 0, .slice none 0 0, .slice none 0 0]) T49.sz_30_3 rfl rfl rfl (B.b 0 rfl) (by simp [Value.cells, Value.oneCell']) (Nat.le_of_ble_eq_true rfl) rfl (fun w72 hU73 => ?_))
    replace B : Bu w no w72 [.blk b10 [.slice none 0 0, .slice none 0 0, .slice none 0 0] 30, .blk b7 [.slice afe2 nfe2 cfe2, .slice afx2 nfx2 cfx2, .slice afy2 nfy2 cfy2] 30, .blk b4 [.slice afe nfe cfe, .slice afx nfx cfx, .slice afy nfy cfy] 30, .blk b1 [.int .i64 wd, .int .i64 hi, .bool wr, .slice asp nsp csp, .slice als nls cls] 26, .rd kF asp nsp Xsp, .rd kF als nls Xls, .rd kF afe nfe Xfe, .rd kF afx nfx Xfx, .rd kF afy nfy Xfy, .rd kF afe2 nfe2 Xfe2, .rd kF afx2 nfx2 Xfx2, .rd kF afy2 nfy2 Xfy2] := B.upd [0] rfl hU73
    clear hU73
    refine s_y (v := .bool false) rfl (y_assign rfl) ?_
    refine s_nil ?_
    refine W_ret ?_
    refine ret2 (v1 := .agg #[.slice none 0 0, .slice none 0 0, .slice none 0 0]) (v2 := .bool false) rfl rfl rfl ⟨_, [.slice none 0 0, .slice none 0 0, .slice none 0 0], _, rfl, (B.b 0 rfl), T49.agg_30_3, rfl⟩ rfl ⟨_, rfl, ?_⟩
    exact .inr ⟨by simp only [addB, (Bool.eq_false_iff.2 c17), Bool.and_true, Bool.true_and, Bool.and_false, Bool.false_and, Bool.not_true, Bool.not_false, Bool.or_true, Bool.true_or, Bool.or_false, Bool.false_or], rfl, B.ext⟩
namespace T66
theorem mx : Try.prog.follows .mixedOrders = true := by kernel_rfl
theorem agg_30_3 : aggB Try.prog 30 3 = true := by kernel_rfl
theorem fld_26_0_0 : fldB Try.prog 26 0 0 = true := by kernel_rfl
theorem fld_26_1_1 : fldB Try.prog 26 1 1 = true := by kernel_rfl
theorem one_2 : oneB Try.prog 2 = true := by kernel_rfl
theorem slt_24 : SlT Try.prog 24 34 1 4 (.float .f32 0) := ⟨by kernel_rfl, by kernel_rfl, rfl, by decide⟩
theorem sz_30_3 : szB Try.prog 30 3 = true := by kernel_rfl
theorem zero_30 : zeroB Try.prog 30 (.agg #[.slice none 0 0, .slice none 0 0, .slice none 0 0]) := by unfold zeroB; kernel_rfl
end T66
set_option maxRecDepth 100000 in
set_option maxHeartbeats 4000000 in
theorem c_i_zeroField {wd : Int} {hi : Int} {wr : Bool} {asp : Option Addr} {nsp : Nat} {csp : Nat} {als : Option Addr} {nls : Nat} {cls : Nat} {w : World} (h1 : 3 ≤ wd) (h2 : wd ≤ 16) (h3 : 3 ≤ hi) (h4 : hi ≤ 16) :
    Calls Try.prog 66 #[.agg #[.int .i64 wd, .int .i64 hi, .bool wr, .slice asp nsp csp, .slice als nls cls]] w (Rt fun v w' => ∃ (a1 : Option Addr) (c1 : Nat) (a2 : Option Addr) (c2 : Nat) (a3 : Option Addr) (c3 : Nat), v = .agg #[.slice a1 (Int.toNat (wd * hi)) c1, .slice a2 (Int.toNat (wd * hi)) c2, .slice a3 (Int.toNat (wd * hi)) c3] ∧ New w w' [.ow kF a1 (Int.toNat (wd * hi)) c1 34 (List.replicate (Int.toNat (wd * hi)) 0), .ow kF a2 (Int.toNat (wd * hi)) c2 34 (List.replicate (Int.toNat (wd * hi)) 0), .ow kF a3 (Int.toNat (wd * hi)) c3 34 (List.replicate (Int.toNat (wd * hi)) 0)]) := by
  have B : Bu w no w [] := Bu.ro All.nil rfl
  refine calls_W (n := 16) Try.func66 rfl rfl (Nat.le_of_ble_eq_true rfl) ?_
  refine W_seq ?_
  refine W_region (by kernel_rfl) ?_
  refine s_k rfl (k_boxN (v := .agg #[.int .i64 wd, .int .i64 hi, .bool wr, .slice asp nsp csp, .slice als nls cls]) (cs := [.int .i64 wd, .int .i64 hi, .bool wr, .slice asp nsp csp, .slice als nls cls]) rfl rfl (fun b1 w2 hN3 => ?_))
  replace B := B.new1 hN3
  clear hN3
  refine s_k rfl (k_allocN (z := (.agg #[.slice none 0 0, .slice none 0 0, .slice none 0 0])) (cs := [.slice none 0 0, .slice none 0 0, .slice none 0 0]) T66.zero_30 rfl (fun b4 w5 hN6 => ?_))
  replace B := B.new1 hN6
  clear hN6
  refine s_nil ?_
  refine W_seq ?_
  refine W_region (by kernel_rfl) ?_
  refine s_y (v := .pointer (some ⟨b1, 0, none⟩)) rfl (y_fld (o := 0) T66.fld_26_0_0 rfl) ?_
  refine s_y (v := .int .i64 wd) rfl (y_load T66.one_2 rfl ((B.b 1 rfl).cell (j := 0) rfl)) ?_
  refine s_y (v := .pointer (some ⟨b1, 1, none⟩)) rfl (y_fld (o := 0) T66.fld_26_1_1 rfl) ?_
  refine s_y (v := .int .i64 hi) rfl (y_load T66.one_2 rfl ((B.b 1 rfl).cell (j := 1) rfl)) ?_
  have hm7 := mulb (a := wd) (b := hi) (by omega) (by omega) (by omega) (by omega)
  refine s_y (v := .int .i64 (wd * hi)) rfl (y_mul rfl rfl rfl (by omega)) ?_
  refine s_y (v := .int .i64 (wd * hi)) rfl (y_assign rfl) ?_
  refine s_nil ?_
  refine W_seq ?_
  have B0_10 := B
  refine W_drawI (no) (fun ρ' w' => (∃ (ρ1 : Env) (b18 : Nat) (b25 : Nat) (b28 : Nat), ρ' = updL ρ1 [(2, .pointer (some ⟨b4, 0, none⟩))] ∧ Bu w no w' [.ow kF (some ⟨b18, 0, none⟩) ((wd * hi).toNat) ((wd * hi).toNat) 34 (List.replicate (wd * hi).toNat 0), .ow kF (some ⟨b25, 0, none⟩) ((wd * hi).toNat) ((wd * hi).toNat) 34 (List.replicate (wd * hi).toNat 0), .ow kF (some ⟨b28, 0, none⟩) ((wd * hi).toNat) ((wd * hi).toNat) 34 (List.replicate (wd * hi).toNat 0), .blk b4 [.slice (some ⟨b18, 0, none⟩) ((wd * hi).toNat) ((wd * hi).toNat), .slice (some ⟨b25, 0, none⟩) ((wd * hi).toNat) ((wd * hi).toNat), .slice (some ⟨b28, 0, none⟩) ((wd * hi).toNat) ((wd * hi).toNat)] 30, .blk b1 [.int .i64 wd, .int .i64 hi, .bool wr, .slice asp nsp csp, .slice als nls cls] 26])) T66.mx (by kernel_rfl) (fun w8 e9 => ?_) ?_
  · have R11 := Ext.refl (no) w5
    replace R11 := R11.trans (Ext0.any e9)
    replace B := B.ext0 e9
    clear e9
    refine m_y (v := .int .i64 (wd * hi)) 0 rfl (by kernel_rfl) rfl rfl (fun w' e' => y_move rfl) ?_
    refine m_y (v := .int .i64 (wd * hi)) 2 rfl (by kernel_rfl) rfl rfl (fun w' e' => y_move rfl) ?_
    refine m_y (v := .int .i64 (wd * hi)) 4 rfl (by kernel_rfl) rfl rfl (fun w' e' => y_move rfl) ?_
    refine m_three 1 3 5 (by kernel_rfl) rfl rfl rfl rfl rfl rfl rfl rfl rfl (fun w12 e13 => ?_) (fun w14 e15 => ?_) (fun w16 e17 => ?_)
    · replace R11 := R11.trans (Ext0.any e13)
      replace B := B.ext0 e13
      clear e13
      refine k_mkO (k := kF) (z0 := 0) T66.slt_24 ⟨0, rfl, cn_zero⟩ rfl rfl (by omega) (by omega) (by omega) (fun b18 w19 hN20 => ?_)
      replace R11 := R11.trans (Ext0.any hN20.ext)
      replace B := B.new1 hN20
      clear hN20
      refine ⟨fun _ => R11, ?_⟩
      refine m_two 3 5 (by kernel_rfl) rfl rfl rfl rfl rfl rfl (fun w21 e22 => ?_) (fun w23 e24 => ?_)
      · replace R11 := R11.trans (Ext0.any e22)
        replace B := B.ext0 e22
        clear e22
        refine k_mkO (k := kF) (z0 := 0) T66.slt_24 ⟨0, rfl, cn_zero⟩ rfl rfl (by omega) (by omega) (by omega) (fun b25 w26 hN27 => ?_)
        replace R11 := R11.trans (Ext0.any hN27.ext)
        replace B := B.new1 hN27
        clear hN27
        refine ⟨fun _ => R11, ?_⟩
        refine m_k 5 [6, 7] rfl (by kernel_rfl) rfl rfl (fun w31 e32 => ?_)
        replace R11 := R11.trans (Ext0.any e32)
        replace B := B.ext0 e32
        clear e32
        refine k_mkO (k := kF) (z0 := 0) T66.slt_24 ⟨0, rfl, cn_zero⟩ rfl rfl (by omega) (by omega) (by omega) (fun b28 w29 hN30 => ?_)
        replace R11 := R11.trans (Ext0.any hN30.ext)
        replace B := B.new1 hN30
        clear hN30
        refine ⟨fun _ => R11, ?_⟩
        refine m_y (v := .agg #[.slice (some ⟨b18, 0, none⟩) ((wd * hi).toNat) ((wd * hi).toNat), .slice (some ⟨b25, 0, none⟩) ((wd * hi).toNat) ((wd * hi).toNat), .slice (some ⟨b28, 0, none⟩) ((wd * hi).toNat) ((wd * hi).toNat)]) 6 rfl (by kernel_rfl) rfl rfl (fun w' e' => y_build (cells := #[.slice (some ⟨b18, 0, none⟩) ((wd * hi).toNat) ((wd * hi).toNat), .slice (some ⟨b25, 0, none⟩) ((wd * hi).toNat) ((wd * hi).toNat), .slice (some ⟨b28, 0, none⟩) ((wd * hi).toNat) ((wd * hi).toNat)]) (by kernel_rfl)) ?_
        refine m_kt 7 [] rfl (by kernel_rfl) rfl rfl (by kernel_rfl) (fun w35 e36 => ?_)
        replace R11 := R11.trans (Ext0.any e36)
        replace B := B.ext0 e36
        clear e36
        refine k_stB (v := .agg #[.slice (some ⟨b18, 0, none⟩) ((wd * hi).toNat) ((wd * hi).toNat), .slice (some ⟨b25, 0, none⟩) ((wd * hi).toNat) ((wd * hi).toNat), .slice (some ⟨b28, 0, none⟩) ((wd * hi).toNat) ((wd * hi).toNat)]) (n := 3) (cs' := [.slice (some ⟨b18, 0, none⟩) ((wd * hi).toNat) ((wd * hi).toNat), .slice (some ⟨b25, 0, none⟩) ((wd * hi).toNat) ((wd * hi).toNat), .slice (some ⟨b28, 0, none⟩) ((wd * hi).toNat) ((wd * hi).toNat)]) T66.sz_30_3 rfl rfl rfl (B.b 3 rfl) (by simp [Value.cells, Value.oneCell']) (Nat.le_of_ble_eq_true rfl) rfl (fun w33 hU34 => ?_)
        clear R11
        replace B : Bu w no w33 [.blk b4 [.slice (some ⟨b18, 0, none⟩) ((wd * hi).toNat) ((wd * hi).toNat), .slice (some ⟨b25, 0, none⟩) ((wd * hi).toNat) ((wd * hi).toNat), .slice (some ⟨b28, 0, none⟩) ((wd * hi).toNat) ((wd * hi).toNat)] 30, .ow kF (some ⟨b28, 0, none⟩) ((wd * hi).toNat) ((wd * hi).toNat) 34 (List.replicate (wd * hi).toNat 0), .ow kF (some ⟨b25, 0, none⟩) ((wd * hi).toNat) ((wd * hi).toNat) 34 (List.replicate (wd * hi).toNat 0), .ow kF (some ⟨b18, 0, none⟩) ((wd * hi).toNat) ((wd * hi).toNat) 34 (List.replicate (wd * hi).toNat 0), .blk b1 [.int .i64 wd, .int .i64 hi, .bool wr, .slice asp nsp csp, .slice als nls cls] 26] := B.upd [3] rfl hU34
        clear hU34
        refine m_done (by kernel_rfl) (fun w37 e38 => ?_)
        replace B := B.ext0 e38
        clear e38
        clear B0_10
        exact ⟨_, b18, b25, b28, Fits.eq ⟨rfl, trivial⟩, B.pick [3, 2, 1, 0, 4] rfl rfl⟩
      · replace R11 := R11.trans (Ext0.any e24)
        replace B := B.ext0 e24
        clear e24
        refine k_mkO (k := kF) (z0 := 0) T66.slt_24 ⟨0, rfl, cn_zero⟩ rfl rfl (by omega) (by omega) (by omega) (fun b39 w40 hN41 => ?_)
        replace R11 := R11.trans (Ext0.any hN41.ext)
        replace B := B.new1 hN41
        clear hN41
        refine ⟨fun _ => R11, ?_⟩
        refine m_k 3 [6, 7] rfl (by kernel_rfl) rfl rfl (fun w45 e46 => ?_)
        replace R11 := R11.trans (Ext0.any e46)
        replace B := B.ext0 e46
        clear e46
        refine k_mkO (k := kF) (z0 := 0) T66.slt_24 ⟨0, rfl, cn_zero⟩ rfl rfl (by omega) (by omega) (by omega) (fun b42 w43 hN44 => ?_)
        replace R11 := R11.trans (Ext0.any hN44.ext)
        replace B := B.new1 hN44
        clear hN44
        refine ⟨fun _ => R11, ?_⟩
        refine m_y (v := .agg #[.slice (some ⟨b18, 0, none⟩) ((wd * hi).toNat) ((wd * hi).toNat), .slice (some ⟨b42, 0, none⟩) ((wd * hi).toNat) ((wd * hi).toNat), .slice (some ⟨b39, 0, none⟩) ((wd * hi).toNat) ((wd * hi).toNat)]) 6 rfl (by kernel_rfl) rfl rfl (fun w' e' => y_build (cells := #[.slice (some ⟨b18, 0, none⟩) ((wd * hi).toNat) ((wd * hi).toNat), .slice (some ⟨b42, 0, none⟩) ((wd * hi).toNat) ((wd * hi).toNat), .slice (some ⟨b39, 0, none⟩) ((wd * hi).toNat) ((wd * hi).toNat)]) (by kernel_rfl)) ?_
        refine m_kt 7 [] rfl (by kernel_rfl) rfl rfl (by kernel_rfl) (fun w49 e50 => ?_)
        replace R11 := R11.trans (Ext0.any e50)
        replace B := B.ext0 e50
        clear e50
        refine k_stB (v := .agg #[.slice (some ⟨b18, 0, none⟩) ((wd * hi).toNat) ((wd * hi).toNat), .slice (some ⟨b42, 0, none⟩) ((wd * hi).toNat) ((wd * hi).toNat), .slice (some ⟨b39, 0, none⟩) ((wd * hi).toNat) ((wd * hi).toNat)]) (n := 3) (cs' := [.slice (some ⟨b18, 0, none⟩) ((wd * hi).toNat) ((wd * hi).toNat), .slice (some ⟨b42, 0, none⟩) ((wd * hi).toNat) ((wd * hi).toNat), .slice (some ⟨b39, 0, none⟩) ((wd * hi).toNat) ((wd * hi).toNat)]) T66.sz_30_3 rfl rfl rfl (B.b 3 rfl) (by simp [Value.cells, Value.oneCell']) (Nat.le_of_ble_eq_true rfl) rfl (fun w47 hU48 => ?_)
        clear R11
        replace B : Bu w no w47 [.blk b4 [.slice (some ⟨b18, 0, none⟩) ((wd * hi).toNat) ((wd * hi).toNat), .slice (some ⟨b42, 0, none⟩) ((wd * hi).toNat) ((wd * hi).toNat), .slice (some ⟨b39, 0, none⟩) ((wd * hi).toNat) ((wd * hi).toNat)] 30, .ow kF (some ⟨b42, 0, none⟩) ((wd * hi).toNat) ((wd * hi).toNat) 34 (List.replicate (wd * hi).toNat 0), .ow kF (some ⟨b39, 0, none⟩) ((wd * hi).toNat) ((wd * hi).toNat) 34 (List.replicate (wd * hi).toNat 0), .ow kF (some ⟨b18, 0, none⟩) ((wd * hi).toNat) ((wd * hi).toNat) 34 (List.replicate (wd * hi).toNat 0), .blk b1 [.int .i64 wd, .int .i64 hi, .bool wr, .slice asp nsp csp, .slice als nls cls] 26] := B.upd [3] rfl hU48
        clear hU48
        refine m_done (by kernel_rfl) (fun w51 e52 => ?_)
        replace B := B.ext0 e52
        clear e52
        clear B0_10
        exact ⟨_, b18, b42, b39, Fits.eq ⟨rfl, trivial⟩, B.pick [3, 1, 2, 0, 4] rfl rfl⟩
    · replace R11 := R11.trans (Ext0.any e15)
      replace B := B.ext0 e15
      clear e15
      refine k_mkO (k := kF) (z0 := 0) T66.slt_24 ⟨0, rfl, cn_zero⟩ rfl rfl (by omega) (by omega) (by omega) (fun b53 w54 hN55 => ?_)
      replace R11 := R11.trans (Ext0.any hN55.ext)
      replace B := B.new1 hN55
      clear hN55
      refine ⟨fun _ => R11, ?_⟩
      refine m_two 1 5 (by kernel_rfl) rfl rfl rfl rfl rfl rfl (fun w56 e57 => ?_) (fun w58 e59 => ?_)
      · replace R11 := R11.trans (Ext0.any e57)
        replace B := B.ext0 e57
        clear e57
        refine k_mkO (k := kF) (z0 := 0) T66.slt_24 ⟨0, rfl, cn_zero⟩ rfl rfl (by omega) (by omega) (by omega) (fun b60 w61 hN62 => ?_)
        replace R11 := R11.trans (Ext0.any hN62.ext)
        replace B := B.new1 hN62
        clear hN62
        refine ⟨fun _ => R11, ?_⟩
        refine m_k 5 [6, 7] rfl (by kernel_rfl) rfl rfl (fun w66 e67 => ?_)
        replace R11 := R11.trans (Ext0.any e67)
        replace B := B.ext0 e67
        clear e67
        refine k_mkO (k := kF) (z0 := 0) T66.slt_24 ⟨0, rfl, cn_zero⟩ rfl rfl (by omega) (by omega) (by omega) (fun b63 w64 hN65 => ?_)
        replace R11 := R11.trans (Ext0.any hN65.ext)
        replace B := B.new1 hN65
        clear hN65
        refine ⟨fun _ => R11, ?_⟩
        refine m_y (v := .agg #[.slice (some ⟨b60, 0, none⟩) ((wd * hi).toNat) ((wd * hi).toNat), .slice (some ⟨b53, 0, none⟩) ((wd * hi).toNat) ((wd * hi).toNat), .slice (some ⟨b63, 0, none⟩) ((wd * hi).toNat) ((wd * hi).toNat)]) 6 rfl (by kernel_rfl) rfl rfl (fun w' e' => y_build (cells := #[.slice (some ⟨b60, 0, none⟩) ((wd * hi).toNat) ((wd * hi).toNat), .slice (some ⟨b53, 0, none⟩) ((wd * hi).toNat) ((wd * hi).toNat), .slice (some ⟨b63, 0, none⟩) ((wd * hi).toNat) ((wd * hi).toNat)]) (by kernel_rfl)) ?_
        refine m_kt 7 [] rfl (by kernel_rfl) rfl rfl (by kernel_rfl) (fun w70 e71 => ?_)
        replace R11 := R11.trans (Ext0.any e71)
        replace B := B.ext0 e71
        clear e71
        refine k_stB (v := .agg #[.slice (some ⟨b60, 0, none⟩) ((wd * hi).toNat) ((wd * hi).toNat), .slice (some ⟨b53, 0, none⟩) ((wd * hi).toNat) ((wd * hi).toNat), .slice (some ⟨b63, 0, none⟩) ((wd * hi).toNat) ((wd * hi).toNat)]) (n := 3) (cs' := [.slice (some ⟨b60, 0, none⟩) ((wd * hi).toNat) ((wd * hi).toNat), .slice (some ⟨b53, 0, none⟩) ((wd * hi).toNat) ((wd * hi).toNat), .slice (some ⟨b63, 0, none⟩) ((wd * hi).toNat) ((wd * hi).toNat)]) T66.sz_30_3 rfl rfl rfl (B.b 3 rfl) (by simp [Value.cells, Value.oneCell']) (Nat.le_of_ble_eq_true rfl) rfl (fun w68 hU69 => ?_)
        clear R11
        replace B : Bu w no w68 [.blk b4 [.slice (some ⟨b60, 0, none⟩) ((wd * hi).toNat) ((wd * hi).toNat), .slice (some ⟨b53, 0, none⟩) ((wd * hi).toNat) ((wd * hi).toNat), .slice (some ⟨b63, 0, none⟩) ((wd * hi).toNat) ((wd * hi).toNat)] 30, .ow kF (some ⟨b63, 0, none⟩) ((wd * hi).toNat) ((wd * hi).toNat) 34 (List.replicate (wd * hi).toNat 0), .ow kF (some ⟨b60, 0, none⟩) ((wd * hi).toNat) ((wd * hi).toNat) 34 (List.replicate (wd * hi).toNat 0), .ow kF (some ⟨b53, 0, none⟩) ((wd * hi).toNat) ((wd * hi).toNat) 34 (List.replicate (wd * hi).toNat 0), .blk b1 [.int .i64 wd, .int .i64 hi, .bool wr, .slice asp nsp csp, .slice als nls cls] 26] := B.upd [3] rfl hU69
        clear hU69
        refine m_done (by kernel_rfl) (fun w72 e73 => ?_)
        replace B := B.ext0 e73
        clear e73
        clear B0_10
        exact ⟨_, b60, b53, b63, Fits.eq ⟨rfl, trivial⟩, B.pick [2, 3, 1, 0, 4] rfl rfl⟩
      · replace R11 := R11.trans (Ext0.any e59)
        replace B := B.ext0 e59
        clear e59
        refine k_mkO (k := kF) (z0 := 0) T66.slt_24 ⟨0, rfl, cn_zero⟩ rfl rfl (by omega) (by omega) (by omega) (fun b74 w75 hN76 => ?_)
        replace R11 := R11.trans (Ext0.any hN76.ext)
        replace B := B.new1 hN76
        clear hN76
        refine ⟨fun _ => R11, ?_⟩
        refine m_k 1 [6, 7] rfl (by kernel_rfl) rfl rfl (fun w80 e81 => ?_)
        replace R11 := R11.trans (Ext0.any e81)
        replace B := B.ext0 e81
        clear e81
        refine k_mkO (k := kF) (z0 := 0) T66.slt_24 ⟨0, rfl, cn_zero⟩ rfl rfl (by omega) (by omega) (by omega) (fun b77 w78 hN79 => ?_)
        replace R11 := R11.trans (Ext0.any hN79.ext)
        replace B := B.new1 hN79
        clear hN79
        refine ⟨fun _ => R11, ?_⟩
        refine m_y (v := .agg #[.slice (some ⟨b77, 0, none⟩) ((wd * hi).toNat) ((wd * hi).toNat), .slice (some ⟨b53, 0, none⟩) ((wd * hi).toNat) ((wd * hi).toNat), .slice (some ⟨b74, 0, none⟩) ((wd * hi).toNat) ((wd * hi).toNat)]) 6 rfl (by kernel_rfl) rfl rfl (fun w' e' => y_build (cells := #[.slice (some ⟨b77, 0, none⟩) ((wd * hi).toNat) ((wd * hi).toNat), .slice (some ⟨b53, 0, none⟩) ((wd * hi).toNat) ((wd * hi).toNat), .slice (some ⟨b74, 0, none⟩) ((wd * hi).toNat) ((wd * hi).toNat)]) (by kernel_rfl)) ?_
        refine m_kt 7 [] rfl (by kernel_rfl) rfl rfl (by kernel_rfl) (fun w84 e85 => ?_)
        replace R11 := R11.trans (Ext0.any e85)
        replace B := B.ext0 e85
        clear e85
        refine k_stB (v := .agg #[.slice (some ⟨b77, 0, none⟩) ((wd * hi).toNat) ((wd * hi).toNat), .slice (some ⟨b53, 0, none⟩) ((wd * hi).toNat) ((wd * hi).toNat), .slice (some ⟨b74, 0, none⟩) ((wd * hi).toNat) ((wd * hi).toNat)]) (n := 3) (cs' := [.slice (some ⟨b77, 0, none⟩) ((wd * hi).toNat) ((wd * hi).toNat), .slice (some ⟨b53, 0, none⟩) ((wd * hi).toNat) ((wd * hi).toNat), .slice (some ⟨b74, 0, none⟩) ((wd * hi).toNat) ((wd * hi).toNat)]) T66.sz_30_3 rfl rfl rfl (B.b 3 rfl) (by simp [Value.cells, Value.oneCell']) (Nat.le_of_ble_eq_true rfl) rfl (fun w82 hU83 => ?_)
        clear R11
        replace B : Bu w no w82 [.blk b4 [.slice (some ⟨b77, 0, none⟩) ((wd * hi).toNat) ((wd * hi).toNat), .slice (some ⟨b53, 0, none⟩) ((wd * hi).toNat) ((wd * hi).toNat), .slice (some ⟨b74, 0, none⟩) ((wd * hi).toNat) ((wd * hi).toNat)] 30, .ow kF (some ⟨b77, 0, none⟩) ((wd * hi).toNat) ((wd * hi).toNat) 34 (List.replicate (wd * hi).toNat 0), .ow kF (some ⟨b74, 0, none⟩) ((wd * hi).toNat) ((wd * hi).toNat) 34 (List.replicate (wd * hi).toNat 0), .ow kF (some ⟨b53, 0, none⟩) ((wd * hi).toNat) ((wd * hi).toNat) 34 (List.replicate (wd * hi).toNat 0), .blk b1 [.int .i64 wd, .int .i64 hi, .bool wr, .slice asp nsp csp, .slice als nls cls] 26] := B.upd [3] rfl hU83
        clear hU83
        refine m_done (by kernel_rfl) (fun w86 e87 => ?_)
        replace B := B.ext0 e87
        clear e87
        clear B0_10
        exact ⟨_, b77, b53, b74, Fits.eq ⟨rfl, trivial⟩, B.pick [1, 3, 2, 0, 4] rfl rfl⟩
    · replace R11 := R11.trans (Ext0.any e17)
      replace B := B.ext0 e17
      clear e17
      refine k_mkO (k := kF) (z0 := 0) T66.slt_24 ⟨0, rfl, cn_zero⟩ rfl rfl (by omega) (by omega) (by omega) (fun b88 w89 hN90 => ?_)
      replace R11 := R11.trans (Ext0.any hN90.ext)
      replace B := B.new1 hN90
      clear hN90
      refine ⟨fun _ => R11, ?_⟩
      refine m_two 1 3 (by kernel_rfl) rfl rfl rfl rfl rfl rfl (fun w91 e92 => ?_) (fun w93 e94 => ?_)
      · replace R11 := R11.trans (Ext0.any e92)
        replace B := B.ext0 e92
        clear e92
        refine k_mkO (k := kF) (z0 := 0) T66.slt_24 ⟨0, rfl, cn_zero⟩ rfl rfl (by omega) (by omega) (by omega) (fun b95 w96 hN97 => ?_)
        replace R11 := R11.trans (Ext0.any hN97.ext)
        replace B := B.new1 hN97
        clear hN97
        refine ⟨fun _ => R11, ?_⟩
        refine m_k 3 [6, 7] rfl (by kernel_rfl) rfl rfl (fun w101 e102 => ?_)
        replace R11 := R11.trans (Ext0.any e102)
        replace B := B.ext0 e102
        clear e102
        refine k_mkO (k := kF) (z0 := 0) T66.slt_24 ⟨0, rfl, cn_zero⟩ rfl rfl (by omega) (by omega) (by omega) (fun b98 w99 hN100 => ?_)
        replace R11 := R11.trans (Ext0.any hN100.ext)
        replace B := B.new1 hN100
        clear hN100
        refine ⟨fun _ => R11, ?_⟩
        refine m_y (v := .agg #[.slice (some ⟨b95, 0, none⟩) ((wd * hi).toNat) ((wd * hi).toNat), .slice (some ⟨b98, 0, none⟩) ((wd * hi).toNat) ((wd * hi).toNat), .slice (some ⟨b88, 0, none⟩) ((wd * hi).toNat) ((wd * hi).toNat)]) 6 rfl (by kernel_rfl) rfl rfl (fun w' e' => y_build (cells := #[.slice (some ⟨b95, 0, none⟩) ((wd * hi).toNat) ((wd * hi).toNat), .slice (some ⟨b98, 0, none⟩) ((wd * hi).toNat) ((wd * hi).toNat), .slice (some ⟨b88, 0, none⟩) ((wd * hi).toNat) ((wd * hi).toNat)]) (by kernel_rfl)) ?_
        refine m_kt 7 [] rfl (by kernel_rfl) rfl rfl (by kernel_rfl) (fun w105 e106 => ?_)
        replace R11 := R11.trans (Ext0.any e106)
        replace B := B.ext0 e106
        clear e106
        refine k_stB (v := .agg #[.slice (some ⟨b95, 0, none⟩) ((wd * hi).toNat) ((wd * hi).toNat), .slice (some ⟨b98, 0, none⟩) ((wd * hi).toNat) ((wd * hi).toNat), .slice (some ⟨b88, 0, none⟩) ((wd * hi).toNat) ((wd * hi).toNat)]) (n := 3) (cs' := [.slice (some ⟨b95, 0, none⟩) ((wd * hi).toNat) ((wd * hi).toNat), .slice (some ⟨b98, 0, none⟩) ((wd * hi).toNat) ((wd * hi).toNat), .slice (some ⟨b88, 0, none⟩) ((wd * hi).toNat) ((wd * hi).toNat)]) T66.sz_30_3 rfl rfl rfl (B.b 3 rfl) (by simp [Value.cells, Value.oneCell']) (Nat.le_of_ble_eq_true rfl) rfl (fun w103 hU104 => ?_)
        clear R11
        replace B : Bu w no w103 [.blk b4 [.slice (some ⟨b95, 0, none⟩) ((wd * hi).toNat) ((wd * hi).toNat), .slice (some ⟨b98, 0, none⟩) ((wd * hi).toNat) ((wd * hi).toNat), .slice (some ⟨b88, 0, none⟩) ((wd * hi).toNat) ((wd * hi).toNat)] 30, .ow kF (some ⟨b98, 0, none⟩) ((wd * hi).toNat) ((wd * hi).toNat) 34 (List.replicate (wd * hi).toNat 0), .ow kF (some ⟨b95, 0, none⟩) ((wd * hi).toNat) ((wd * hi).toNat) 34 (List.replicate (wd * hi).toNat 0), .ow kF (some ⟨b88, 0, none⟩) ((wd * hi).toNat) ((wd * hi).toNat) 34 (List.replicate (wd * hi).toNat 0), .blk b1 [.int .i64 wd, .int .i64 hi, .bool wr, .slice asp nsp csp, .slice als nls cls] 26] := B.upd [3] rfl hU104
        clear hU104
        refine m_done (by kernel_rfl) (fun w107 e108 => ?_)
        replace B := B.ext0 e108
        clear e108
        clear B0_10
        exact ⟨_, b95, b98, b88, Fits.eq ⟨rfl, trivial⟩, B.pick [2, 1, 3, 0, 4] rfl rfl⟩
      · replace R11 := R11.trans (Ext0.any e94)
        replace B := B.ext0 e94
        clear e94
        refine k_mkO (k := kF) (z0 := 0) T66.slt_24 ⟨0, rfl, cn_zero⟩ rfl rfl (by omega) (by omega) (by omega) (fun b109 w110 hN111 => ?_)
        replace R11 := R11.trans (Ext0.any hN111.ext)
        replace B := B.new1 hN111
        clear hN111
        refine ⟨fun _ => R11, ?_⟩
        refine m_k 1 [6, 7] rfl (by kernel_rfl) rfl rfl (fun w115 e116 => ?_)
        replace R11 := R11.trans (Ext0.any e116)
        replace B := B.ext0 e116
        clear e116
        refine k_mkO (k := kF) (z0 := 0) T66.slt_24 ⟨0, rfl, cn_zero⟩ rfl rfl (by omega) (by omega) (by omega) (fun b112 w113 hN114 => ?_)
        replace R11 := R11.trans (Ext0.any hN114.ext)
        replace B := B.new1 hN114
        clear hN114
        refine ⟨fun _ => R11, ?_⟩
        refine m_y (v := .agg #[.slice (some ⟨b112, 0, none⟩) ((wd * hi).toNat) ((wd * hi).toNat), .slice (some ⟨b109, 0, none⟩) ((wd * hi).toNat) ((wd * hi).toNat), .slice (some ⟨b88, 0, none⟩) ((wd * hi).toNat) ((wd * hi).toNat)]) 6 rfl (by kernel_rfl) rfl rfl (fun w' e' => y_build (cells := #[.slice (some ⟨b112, 0, none⟩) ((wd * hi).toNat) ((wd * hi).toNat), .slice (some ⟨b109, 0, none⟩) ((wd * hi).toNat) ((wd * hi).toNat), .slice (some ⟨b88, 0, none⟩) ((wd * hi).toNat) ((wd * hi).toNat)]) (by kernel_rfl)) ?_
        refine m_kt 7 [] rfl (by kernel_rfl) rfl rfl (by kernel_rfl) (fun w119 e120 => ?_)
        replace R11 := R11.trans (Ext0.any e120)
        replace B := B.ext0 e120
        clear e120
        refine k_stB (v := .agg #[.slice (some ⟨b112, 0, none⟩) ((wd * hi).toNat) ((wd * hi).toNat), .slice (some ⟨b109, 0, none⟩) ((wd * hi).toNat) ((wd * hi).toNat), .slice (some ⟨b88, 0, none⟩) ((wd * hi).toNat) ((wd * hi).toNat)]) (n := 3) (cs' := [.slice (some ⟨b112, 0, none⟩) ((wd * hi).toNat) ((wd * hi).toNat), .slice (some ⟨b109, 0, none⟩) ((wd * hi).toNat) ((wd * hi).toNat), .slice (some ⟨b88, 0, none⟩) ((wd * hi).toNat) ((wd * hi).toNat)]) T66.sz_30_3 rfl rfl rfl (B.b 3 rfl) (by simp [Value.cells, Value.oneCell']) (Nat.le_of_ble_eq_true rfl) rfl (fun w117 hU118 => ?_)
        clear R11
        replace B : Bu w no w117 [.blk b4 [.slice (some ⟨b112, 0, none⟩) ((wd * hi).toNat) ((wd * hi).toNat), .slice (some ⟨b109, 0, none⟩) ((wd * hi).toNat) ((wd * hi).toNat), .slice (some ⟨b88, 0, none⟩) ((wd * hi).toNat) ((wd * hi).toNat)] 30, .ow kF (some ⟨b112, 0, none⟩) ((wd * hi).toNat) ((wd * hi).toNat) 34 (List.replicate (wd * hi).toNat 0), .ow kF (some ⟨b109, 0, none⟩) ((wd * hi).toNat) ((wd * hi).toNat) 34 (List.replicate (wd * hi).toNat 0), .ow kF (some ⟨b88, 0, none⟩) ((wd * hi).toNat) ((wd * hi).toNat) 34 (List.replicate (wd * hi).toNat 0), .blk b1 [.int .i64 wd, .int .i64 hi, .bool wr, .slice asp nsp csp, .slice als nls cls] 26] := B.upd [3] rfl hU118
        clear hU118
        refine m_done (by kernel_rfl) (fun w121 e122 => ?_)
        replace B := B.ext0 e122
        clear e122
        clear B0_10
        exact ⟨_, b112, b109, b88, Fits.eq ⟨rfl, trivial⟩, B.pick [1, 2, 3, 0, 4] rfl rfl⟩
  · clear B; rintro _ w123 (⟨ρ124, b18, b25, b28, rfl, B⟩)
    refine W_ret ?_
    refine ret1 (v := .agg #[.slice (some ⟨b18, 0, none⟩) ((wd * hi).toNat) ((wd * hi).toNat), .slice (some ⟨b25, 0, none⟩) ((wd * hi).toNat) ((wd * hi).toNat), .slice (some ⟨b28, 0, none⟩) ((wd * hi).toNat) ((wd * hi).toNat)]) rfl rfl ⟨_, [.slice (some ⟨b18, 0, none⟩) ((wd * hi).toNat) ((wd * hi).toNat), .slice (some ⟨b25, 0, none⟩) ((wd * hi).toNat) ((wd * hi).toNat), .slice (some ⟨b28, 0, none⟩) ((wd * hi).toNat) ((wd * hi).toNat)], _, rfl, (B.b 3 rfl), T66.agg_30_3, rfl⟩ ⟨_, rfl, ?_⟩
    exact ⟨_, _, _, _, _, _, rfl, B.give [0, 1, 2] rfl rfl rfl⟩
namespace T15
theorem mx : Try.prog.follows .mixedOrders = true := by kernel_rfl
theorem agg_26_5 : aggB Try.prog 26 5 = true := by kernel_rfl
theorem agg_30_3 : aggB Try.prog 30 3 = true := by kernel_rfl
theorem fn_65 : fnB Try.prog 65 = true := by kernel_rfl
theorem fn_66 : fnB Try.prog 66 = true := by kernel_rfl
theorem sz_30_3 : szB Try.prog 30 3 = true := by kernel_rfl
theorem zero_30 : zeroB Try.prog 30 (.agg #[.slice none 0 0, .slice none 0 0, .slice none 0 0]) := by unfold zeroB; kernel_rfl
end T15
set_option maxRecDepth 100000 in
set_option maxHeartbeats 4000000 in
theorem c_i_ZeroField {wd : Int} {hi : Int} {wr : Bool} {asp : Option Addr} {nsp : Nat} {csp : Nat} {Xsp : List Nat} {als : Option Addr} {nls : Nat} {cls : Nat} {Xls : List Nat} {w : World} (qsp : Rd w kF asp nsp Xsp) (qls : Rd w kF als nls Xls) (hbsp : nsp ≤ 9223372036854775806) (hbls : nls ≤ 9223372036854775806) :
    Calls Try.prog 15 #[.agg #[.int .i64 wd, .int .i64 hi, .bool wr, .slice asp nsp csp, .slice als nls cls]] w (Rt fun v w' => (validS wd hi Xsp Xls = true ∧ ∃ (a1 : Option Addr) (c1 : Nat) (a2 : Option Addr) (c2 : Nat) (a3 : Option Addr) (c3 : Nat), v = .tuple #[.agg #[.slice a1 (Int.toNat (wd * hi)) c1, .slice a2 (Int.toNat (wd * hi)) c2, .slice a3 (Int.toNat (wd * hi)) c3], .bool true] ∧ New w w' [.ow kF a1 (Int.toNat (wd * hi)) c1 34 (List.replicate (Int.toNat (wd * hi)) 0), .ow kF a2 (Int.toNat (wd * hi)) c2 34 (List.replicate (Int.toNat (wd * hi)) 0), .ow kF a3 (Int.toNat (wd * hi)) c3 34 (List.replicate (Int.toNat (wd * hi)) 0)]) ∨ (validS wd hi Xsp Xls = false ∧ v = .tuple #[.agg #[.slice none 0 0, .slice none 0 0, .slice none 0 0], .bool false] ∧ Ext0 w w')) := by
  have hlsp := qsp.len
  have hlls := qls.len
  have B : Bu w no w [.rd kF asp nsp Xsp, .rd kF als nls Xls] := Bu.ro (All.cons qsp (All.cons qls All.nil)) rfl
  refine calls_W (n := 10) Try.func15 rfl rfl (Nat.le_of_ble_eq_true rfl) ?_
  refine W_seq ?_
  refine W_region (by kernel_rfl) ?_
  refine s_k rfl (k_boxN (v := .agg #[.int .i64 wd, .int .i64 hi, .bool wr, .slice asp nsp csp, .slice als nls cls]) (cs := [.int .i64 wd, .int .i64 hi, .bool wr, .slice asp nsp csp, .slice als nls cls]) rfl rfl (fun b1 w2 hN3 => ?_))
  replace B := B.new1 hN3
  clear hN3
  refine s_k rfl (k_allocN (z := (.agg #[.slice none 0 0, .slice none 0 0, .slice none 0 0])) (cs := [.slice none 0 0, .slice none 0 0, .slice none 0 0]) T15.zero_30 rfl (fun b4 w5 hN6 => ?_))
  replace B := B.new1 hN6
  clear hN6
  refine s_y (v := .bool false) rfl (y_assign rfl) ?_
  refine s_nil ?_
  refine W_seq ?_
  refine W_seq ?_
  refine W_region (by kernel_rfl) ?_
  refine s_y (v := .agg #[.int .i64 wd, .int .i64 hi, .bool wr, .slice asp nsp csp, .slice als nls cls]) rfl (y_loadn (b := b1) (o := 0) (vs := [.int .i64 wd, .int .i64 hi, .bool wr, .slice asp nsp csp, .slice als nls cls]) T15.agg_26_5 rfl rfl ((B.b 1 rfl).cells (o := 0) rfl)) ?_
  refine s_k rfl (k_call T15.fn_65 (c_i_ValidSheet (B.r 2 rfl) (B.r 3 rfl) (by omega) (by omega)) rfl ?_)
  rintro v9 w7 ⟨hv10, e8⟩
  replace B := B.ext0 e8
  clear e8
  by_cases c11 : validS wd hi Xsp Xls = true
  · have hb12 := validS_b c11
    obtain rfl : v9 = .bool true := hv10.trans (congrArg Value.bool c11)
    refine s_y (v := .bool false) rfl (y_not rfl rfl) ?_
    refine s_nil ?_
    refine W_if_f (by decide) rfl ?_
    refine W_skip ?_
    refine W_seq ?_
    refine W_region (by kernel_rfl) ?_
    refine s_y (v := .agg #[.int .i64 wd, .int .i64 hi, .bool wr, .slice asp nsp csp, .slice als nls cls]) rfl (y_loadn (b := b1) (o := 0) (vs := [.int .i64 wd, .int .i64 hi, .bool wr, .slice asp nsp csp, .slice als nls cls]) T15.agg_26_5 rfl rfl ((B.b 1 rfl).cells (o := 0) rfl)) ?_
    refine s_k rfl (k_call T15.fn_66 (c_i_zeroField (by omega) (by omega) (by omega) (by omega)) rfl ?_)
    rintro _ w13 ⟨a14, c15, a16, c17, a18, c19, rfl, hN20⟩
    replace B := B.new3 hN20
    clear hN20
    refine s_k0 rfl (k_stB (v := .agg #[.slice a14 (Int.toNat (wd * hi)) c15, .slice a16 (Int.toNat (wd * hi)) c17, .slice a18 (Int.toNat (wd * hi)) c19]) (n := 3) (cs' := [.slice a14 (Int.toNat (wd * hi)) c15, .slice a16 (Int.toNat (wd * hi)) c17, .slice a18 (Int.toNat (wd * hi)) c19]) T15.sz_30_3 rfl rfl rfl (B.b 3 rfl) (by simp [Value.cells, Value.oneCell']) (Nat.le_of_ble_eq_true rfl) rfl (fun w21 hU22 => ?_))
    replace B : Bu w no w21 [.blk b4 [.slice a14 (Int.toNat (wd * hi)) c15, .slice a16 (Int.toNat (wd * hi)) c17, .slice a18 (Int.toNat (wd * hi)) c19] 30, .ow kF a14 (Int.toNat (wd * hi)) c15 34 (List.replicate (Int.toNat (wd * hi)) 0), .ow kF a16 (Int.toNat (wd * hi)) c17 34 (List.replicate (Int.toNat (wd * hi)) 0), .ow kF a18 (Int.toNat (wd * hi)) c19 34 (List.replicate (Int.toNat (wd * hi)) 0), .blk b1 [.int .i64 wd, .int .i64 hi, .bool wr, .slice asp nsp csp, .slice als nls cls] 26, .rd kF asp nsp Xsp, .rd kF als nls Xls] := B.upd [3] rfl hU22
    clear hU22
    refine s_y (v := .bool true) rfl (y_assign rfl) ?_
    refine s_nil ?_
    refine W_ret ?_
    refine ret2 (v1 := .agg #[.slice a14 (Int.toNat (wd * hi)) c15, .slice a16 (Int.toNat (wd * hi)) c17, .slice a18 (Int.toNat (wd * hi)) c19]) (v2 := .bool true) rfl rfl rfl ⟨_, [.slice a14 (Int.toNat (wd * hi)) c15, .slice a16 (Int.toNat (wd * hi)) c17, .slice a18 (Int.toNat (wd * hi)) c19], _, rfl, (B.b 0 rfl), T15.agg_30_3, rfl⟩ rfl ⟨_, rfl, ?_⟩
    have hcond : validS wd hi Xsp Xls = true := by simp only [c11, Bool.and_true, Bool.true_and, Bool.and_false, Bool.false_and, Bool.not_true, Bool.not_false, Bool.or_true, Bool.true_or, Bool.or_false, Bool.false_or]
    exact .inl ⟨hcond, ⟨_, _, _, _, _, _, rfl, B.give [1, 2, 3] rfl rfl rfl⟩⟩
  · obtain rfl : v9 = .bool false := hv10.trans (congrArg Value.bool (Bool.eq_false_iff.2 c11))
    refine s_y (v := .bool true) rfl (y_not rfl rfl) ?_
    refine s_nil ?_
    refine W_if_t (by decide) rfl ?_
    refine W_seq ?_
    refine W_region (by kernel_rfl) ?_
    refine s_y (v := .agg #[.slice none 0 0, .slice none 0 0, .slice none 0 0]) rfl (y_build (cells := #[.slice none 0 0, .slice none 0 0, .slice none 0 0]) (by kernel_rfl)) ?_
    refine s_k0 rfl (k_stB (v := .agg #[.slice none 0 0, .slice none 0 0, .slice none 0 0]) (n := 3) (cs' := [.slice none 0 0, .slice none 0 0, .slice none 0 0]) T15.sz_30_3 rfl rfl rfl (B.b 0 rfl) (by simp [Value.cells, Value.oneCell']) (Nat.le_of_ble_eq_true rfl) rfl (fun w23 hU24 => ?_))
    replace B : Bu w no w23 [.blk b4 [.slice none 0 0, .slice none 0 0, .slice none 0 0] 30, .blk b1 [.int .i64 wd, .int .i64 hi, .bool wr, .slice asp nsp csp, .slice als nls cls] 26, .rd kF asp nsp Xsp, .rd kF als nls Xls] := B.upd [0] rfl hU24
    clear hU24
    refine s_y (v := .bool false) rfl (y_assign rfl) ?_
    refine s_nil ?_
    refine W_ret ?_
    refine ret2 (v1 := .agg #[.slice none 0 0, .slice none 0 0, .slice none 0 0]) (v2 := .bool false) rfl rfl rfl ⟨_, [.slice none 0 0, .slice none 0 0, .slice none 0 0], _, rfl, (B.b 0 rfl), T15.agg_30_3, rfl⟩ rfl ⟨_, rfl, ?_⟩
    exact .inr ⟨by simp only [(Bool.eq_false_iff.2 c11), Bool.and_true, Bool.true_and, Bool.and_false, Bool.false_and, Bool.not_true, Bool.not_false, Bool.or_true, Bool.true_or, Bool.or_false, Bool.false_or], rfl, B.ext⟩
namespace T102
theorem mx : Try.prog.follows .mixedOrders = true := by kernel_rfl
theorem one_34 : oneB Try.prog 34 = true := by kernel_rfl
theorem sl_24_34_1 : slB Try.prog 24 34 1 = true := by kernel_rfl
end T102
set_option maxRecDepth 100000 in
set_option maxHeartbeats 4000000 in
theorem c_l_r8Equal {ap : Option Addr} {np : Nat} {cp : Nat} {Xp : List Nat} {aq : Option Addr} {nq : Nat} {cq : Nat} {Xq : List Nat} {w : World} (qp : Rd w kF ap np Xp) (qq : Rd w kF aq nq Xq) (gp : np ≤ 9223372036854775807) (gq : nq ≤ 9223372036854775807) :
    Calls Try.prog 102 #[.slice ap np cp, .slice aq nq cq] w (Rt fun v w' => v = .bool (eqL Xp Xq) ∧ Ext0 w w') := by
  have hlp := qp.len
  have hlq := qq.len
  have B : Bu w no w [.rd kF ap np Xp, .rd kF aq nq Xq] := Bu.ro (All.cons qp (All.cons qq All.nil)) rfl
  refine calls_W (n := 26) Try.func102 rfl rfl (Nat.le_of_ble_eq_true rfl) ?_
  refine W_seq ?_
  refine W_region (by kernel_rfl) ?_
  refine s_y (v := .bool false) rfl (y_assign rfl) ?_
  refine s_nil ?_
  refine W_seq ?_
  refine W_seq ?_
  refine W_region (by kernel_rfl) ?_
  refine s_y (v := .slice ap np cp) rfl (y_move rfl) ?_
  refine s_y (v := .int .i64 ((np : Nat) : Int)) rfl (y_len T102.sl_24_34_1 rfl rfl) ?_
  refine s_y (v := .slice aq nq cq) rfl (y_move rfl) ?_
  refine s_y (v := .int .i64 ((nq : Nat) : Int)) rfl (y_len T102.sl_24_34_1 rfl rfl) ?_
  by_cases c1 : ((np : Nat) : Int) ≠ ((nq : Nat) : Int)
  · refine s_y (v := .bool true) rfl (y_neq rfl rfl (decide_eq_true c1)) ?_
    refine s_nil ?_
    refine W_if_t (by decide) rfl ?_
    refine W_seq ?_
    refine W_region (by kernel_rfl) ?_
    refine s_y (v := .bool false) rfl (y_assign rfl) ?_
    refine s_nil ?_
    refine W_ret ?_
    refine ret1 (v := .bool false) rfl rfl rfl ⟨_, rfl, ?_⟩
    exact ⟨congrArg Value.bool ((eqL_n (by omega)).symm), B.ext⟩
  · refine s_y (v := .bool false) rfl (y_neq rfl rfl (decide_eq_false c1)) ?_
    refine s_nil ?_
    refine W_if_f (by decide) rfl ?_
    refine W_skip ?_
    refine W_seq ?_
    refine W_seq ?_
    refine W_region (by kernel_rfl) ?_
    refine s_y (v := .int .i64 0) rfl (y_assign rfl) ?_
    refine s_nil ?_
    refine W_block ?_
    refine W_loop (fun ρ' w' => ∃ (ρ1 : Env) (k : Int), ρ' = updL ρ1 [(0, .slice ap np cp), (1, .slice aq nq cq), (5, .int .i64 k)] ∧ Bu w no w' [.rd kF ap np Xp, .rd kF aq nq Xq] ∧ (0 ≤ k) ∧ (k ≤ (np : Int)) ∧ (∀ i, 0 ≤ i → i < k → ¬ fne .f32 (el Xp i) (el Xq i) = true)) (fun ρ' _ => ((np : Int) - iv (ρ' 5)).toNat) ?_ ?_
    · exact ⟨_, 0, Fits.eq ⟨rfl, rfl, rfl, trivial⟩, B, (Int.le_refl _), (by omega), (by intro i h0 h1; omega)⟩
    · clear B; rintro _ w2 ⟨ρ3, k, rfl, B, h0k, h1k, hq⟩
      refine W_seq ?_
      refine W_seq ?_
      refine W_region (by kernel_rfl) ?_
      refine s_y (v := .int .i64 k) rfl (y_move rfl) ?_
      refine s_y (v := .slice ap np cp) rfl (y_move rfl) ?_
      refine s_y (v := .int .i64 ((np : Nat) : Int)) rfl (y_len T102.sl_24_34_1 rfl rfl) ?_
      by_cases c4 : k < ((np : Nat) : Int)
      · refine s_y (v := .bool true) rfl (y_lss rfl rfl (decide_eq_true c4)) ?_
        refine s_nil ?_
        refine W_if_t (by decide) rfl ?_
        refine W_skip ?_
        refine W_seq ?_
        refine W_block ?_
        refine W_seq ?_
        have B0_9 := B
        refine W_draw (no) T102.mx (by kernel_rfl) (fun w7 e8 => ?_)
        have R10 := Ext.refl (no) w2
        replace R10 := R10.trans (Ext0.any e8)
        replace B := B.ext0 e8
        clear e8
        refine m_y (v := .slice ap np cp) 0 rfl (by kernel_rfl) rfl rfl (fun w' e' => y_move rfl) ?_
        refine m_y (v := .int .i64 k) 1 rfl (by kernel_rfl) rfl rfl (fun w' e' => y_move rfl) ?_
        refine m_y (v := .pointer (some (sat ap ((k).toNat * 1)))) 2 rfl (by kernel_rfl) rfl rfl (fun w' e' => y_idx T102.sl_24_34_1 rfl rfl ((B.r 0 rfl).addr (by omega)) (by omega) (by omega)) ?_
        obtain ⟨r12, hr13, hR11⟩ := Rd.atF (B0_9.r 0 rfl) k (by omega) (by omega)
        refine m_y (v := .float .f32 r12) 3 rfl (by kernel_rfl) rfl rfl (fun w' e' => y_load T102.one_34 rfl ((hR11.ext0 e').cell (i := 0) rfl)) ?_
        refine m_y (v := .slice aq nq cq) 4 rfl (by kernel_rfl) rfl rfl (fun w' e' => y_move rfl) ?_
        refine m_y (v := .int .i64 k) 5 rfl (by kernel_rfl) rfl rfl (fun w' e' => y_move rfl) ?_
        refine m_y (v := .pointer (some (sat aq ((k).toNat * 1)))) 6 rfl (by kernel_rfl) rfl rfl (fun w' e' => y_idx T102.sl_24_34_1 rfl rfl ((B.r 1 rfl).addr (by omega)) (by omega) (by omega)) ?_
        obtain ⟨r15, hr16, hR14⟩ := Rd.atF (B0_9.r 1 rfl) k (by omega) (by omega)
        refine m_y (v := .float .f32 r15) 7 rfl (by kernel_rfl) rfl rfl (fun w' e' => y_load T102.one_34 rfl ((hR14.ext0 e').cell (i := 0) rfl)) ?_
        by_cases c17 : fne .f32 (el Xp k) (el Xq k) = true
        · refine m_y (v := .bool true) 8 rfl (by kernel_rfl) rfl rfl (fun w' e' => y_fneq rfl rfl (fneC hr13 hr16 c17)) ?_
          refine m_done (by kernel_rfl) (fun w18 e19 => ?_)
          replace B := B.ext0 e19
          clear e19
          clear B0_9 R10
          refine W_if_t (by decide) rfl ?_
          refine W_seq ?_
          refine W_region (by kernel_rfl) ?_
          refine s_y (v := .bool false) rfl (y_assign rfl) ?_
          refine s_nil ?_
          refine W_ret ?_
          refine ret1 (v := .bool false) rfl rfl rfl ⟨_, rfl, ?_⟩
          exact ⟨congrArg Value.bool ((eqL_no (i := k) (by omega) (by omega) (by assumption)).symm), B.ext⟩
        · refine m_y (v := .bool false) 8 rfl (by kernel_rfl) rfl rfl (fun w' e' => y_fneq rfl rfl (fneC hr13 hr16 (Bool.eq_false_iff.2 c17))) ?_
          refine m_done (by kernel_rfl) (fun w20 e21 => ?_)
          replace B := B.ext0 e21
          clear e21
          clear B0_9 R10
          refine W_if_f (by decide) rfl ?_
          refine W_skip ?_
          refine W_region (by kernel_rfl) ?_
          refine s_y (v := .int .i64 k) rfl (y_move rfl) ?_
          refine s_y (v := .int .i64 (k + 1)) rfl (y_add rfl rfl rfl (by omega)) ?_
          refine s_y (v := .int .i64 (k + 1)) rfl (y_assign rfl) ?_
          refine s_nil ?_
          refine ⟨⟨_, k + 1, Fits.eq ⟨rfl, rfl, rfl, trivial⟩, B, (by omega), (by omega), (fun i h0 h1 => if e : i = k then (by subst e; assumption) else hq i h0 (by omega))⟩, ?_⟩
          show ((np : Int) - (k + 1)).toNat < ((np : Int) - k).toNat
          omega
      · refine s_y (v := .bool false) rfl (y_lss rfl rfl (decide_eq_false c4)) ?_
        refine s_nil ?_
        refine W_if_f (by decide) rfl ?_
        refine W_exit ?_
        refine W_seq ?_
        refine W_region (by kernel_rfl) ?_
        refine s_y (v := .bool true) rfl (y_assign rfl) ?_
        refine s_nil ?_
        refine W_ret ?_
        refine ret1 (v := .bool true) rfl rfl rfl ⟨_, rfl, ?_⟩
        exact ⟨congrArg Value.bool ((eqL_yes (by omega) (fun i h0 h1 => hq i h0 (by omega))).symm), B.ext⟩
end Go.Proofs.Ytgohmocjjmkepaa
