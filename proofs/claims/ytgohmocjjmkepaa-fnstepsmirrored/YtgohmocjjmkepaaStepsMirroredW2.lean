/- Walks: what the functions under FnStepsMirrored do (part 3). Printed by a program of this claim's author. -/
import Derived.Test.YtgohmocjjmkepaaStepsMirroredW1
set_option linter.unusedSimpArgs false
set_option linter.unusedVariables false
open Go.Wv
namespace Go.Proofs.Ytgohmocjjmkepaa
open Go.Proofs
namespace T131
theorem mx : Try.prog.follows .mixedOrders = true := by kernel_rfl
theorem agg_26_5 : aggB Try.prog 26 5 = true := by kernel_rfl
theorem fld_26_3_3 : fldB Try.prog 26 3 3 = true := by kernel_rfl
theorem fld_26_4_4 : fldB Try.prog 26 4 4 = true := by kernel_rfl
theorem fld_30_0_0 : fldB Try.prog 30 0 0 = true := by kernel_rfl
theorem fld_30_1_1 : fldB Try.prog 30 1 1 = true := by kernel_rfl
theorem fld_30_2_2 : fldB Try.prog 30 2 2 = true := by kernel_rfl
theorem fn_69 : fnB Try.prog 69 = true := by kernel_rfl
theorem one_24 : oneB Try.prog 24 = true := by kernel_rfl
theorem one_34 : oneB Try.prog 34 = true := by kernel_rfl
theorem sl_24_34_1 : slB Try.prog 24 34 1 = true := by kernel_rfl
end T131
set_option maxRecDepth 100000 in
set_option maxHeartbeats 4000000 in
theorem c_i_newValue {wd : Int} {hi : Int} {wr : Bool} {asp : Option Addr} {nsp : Nat} {csp : Nat} {Xsp : List Nat} {als : Option Addr} {nls : Nat} {cls : Nat} {Xls : List Nat} {afe : Option Addr} {nfe : Nat} {cfe : Nat} {Xfe : List Nat} {afx : Option Addr} {nfx : Nat} {cfx : Nat} {Xfx : List Nat} {afy : Option Addr} {nfy : Nat} {cfy : Nat} {Xfy : List Nat} {x : Int} {y : Int} {w : World} (qsp : Rd w kF asp nsp Xsp) (qls : Rd w kF als nls Xls) (qfe : Rd w kF afe nfe Xfe) (qfx : Rd w kF afx nfx Xfx) (qfy : Rd w kF afy nfy Xfy) (h1 : 3 ≤ wd) (h2 : wd ≤ 16) (h3 : 3 ≤ hi) (h4 : hi ≤ 16) (gfe : (nfe : Int) = wd * hi) (gfx : (nfx : Int) = wd * hi) (gfy : (nfy : Int) = wd * hi) (gsp : (nsp : Int) = wd * hi) (gls : (nls : Int) = wd * hi) (p1 : 0 ≤ x) (p2 : x < wd) (p3 : 0 ≤ y) (p4 : y < hi) :
    Calls Try.prog 131 #[.agg #[.int .i64 wd, .int .i64 hi, .bool wr, .slice asp nsp csp, .slice als nls cls], .agg #[.slice afe nfe cfe, .slice afx nfx cfx, .slice afy nfy cfy], .int .i64 x, .int .i64 y] w (Rt fun v w' => (∃ r, v = .float .f32 r ∧ Cn .f32 r (nvV wd hi Xsp Xls (el Xfe (atI wd hi x y)) Xfx Xfy x y)) ∧ Ext0 w w') := by
  have hlsp := qsp.len
  have hlls := qls.len
  have hlfe := qfe.len
  have hlfx := qfx.len
  have hlfy := qfy.len
  have B : Bu w no w [.rd kF asp nsp Xsp, .rd kF als nls Xls, .rd kF afe nfe Xfe, .rd kF afx nfx Xfx, .rd kF afy nfy Xfy] := Bu.ro (All.cons qsp (All.cons qls (All.cons qfe (All.cons qfx (All.cons qfy All.nil))))) rfl
  refine calls_W (n := 66) Try.func131 rfl rfl (Nat.le_of_ble_eq_true rfl) ?_
  refine W_seq ?_
  refine W_region (by kernel_rfl) ?_
  refine s_k rfl (k_boxN (v := .agg #[.int .i64 wd, .int .i64 hi, .bool wr, .slice asp nsp csp, .slice als nls cls]) (cs := [.int .i64 wd, .int .i64 hi, .bool wr, .slice asp nsp csp, .slice als nls cls]) rfl rfl (fun b1 w2 hN3 => ?_))
  replace B := B.new1 hN3
  clear hN3
  refine s_k rfl (k_boxN (v := .agg #[.slice afe nfe cfe, .slice afx nfx cfx, .slice afy nfy cfy]) (cs := [.slice afe nfe cfe, .slice afx nfx cfx, .slice afy nfy cfy]) rfl rfl (fun b4 w5 hN6 => ?_))
  replace B := B.new1 hN6
  clear hN6
  refine s_y (v := .float .f32 0) rfl (y_assign rfl) ?_
  refine s_nil ?_
  refine W_seq ?_
  refine W_region (by kernel_rfl) ?_
  refine s_y (v := .agg #[.int .i64 wd, .int .i64 hi, .bool wr, .slice asp nsp csp, .slice als nls cls]) rfl (y_loadn (b := b1) (o := 0) (vs := [.int .i64 wd, .int .i64 hi, .bool wr, .slice asp nsp csp, .slice als nls cls]) T131.agg_26_5 rfl rfl ((B.b 1 rfl).cells (o := 0) rfl)) ?_
  refine s_y (v := .int .i64 x) rfl (y_move rfl) ?_
  refine s_y (v := .int .i64 y) rfl (y_move rfl) ?_
  refine s_k rfl (k_call T131.fn_69 (c_i_at (by omega) (by omega) (by omega) (by omega) (by omega) (by omega) (by omega) (by omega)) rfl ?_)
  rintro _ w7 ⟨rfl, e8⟩
  replace B := B.ext0 e8
  clear e8
  have hat9 := atI_b (wd := wd) (hi := hi) (x := x) (y := y) (by omega) (by omega)
  refine s_y (v := .int .i64 (atI wd hi x y)) rfl (y_assign rfl) ?_
  refine s_nil ?_
  refine W_seq ?_
  have B0_12 := B
  refine W_drawI (no) (fun ρ' w' => (∃ (ρ1 : Env) (r51 : Nat), ρ' = updL ρ1 [(4, .pointer (some ⟨b1, 0, none⟩)), (5, .pointer (some ⟨b4, 0, none⟩)), (8, .float .f32 0), (9, .int .i64 (atI wd hi x y)), (10, .float .f32 r51)] ∧ Bu w no w' [.blk b4 [.slice afe nfe cfe, .slice afx nfx cfx, .slice afy nfy cfy] 30, .blk b1 [.int .i64 wd, .int .i64 hi, .bool wr, .slice asp nsp csp, .slice als nls cls] 26, .rd kF asp nsp Xsp, .rd kF als nls Xls, .rd kF afe nfe Xfe, .rd kF afx nfx Xfx, .rd kF afy nfy Xfy] ∧ Cn .f32 r51 (fop .sub .f32 (fop .sub .f32 (el Xfy (atI wd hi x y)) (el Xfy (atI wd hi (x - 1) y))) (fop .sub .f32 (el Xfx (atI wd hi x y)) (el Xfx (atI wd hi x (y - 1))))))) T131.mx (by kernel_rfl) (fun w10 e11 => ?_) ?_
  · have R13 := Ext.refl (no) w7
    replace R13 := R13.trans (Ext0.any e11)
    replace B := B.ext0 e11
    clear e11
    refine m_y (v := .pointer (some ⟨b4, 2, none⟩)) 0 rfl (by kernel_rfl) rfl rfl (fun w' e' => y_fld (o := 0) T131.fld_30_2_2 rfl) ?_
    refine m_y (v := .slice afy nfy cfy) 1 rfl (by kernel_rfl) rfl rfl (fun w' e' => y_load T131.one_24 rfl (((B0_12.b 0 rfl).ext0 e').cell (j := 2) rfl)) ?_
    refine m_y (v := .int .i64 (atI wd hi x y)) 2 rfl (by kernel_rfl) rfl rfl (fun w' e' => y_move rfl) ?_
    refine m_y (v := .pointer (some (sat afy ((atI wd hi x y).toNat * 1)))) 3 rfl (by kernel_rfl) rfl rfl (fun w' e' => y_idx T131.sl_24_34_1 rfl rfl ((B.r 6 rfl).addr (by omega)) (by omega) (by omega)) ?_
    obtain ⟨r15, hr16, hR14⟩ := Rd.atF (B0_12.r 6 rfl) (atI wd hi x y) (by omega) (by omega)
    refine m_y (v := .float .f32 r15) 4 rfl (by kernel_rfl) rfl rfl (fun w' e' => y_load T131.one_34 rfl ((hR14.ext0 e').cell (i := 0) rfl)) ?_
    refine m_y (v := .pointer (some ⟨b4, 2, none⟩)) 5 rfl (by kernel_rfl) rfl rfl (fun w' e' => y_fld (o := 0) T131.fld_30_2_2 rfl) ?_
    refine m_y (v := .slice afy nfy cfy) 6 rfl (by kernel_rfl) rfl rfl (fun w' e' => y_load T131.one_24 rfl (((B0_12.b 0 rfl).ext0 e').cell (j := 2) rfl)) ?_
    refine m_y (v := .agg #[.int .i64 wd, .int .i64 hi, .bool wr, .slice asp nsp csp, .slice als nls cls]) 7 rfl (by kernel_rfl) rfl rfl (fun w' e' => y_loadn (b := b1) (o := 0) (vs := [.int .i64 wd, .int .i64 hi, .bool wr, .slice asp nsp csp, .slice als nls cls]) T131.agg_26_5 rfl rfl (((B0_12.b 1 rfl).ext0 e').cells (o := 0) rfl)) ?_
    refine m_y (v := .int .i64 x) 8 rfl (by kernel_rfl) rfl rfl (fun w' e' => y_move rfl) ?_
    refine m_y (v := .int .i64 (x - 1)) 9 rfl (by kernel_rfl) rfl rfl (fun w' e' => y_sub rfl rfl rfl (by omega)) ?_
    refine m_y (v := .int .i64 y) 10 rfl (by kernel_rfl) rfl rfl (fun w' e' => y_move rfl) ?_
    refine m_y (v := .pointer (some ⟨b4, 1, none⟩)) 15 rfl (by kernel_rfl) rfl rfl (fun w' e' => y_fld (o := 0) T131.fld_30_1_1 rfl) ?_
    refine m_y (v := .slice afx nfx cfx) 16 rfl (by kernel_rfl) rfl rfl (fun w' e' => y_load T131.one_24 rfl (((B0_12.b 0 rfl).ext0 e').cell (j := 1) rfl)) ?_
    refine m_y (v := .int .i64 (atI wd hi x y)) 17 rfl (by kernel_rfl) rfl rfl (fun w' e' => y_move rfl) ?_
    refine m_y (v := .pointer (some (sat afx ((atI wd hi x y).toNat * 1)))) 18 rfl (by kernel_rfl) rfl rfl (fun w' e' => y_idx T131.sl_24_34_1 rfl rfl ((B.r 5 rfl).addr (by omega)) (by omega) (by omega)) ?_
    obtain ⟨r18, hr19, hR17⟩ := Rd.atF (B0_12.r 5 rfl) (atI wd hi x y) (by omega) (by omega)
    refine m_y (v := .float .f32 r18) 19 rfl (by kernel_rfl) rfl rfl (fun w' e' => y_load T131.one_34 rfl ((hR17.ext0 e').cell (i := 0) rfl)) ?_
    refine m_y (v := .pointer (some ⟨b4, 1, none⟩)) 20 rfl (by kernel_rfl) rfl rfl (fun w' e' => y_fld (o := 0) T131.fld_30_1_1 rfl) ?_
    refine m_y (v := .slice afx nfx cfx) 21 rfl (by kernel_rfl) rfl rfl (fun w' e' => y_load T131.one_24 rfl (((B0_12.b 0 rfl).ext0 e').cell (j := 1) rfl)) ?_
    refine m_y (v := .agg #[.int .i64 wd, .int .i64 hi, .bool wr, .slice asp nsp csp, .slice als nls cls]) 22 rfl (by kernel_rfl) rfl rfl (fun w' e' => y_loadn (b := b1) (o := 0) (vs := [.int .i64 wd, .int .i64 hi, .bool wr, .slice asp nsp csp, .slice als nls cls]) T131.agg_26_5 rfl rfl (((B0_12.b 1 rfl).ext0 e').cells (o := 0) rfl)) ?_
    refine m_y (v := .int .i64 x) 23 rfl (by kernel_rfl) rfl rfl (fun w' e' => y_move rfl) ?_
    refine m_y (v := .int .i64 y) 24 rfl (by kernel_rfl) rfl rfl (fun w' e' => y_move rfl) ?_
    refine m_y (v := .int .i64 (y - 1)) 25 rfl (by kernel_rfl) rfl rfl (fun w' e' => y_sub rfl rfl rfl (by omega)) ?_
    refine m_k 11 [12, 13, 14, 26, 27, 28, 29, 30, 31] rfl (by kernel_rfl) rfl rfl (fun w20 e21 => ?_)
    replace R13 := R13.trans (Ext0.any e21)
    replace B := B.ext0 e21
    clear e21
    refine k_call T131.fn_69 (c_i_at (by omega) (by omega) (by omega) (by omega) (by omega) (by omega) (by omega) (by omega)) rfl ?_
    rintro _ w22 ⟨rfl, e23⟩
    replace R13 := R13.trans (Ext0.any e23)
    replace B := B.ext0 e23
    clear e23
    refine ⟨fun _ => R13, ?_⟩
    have hat24 := atI_b (wd := wd) (hi := hi) (x := x - 1) (y := y) (by omega) (by omega)
    refine m_y (v := .pointer (some (sat afy ((atI wd hi (x - 1) y).toNat * 1)))) 12 rfl (by kernel_rfl) rfl rfl (fun w' e' => y_idx T131.sl_24_34_1 rfl rfl ((B.r 6 rfl).addr (by omega)) (by omega) (by omega)) ?_
    obtain ⟨r26, hr27, hR25⟩ := Rd.atF (B0_12.r 6 rfl) (atI wd hi (x - 1) y) (by omega) (by omega)
    refine m_y (v := .float .f32 r26) 13 rfl (by kernel_rfl) rfl rfl (fun w' e' => y_load T131.one_34 rfl ((hR25.ext0 e').cell (i := 0) rfl)) ?_
    refine m_ntwo 14 26 (by kernel_rfl) rfl rfl rfl rfl rfl rfl ?_ (fun w28 e29 => ?_)
    · refine ⟨_, fun w' e' => n_arith (by decide) rfl rfl, ?_⟩
      rintro _ ⟨r31, rfl, hr32⟩
      have hc35 := fopC hr32 hr16 hr27
      refine m_k 26 [27, 28, 29, 30, 31] rfl (by kernel_rfl) rfl rfl (fun w36 e37 => ?_)
      replace R13 := R13.trans (Ext0.any e37)
      replace B := B.ext0 e37
      clear e37
      refine k_call T131.fn_69 (c_i_at (by omega) (by omega) (by omega) (by omega) (by omega) (by omega) (by omega) (by omega)) rfl ?_
      rintro _ w38 ⟨rfl, e39⟩
      replace R13 := R13.trans (Ext0.any e39)
      replace B := B.ext0 e39
      clear e39
      refine ⟨fun _ => R13, ?_⟩
      have hat40 := atI_b (wd := wd) (hi := hi) (x := x) (y := y - 1) (by omega) (by omega)
      refine m_y (v := .pointer (some (sat afx ((atI wd hi x (y - 1)).toNat * 1)))) 27 rfl (by kernel_rfl) rfl rfl (fun w' e' => y_idx T131.sl_24_34_1 rfl rfl ((B.r 5 rfl).addr (by omega)) (by omega) (by omega)) ?_
      obtain ⟨r42, hr43, hR41⟩ := Rd.atF (B0_12.r 5 rfl) (atI wd hi x (y - 1)) (by omega) (by omega)
      refine m_y (v := .float .f32 r42) 28 rfl (by kernel_rfl) rfl rfl (fun w' e' => y_load T131.one_34 rfl ((hR41.ext0 e').cell (i := 0) rfl)) ?_
      refine m_n 29 [30, 31] rfl (by kernel_rfl) rfl rfl (fun w' e' => n_arith (by decide) rfl rfl) ?_
      rintro _ ⟨r45, rfl, hr46⟩
      have hc49 := fopC hr46 hr19 hr43
      refine m_n 30 [31] rfl (by kernel_rfl) rfl rfl (fun w' e' => n_arith (by decide) rfl rfl) ?_
      rintro _ ⟨r51, rfl, hr52⟩
      have hc55 := fopC hr52 hc35 hc49
      refine m_y (v := .float .f32 r51) 31 rfl (by kernel_rfl) rfl rfl (fun w' e' => y_assign rfl) ?_
      refine m_done (by kernel_rfl) (fun w56 e57 => ?_)
      replace B := B.ext0 e57
      clear e57
      clear B0_12 R13
      exact ⟨_, r51, Fits.eq ⟨rfl, rfl, rfl, rfl, rfl, trivial⟩, B, hc55⟩
    · replace R13 := R13.trans (Ext0.any e29)
      replace B := B.ext0 e29
      clear e29
      refine k_call T131.fn_69 (c_i_at (by omega) (by omega) (by omega) (by omega) (by omega) (by omega) (by omega) (by omega)) rfl ?_
      rintro _ w58 ⟨rfl, e59⟩
      replace R13 := R13.trans (Ext0.any e59)
      replace B := B.ext0 e59
      clear e59
      refine ⟨fun _ => R13, ?_⟩
      have hat60 := atI_b (wd := wd) (hi := hi) (x := x) (y := y - 1) (by omega) (by omega)
      refine m_y (v := .pointer (some (sat afx ((atI wd hi x (y - 1)).toNat * 1)))) 27 rfl (by kernel_rfl) rfl rfl (fun w' e' => y_idx T131.sl_24_34_1 rfl rfl ((B.r 5 rfl).addr (by omega)) (by omega) (by omega)) ?_
      obtain ⟨r62, hr63, hR61⟩ := Rd.atF (B0_12.r 5 rfl) (atI wd hi x (y - 1)) (by omega) (by omega)
      refine m_y (v := .float .f32 r62) 28 rfl (by kernel_rfl) rfl rfl (fun w' e' => y_load T131.one_34 rfl ((hR61.ext0 e').cell (i := 0) rfl)) ?_
      refine m_n 14 [30, 31] rfl (by kernel_rfl) rfl rfl (fun w' e' => n_arith (by decide) rfl rfl) ?_
      rintro _ ⟨r65, rfl, hr66⟩
      have hc69 := fopC hr66 hr16 hr27
      refine m_n 29 [30, 31] rfl (by kernel_rfl) rfl rfl (fun w' e' => n_arith (by decide) rfl rfl) ?_
      rintro _ ⟨r71, rfl, hr72⟩
      have hc75 := fopC hr72 hr19 hr63
      refine m_n 30 [31] rfl (by kernel_rfl) rfl rfl (fun w' e' => n_arith (by decide) rfl rfl) ?_
      rintro _ ⟨r77, rfl, hr78⟩
      have hc81 := fopC hr78 hc69 hc75
      refine m_y (v := .float .f32 r77) 31 rfl (by kernel_rfl) rfl rfl (fun w' e' => y_assign rfl) ?_
      refine m_done (by kernel_rfl) (fun w82 e83 => ?_)
      replace B := B.ext0 e83
      clear e83
      clear B0_12 R13
      exact ⟨_, r77, Fits.eq ⟨rfl, rfl, rfl, rfl, rfl, trivial⟩, B, hc81⟩
  · clear B; rintro _ w84 (⟨ρ86, r51, rfl, B, hr85⟩)
    have hat87 := atI_b (wd := wd) (hi := hi) (x := x - 1) (y := y) (by omega) (by omega)
    have hat88 := atI_b (wd := wd) (hi := hi) (x := x) (y := y - 1) (by omega) (by omega)
    refine W_seq ?_
    have B0_93 := B
    refine W_draw (no) T131.mx (by kernel_rfl) (fun w91 e92 => ?_)
    have R94 := Ext.refl (no) w84
    replace R94 := R94.trans (Ext0.any e92)
    replace B := B.ext0 e92
    clear e92
    refine m_y (v := .pointer (some ⟨b4, 0, none⟩)) 0 rfl (by kernel_rfl) rfl rfl (fun w' e' => y_fld (o := 0) T131.fld_30_0_0 rfl) ?_
    refine m_y (v := .slice afe nfe cfe) 1 rfl (by kernel_rfl) rfl rfl (fun w' e' => y_load T131.one_24 rfl (((B0_93.b 0 rfl).ext0 e').cell (j := 0) rfl)) ?_
    refine m_y (v := .int .i64 (atI wd hi x y)) 2 rfl (by kernel_rfl) rfl rfl (fun w' e' => y_move rfl) ?_
    refine m_y (v := .pointer (some (sat afe ((atI wd hi x y).toNat * 1)))) 3 rfl (by kernel_rfl) rfl rfl (fun w' e' => y_idx T131.sl_24_34_1 rfl rfl ((B.r 4 rfl).addr (by omega)) (by omega) (by omega)) ?_
    obtain ⟨r96, hr97, hR95⟩ := Rd.atF (B0_93.r 4 rfl) (atI wd hi x y) (by omega) (by omega)
    refine m_y (v := .float .f32 r96) 4 rfl (by kernel_rfl) rfl rfl (fun w' e' => y_load T131.one_34 rfl ((hR95.ext0 e').cell (i := 0) rfl)) ?_
    refine m_y (v := .pointer (some ⟨b1, 4, none⟩)) 5 rfl (by kernel_rfl) rfl rfl (fun w' e' => y_fld (o := 0) T131.fld_26_4_4 rfl) ?_
    refine m_y (v := .slice als nls cls) 6 rfl (by kernel_rfl) rfl rfl (fun w' e' => y_load T131.one_24 rfl (((B0_93.b 1 rfl).ext0 e').cell (j := 4) rfl)) ?_
    refine m_y (v := .int .i64 (atI wd hi x y)) 7 rfl (by kernel_rfl) rfl rfl (fun w' e' => y_move rfl) ?_
    refine m_y (v := .pointer (some (sat als ((atI wd hi x y).toNat * 1)))) 8 rfl (by kernel_rfl) rfl rfl (fun w' e' => y_idx T131.sl_24_34_1 rfl rfl ((B.r 3 rfl).addr (by omega)) (by omega) (by omega)) ?_
    obtain ⟨r99, hr100, hR98⟩ := Rd.atF (B0_93.r 3 rfl) (atI wd hi x y) (by omega) (by omega)
    refine m_y (v := .float .f32 r99) 9 rfl (by kernel_rfl) rfl rfl (fun w' e' => y_load T131.one_34 rfl ((hR98.ext0 e').cell (i := 0) rfl)) ?_
    refine m_y (v := .pointer (some ⟨b1, 3, none⟩)) 12 rfl (by kernel_rfl) rfl rfl (fun w' e' => y_fld (o := 0) T131.fld_26_3_3 rfl) ?_
    refine m_y (v := .slice asp nsp csp) 13 rfl (by kernel_rfl) rfl rfl (fun w' e' => y_load T131.one_24 rfl (((B0_93.b 1 rfl).ext0 e').cell (j := 3) rfl)) ?_
    refine m_y (v := .int .i64 (atI wd hi x y)) 14 rfl (by kernel_rfl) rfl rfl (fun w' e' => y_move rfl) ?_
    refine m_y (v := .pointer (some (sat asp ((atI wd hi x y).toNat * 1)))) 15 rfl (by kernel_rfl) rfl rfl (fun w' e' => y_idx T131.sl_24_34_1 rfl rfl ((B.r 2 rfl).addr (by omega)) (by omega) (by omega)) ?_
    obtain ⟨r102, hr103, hR101⟩ := Rd.atF (B0_93.r 2 rfl) (atI wd hi x y) (by omega) (by omega)
    refine m_y (v := .float .f32 r102) 16 rfl (by kernel_rfl) rfl rfl (fun w' e' => y_load T131.one_34 rfl ((hR101.ext0 e').cell (i := 0) rfl)) ?_
    refine m_y (v := .float .f32 r51) 17 rfl (by kernel_rfl) rfl rfl (fun w' e' => y_move rfl) ?_
    refine m_n 10 [11, 19, 20] rfl (by kernel_rfl) rfl rfl (fun w' e' => n_arith (by decide) rfl rfl) ?_
    rintro _ ⟨r105, rfl, hr106⟩
    have hc109 := fopC hr106 (cnLit (k := .f32) (t := 1065353216) (by kernel_rfl) (by kernel_rfl)) hr100
    refine m_n 11 [19, 20] rfl (by kernel_rfl) rfl rfl (fun w' e' => n_arith (by decide) rfl rfl) ?_
    rintro _ ⟨r111, rfl, hr112⟩
    have hc115 := fopC hr112 hr97 hc109
    refine m_n 18 [19, 20] rfl (by kernel_rfl) rfl rfl (fun w' e' => n_arith (by decide) rfl rfl) ?_
    rintro _ ⟨r117, rfl, hr118⟩
    have hc121 := fopC hr118 hr103 hr85
    refine m_n 19 [20] rfl (by kernel_rfl) rfl rfl (fun w' e' => n_arith (by decide) rfl rfl) ?_
    rintro _ ⟨r123, rfl, hr124⟩
    have hc127 := fopC hr124 hc115 hc121
    refine m_y (v := .float .f32 r123) 20 rfl (by kernel_rfl) rfl rfl (fun w' e' => y_assign rfl) ?_
    refine m_done (by kernel_rfl) (fun w128 e129 => ?_)
    replace B := B.ext0 e129
    clear e129
    clear B0_93 R94
    refine W_ret ?_
    refine ret1 (v := .float .f32 r123) rfl rfl rfl ⟨_, rfl, ?_⟩
    exact ⟨⟨_, rfl, hc127⟩, B.ext⟩
namespace T89
theorem mx : Try.prog.follows .mixedOrders = true := by kernel_rfl
theorem agg_26_5 : aggB Try.prog 26 5 = true := by kernel_rfl
theorem agg_30_3 : aggB Try.prog 30 3 = true := by kernel_rfl
theorem fld_26_0_0 : fldB Try.prog 26 0 0 = true := by kernel_rfl
theorem fld_26_1_1 : fldB Try.prog 26 1 1 = true := by kernel_rfl
theorem fld_30_0_0 : fldB Try.prog 30 0 0 = true := by kernel_rfl
theorem fn_130 : fnB Try.prog 130 = true := by kernel_rfl
theorem fn_131 : fnB Try.prog 131 = true := by kernel_rfl
theorem fn_68 : fnB Try.prog 68 = true := by kernel_rfl
theorem fn_69 : fnB Try.prog 69 = true := by kernel_rfl
theorem fn_98 : fnB Try.prog 98 = true := by kernel_rfl
theorem one_2 : oneB Try.prog 2 = true := by kernel_rfl
theorem one_24 : oneB Try.prog 24 = true := by kernel_rfl
theorem sl_24_34_1 : slB Try.prog 24 34 1 = true := by kernel_rfl
theorem sz_30_3 : szB Try.prog 30 3 = true := by kernel_rfl
theorem sz_34_1 : szB Try.prog 34 1 = true := by kernel_rfl
theorem zero_30 : zeroB Try.prog 30 (.agg #[.slice none 0 0, .slice none 0 0, .slice none 0 0]) := by unfold zeroB; kernel_rfl
end T89
set_option maxRecDepth 100000 in
set_option maxHeartbeats 4000000 in
theorem c_i_stepped {wd : Int} {hi : Int} {wr : Bool} {asp : Option Addr} {nsp : Nat} {csp : Nat} {Xsp : List Nat} {als : Option Addr} {nls : Nat} {cls : Nat} {Xls : List Nat} {afe : Option Addr} {nfe : Nat} {cfe : Nat} {Xfe : List Nat} {afx : Option Addr} {nfx : Nat} {cfx : Nat} {Xfx : List Nat} {afy : Option Addr} {nfy : Nat} {cfy : Nat} {Xfy : List Nat} {w : World} (qsp : Rd w kF asp nsp Xsp) (qls : Rd w kF als nls Xls) (qfe : Rd w kF afe nfe Xfe) (qfx : Rd w kF afx nfx Xfx) (qfy : Rd w kF afy nfy Xfy) (h1 : 3 ≤ wd) (h2 : wd ≤ 16) (h3 : 3 ≤ hi) (h4 : hi ≤ 16) (gfe : (nfe : Int) = wd * hi) (gfx : (nfx : Int) = wd * hi) (gfy : (nfy : Int) = wd * hi) (gsp : (nsp : Int) = wd * hi) (gls : (nls : Int) = wd * hi) :
    Calls Try.prog 89 #[.agg #[.int .i64 wd, .int .i64 hi, .bool wr, .slice asp nsp csp, .slice als nls cls], .agg #[.slice afe nfe cfe, .slice afx nfx cfx, .slice afy nfy cfy]] w (Rt fun v w' => ∃ (a1 : Option Addr) (c1 : Nat) (a2 : Option Addr) (c2 : Nat) (a3 : Option Addr) (c3 : Nat), v = .agg #[.slice a1 nfe c1, .slice a2 nfx c2, .slice a3 nfy c3] ∧ New w w' [.ow kF a1 nfe c1 34 (nwL wd hi wr Xsp Xls Xfe (hxL wd hi wr Xfe Xfx) (hyL wd hi wr Xfe Xfy)), .ow kF a2 nfx c2 34 (hxL wd hi wr Xfe Xfx), .ow kF a3 nfy c3 34 (hyL wd hi wr Xfe Xfy)]) := by
  have hlsp := qsp.len
  have hlls := qls.len
  have hlfe := qfe.len
  have hlfx := qfx.len
  have hlfy := qfy.len
  have B : Bu w no w [.rd kF asp nsp Xsp, .rd kF als nls Xls, .rd kF afe nfe Xfe, .rd kF afx nfx Xfx, .rd kF afy nfy Xfy] := Bu.ro (All.cons qsp (All.cons qls (All.cons qfe (All.cons qfx (All.cons qfy All.nil))))) rfl
  have hwh := mul16 (And.intro (And.intro h1 h2) (And.intro h3 h4))
  refine calls_W (n := 42) Try.func89 rfl rfl (Nat.le_of_ble_eq_true rfl) ?_
  refine W_seq ?_
  refine W_region (by kernel_rfl) ?_
  refine s_k rfl (k_boxN (v := .agg #[.int .i64 wd, .int .i64 hi, .bool wr, .slice asp nsp csp, .slice als nls cls]) (cs := [.int .i64 wd, .int .i64 hi, .bool wr, .slice asp nsp csp, .slice als nls cls]) rfl rfl (fun b1 w2 hN3 => ?_))
  replace B := B.new1 hN3
  clear hN3
  refine s_k rfl (k_boxN (v := .agg #[.slice afe nfe cfe, .slice afx nfx cfx, .slice afy nfy cfy]) (cs := [.slice afe nfe cfe, .slice afx nfx cfx, .slice afy nfy cfy]) rfl rfl (fun b4 w5 hN6 => ?_))
  replace B := B.new1 hN6
  clear hN6
  refine s_k rfl (k_allocN (z := (.agg #[.slice none 0 0, .slice none 0 0, .slice none 0 0])) (cs := [.slice none 0 0, .slice none 0 0, .slice none 0 0]) T89.zero_30 rfl (fun b7 w8 hN9 => ?_))
  replace B := B.new1 hN9
  clear hN9
  refine s_nil ?_
  refine W_seq ?_
  refine W_region (by kernel_rfl) ?_
  refine s_y (v := .agg #[.slice afe nfe cfe, .slice afx nfx cfx, .slice afy nfy cfy]) rfl (y_loadn (b := b4) (o := 0) (vs := [.slice afe nfe cfe, .slice afx nfx cfx, .slice afy nfy cfy]) T89.agg_30_3 rfl rfl ((B.b 1 rfl).cells (o := 0) rfl)) ?_
  refine s_k rfl (k_call T89.fn_68 (c_i_copyField (B.r 5 rfl) (B.r 6 rfl) (B.r 7 rfl) (by omega) (by omega) (by omega)) rfl ?_)
  rintro _ w10 ⟨a11, c12, a13, c14, a15, c16, rfl, hN17⟩
  replace B := B.new3 hN17
  clear hN17
  refine s_k rfl (k_allocN (z := (.agg #[.slice none 0 0, .slice none 0 0, .slice none 0 0])) (cs := [.slice none 0 0, .slice none 0 0, .slice none 0 0]) T89.zero_30 rfl (fun b18 w19 hN20 => ?_))
  replace B := B.new1 hN20
  clear hN20
  refine s_k0 rfl (k_stB (v := .agg #[.slice a11 nfe c12, .slice a13 nfx c14, .slice a15 nfy c16]) (n := 3) (cs' := [.slice a11 nfe c12, .slice a13 nfx c14, .slice a15 nfy c16]) T89.sz_30_3 rfl rfl rfl (B.b 0 rfl) (by simp [Value.cells, Value.oneCell']) (Nat.le_of_ble_eq_true rfl) rfl (fun w21 hU22 => ?_))
  replace B : Bu w no w21 [.blk b18 [.slice a11 nfe c12, .slice a13 nfx c14, .slice a15 nfy c16] 30, .ow kF a11 nfe c12 34 Xfe, .ow kF a13 nfx c14 34 Xfx, .ow kF a15 nfy c16 34 Xfy, .blk b7 [.slice none 0 0, .slice none 0 0, .slice none 0 0] 30, .blk b4 [.slice afe nfe cfe, .slice afx nfx cfx, .slice afy nfy cfy] 30, .blk b1 [.int .i64 wd, .int .i64 hi, .bool wr, .slice asp nsp csp, .slice als nls cls] 26, .rd kF asp nsp Xsp, .rd kF als nls Xls, .rd kF afe nfe Xfe, .rd kF afx nfx Xfx, .rd kF afy nfy Xfy] := B.upd [0] rfl hU22
  clear hU22
  refine s_nil ?_
  refine W_seq ?_
  refine W_region (by kernel_rfl) ?_
  refine s_y (v := .agg #[.int .i64 wd, .int .i64 hi, .bool wr, .slice asp nsp csp, .slice als nls cls]) rfl (y_loadn (b := b1) (o := 0) (vs := [.int .i64 wd, .int .i64 hi, .bool wr, .slice asp nsp csp, .slice als nls cls]) T89.agg_26_5 rfl rfl ((B.b 6 rfl).cells (o := 0) rfl)) ?_
  have Bt := B.weakO 1 rfl
  have Bt := Bt.weakB 0 rfl
  refine s_k rfl (k_call T89.fn_130 (c_i_halfStep (by omega) (by omega) (by omega) (by omega) (by omega) (by omega) (by omega) (Bt.all.pick [2, 3, 1, 0] rfl) (Bt.pw.pick [2, 3, 1, 0] rfl rfl)) rfl ?_)
  rintro _ w23 ⟨rfl, hU24⟩
  replace B : Bu w no w23 [.ow kF a13 nfx c14 34 (hxL wd hi wr Xfe Xfx), .ow kF a15 nfy c16 34 (hyL wd hi wr Xfe Xfy), .blk b18 [.slice a11 nfe c12, .slice a13 nfx c14, .slice a15 nfy c16] 30, .ow kF a11 nfe c12 34 Xfe, .blk b7 [.slice none 0 0, .slice none 0 0, .slice none 0 0] 30, .blk b4 [.slice afe nfe cfe, .slice afx nfx cfx, .slice afy nfy cfy] 30, .blk b1 [.int .i64 wd, .int .i64 hi, .bool wr, .slice asp nsp csp, .slice als nls cls] 26, .rd kF asp nsp Xsp, .rd kF als nls Xls, .rd kF afe nfe Xfe, .rd kF afx nfx Xfx, .rd kF afy nfy Xfy] := B.upd [2, 3] rfl hU24
  clear hU24
  refine s_nil ?_
  refine W_seq ?_
  refine W_seq ?_
  refine W_region (by kernel_rfl) ?_
  refine s_y (v := .pointer (some ⟨b1, 1, none⟩)) rfl (y_fld (o := 0) T89.fld_26_1_1 rfl) ?_
  refine s_y (v := .int .i64 hi) rfl (y_load T89.one_2 rfl ((B.b 6 rfl).cell (j := 1) rfl)) ?_
  refine s_y (v := .int .i64 0) rfl (y_move rfl) ?_
  refine s_nil ?_
  refine W_block ?_
  refine W_loop (fun ρ' w' => ∃ (ρ1 : Env) (py : Int), ρ' = updL ρ1 [(2, .pointer (some ⟨b1, 0, none⟩)), (4, .pointer (some ⟨b7, 0, none⟩)), (5, .pointer (some ⟨b18, 0, none⟩)), (13, .int .i64 hi), (14, .int .i64 py)] ∧ Bu w no w' [.ow kF a11 nfe c12 34 (mix (wd * hi) (wd * py) (fun i => nwF wd hi wr Xsp Xls Xfe (hxL wd hi wr Xfe Xfx) (hyL wd hi wr Xfe Xfy) (i % wd) (i / wd)) Xfe), .ow kF a13 nfx c14 34 (hxL wd hi wr Xfe Xfx), .ow kF a15 nfy c16 34 (hyL wd hi wr Xfe Xfy), .blk b18 [.slice a11 nfe c12, .slice a13 nfx c14, .slice a15 nfy c16] 30, .blk b7 [.slice none 0 0, .slice none 0 0, .slice none 0 0] 30, .blk b4 [.slice afe nfe cfe, .slice afx nfx cfx, .slice afy nfy cfy] 30, .blk b1 [.int .i64 wd, .int .i64 hi, .bool wr, .slice asp nsp csp, .slice als nls cls] 26, .rd kF asp nsp Xsp, .rd kF als nls Xls, .rd kF afe nfe Xfe, .rd kF afx nfx Xfx, .rd kF afy nfy Xfy] ∧ (0 ≤ py) ∧ (py ≤ hi)) (fun ρ' _ => (hi - iv (ρ' 14)).toNat) ?_ ?_
  · replace B : Bu w no w23 [.ow kF a13 nfx c14 34 (hxL wd hi wr Xfe Xfx), .ow kF a15 nfy c16 34 (hyL wd hi wr Xfe Xfy), .blk b18 [.slice a11 nfe c12, .slice a13 nfx c14, .slice a15 nfy c16] 30, .ow kF a11 nfe c12 34 (mix (wd * hi) (wd * 0) (fun i => nwF wd hi wr Xsp Xls Xfe (hxL wd hi wr Xfe Xfx) (hyL wd hi wr Xfe Xfy) (i % wd) (i / wd)) Xfe), .blk b7 [.slice none 0 0, .slice none 0 0, .slice none 0 0] 30, .blk b4 [.slice afe nfe cfe, .slice afx nfx cfx, .slice afy nfy cfy] 30, .blk b1 [.int .i64 wd, .int .i64 hi, .bool wr, .slice asp nsp csp, .slice als nls cls] 26, .rd kF asp nsp Xsp, .rd kF als nls Xls, .rd kF afe nfe Xfe, .rd kF afx nfx Xfx, .rd kF afy nfy Xfy] := B.castX 3 rfl rfl ((mix_zero (by omega)).trans (congrArg (fun q => mix (wd * hi) q (fun i => nwF wd hi wr Xsp Xls Xfe (hxL wd hi wr Xfe Xfx) (hyL wd hi wr Xfe Xfy) (i % wd) (i / wd)) _) (Int.mul_zero wd).symm))
    exact ⟨_, 0, Fits.eq ⟨rfl, rfl, rfl, rfl, rfl, trivial⟩, (B.pick [3, 0, 1, 2, 4, 5, 6, 7, 8, 9, 10, 11] rfl rfl), (Int.le_refl _), (by omega)⟩
  · clear B; rintro _ w25 ⟨ρ26, py, rfl, B, h0py, h1py⟩
    refine W_seq ?_
    refine W_region (by kernel_rfl) ?_
    by_cases c27 : py < hi
    · refine s_y (v := .bool true) rfl (y_lss rfl rfl (decide_eq_true c27)) ?_
      refine s_nil ?_
      refine W_seq ?_
      refine W_if_t (by decide) rfl ?_
      refine W_skip ?_
      refine W_seq ?_
      refine W_block ?_
      refine W_seq ?_
      refine W_region (by kernel_rfl) ?_
      refine s_y (v := .int .i64 py) rfl (y_move rfl) ?_
      refine s_y (v := .int .i64 py) rfl (y_assign rfl) ?_
      refine s_nil ?_
      refine W_seq ?_
      refine W_region (by kernel_rfl) ?_
      refine s_y (v := .pointer (some ⟨b1, 0, none⟩)) rfl (y_fld (o := 0) T89.fld_26_0_0 rfl) ?_
      refine s_y (v := .int .i64 wd) rfl (y_load T89.one_2 rfl ((B.b 6 rfl).cell (j := 0) rfl)) ?_
      refine s_y (v := .int .i64 0) rfl (y_move rfl) ?_
      refine s_nil ?_
      refine W_block ?_
      refine W_loop (fun ρ' w' => ∃ (ρ1 : Env) (px : Int), ρ' = updL ρ1 [(2, .pointer (some ⟨b1, 0, none⟩)), (4, .pointer (some ⟨b7, 0, none⟩)), (5, .pointer (some ⟨b18, 0, none⟩)), (6, .int .i64 py), (13, .int .i64 hi), (14, .int .i64 py), (15, .bool true), (16, .int .i64 py), (17, .pointer (some ⟨b1, 0, none⟩)), (18, .int .i64 wd), (19, .int .i64 px)] ∧ Bu w no w' [.ow kF a11 nfe c12 34 (mix (wd * hi) (wd * py + px) (fun i => nwF wd hi wr Xsp Xls Xfe (hxL wd hi wr Xfe Xfx) (hyL wd hi wr Xfe Xfy) (i % wd) (i / wd)) Xfe), .ow kF a13 nfx c14 34 (hxL wd hi wr Xfe Xfx), .ow kF a15 nfy c16 34 (hyL wd hi wr Xfe Xfy), .blk b18 [.slice a11 nfe c12, .slice a13 nfx c14, .slice a15 nfy c16] 30, .blk b7 [.slice none 0 0, .slice none 0 0, .slice none 0 0] 30, .blk b4 [.slice afe nfe cfe, .slice afx nfx cfx, .slice afy nfy cfy] 30, .blk b1 [.int .i64 wd, .int .i64 hi, .bool wr, .slice asp nsp csp, .slice als nls cls] 26, .rd kF asp nsp Xsp, .rd kF als nls Xls, .rd kF afe nfe Xfe, .rd kF afx nfx Xfx, .rd kF afy nfy Xfy] ∧ (0 ≤ px) ∧ (px ≤ wd)) (fun ρ' _ => (wd - iv (ρ' 19)).toNat) ?_ ?_
      · replace B : Bu w no w25 [.ow kF a11 nfe c12 34 (mix (wd * hi) (wd * py + 0) (fun i => nwF wd hi wr Xsp Xls Xfe (hxL wd hi wr Xfe Xfx) (hyL wd hi wr Xfe Xfy) (i % wd) (i / wd)) Xfe), .ow kF a13 nfx c14 34 (hxL wd hi wr Xfe Xfx), .ow kF a15 nfy c16 34 (hyL wd hi wr Xfe Xfy), .blk b18 [.slice a11 nfe c12, .slice a13 nfx c14, .slice a15 nfy c16] 30, .blk b7 [.slice none 0 0, .slice none 0 0, .slice none 0 0] 30, .blk b4 [.slice afe nfe cfe, .slice afx nfx cfx, .slice afy nfy cfy] 30, .blk b1 [.int .i64 wd, .int .i64 hi, .bool wr, .slice asp nsp csp, .slice als nls cls] 26, .rd kF asp nsp Xsp, .rd kF als nls Xls, .rd kF afe nfe Xfe, .rd kF afx nfx Xfx, .rd kF afy nfy Xfy] := B.castX 0 rfl rfl (congrArg (fun q => mix (wd * hi) q (fun i => nwF wd hi wr Xsp Xls Xfe (hxL wd hi wr Xfe Xfx) (hyL wd hi wr Xfe Xfy) (i % wd) (i / wd)) _) (Int.add_zero _).symm)
        exact ⟨_, 0, Fits.eq ⟨rfl, rfl, rfl, rfl, rfl, rfl, rfl, rfl, rfl, rfl, rfl, trivial⟩, B, (Int.le_refl _), (by omega)⟩
      · clear B; rintro _ w28 ⟨ρ29, px, rfl, B, h0px, h1px⟩
        refine W_seq ?_
        refine W_region (by kernel_rfl) ?_
        by_cases c30 : px < wd
        · refine s_y (v := .bool true) rfl (y_lss rfl rfl (decide_eq_true c30)) ?_
          refine s_nil ?_
          refine W_seq ?_
          refine W_if_t (by decide) rfl ?_
          refine W_skip ?_
          refine W_seq ?_
          refine W_block ?_
          refine W_seq ?_
          refine W_region (by kernel_rfl) ?_
          refine s_y (v := .int .i64 px) rfl (y_move rfl) ?_
          refine s_y (v := .int .i64 px) rfl (y_assign rfl) ?_
          refine s_nil ?_
          refine W_seq ?_
          refine W_region (by kernel_rfl) ?_
          refine s_y (v := .agg #[.int .i64 wd, .int .i64 hi, .bool wr, .slice asp nsp csp, .slice als nls cls]) rfl (y_loadn (b := b1) (o := 0) (vs := [.int .i64 wd, .int .i64 hi, .bool wr, .slice asp nsp csp, .slice als nls cls]) T89.agg_26_5 rfl rfl ((B.b 6 rfl).cells (o := 0) rfl)) ?_
          refine s_y (v := .int .i64 px) rfl (y_move rfl) ?_
          refine s_y (v := .int .i64 py) rfl (y_move rfl) ?_
          refine s_k rfl (k_call T89.fn_98 (c_i_isBorder (by omega) (by omega) (by omega) (by omega)) rfl ?_)
          rintro v33 w31 ⟨hv34, e32⟩
          replace B := B.ext0 e32
          clear e32
          by_cases c35 : bordB wd hi wr px py = true
          · obtain rfl : v33 = .bool true := hv34.trans (congrArg Value.bool c35)
            refine s_y (v := .bool false) rfl (y_not rfl rfl) ?_
            refine s_nil ?_
            refine W_if_f (by decide) rfl ?_
            refine W_skip ?_
            refine W_region (by kernel_rfl) ?_
            refine s_y (v := .int .i64 (px + 1)) rfl (y_add rfl rfl rfl (by omega)) ?_
            refine s_y (v := .int .i64 (px + 1)) rfl (y_move rfl) ?_
            refine s_nil ?_
            replace B : Bu w no w31 [.ow kF a11 nfe c12 34 (mix (wd * hi) (wd * py + (px + 1)) (fun i => nwF wd hi wr Xsp Xls Xfe (hxL wd hi wr Xfe Xfx) (hyL wd hi wr Xfe Xfy) (i % wd) (i / wd)) Xfe), .ow kF a13 nfx c14 34 (hxL wd hi wr Xfe Xfx), .ow kF a15 nfy c16 34 (hyL wd hi wr Xfe Xfy), .blk b18 [.slice a11 nfe c12, .slice a13 nfx c14, .slice a15 nfy c16] 30, .blk b7 [.slice none 0 0, .slice none 0 0, .slice none 0 0] 30, .blk b4 [.slice afe nfe cfe, .slice afx nfx cfx, .slice afy nfy cfy] 30, .blk b1 [.int .i64 wd, .int .i64 hi, .bool wr, .slice asp nsp csp, .slice als nls cls] 26, .rd kF asp nsp Xsp, .rd kF als nls Xls, .rd kF afe nfe Xfe, .rd kF afx nfx Xfx, .rd kF afy nfy Xfy] := B.castX 0 rfl rfl (mix_same (G := nwF wd hi wr Xsp Xls Xfe (hxL wd hi wr Xfe Xfx) (hyL wd hi wr Xfe Xfy)) (by omega) (by omega) (by omega) (by omega) (nw_yes c35))
            refine ⟨⟨_, px + 1, Fits.eq ⟨rfl, rfl, rfl, rfl, rfl, rfl, rfl, rfl, rfl, rfl, rfl, trivial⟩, B, (by omega), (by omega)⟩, ?_⟩
            show (wd - (px + 1)).toNat < (wd - px).toNat
            omega
          · obtain rfl : v33 = .bool false := hv34.trans (congrArg Value.bool (Bool.eq_false_iff.2 c35))
            refine s_y (v := .bool true) rfl (y_not rfl rfl) ?_
            refine s_nil ?_
            refine W_if_t (by decide) rfl ?_
            have B0_40 := B
            refine W_draw (no) T89.mx (by kernel_rfl) (fun w38 e39 => ?_)
            have R41 := Ext.refl (no) w31
            replace R41 := R41.trans (Ext0.any e39)
            replace B := B.ext0 e39
            clear e39
            refine m_y (v := .pointer (some ⟨b18, 0, none⟩)) 0 rfl (by kernel_rfl) rfl rfl (fun w' e' => y_fld (o := 0) T89.fld_30_0_0 rfl) ?_
            refine m_y (v := .slice a11 nfe c12) 1 rfl (by kernel_rfl) rfl rfl (fun w' e' => y_load T89.one_24 rfl (((B0_40.b 3 rfl).ext0 e').cell (j := 0) rfl)) ?_
            refine m_y (v := .agg #[.int .i64 wd, .int .i64 hi, .bool wr, .slice asp nsp csp, .slice als nls cls]) 2 rfl (by kernel_rfl) rfl rfl (fun w' e' => y_loadn (b := b1) (o := 0) (vs := [.int .i64 wd, .int .i64 hi, .bool wr, .slice asp nsp csp, .slice als nls cls]) T89.agg_26_5 rfl rfl (((B0_40.b 6 rfl).ext0 e').cells (o := 0) rfl)) ?_
            refine m_y (v := .int .i64 px) 3 rfl (by kernel_rfl) rfl rfl (fun w' e' => y_move rfl) ?_
            refine m_y (v := .int .i64 py) 4 rfl (by kernel_rfl) rfl rfl (fun w' e' => y_move rfl) ?_
            refine m_y (v := .agg #[.int .i64 wd, .int .i64 hi, .bool wr, .slice asp nsp csp, .slice als nls cls]) 6 rfl (by kernel_rfl) rfl rfl (fun w' e' => y_loadn (b := b1) (o := 0) (vs := [.int .i64 wd, .int .i64 hi, .bool wr, .slice asp nsp csp, .slice als nls cls]) T89.agg_26_5 rfl rfl (((B0_40.b 6 rfl).ext0 e').cells (o := 0) rfl)) ?_
            refine m_y (v := .agg #[.slice a11 nfe c12, .slice a13 nfx c14, .slice a15 nfy c16]) 7 rfl (by kernel_rfl) rfl rfl (fun w' e' => y_loadn (b := b18) (o := 0) (vs := [.slice a11 nfe c12, .slice a13 nfx c14, .slice a15 nfy c16]) T89.agg_30_3 rfl rfl (((B0_40.b 3 rfl).ext0 e').cells (o := 0) rfl)) ?_
            refine m_y (v := .int .i64 px) 8 rfl (by kernel_rfl) rfl rfl (fun w' e' => y_move rfl) ?_
            refine m_y (v := .int .i64 py) 9 rfl (by kernel_rfl) rfl rfl (fun w' e' => y_move rfl) ?_
            refine m_k 5 [10, 11, 12] rfl (by kernel_rfl) rfl rfl (fun w42 e43 => ?_)
            replace R41 := R41.trans (Ext0.any e43)
            replace B := B.ext0 e43
            clear e43
            refine k_call T89.fn_69 (c_i_at (by omega) (by omega) (by omega) (by omega) (by omega) (by omega) (by omega) (by omega)) rfl ?_
            rintro _ w44 ⟨rfl, e45⟩
            replace R41 := R41.trans (Ext0.any e45)
            replace B := B.ext0 e45
            clear e45
            refine ⟨fun _ => R41, ?_⟩
            have hat46 := atI_b (wd := wd) (hi := hi) (x := px) (y := py) (by omega) (by omega)
            refine m_k 10 [11, 12] rfl (by kernel_rfl) rfl rfl (fun w47 e48 => ?_)
            replace R41 := R41.trans (Ext0.any e48)
            replace B := B.ext0 e48
            clear e48
            refine k_call T89.fn_131 (c_i_newValue (B.r 7 rfl) (B.r 8 rfl) ((B.o 0 rfl).rd) ((B.o 1 rfl).rd) ((B.o 2 rfl).rd) (by omega) (by omega) (by omega) (by omega) (by omega) (by omega) (by omega) (by omega) (by omega) (by omega) (by omega) (by omega) (by omega)) rfl ?_
            rintro _ w49 ⟨⟨r51, rfl, hr52⟩, e50⟩
            replace R41 := R41.trans (Ext0.any e50)
            replace B := B.ext0 e50
            clear e50
            refine ⟨fun _ => R41, ?_⟩
            refine m_y (v := .pointer (some (sat a11 ((atI wd hi px py).toNat * 1)))) 11 rfl (by kernel_rfl) rfl rfl (fun w' e' => y_idx T89.sl_24_34_1 rfl rfl ((B.o 0 rfl).rd.addr (by omega)) (by omega) (by omega)) ?_
            refine m_kt 12 [] rfl (by kernel_rfl) rfl rfl (by kernel_rfl) (fun w55 e56 => ?_)
            replace R41 := R41.trans (Ext0.any e56)
            replace B := B.ext0 e56
            clear e56
            refine k_stO (k := kF) (i := atI wd hi px py) (j := 0) (x' := nvV wd hi Xsp Xls (el (mix (wd * hi) (wd * py + px) (fun i => nwF wd hi wr Xsp Xls Xfe (hxL wd hi wr Xfe Xfx) (hyL wd hi wr Xfe Xfy) (i % wd) (i / wd)) Xfe) (atI wd hi px py)) (hxL wd hi wr Xfe Xfx) (hyL wd hi wr Xfe Xfy) px py) (new := [.float .f32 r51]) T89.sz_34_1 rfl rfl rfl rfl rfl (by simp [Value.oneCell']) (by decide) (B.o 0 rfl) (by omega) (by omega) (by decide) (by rintro q ⟨_, rfl, _⟩; exact ⟨_, rfl, hr52⟩) (fun w53 hU54 => ?_)
            clear R41
            replace B : Bu w no w53 [.ow kF a11 nfe c12 34 (put (mix (wd * hi) (wd * py + px) (fun i => nwF wd hi wr Xsp Xls Xfe (hxL wd hi wr Xfe Xfx) (hyL wd hi wr Xfe Xfy) (i % wd) (i / wd)) Xfe) (atI wd hi px py) (nvV wd hi Xsp Xls (el (mix (wd * hi) (wd * py + px) (fun i => nwF wd hi wr Xsp Xls Xfe (hxL wd hi wr Xfe Xfx) (hyL wd hi wr Xfe Xfy) (i % wd) (i / wd)) Xfe) (atI wd hi px py)) (hxL wd hi wr Xfe Xfx) (hyL wd hi wr Xfe Xfy) px py)), .ow kF a13 nfx c14 34 (hxL wd hi wr Xfe Xfx), .ow kF a15 nfy c16 34 (hyL wd hi wr Xfe Xfy), .blk b18 [.slice a11 nfe c12, .slice a13 nfx c14, .slice a15 nfy c16] 30, .blk b7 [.slice none 0 0, .slice none 0 0, .slice none 0 0] 30, .blk b4 [.slice afe nfe cfe, .slice afx nfx cfx, .slice afy nfy cfy] 30, .blk b1 [.int .i64 wd, .int .i64 hi, .bool wr, .slice asp nsp csp, .slice als nls cls] 26, .rd kF asp nsp Xsp, .rd kF als nls Xls, .rd kF afe nfe Xfe, .rd kF afx nfx Xfx, .rd kF afy nfy Xfy] := B.upd [0] rfl hU54
            clear hU54
            refine m_done (by kernel_rfl) (fun w57 e58 => ?_)
            replace B := B.ext0 e58
            clear e58
            clear B0_40
            refine W_region (by kernel_rfl) ?_
            refine s_y (v := .int .i64 (px + 1)) rfl (y_add rfl rfl rfl (by omega)) ?_
            refine s_y (v := .int .i64 (px + 1)) rfl (y_move rfl) ?_
            refine s_nil ?_
            replace B : Bu w no w57 [.ow kF a11 nfe c12 34 (mix (wd * hi) (wd * py + (px + 1)) (fun i => nwF wd hi wr Xsp Xls Xfe (hxL wd hi wr Xfe Xfx) (hyL wd hi wr Xfe Xfy) (i % wd) (i / wd)) Xfe), .ow kF a13 nfx c14 34 (hxL wd hi wr Xfe Xfx), .ow kF a15 nfy c16 34 (hyL wd hi wr Xfe Xfy), .blk b18 [.slice a11 nfe c12, .slice a13 nfx c14, .slice a15 nfy c16] 30, .blk b7 [.slice none 0 0, .slice none 0 0, .slice none 0 0] 30, .blk b4 [.slice afe nfe cfe, .slice afx nfx cfx, .slice afy nfy cfy] 30, .blk b1 [.int .i64 wd, .int .i64 hi, .bool wr, .slice asp nsp csp, .slice als nls cls] 26, .rd kF asp nsp Xsp, .rd kF als nls Xls, .rd kF afe nfe Xfe, .rd kF afx nfx Xfx, .rd kF afy nfy Xfy] := B.castX 0 rfl rfl (mix_cell (G := nwF wd hi wr Xsp Xls Xfe (hxL wd hi wr Xfe Xfx) (hyL wd hi wr Xfe Xfy)) rfl (by omega) (by omega) (by omega) (by omega) rfl (nw_no rfl (by omega) (by omega) (by omega) (by omega) (Bool.eq_false_iff.2 c35)))
            refine ⟨⟨_, px + 1, Fits.eq ⟨rfl, rfl, rfl, rfl, rfl, rfl, rfl, rfl, rfl, rfl, rfl, trivial⟩, B, (by omega), (by omega)⟩, ?_⟩
            show (wd - (px + 1)).toNat < (wd - px).toNat
            omega
        · refine s_y (v := .bool false) rfl (y_lss rfl rfl (decide_eq_false c30)) ?_
          refine s_nil ?_
          refine W_seq ?_
          refine W_if_f (by decide) rfl ?_
          refine W_exit ?_
          refine W_region (by kernel_rfl) ?_
          refine s_y (v := .int .i64 (py + 1)) rfl (y_add rfl rfl rfl (by omega)) ?_
          refine s_y (v := .int .i64 (py + 1)) rfl (y_move rfl) ?_
          refine s_nil ?_
          replace B : Bu w no w28 [.ow kF a11 nfe c12 34 (mix (wd * hi) (wd * (py + 1)) (fun i => nwF wd hi wr Xsp Xls Xfe (hxL wd hi wr Xfe Xfx) (hyL wd hi wr Xfe Xfy) (i % wd) (i / wd)) Xfe), .ow kF a13 nfx c14 34 (hxL wd hi wr Xfe Xfx), .ow kF a15 nfy c16 34 (hyL wd hi wr Xfe Xfy), .blk b18 [.slice a11 nfe c12, .slice a13 nfx c14, .slice a15 nfy c16] 30, .blk b7 [.slice none 0 0, .slice none 0 0, .slice none 0 0] 30, .blk b4 [.slice afe nfe cfe, .slice afx nfx cfx, .slice afy nfy cfy] 30, .blk b1 [.int .i64 wd, .int .i64 hi, .bool wr, .slice asp nsp csp, .slice als nls cls] 26, .rd kF asp nsp Xsp, .rd kF als nls Xls, .rd kF afe nfe Xfe, .rd kF afx nfx Xfx, .rd kF afy nfy Xfy] := B.castX 0 rfl rfl (congrArg (fun q => mix (wd * hi) q (fun i => nwF wd hi wr Xsp Xls Xfe (hxL wd hi wr Xfe Xfx) (hyL wd hi wr Xfe Xfy) (i % wd) (i / wd)) _) (show wd * py + px = wd * (py + 1) by rw [Int.mul_add, Int.mul_one]; omega))
          refine ⟨⟨_, py + 1, Fits.eq ⟨rfl, rfl, rfl, rfl, rfl, trivial⟩, B, (by omega), (by omega)⟩, ?_⟩
          show (hi - (py + 1)).toNat < (hi - py).toNat
          omega
    · refine s_y (v := .bool false) rfl (y_lss rfl rfl (decide_eq_false c27)) ?_
      refine s_nil ?_
      refine W_seq ?_
      refine W_if_f (by decide) rfl ?_
      refine W_exit ?_
      have hye : py = hi := by omega
      subst hye
      replace B : Bu w no w25 [.ow kF a11 nfe c12 34 (tab (wd * py) (fun i => nwF wd py wr Xsp Xls Xfe (hxL wd py wr Xfe Xfx) (hyL wd py wr Xfe Xfy) (i % wd) (i / wd))), .ow kF a13 nfx c14 34 (hxL wd py wr Xfe Xfx), .ow kF a15 nfy c16 34 (hyL wd py wr Xfe Xfy), .blk b18 [.slice a11 nfe c12, .slice a13 nfx c14, .slice a15 nfy c16] 30, .blk b7 [.slice none 0 0, .slice none 0 0, .slice none 0 0] 30, .blk b4 [.slice afe nfe cfe, .slice afx nfx cfx, .slice afy nfy cfy] 30, .blk b1 [.int .i64 wd, .int .i64 py, .bool wr, .slice asp nsp csp, .slice als nls cls] 26, .rd kF asp nsp Xsp, .rd kF als nls Xls, .rd kF afe nfe Xfe, .rd kF afx nfx Xfx, .rd kF afy nfy Xfy] := B.castX 0 rfl rfl mix_all
      refine W_seq ?_
      refine W_region (by kernel_rfl) ?_
      refine s_y (v := .agg #[.slice a11 nfe c12, .slice a13 nfx c14, .slice a15 nfy c16]) rfl (y_loadn (b := b18) (o := 0) (vs := [.slice a11 nfe c12, .slice a13 nfx c14, .slice a15 nfy c16]) T89.agg_30_3 rfl rfl ((B.b 3 rfl).cells (o := 0) rfl)) ?_
      refine s_k0 rfl (k_stB (v := .agg #[.slice a11 nfe c12, .slice a13 nfx c14, .slice a15 nfy c16]) (n := 3) (cs' := [.slice a11 nfe c12, .slice a13 nfx c14, .slice a15 nfy c16]) T89.sz_30_3 rfl rfl rfl (B.b 4 rfl) (by simp [Value.cells, Value.oneCell']) (Nat.le_of_ble_eq_true rfl) rfl (fun w59 hU60 => ?_))
      replace B : Bu w no w59 [.blk b7 [.slice a11 nfe c12, .slice a13 nfx c14, .slice a15 nfy c16] 30, .ow kF a11 nfe c12 34 (tab (wd * py) (fun i => nwF wd py wr Xsp Xls Xfe (hxL wd py wr Xfe Xfx) (hyL wd py wr Xfe Xfy) (i % wd) (i / wd))), .ow kF a13 nfx c14 34 (hxL wd py wr Xfe Xfx), .ow kF a15 nfy c16 34 (hyL wd py wr Xfe Xfy), .blk b18 [.slice a11 nfe c12, .slice a13 nfx c14, .slice a15 nfy c16] 30, .blk b4 [.slice afe nfe cfe, .slice afx nfx cfx, .slice afy nfy cfy] 30, .blk b1 [.int .i64 wd, .int .i64 py, .bool wr, .slice asp nsp csp, .slice als nls cls] 26, .rd kF asp nsp Xsp, .rd kF als nls Xls, .rd kF afe nfe Xfe, .rd kF afx nfx Xfx, .rd kF afy nfy Xfy] := B.upd [4] rfl hU60
      clear hU60
      refine s_nil ?_
      refine W_ret ?_
      refine ret1 (v := .agg #[.slice a11 nfe c12, .slice a13 nfx c14, .slice a15 nfy c16]) rfl rfl ⟨_, [.slice a11 nfe c12, .slice a13 nfx c14, .slice a15 nfy c16], _, rfl, (B.b 0 rfl), T89.agg_30_3, rfl⟩ ⟨_, rfl, ?_⟩
      replace B : Bu w no w59 [.blk b7 [.slice a11 nfe c12, .slice a13 nfx c14, .slice a15 nfy c16] 30, .ow kF a11 nfe c12 34 (nwL wd py wr Xsp Xls Xfe (hxL wd py wr Xfe Xfx) (hyL wd py wr Xfe Xfy)), .ow kF a13 nfx c14 34 (hxL wd py wr Xfe Xfx), .ow kF a15 nfy c16 34 (hyL wd py wr Xfe Xfy), .blk b18 [.slice a11 nfe c12, .slice a13 nfx c14, .slice a15 nfy c16] 30, .blk b4 [.slice afe nfe cfe, .slice afx nfx cfx, .slice afy nfy cfy] 30, .blk b1 [.int .i64 wd, .int .i64 py, .bool wr, .slice asp nsp csp, .slice als nls cls] 26, .rd kF asp nsp Xsp, .rd kF als nls Xls, .rd kF afe nfe Xfe, .rd kF afx nfx Xfx, .rd kF afy nfy Xfy] := B.castX 1 rfl rfl rfl
      exact ⟨_, _, _, _, _, _, rfl, B.give [1, 2, 3] rfl rfl rfl⟩
namespace T71
theorem mx : Try.prog.follows .mixedOrders = true := by kernel_rfl
end T71
namespace T72
theorem mx : Try.prog.follows .mixedOrders = true := by kernel_rfl
end T72
set_option maxRecDepth 100000 in
set_option maxHeartbeats 4000000 in
theorem c_i_RunField_1 {afe : Option Addr} {nfe : Nat} {cfe : Nat} {afx : Option Addr} {nfx : Nat} {cfx : Nat} {afy : Option Addr} {nfy : Nat} {cfy : Nat} {w : World} :
    Calls Try.prog 72 #[.agg #[.slice afe nfe cfe, .slice afx nfx cfx, .slice afy nfy cfy]] w (Rt fun v w' => v = .tuple #[] ∧ Ext0 w w') := by
  have B : Bu w no w [] := Bu.ro All.nil rfl
  refine calls_W (n := 2) Try.func72 rfl rfl (Nat.le_of_ble_eq_true rfl) ?_
  refine W_region (by kernel_rfl) ?_
  refine s_k rfl (k_boxN (v := .agg #[.slice afe nfe cfe, .slice afx nfx cfx, .slice afy nfy cfy]) (cs := [.slice afe nfe cfe, .slice afx nfx cfx, .slice afy nfy cfy]) rfl rfl (fun b1 w2 hN3 => ?_))
  replace B := B.new1 hN3
  clear hN3
  refine s_nil ?_
  refine ret0 rfl ⟨_, rfl, ?_⟩
  exact ⟨rfl, B.ext⟩
namespace T17
theorem mx : Try.prog.follows .mixedOrders = true := by kernel_rfl
theorem agg_26_5 : aggB Try.prog 26 5 = true := by kernel_rfl
theorem agg_30_3 : aggB Try.prog 30 3 = true := by kernel_rfl
theorem fn_41 : fnB Try.prog 41 = true := by kernel_rfl
theorem fn_68 : fnB Try.prog 68 = true := by kernel_rfl
theorem fn_71 : fnB Try.prog 71 = true := by kernel_rfl
theorem fn_72 : fnB Try.prog 72 = true := by kernel_rfl
theorem fn_74 : fnB Try.prog 74 = true := by kernel_rfl
theorem fn_89 : fnB Try.prog 89 = true := by kernel_rfl
theorem sz_30_3 : szB Try.prog 30 3 = true := by kernel_rfl
theorem zero_30 : zeroB Try.prog 30 (.agg #[.slice none 0 0, .slice none 0 0, .slice none 0 0]) := by unfold zeroB; kernel_rfl
end T17
set_option maxRecDepth 100000 in
set_option maxHeartbeats 4000000 in
theorem c_i_run_none {wd : Int} {hi : Int} {wr : Bool} {asp : Option Addr} {nsp : Nat} {csp : Nat} {Xsp : List Nat} {als : Option Addr} {nls : Nat} {cls : Nat} {Xls : List Nat} {afe : Option Addr} {nfe : Nat} {cfe : Nat} {Xfe : List Nat} {afx : Option Addr} {nfx : Nat} {cfx : Nat} {Xfx : List Nat} {afy : Option Addr} {nfy : Nat} {cfy : Nat} {Xfy : List Nat} {m : Int} {w : World} (qsp : Rd w kF asp nsp Xsp) (qls : Rd w kF als nls Xls) (qfe : Rd w kF afe nfe Xfe) (qfx : Rd w kF afx nfx Xfx) (qfy : Rd w kF afy nfy Xfy) (hbsp : nsp ≤ 9223372036854775806) (hbls : nls ≤ 9223372036854775806) (hbfe : nfe ≤ 9223372036854775806) (hbfx : nfx ≤ 9223372036854775806) (hbfy : nfy ≤ 9223372036854775806) :
    Calls Try.prog 71 #[.agg #[.int .i64 wd, .int .i64 hi, .bool wr, .slice asp nsp csp, .slice als nls cls], .agg #[.slice afe nfe cfe, .slice afx nfx cfx, .slice afy nfy cfy], .int .i64 m, .func (.func 72) #[] #[]] w (Rt fun v w' => (runB wd hi wr Xsp Xls Xfe Xfx Xfy m = true ∧ ∃ (a1 : Option Addr) (c1 : Nat) (a2 : Option Addr) (c2 : Nat) (a3 : Option Addr) (c3 : Nat), v = .tuple #[.agg #[.slice a1 nfe c1, .slice a2 nfx c2, .slice a3 nfy c3], .bool true] ∧ New w w' [.ow kF a1 nfe c1 34 ((rnT wd hi wr Xsp Xls (Xfe, Xfx, Xfy) (Int.toNat m)).1), .ow kF a2 nfx c2 34 ((rnT wd hi wr Xsp Xls (Xfe, Xfx, Xfy) (Int.toNat m)).2.1), .ow kF a3 nfy c3 34 ((rnT wd hi wr Xsp Xls (Xfe, Xfx, Xfy) (Int.toNat m)).2.2)]) ∨ (runB wd hi wr Xsp Xls Xfe Xfx Xfy m = false ∧ v = .tuple #[.agg #[.slice none 0 0, .slice none 0 0, .slice none 0 0], .bool false] ∧ Ext0 w w')) := by
  have hlsp := qsp.len
  have hlls := qls.len
  have hlfe := qfe.len
  have hlfx := qfx.len
  have hlfy := qfy.len
  have B : Bu w no w [.rd kF asp nsp Xsp, .rd kF als nls Xls, .rd kF afe nfe Xfe, .rd kF afx nfx Xfx, .rd kF afy nfy Xfy] := Bu.ro (All.cons qsp (All.cons qls (All.cons qfe (All.cons qfx (All.cons qfy All.nil))))) rfl
  refine calls_W (n := 34) Try.func71 rfl rfl (Nat.le_of_ble_eq_true rfl) ?_
  refine W_seq ?_
  refine W_region (by kernel_rfl) ?_
  refine s_k rfl (k_boxN (v := .agg #[.int .i64 wd, .int .i64 hi, .bool wr, .slice asp nsp csp, .slice als nls cls]) (cs := [.int .i64 wd, .int .i64 hi, .bool wr, .slice asp nsp csp, .slice als nls cls]) rfl rfl (fun b1 w2 hN3 => ?_))
  replace B := B.new1 hN3
  clear hN3
  refine s_k rfl (k_boxN (v := .agg #[.slice afe nfe cfe, .slice afx nfx cfx, .slice afy nfy cfy]) (cs := [.slice afe nfe cfe, .slice afx nfx cfx, .slice afy nfy cfy]) rfl rfl (fun b4 w5 hN6 => ?_))
  replace B := B.new1 hN6
  clear hN6
  refine s_k rfl (k_allocN (z := (.agg #[.slice none 0 0, .slice none 0 0, .slice none 0 0])) (cs := [.slice none 0 0, .slice none 0 0, .slice none 0 0]) T17.zero_30 rfl (fun b7 w8 hN9 => ?_))
  replace B := B.new1 hN9
  clear hN9
  refine s_y (v := .bool false) rfl (y_assign rfl) ?_
  refine s_nil ?_
  refine W_seq ?_
  refine W_seq ?_
  refine W_region (by kernel_rfl) ?_
  refine s_y (v := .agg #[.int .i64 wd, .int .i64 hi, .bool wr, .slice asp nsp csp, .slice als nls cls]) rfl (y_loadn (b := b1) (o := 0) (vs := [.int .i64 wd, .int .i64 hi, .bool wr, .slice asp nsp csp, .slice als nls cls]) T17.agg_26_5 rfl rfl ((B.b 2 rfl).cells (o := 0) rfl)) ?_
  refine s_y (v := .agg #[.slice afe nfe cfe, .slice afx nfx cfx, .slice afy nfy cfy]) rfl (y_loadn (b := b4) (o := 0) (vs := [.slice afe nfe cfe, .slice afx nfx cfx, .slice afy nfy cfy]) T17.agg_30_3 rfl rfl ((B.b 1 rfl).cells (o := 0) rfl)) ?_
  refine s_k rfl (k_call T17.fn_41 (c_i_IsField (B.r 3 rfl) (B.r 4 rfl) (B.r 5 rfl) (B.r 6 rfl) (B.r 7 rfl) (by omega) (by omega) (by omega) (by omega) (by omega)) rfl ?_)
  rintro v12 w10 ⟨hv13, e11⟩
  replace B := B.ext0 e11
  clear e11
  by_cases c14 : fieldB wd hi wr Xsp Xls Xfe Xfx Xfy = true
  · have hb15 := fieldB_b c14
    obtain rfl : v12 = .bool true := hv13.trans (congrArg Value.bool c14)
    refine s_y (v := .bool false) rfl (y_not rfl rfl) ?_
    refine s_y (v := .bool false) rfl (y_move rfl) ?_
    refine s_y (v := .int .i64 m) rfl (y_move rfl) ?_
    refine s_k rfl (k_call T17.fn_74 (c_i_within) rfl ?_)
    rintro v18 w16 ⟨hv19, e17⟩
    replace B := B.ext0 e17
    clear e17
    by_cases c20 : within m 0 64 = true
    · have hb21 := within_b c20
      obtain rfl : v18 = .bool true := hv19.trans (congrArg Value.bool c20)
      refine s_y (v := .bool false) rfl (y_not rfl rfl) ?_
      refine s_y (v := .bool false) rfl (y_pick_f rfl rfl) ?_
      refine s_nil ?_
      refine W_if_f (by decide) rfl ?_
      refine W_skip ?_
      refine W_seq ?_
      refine W_region (by kernel_rfl) ?_
      refine s_y (v := .agg #[.slice afe nfe cfe, .slice afx nfx cfx, .slice afy nfy cfy]) rfl (y_loadn (b := b4) (o := 0) (vs := [.slice afe nfe cfe, .slice afx nfx cfx, .slice afy nfy cfy]) T17.agg_30_3 rfl rfl ((B.b 1 rfl).cells (o := 0) rfl)) ?_
      refine s_k rfl (k_call T17.fn_68 (c_i_copyField (B.r 5 rfl) (B.r 6 rfl) (B.r 7 rfl) (by omega) (by omega) (by omega)) rfl ?_)
      rintro _ w22 ⟨a23, c24, a25, c26, a27, c28, rfl, hN29⟩
      replace B := B.new3 hN29
      clear hN29
      refine s_k rfl (k_allocN (z := (.agg #[.slice none 0 0, .slice none 0 0, .slice none 0 0])) (cs := [.slice none 0 0, .slice none 0 0, .slice none 0 0]) T17.zero_30 rfl (fun b30 w31 hN32 => ?_))
      replace B := B.new1 hN32
      clear hN32
      refine s_k0 rfl (k_stB (v := .agg #[.slice a23 nfe c24, .slice a25 nfx c26, .slice a27 nfy c28]) (n := 3) (cs' := [.slice a23 nfe c24, .slice a25 nfx c26, .slice a27 nfy c28]) T17.sz_30_3 rfl rfl rfl (B.b 0 rfl) (by simp [Value.cells, Value.oneCell']) (Nat.le_of_ble_eq_true rfl) rfl (fun w33 hU34 => ?_))
      replace B : Bu w no w33 [.blk b30 [.slice a23 nfe c24, .slice a25 nfx c26, .slice a27 nfy c28] 30, .ow kF a23 nfe c24 34 Xfe, .ow kF a25 nfx c26 34 Xfx, .ow kF a27 nfy c28 34 Xfy, .blk b7 [.slice none 0 0, .slice none 0 0, .slice none 0 0] 30, .blk b4 [.slice afe nfe cfe, .slice afx nfx cfx, .slice afy nfy cfy] 30, .blk b1 [.int .i64 wd, .int .i64 hi, .bool wr, .slice asp nsp csp, .slice als nls cls] 26, .rd kF asp nsp Xsp, .rd kF als nls Xls, .rd kF afe nfe Xfe, .rd kF afx nfx Xfx, .rd kF afy nfy Xfy] := B.upd [0] rfl hU34
      clear hU34
      refine s_nil ?_
      refine W_seq ?_
      refine W_seq ?_
      refine W_region (by kernel_rfl) ?_
      refine s_y (v := .int .i64 m) rfl (y_move rfl) ?_
      refine s_y (v := .int .i64 0) rfl (y_move rfl) ?_
      refine s_nil ?_
      refine W_block ?_
      refine W_loop (fun ρ' w' => ∃ (ρ1 : Env) (k : Int) (A1 : Option Addr) (A2 : Option Addr) (A3 : Option Addr) (C1 : Nat) (C2 : Nat) (C3 : Nat), ρ' = updL ρ1 [(3, .func (.func 72) #[] #[]), (4, .pointer (some ⟨b1, 0, none⟩)), (8, .pointer (some ⟨b7, 0, none⟩)), (9, .bool false), (10, .pointer (some ⟨b30, 0, none⟩)), (23, .int .i64 m), (24, .int .i64 k)] ∧ Bu w no w' [.ow kF A1 nfe C1 34 ((rnT wd hi wr Xsp Xls (Xfe, Xfx, Xfy) (Int.toNat k)).1), .ow kF A2 nfx C2 34 ((rnT wd hi wr Xsp Xls (Xfe, Xfx, Xfy) (Int.toNat k)).2.1), .ow kF A3 nfy C3 34 ((rnT wd hi wr Xsp Xls (Xfe, Xfx, Xfy) (Int.toNat k)).2.2), .blk b30 [.slice A1 nfe C1, .slice A2 nfx C2, .slice A3 nfy C3] 30, .blk b7 [.slice none 0 0, .slice none 0 0, .slice none 0 0] 30, .blk b4 [.slice afe nfe cfe, .slice afx nfx cfx, .slice afy nfy cfy] 30, .blk b1 [.int .i64 wd, .int .i64 hi, .bool wr, .slice asp nsp csp, .slice als nls cls] 26, .rd kF asp nsp Xsp, .rd kF als nls Xls, .rd kF afe nfe Xfe, .rd kF afx nfx Xfx, .rd kF afy nfy Xfy] ∧ (0 ≤ k) ∧ (k ≤ m)) (fun ρ' _ => (m - iv (ρ' 24)).toNat) ?_ ?_
      · replace B : Bu w no w33 [.blk b30 [.slice a23 nfe c24, .slice a25 nfx c26, .slice a27 nfy c28] 30, .ow kF a23 nfe c24 34 ((rnT wd hi wr Xsp Xls (Xfe, Xfx, Xfy) (Int.toNat 0)).1), .ow kF a25 nfx c26 34 Xfx, .ow kF a27 nfy c28 34 Xfy, .blk b7 [.slice none 0 0, .slice none 0 0, .slice none 0 0] 30, .blk b4 [.slice afe nfe cfe, .slice afx nfx cfx, .slice afy nfy cfy] 30, .blk b1 [.int .i64 wd, .int .i64 hi, .bool wr, .slice asp nsp csp, .slice als nls cls] 26, .rd kF asp nsp Xsp, .rd kF als nls Xls, .rd kF afe nfe Xfe, .rd kF afx nfx Xfx, .rd kF afy nfy Xfy] := B.castX 1 rfl rfl rfl
        replace B : Bu w no w33 [.blk b30 [.slice a23 nfe c24, .slice a25 nfx c26, .slice a27 nfy c28] 30, .ow kF a23 nfe c24 34 ((rnT wd hi wr Xsp Xls (Xfe, Xfx, Xfy) (Int.toNat 0)).1), .ow kF a25 nfx c26 34 ((rnT wd hi wr Xsp Xls (Xfe, Xfx, Xfy) (Int.toNat 0)).2.1), .ow kF a27 nfy c28 34 Xfy, .blk b7 [.slice none 0 0, .slice none 0 0, .slice none 0 0] 30, .blk b4 [.slice afe nfe cfe, .slice afx nfx cfx, .slice afy nfy cfy] 30, .blk b1 [.int .i64 wd, .int .i64 hi, .bool wr, .slice asp nsp csp, .slice als nls cls] 26, .rd kF asp nsp Xsp, .rd kF als nls Xls, .rd kF afe nfe Xfe, .rd kF afx nfx Xfx, .rd kF afy nfy Xfy] := B.castX 2 rfl rfl rfl
        replace B : Bu w no w33 [.blk b30 [.slice a23 nfe c24, .slice a25 nfx c26, .slice a27 nfy c28] 30, .ow kF a23 nfe c24 34 ((rnT wd hi wr Xsp Xls (Xfe, Xfx, Xfy) (Int.toNat 0)).1), .ow kF a25 nfx c26 34 ((rnT wd hi wr Xsp Xls (Xfe, Xfx, Xfy) (Int.toNat 0)).2.1), .ow kF a27 nfy c28 34 ((rnT wd hi wr Xsp Xls (Xfe, Xfx, Xfy) (Int.toNat 0)).2.2), .blk b7 [.slice none 0 0, .slice none 0 0, .slice none 0 0] 30, .blk b4 [.slice afe nfe cfe, .slice afx nfx cfx, .slice afy nfy cfy] 30, .blk b1 [.int .i64 wd, .int .i64 hi, .bool wr, .slice asp nsp csp, .slice als nls cls] 26, .rd kF asp nsp Xsp, .rd kF als nls Xls, .rd kF afe nfe Xfe, .rd kF afx nfx Xfx, .rd kF afy nfy Xfy] := B.castX 3 rfl rfl rfl
        exact ⟨_, 0, a23, a25, a27, c24, c26, c28, Fits.eq ⟨rfl, rfl, rfl, rfl, rfl, rfl, rfl, trivial⟩, (B.pick [1, 2, 3, 0, 4, 5, 6, 7, 8, 9, 10, 11] rfl rfl), (Int.le_refl _), (by omega)⟩
      · clear B; rintro _ w35 ⟨ρ36, k, A1, A2, A3, C1, C2, C3, rfl, B, h0k, h1k⟩
        refine W_seq ?_
        refine W_region (by kernel_rfl) ?_
        by_cases c37 : k < m
        · refine s_y (v := .bool true) rfl (y_lss rfl rfl (decide_eq_true c37)) ?_
          refine s_nil ?_
          refine W_seq ?_
          refine W_if_t (by decide) rfl ?_
          refine W_skip ?_
          refine W_seq ?_
          refine W_block ?_
          refine W_seq ?_
          refine W_region (by kernel_rfl) ?_
          refine s_y (v := .agg #[.int .i64 wd, .int .i64 hi, .bool wr, .slice asp nsp csp, .slice als nls cls]) rfl (y_loadn (b := b1) (o := 0) (vs := [.int .i64 wd, .int .i64 hi, .bool wr, .slice asp nsp csp, .slice als nls cls]) T17.agg_26_5 rfl rfl ((B.b 6 rfl).cells (o := 0) rfl)) ?_
          refine s_y (v := .agg #[.slice A1 nfe C1, .slice A2 nfx C2, .slice A3 nfy C3]) rfl (y_loadn (b := b30) (o := 0) (vs := [.slice A1 nfe C1, .slice A2 nfx C2, .slice A3 nfy C3]) T17.agg_30_3 rfl rfl ((B.b 3 rfl).cells (o := 0) rfl)) ?_
          refine s_k rfl (k_call T17.fn_89 (c_i_stepped (B.r 7 rfl) (B.r 8 rfl) ((B.o 0 rfl).rd) ((B.o 1 rfl).rd) ((B.o 2 rfl).rd) (by omega) (by omega) (by omega) (by omega) (by omega) (by omega) (by omega) (by omega) (by omega)) rfl ?_)
          rintro _ w38 ⟨a39, c40, a41, c42, a43, c44, rfl, hN45⟩
          replace B := B.new3 hN45
          clear hN45
          refine s_k0 rfl (k_stB (v := .agg #[.slice a39 nfe c40, .slice a41 nfx c42, .slice a43 nfy c44]) (n := 3) (cs' := [.slice a39 nfe c40, .slice a41 nfx c42, .slice a43 nfy c44]) T17.sz_30_3 rfl rfl rfl (B.b 6 rfl) (by simp [Value.cells, Value.oneCell']) (Nat.le_of_ble_eq_true rfl) rfl (fun w46 hU47 => ?_))
          replace B : Bu w no w46 [.blk b30 [.slice a39 nfe c40, .slice a41 nfx c42, .slice a43 nfy c44] 30, .ow kF a39 nfe c40 34 (nwL wd hi wr Xsp Xls ((rnT wd hi wr Xsp Xls (Xfe, Xfx, Xfy) (Int.toNat k)).1) (hxL wd hi wr ((rnT wd hi wr Xsp Xls (Xfe, Xfx, Xfy) (Int.toNat k)).1) ((rnT wd hi wr Xsp Xls (Xfe, Xfx, Xfy) (Int.toNat k)).2.1)) (hyL wd hi wr ((rnT wd hi wr Xsp Xls (Xfe, Xfx, Xfy) (Int.toNat k)).1) ((rnT wd hi wr Xsp Xls (Xfe, Xfx, Xfy) (Int.toNat k)).2.2))), .ow kF a41 nfx c42 34 (hxL wd hi wr ((rnT wd hi wr Xsp Xls (Xfe, Xfx, Xfy) (Int.toNat k)).1) ((rnT wd hi wr Xsp Xls (Xfe, Xfx, Xfy) (Int.toNat k)).2.1)), .ow kF a43 nfy c44 34 (hyL wd hi wr ((rnT wd hi wr Xsp Xls (Xfe, Xfx, Xfy) (Int.toNat k)).1) ((rnT wd hi wr Xsp Xls (Xfe, Xfx, Xfy) (Int.toNat k)).2.2)), .ow kF A1 nfe C1 34 ((rnT wd hi wr Xsp Xls (Xfe, Xfx, Xfy) (Int.toNat k)).1), .ow kF A2 nfx C2 34 ((rnT wd hi wr Xsp Xls (Xfe, Xfx, Xfy) (Int.toNat k)).2.1), .ow kF A3 nfy C3 34 ((rnT wd hi wr Xsp Xls (Xfe, Xfx, Xfy) (Int.toNat k)).2.2), .blk b7 [.slice none 0 0, .slice none 0 0, .slice none 0 0] 30, .blk b4 [.slice afe nfe cfe, .slice afx nfx cfx, .slice afy nfy cfy] 30, .blk b1 [.int .i64 wd, .int .i64 hi, .bool wr, .slice asp nsp csp, .slice als nls cls] 26, .rd kF asp nsp Xsp, .rd kF als nls Xls, .rd kF afe nfe Xfe, .rd kF afx nfx Xfx, .rd kF afy nfy Xfy] := B.upd [6] rfl hU47
          clear hU47
          refine s_nil ?_
          refine W_region (by kernel_rfl) ?_
          refine s_y (v := .func (.func 72) #[] #[]) rfl (y_move rfl) ?_
          refine s_y (v := .agg #[.slice a39 nfe c40, .slice a41 nfx c42, .slice a43 nfy c44]) rfl (y_loadn (b := b30) (o := 0) (vs := [.slice a39 nfe c40, .slice a41 nfx c42, .slice a43 nfy c44]) T17.agg_30_3 rfl rfl ((B.b 0 rfl).cells (o := 0) rfl)) ?_
          refine s_k rfl (k_callv (us := []) (vs := [.agg #[.slice a39 nfe c40, .slice a41 nfx c42, .slice a43 nfy c44]]) (xs := []) T17.fn_72 rfl (c_i_RunField_1) rfl ?_)
          rintro _ w48 ⟨rfl, e49⟩
          replace B := B.ext0 e49
          clear e49
          refine s_nil ?_
          refine W_region (by kernel_rfl) ?_
          refine s_y (v := .int .i64 (k + 1)) rfl (y_add rfl rfl rfl (by omega)) ?_
          refine s_y (v := .int .i64 (k + 1)) rfl (y_move rfl) ?_
          refine s_nil ?_
          replace B : Bu w no w48 [.blk b30 [.slice a39 nfe c40, .slice a41 nfx c42, .slice a43 nfy c44] 30, .ow kF a39 nfe c40 34 ((rnT wd hi wr Xsp Xls (Xfe, Xfx, Xfy) (Int.toNat (k + 1))).1), .ow kF a41 nfx c42 34 (hxL wd hi wr ((rnT wd hi wr Xsp Xls (Xfe, Xfx, Xfy) (Int.toNat k)).1) ((rnT wd hi wr Xsp Xls (Xfe, Xfx, Xfy) (Int.toNat k)).2.1)), .ow kF a43 nfy c44 34 (hyL wd hi wr ((rnT wd hi wr Xsp Xls (Xfe, Xfx, Xfy) (Int.toNat k)).1) ((rnT wd hi wr Xsp Xls (Xfe, Xfx, Xfy) (Int.toNat k)).2.2)), .ow kF A1 nfe C1 34 ((rnT wd hi wr Xsp Xls (Xfe, Xfx, Xfy) (Int.toNat k)).1), .ow kF A2 nfx C2 34 ((rnT wd hi wr Xsp Xls (Xfe, Xfx, Xfy) (Int.toNat k)).2.1), .ow kF A3 nfy C3 34 ((rnT wd hi wr Xsp Xls (Xfe, Xfx, Xfy) (Int.toNat k)).2.2), .blk b7 [.slice none 0 0, .slice none 0 0, .slice none 0 0] 30, .blk b4 [.slice afe nfe cfe, .slice afx nfx cfx, .slice afy nfy cfy] 30, .blk b1 [.int .i64 wd, .int .i64 hi, .bool wr, .slice asp nsp csp, .slice als nls cls] 26, .rd kF asp nsp Xsp, .rd kF als nls Xls, .rd kF afe nfe Xfe, .rd kF afx nfx Xfx, .rd kF afy nfy Xfy] := B.castX 1 rfl rfl (congrArg (fun q : Fld => q.1) (rnT_next (by omega)))
          replace B : Bu w no w48 [.blk b30 [.slice a39 nfe c40, .slice a41 nfx c42, .slice a43 nfy c44] 30, .ow kF a39 nfe c40 34 ((rnT wd hi wr Xsp Xls (Xfe, Xfx, Xfy) (Int.toNat (k + 1))).1), .ow kF a41 nfx c42 34 ((rnT wd hi wr Xsp Xls (Xfe, Xfx, Xfy) (Int.toNat (k + 1))).2.1), .ow kF a43 nfy c44 34 (hyL wd hi wr ((rnT wd hi wr Xsp Xls (Xfe, Xfx, Xfy) (Int.toNat k)).1) ((rnT wd hi wr Xsp Xls (Xfe, Xfx, Xfy) (Int.toNat k)).2.2)), .ow kF A1 nfe C1 34 ((rnT wd hi wr Xsp Xls (Xfe, Xfx, Xfy) (Int.toNat k)).1), .ow kF A2 nfx C2 34 ((rnT wd hi wr Xsp Xls (Xfe, Xfx, Xfy) (Int.toNat k)).2.1), .ow kF A3 nfy C3 34 ((rnT wd hi wr Xsp Xls (Xfe, Xfx, Xfy) (Int.toNat k)).2.2), .blk b7 [.slice none 0 0, .slice none 0 0, .slice none 0 0] 30, .blk b4 [.slice afe nfe cfe, .slice afx nfx cfx, .slice afy nfy cfy] 30, .blk b1 [.int .i64 wd, .int .i64 hi, .bool wr, .slice asp nsp csp, .slice als nls cls] 26, .rd kF asp nsp Xsp, .rd kF als nls Xls, .rd kF afe nfe Xfe, .rd kF afx nfx Xfx, .rd kF afy nfy Xfy] := B.castX 2 rfl rfl (congrArg (fun q : Fld => q.2.1) (rnT_next (by omega)))
          replace B : Bu w no w48 [.blk b30 [.slice a39 nfe c40, .slice a41 nfx c42, .slice a43 nfy c44] 30, .ow kF a39 nfe c40 34 ((rnT wd hi wr Xsp Xls (Xfe, Xfx, Xfy) (Int.toNat (k + 1))).1), .ow kF a41 nfx c42 34 ((rnT wd hi wr Xsp Xls (Xfe, Xfx, Xfy) (Int.toNat (k + 1))).2.1), .ow kF a43 nfy c44 34 ((rnT wd hi wr Xsp Xls (Xfe, Xfx, Xfy) (Int.toNat (k + 1))).2.2), .ow kF A1 nfe C1 34 ((rnT wd hi wr Xsp Xls (Xfe, Xfx, Xfy) (Int.toNat k)).1), .ow kF A2 nfx C2 34 ((rnT wd hi wr Xsp Xls (Xfe, Xfx, Xfy) (Int.toNat k)).2.1), .ow kF A3 nfy C3 34 ((rnT wd hi wr Xsp Xls (Xfe, Xfx, Xfy) (Int.toNat k)).2.2), .blk b7 [.slice none 0 0, .slice none 0 0, .slice none 0 0] 30, .blk b4 [.slice afe nfe cfe, .slice afx nfx cfx, .slice afy nfy cfy] 30, .blk b1 [.int .i64 wd, .int .i64 hi, .bool wr, .slice asp nsp csp, .slice als nls cls] 26, .rd kF asp nsp Xsp, .rd kF als nls Xls, .rd kF afe nfe Xfe, .rd kF afx nfx Xfx, .rd kF afy nfy Xfy] := B.castX 3 rfl rfl (congrArg (fun q : Fld => q.2.2) (rnT_next (by omega)))
          refine ⟨⟨_, k + 1, a39, a41, a43, c40, c42, c44, Fits.eq ⟨rfl, rfl, rfl, rfl, rfl, rfl, rfl, trivial⟩, (B.pick [1, 2, 3, 0, 7, 8, 9, 10, 11, 12, 13, 14] rfl rfl), (by omega), (by omega)⟩, ?_⟩
          show (m - (k + 1)).toNat < (m - k).toNat
          omega
        · refine s_y (v := .bool false) rfl (y_lss rfl rfl (decide_eq_false c37)) ?_
          refine s_nil ?_
          refine W_seq ?_
          refine W_if_f (by decide) rfl ?_
          refine W_exit ?_
          have hkm : k = m := by omega
          subst k
          refine W_seq ?_
          refine W_region (by kernel_rfl) ?_
          refine s_y (v := .agg #[.slice A1 nfe C1, .slice A2 nfx C2, .slice A3 nfy C3]) rfl (y_loadn (b := b30) (o := 0) (vs := [.slice A1 nfe C1, .slice A2 nfx C2, .slice A3 nfy C3]) T17.agg_30_3 rfl rfl ((B.b 3 rfl).cells (o := 0) rfl)) ?_
          refine s_k0 rfl (k_stB (v := .agg #[.slice A1 nfe C1, .slice A2 nfx C2, .slice A3 nfy C3]) (n := 3) (cs' := [.slice A1 nfe C1, .slice A2 nfx C2, .slice A3 nfy C3]) T17.sz_30_3 rfl rfl rfl (B.b 4 rfl) (by simp [Value.cells, Value.oneCell']) (Nat.le_of_ble_eq_true rfl) rfl (fun w50 hU51 => ?_))
          replace B : Bu w no w50 [.blk b7 [.slice A1 nfe C1, .slice A2 nfx C2, .slice A3 nfy C3] 30, .ow kF A1 nfe C1 34 ((rnT wd hi wr Xsp Xls (Xfe, Xfx, Xfy) (Int.toNat m)).1), .ow kF A2 nfx C2 34 ((rnT wd hi wr Xsp Xls (Xfe, Xfx, Xfy) (Int.toNat m)).2.1), .ow kF A3 nfy C3 34 ((rnT wd hi wr Xsp Xls (Xfe, Xfx, Xfy) (Int.toNat m)).2.2), .blk b30 [.slice A1 nfe C1, .slice A2 nfx C2, .slice A3 nfy C3] 30, .blk b4 [.slice afe nfe cfe, .slice afx nfx cfx, .slice afy nfy cfy] 30, .blk b1 [.int .i64 wd, .int .i64 hi, .bool wr, .slice asp nsp csp, .slice als nls cls] 26, .rd kF asp nsp Xsp, .rd kF als nls Xls, .rd kF afe nfe Xfe, .rd kF afx nfx Xfx, .rd kF afy nfy Xfy] := B.upd [4] rfl hU51
          clear hU51
          refine s_y (v := .bool true) rfl (y_assign rfl) ?_
          refine s_nil ?_
          refine W_ret ?_
          refine ret2 (v1 := .agg #[.slice A1 nfe C1, .slice A2 nfx C2, .slice A3 nfy C3]) (v2 := .bool true) rfl rfl rfl ⟨_, [.slice A1 nfe C1, .slice A2 nfx C2, .slice A3 nfy C3], _, rfl, (B.b 0 rfl), T17.agg_30_3, rfl⟩ rfl ⟨_, rfl, ?_⟩
          have hcond : runB wd hi wr Xsp Xls Xfe Xfx Xfy m = true := by simp only [runB, c14, c20, (decide_eq_false c37), Bool.and_true, Bool.true_and, Bool.and_false, Bool.false_and, Bool.not_true, Bool.not_false, Bool.or_true, Bool.true_or, Bool.or_false, Bool.false_or]
          exact .inl ⟨hcond, ⟨_, _, _, _, _, _, rfl, B.give [1, 2, 3] rfl rfl rfl⟩⟩
    · obtain rfl : v18 = .bool false := hv19.trans (congrArg Value.bool (Bool.eq_false_iff.2 c20))
      refine s_y (v := .bool true) rfl (y_not rfl rfl) ?_
      refine s_y (v := .bool true) rfl (y_pick_f rfl rfl) ?_
      refine s_nil ?_
      refine W_if_t (by decide) rfl ?_
      refine W_seq ?_
      refine W_region (by kernel_rfl) ?_
      refine s_y (v := .agg #[.slice none 0 0, .slice none 0 0, .slice none 0 0]) rfl (y_build (cells := #[.slice none 0 0, .slice none 0 0, .slice none 0 0]) (by kernel_rfl)) ?_
      refine s_k0 rfl (k_stB (v := .agg #[.slice none 0 0, .slice none 0 0, .slice none 0 0]) (n := 3) (cs' := [.slice none 0 0, .slice none 0 0, .slice none 0 0]) T17.sz_30_3 rfl rfl rfl (B.b 0 rfl) (by simp [Value.cells, Value.oneCell']) (Nat.le_of_ble_eq_true rfl) rfl (fun w52 hU53 => ?_))
      replace B : Bu w no w52 [.blk b7 [.slice none 0 0, .slice none 0 0, .slice none 0 0] 30, .blk b4 [.slice afe nfe cfe, .slice afx nfx cfx, .slice afy nfy cfy] 30, .blk b1 [.int .i64 wd, .int .i64 hi, .bool wr, .slice asp nsp csp, .slice als nls cls] 26, .rd kF asp nsp Xsp, .rd kF als nls Xls, .rd kF afe nfe Xfe, .rd kF afx nfx Xfx, .rd kF afy nfy Xfy] := B.upd [0] rfl hU53
      clear hU53
      refine s_y (v := .bool false) rfl (y_assign rfl) ?_
      refine s_nil ?_
      refine W_ret ?_
      refine ret2 (v1 := .agg #[.slice none 0 0, .slice none 0 0, .slice none 0 0]) (v2 := .bool false) rfl rfl rfl ⟨_, [.slice none 0 0, .slice none 0 0, .slice none 0 0], _, rfl, (B.b 0 rfl), T17.agg_30_3, rfl⟩ rfl ⟨_, rfl, ?_⟩
      exact .inr ⟨by simp only [runB, c14, (Bool.eq_false_iff.2 c20), Bool.and_true, Bool.true_and, Bool.and_false, Bool.false_and, Bool.not_true, Bool.not_false, Bool.or_true, Bool.true_or, Bool.or_false, Bool.false_or], rfl, B.ext⟩
  · obtain rfl : v12 = .bool false := hv13.trans (congrArg Value.bool (Bool.eq_false_iff.2 c14))
    refine s_y (v := .bool true) rfl (y_not rfl rfl) ?_
    refine s_y (v := .bool true) rfl (y_move rfl) ?_
    refine s_skip rfl ?_
    refine s_skip rfl ?_
    refine s_skip rfl ?_
    refine s_y (v := .bool true) rfl (y_pick_t rfl rfl) ?_
    refine s_nil ?_
    refine W_if_t (by decide) rfl ?_
    refine W_seq ?_
    refine W_region (by kernel_rfl) ?_
    refine s_y (v := .agg #[.slice none 0 0, .slice none 0 0, .slice none 0 0]) rfl (y_build (cells := #[.slice none 0 0, .slice none 0 0, .slice none 0 0]) (by kernel_rfl)) ?_
    refine s_k0 rfl (k_stB (v := .agg #[.slice none 0 0, .slice none 0 0, .slice none 0 0]) (n := 3) (cs' := [.slice none 0 0, .slice none 0 0, .slice none 0 0]) T17.sz_30_3 rfl rfl rfl (B.b 0 rfl) (by simp [Value.cells, Value.oneCell']) (Nat.le_of_ble_eq_true rfl) rfl (fun w54 hU55 => ?_))
    replace B : Bu w no w54 [.blk b7 [.slice none 0 0, .slice none 0 0, .slice none 0 0] 30, .blk b4 [.slice afe nfe cfe, .slice afx nfx cfx, .slice afy nfy cfy] 30, .blk b1 [.int .i64 wd, .int .i64 hi, .bool wr, .slice asp nsp csp, .slice als nls cls] 26, .rd kF asp nsp Xsp, .rd kF als nls Xls, .rd kF afe nfe Xfe, .rd kF afx nfx Xfx, .rd kF afy nfy Xfy] := B.upd [0] rfl hU55
    clear hU55
    refine s_y (v := .bool false) rfl (y_assign rfl) ?_
    refine s_nil ?_
    refine W_ret ?_
    refine ret2 (v1 := .agg #[.slice none 0 0, .slice none 0 0, .slice none 0 0]) (v2 := .bool false) rfl rfl rfl ⟨_, [.slice none 0 0, .slice none 0 0, .slice none 0 0], _, rfl, (B.b 0 rfl), T17.agg_30_3, rfl⟩ rfl ⟨_, rfl, ?_⟩
    exact .inr ⟨by simp only [runB, (Bool.eq_false_iff.2 c14), Bool.and_true, Bool.true_and, Bool.and_false, Bool.false_and, Bool.not_true, Bool.not_false, Bool.or_true, Bool.true_or, Bool.or_false, Bool.false_or], rfl, B.ext⟩
set_option maxRecDepth 100000 in
set_option maxHeartbeats 4000000 in
theorem c_i_RunField {wd : Int} {hi : Int} {wr : Bool} {asp : Option Addr} {nsp : Nat} {csp : Nat} {Xsp : List Nat} {als : Option Addr} {nls : Nat} {cls : Nat} {Xls : List Nat} {afe : Option Addr} {nfe : Nat} {cfe : Nat} {Xfe : List Nat} {afx : Option Addr} {nfx : Nat} {cfx : Nat} {Xfx : List Nat} {afy : Option Addr} {nfy : Nat} {cfy : Nat} {Xfy : List Nat} {m : Int} {w : World} (qsp : Rd w kF asp nsp Xsp) (qls : Rd w kF als nls Xls) (qfe : Rd w kF afe nfe Xfe) (qfx : Rd w kF afx nfx Xfx) (qfy : Rd w kF afy nfy Xfy) (hbsp : nsp ≤ 9223372036854775806) (hbls : nls ≤ 9223372036854775806) (hbfe : nfe ≤ 9223372036854775806) (hbfx : nfx ≤ 9223372036854775806) (hbfy : nfy ≤ 9223372036854775806) :
    Calls Try.prog 17 #[.agg #[.int .i64 wd, .int .i64 hi, .bool wr, .slice asp nsp csp, .slice als nls cls], .agg #[.slice afe nfe cfe, .slice afx nfx cfx, .slice afy nfy cfy], .int .i64 m] w (Rt fun v w' => (runB wd hi wr Xsp Xls Xfe Xfx Xfy m = true ∧ ∃ (a1 : Option Addr) (c1 : Nat) (a2 : Option Addr) (c2 : Nat) (a3 : Option Addr) (c3 : Nat), v = .tuple #[.agg #[.slice a1 nfe c1, .slice a2 nfx c2, .slice a3 nfy c3], .bool true] ∧ New w w' [.ow kF a1 nfe c1 34 ((rnT wd hi wr Xsp Xls (Xfe, Xfx, Xfy) (Int.toNat m)).1), .ow kF a2 nfx c2 34 ((rnT wd hi wr Xsp Xls (Xfe, Xfx, Xfy) (Int.toNat m)).2.1), .ow kF a3 nfy c3 34 ((rnT wd hi wr Xsp Xls (Xfe, Xfx, Xfy) (Int.toNat m)).2.2)]) ∨ (runB wd hi wr Xsp Xls Xfe Xfx Xfy m = false ∧ v = .tuple #[.agg #[.slice none 0 0, .slice none 0 0, .slice none 0 0], .bool false] ∧ Ext0 w w')) := by
  have hlsp := qsp.len
  have hlls := qls.len
  have hlfe := qfe.len
  have hlfx := qfx.len
  have hlfy := qfy.len
  have B : Bu w no w [.rd kF asp nsp Xsp, .rd kF als nls Xls, .rd kF afe nfe Xfe, .rd kF afx nfx Xfx, .rd kF afy nfy Xfy] := Bu.ro (All.cons qsp (All.cons qls (All.cons qfe (All.cons qfx (All.cons qfy All.nil))))) rfl
  refine calls_W (n := 14) Try.func17 rfl rfl (Nat.le_of_ble_eq_true rfl) ?_
  refine W_seq ?_
  refine W_region (by kernel_rfl) ?_
  refine s_k rfl (k_boxN (v := .agg #[.int .i64 wd, .int .i64 hi, .bool wr, .slice asp nsp csp, .slice als nls cls]) (cs := [.int .i64 wd, .int .i64 hi, .bool wr, .slice asp nsp csp, .slice als nls cls]) rfl rfl (fun b1 w2 hN3 => ?_))
  replace B := B.new1 hN3
  clear hN3
  refine s_k rfl (k_boxN (v := .agg #[.slice afe nfe cfe, .slice afx nfx cfx, .slice afy nfy cfy]) (cs := [.slice afe nfe cfe, .slice afx nfx cfx, .slice afy nfy cfy]) rfl rfl (fun b4 w5 hN6 => ?_))
  replace B := B.new1 hN6
  clear hN6
  refine s_k rfl (k_allocN (z := (.agg #[.slice none 0 0, .slice none 0 0, .slice none 0 0])) (cs := [.slice none 0 0, .slice none 0 0, .slice none 0 0]) T17.zero_30 rfl (fun b7 w8 hN9 => ?_))
  replace B := B.new1 hN9
  clear hN9
  refine s_y (v := .bool false) rfl (y_assign rfl) ?_
  refine s_nil ?_
  refine W_seq ?_
  refine W_region (by kernel_rfl) ?_
  refine s_y (v := .agg #[.int .i64 wd, .int .i64 hi, .bool wr, .slice asp nsp csp, .slice als nls cls]) rfl (y_loadn (b := b1) (o := 0) (vs := [.int .i64 wd, .int .i64 hi, .bool wr, .slice asp nsp csp, .slice als nls cls]) T17.agg_26_5 rfl rfl ((B.b 2 rfl).cells (o := 0) rfl)) ?_
  refine s_y (v := .agg #[.slice afe nfe cfe, .slice afx nfx cfx, .slice afy nfy cfy]) rfl (y_loadn (b := b4) (o := 0) (vs := [.slice afe nfe cfe, .slice afx nfx cfx, .slice afy nfy cfy]) T17.agg_30_3 rfl rfl ((B.b 1 rfl).cells (o := 0) rfl)) ?_
  refine s_y (v := .int .i64 m) rfl (y_move rfl) ?_
  refine s_k rfl (k_call T17.fn_71 (c_i_run_none (B.r 3 rfl) (B.r 4 rfl) (B.r 5 rfl) (B.r 6 rfl) (B.r 7 rfl) (by omega) (by omega) (by omega) (by omega) (by omega)) rfl ?_)
  rintro v12 w10 hx11
  by_cases c13 : runB wd hi wr Xsp Xls Xfe Xfx Xfy m = true
  · have hb14 := runB_b c13
    obtain ⟨a15, c16, a17, c18, a19, c20, rfl, hN21⟩ := (hx11.resolve_right (fun hz => by rw [c13] at hz; cases hz.1)).2
    clear hx11
    replace B := B.new3 hN21
    clear hN21
    refine s_y (v := .agg #[.slice a15 nfe c16, .slice a17 nfx c18, .slice a19 nfy c20]) rfl (y_extract rfl rfl) ?_
    refine s_y (v := .bool true) rfl (y_extract rfl rfl) ?_
    refine s_k0 rfl (k_stB (v := .agg #[.slice a15 nfe c16, .slice a17 nfx c18, .slice a19 nfy c20]) (n := 3) (cs' := [.slice a15 nfe c16, .slice a17 nfx c18, .slice a19 nfy c20]) T17.sz_30_3 rfl rfl rfl (B.b 3 rfl) (by simp [Value.cells, Value.oneCell']) (Nat.le_of_ble_eq_true rfl) rfl (fun w22 hU23 => ?_))
    replace B : Bu w no w22 [.blk b7 [.slice a15 nfe c16, .slice a17 nfx c18, .slice a19 nfy c20] 30, .ow kF a15 nfe c16 34 ((rnT wd hi wr Xsp Xls (Xfe, Xfx, Xfy) (Int.toNat m)).1), .ow kF a17 nfx c18 34 ((rnT wd hi wr Xsp Xls (Xfe, Xfx, Xfy) (Int.toNat m)).2.1), .ow kF a19 nfy c20 34 ((rnT wd hi wr Xsp Xls (Xfe, Xfx, Xfy) (Int.toNat m)).2.2), .blk b4 [.slice afe nfe cfe, .slice afx nfx cfx, .slice afy nfy cfy] 30, .blk b1 [.int .i64 wd, .int .i64 hi, .bool wr, .slice asp nsp csp, .slice als nls cls] 26, .rd kF asp nsp Xsp, .rd kF als nls Xls, .rd kF afe nfe Xfe, .rd kF afx nfx Xfx, .rd kF afy nfy Xfy] := B.upd [3] rfl hU23
    clear hU23
    refine s_y (v := .bool true) rfl (y_assign rfl) ?_
    refine s_nil ?_
    refine W_ret ?_
    refine ret2 (v1 := .agg #[.slice a15 nfe c16, .slice a17 nfx c18, .slice a19 nfy c20]) (v2 := .bool true) rfl rfl rfl ⟨_, [.slice a15 nfe c16, .slice a17 nfx c18, .slice a19 nfy c20], _, rfl, (B.b 0 rfl), T17.agg_30_3, rfl⟩ rfl ⟨_, rfl, ?_⟩
    have hcond : runB wd hi wr Xsp Xls Xfe Xfx Xfy m = true := by simp only [c13, Bool.and_true, Bool.true_and, Bool.and_false, Bool.false_and, Bool.not_true, Bool.not_false, Bool.or_true, Bool.true_or, Bool.or_false, Bool.false_or]
    exact .inl ⟨hcond, ⟨_, _, _, _, _, _, rfl, B.give [1, 2, 3] rfl rfl rfl⟩⟩
  · obtain ⟨_, rfl, e24⟩ := hx11.resolve_left (fun hz => c13 hz.1)
    clear hx11
    replace B := B.ext0 e24
    clear e24
    refine s_y (v := .agg #[.slice none 0 0, .slice none 0 0, .slice none 0 0]) rfl (y_extract rfl rfl) ?_
    refine s_y (v := .bool false) rfl (y_extract rfl rfl) ?_
    refine s_k0 rfl (k_stB (v := .agg #[.slice none 0 0, .slice none 0 0, .slice none 0 0]) (n := 3) (cs' := [.slice none 0 0, .slice none 0 0, .slice none 0 0]) T17.sz_30_3 rfl rfl rfl (B.b 0 rfl) (by simp [Value.cells, Value.oneCell']) (Nat.le_of_ble_eq_true rfl) rfl (fun w25 hU26 => ?_))
    replace B : Bu w no w25 [.blk b7 [.slice none 0 0, .slice none 0 0, .slice none 0 0] 30, .blk b4 [.slice afe nfe cfe, .slice afx nfx cfx, .slice afy nfy cfy] 30, .blk b1 [.int .i64 wd, .int .i64 hi, .bool wr, .slice asp nsp csp, .slice als nls cls] 26, .rd kF asp nsp Xsp, .rd kF als nls Xls, .rd kF afe nfe Xfe, .rd kF afx nfx Xfx, .rd kF afy nfy Xfy] := B.upd [0] rfl hU26
    clear hU26
    refine s_y (v := .bool false) rfl (y_assign rfl) ?_
    refine s_nil ?_
    refine W_ret ?_
    refine ret2 (v1 := .agg #[.slice none 0 0, .slice none 0 0, .slice none 0 0]) (v2 := .bool false) rfl rfl rfl ⟨_, [.slice none 0 0, .slice none 0 0, .slice none 0 0], _, rfl, (B.b 0 rfl), T17.agg_30_3, rfl⟩ rfl ⟨_, rfl, ?_⟩
    exact .inr ⟨by simp only [(Bool.eq_false_iff.2 c13), Bool.and_true, Bool.true_and, Bool.and_false, Bool.false_and, Bool.not_true, Bool.not_false, Bool.or_true, Bool.true_or, Bool.or_false, Bool.false_or], rfl, B.ext⟩
namespace T103
theorem mx : Try.prog.follows .mixedOrders = true := by kernel_rfl
theorem fld_26_0_0 : fldB Try.prog 26 0 0 = true := by kernel_rfl
theorem one_2 : oneB Try.prog 2 = true := by kernel_rfl
end T103
set_option maxRecDepth 100000 in
set_option maxHeartbeats 4000000 in
theorem c_i_MirrorSheet_1 {x : Int} {y : Int} {b : Nat} {wd : Int} {hi : Int} {wr : Bool} {asp : Option Addr} {nsp : Nat} {csp : Nat} {als : Option Addr} {nls : Nat} {cls : Nat} {w : World} (Pb : Sl w (some ⟨b, 0, none⟩) [.int .i64 wd, .int .i64 hi, .bool wr, .slice asp nsp csp, .slice als nls cls]) (h1 : 3 ≤ wd) (h2 : wd ≤ 16) (h5 : 0 ≤ x) (h6 : x ≤ 1000000) :
    Calls Try.prog 103 #[.int .i64 x, .int .i64 y, .pointer (some ⟨b, 0, none⟩)] w (Rt fun v w' => v = .tuple #[.int .i64 (wd - 1 - x), .int .i64 y] ∧ Ext0 w w') := by
  have B : Bu w no w [.sl (some ⟨b, 0, none⟩) [.int .i64 wd, .int .i64 hi, .bool wr, .slice asp nsp csp, .slice als nls cls]] := Bu.ro (All.cons Pb All.nil) rfl
  refine calls_W (n := 13) Try.func103 rfl rfl (Nat.le_of_ble_eq_true rfl) ?_
  refine W_seq ?_
  refine W_region (by kernel_rfl) ?_
  refine s_y (v := .int .i64 0) rfl (y_assign rfl) ?_
  refine s_y (v := .int .i64 0) rfl (y_assign rfl) ?_
  refine s_nil ?_
  refine W_seq ?_
  refine W_region (by kernel_rfl) ?_
  refine s_y (v := .pointer (some ⟨b, 0, none⟩)) rfl (y_fld (o := 0 + 0) T103.fld_26_0_0 rfl) ?_
  refine s_y (v := .int .i64 wd) rfl (y_load T103.one_2 rfl ((B.s 0 rfl).cell (j := 0) rfl)) ?_
  refine s_y (v := .int .i64 (wd - 1)) rfl (y_sub rfl rfl rfl (by omega)) ?_
  refine s_y (v := .int .i64 x) rfl (y_move rfl) ?_
  refine s_y (v := .int .i64 ((wd - 1) - x)) rfl (y_sub rfl rfl rfl (by omega)) ?_
  refine s_y (v := .int .i64 y) rfl (y_move rfl) ?_
  refine s_y (v := .int .i64 ((wd - 1) - x)) rfl (y_assign rfl) ?_
  refine s_y (v := .int .i64 y) rfl (y_assign rfl) ?_
  refine s_nil ?_
  refine W_ret ?_
  refine ret2 (v1 := .int .i64 ((wd - 1) - x)) (v2 := .int .i64 y) rfl rfl rfl rfl rfl ⟨_, rfl, ?_⟩
  exact ⟨rfl, B.ext⟩
namespace T104
theorem mx : Try.prog.follows .mixedOrders = true := by kernel_rfl
theorem agg_26_5 : aggB Try.prog 26 5 = true := by kernel_rfl
theorem fn_69 : fnB Try.prog 69 = true := by kernel_rfl
theorem one_34 : oneB Try.prog 34 = true := by kernel_rfl
theorem sl_24_34_1 : slB Try.prog 24 34 1 = true := by kernel_rfl
theorem slt_24 : SlT Try.prog 24 34 1 4 (.float .f32 0) := ⟨by kernel_rfl, by kernel_rfl, rfl, by decide⟩
end T104
set_option maxRecDepth 100000 in
set_option maxHeartbeats 4000000 in
theorem c_i_moved {wd : Int} {hi : Int} {wr : Bool} {asp : Option Addr} {nsp : Nat} {csp : Nat} {als : Option Addr} {nls : Nat} {cls : Nat} {a : Option Addr} {n : Nat} {c : Nat} {X : List Nat} {W : Int} {H : Int} {W H : Int} {f : Nat} {us xs : List Value} {FU FV : Int → Int → Int} {w : World} (q : Rd w kF a n X) (hfB : fnB Try.prog f = true) (hF : ∀ x y {w1}, Ext0 w w1 → 0 ≤ x → x < W → 0 ≤ y → y < H → Calls Try.prog f (us ++ ([.int .i64 x, .int .i64 y] : List Value) ++ xs).toArray w1 (Rt fun v w2 => v = .tuple #[.int .i64 (FU x y), .int .i64 (FV x y)] ∧ Ext0 w1 w2)) (hR : ∀ x y, 0 ≤ x → x < W → 0 ≤ y → y < H → (-wd ≤ FU x y ∧ FU x y ≤ 1000000) ∧ (-hi ≤ FV x y ∧ FV x y ≤ 1000000)) (h1 : 3 ≤ wd) (h2 : wd ≤ 16) (h3 : 3 ≤ hi) (h4 : hi ≤ 16) (h5 : 0 < W) (h6 : W ≤ 16) (h7 : 0 < H) (h8 : H ≤ 16) (hn : (n : Int) = wd * hi) :
    Calls Try.prog 104 #[.agg #[.int .i64 wd, .int .i64 hi, .bool wr, .slice asp nsp csp, .slice als nls cls], .slice a n c, .int .i64 W, .int .i64 H, .func (.func f) us.toArray xs.toArray] w (Rt fun v w' => ∃ (a1 : Option Addr) (c1 : Nat), v = .slice a1 ((W * H).toNat) c1 ∧ New w w' [.ow kF a1 ((W * H).toNat) c1 34 (movL W H (fun xp yp => atI wd hi (FU xp yp) (FV xp yp)) X)]) := by
  have hl := q.len
  have B : Bu w no w [.rd kF a n X] := Bu.ro (All.cons q All.nil) rfl
  have hwh := mul16 (And.intro (And.intro h1 h2) (And.intro h3 h4))
  refine calls_W (n := 45) Try.func104 rfl rfl (Nat.le_of_ble_eq_true rfl) ?_
  refine W_seq ?_
  refine W_region (by kernel_rfl) ?_
  refine s_k rfl (k_boxN (v := .agg #[.int .i64 wd, .int .i64 hi, .bool wr, .slice asp nsp csp, .slice als nls cls]) (cs := [.int .i64 wd, .int .i64 hi, .bool wr, .slice asp nsp csp, .slice als nls cls]) rfl rfl (fun b1 w2 hN3 => ?_))
  replace B := B.new1 hN3
  clear hN3
  refine s_y (v := .slice none 0 0) rfl (y_assign rfl) ?_
  refine s_nil ?_
  refine W_seq ?_
  refine W_region (by kernel_rfl) ?_
  refine s_k rfl (k_bsliceO (k := kF) (n := 0) (cells := #[]) (X := []) T104.slt_24 (by decide) (by first | rfl | kernel_rfl) (rfl : Reps kF [] []) rfl (fun b4 w5 hN6 => ?_))
  replace B := B.new1 hN6
  clear hN6
  refine s_y (v := .slice (some ⟨b4, 0, none⟩) 0 0) rfl (y_assign rfl) ?_
  refine s_nil ?_
  refine W_seq ?_
  refine W_seq ?_
  refine W_region (by kernel_rfl) ?_
  refine s_y (v := .int .i64 H) rfl (y_move rfl) ?_
  refine s_y (v := .int .i64 0) rfl (y_move rfl) ?_
  refine s_nil ?_
  refine W_block ?_
  refine W_loop (fun ρ' w' => ∃ (ρ1 : Env) (py : Int) (a0 : Option Addr) (cc0 : Nat) (nn0 : Nat), ρ' = updL ρ1 [(1, .slice a n c), (2, .int .i64 W), (4, .func (.func f) us.toArray xs.toArray), (5, .pointer (some ⟨b1, 0, none⟩)), (10, .slice none 0 0), (11, .slice a0 nn0 cc0), (17, .int .i64 H), (18, .int .i64 py)] ∧ Bu w no w' [.ow kF a0 nn0 cc0 34 (tab (W * py) (fun i => el X ((fun xp yp => atI wd hi (FU xp yp) (FV xp yp)) (i % W) (i / W)))), .blk b1 [.int .i64 wd, .int .i64 hi, .bool wr, .slice asp nsp csp, .slice als nls cls] 26, .rd kF a n X] ∧ (0 ≤ py) ∧ (py ≤ H)) (fun ρ' _ => (H - iv (ρ' 18)).toNat) ?_ ?_
  · replace B : Bu w no w5 [.ow kF (some ⟨b4, 0, none⟩) 0 0 34 (tab (W * 0) (fun i => el X ((fun xp yp => atI wd hi (FU xp yp) (FV xp yp)) (i % W) (i / W)))), .blk b1 [.int .i64 wd, .int .i64 hi, .bool wr, .slice asp nsp csp, .slice als nls cls] 26, .rd kF a n X] := B.castX 0 rfl rfl (by rw [Int.mul_zero]; rfl)
    exact ⟨_, 0, (some ⟨b4, 0, none⟩), 0, 0, Fits.eq ⟨rfl, rfl, rfl, rfl, rfl, rfl, rfl, rfl, trivial⟩, B, (Int.le_refl _), (by omega)⟩
  · clear B; rintro _ w7 ⟨ρ8, py, a0, cc0, nn0, rfl, B, h0py, h1py⟩
    have hnn0 := (B.o 0 rfl).len
    rw [tab_length] at hnn0
    have hwy := mulb (a := W) (b := py) (by omega) (by omega) (by omega) (by omega)
    refine W_seq ?_
    refine W_region (by kernel_rfl) ?_
    by_cases c9 : py < H
    · refine s_y (v := .bool true) rfl (y_lss rfl rfl (decide_eq_true c9)) ?_
      refine s_nil ?_
      refine W_seq ?_
      refine W_if_t (by decide) rfl ?_
      refine W_skip ?_
      refine W_seq ?_
      refine W_block ?_
      refine W_seq ?_
      refine W_region (by kernel_rfl) ?_
      refine s_y (v := .int .i64 py) rfl (y_move rfl) ?_
      refine s_y (v := .int .i64 py) rfl (y_assign rfl) ?_
      refine s_nil ?_
      refine W_seq ?_
      refine W_region (by kernel_rfl) ?_
      refine s_y (v := .int .i64 W) rfl (y_move rfl) ?_
      refine s_y (v := .int .i64 0) rfl (y_move rfl) ?_
      refine s_nil ?_
      refine W_block ?_
      refine W_loop (fun ρ' w' => ∃ (ρ1 : Env) (px : Int) (a9 : Option Addr) (cc9 : Nat) (nn9 : Nat), ρ' = updL ρ1 [(1, .slice a n c), (2, .int .i64 W), (4, .func (.func f) us.toArray xs.toArray), (5, .pointer (some ⟨b1, 0, none⟩)), (10, .slice none 0 0), (11, .slice a9 nn9 cc9), (12, .int .i64 py), (17, .int .i64 H), (18, .int .i64 py), (19, .bool true), (20, .int .i64 py), (21, .int .i64 W), (22, .int .i64 px)] ∧ Bu w no w' [.ow kF a9 nn9 cc9 34 (tab (W * py + px) (fun i => el X ((fun xp yp => atI wd hi (FU xp yp) (FV xp yp)) (i % W) (i / W)))), .blk b1 [.int .i64 wd, .int .i64 hi, .bool wr, .slice asp nsp csp, .slice als nls cls] 26, .rd kF a n X] ∧ (0 ≤ px) ∧ (px ≤ W)) (fun ρ' _ => (W - iv (ρ' 22)).toNat) ?_ ?_
      · replace B : Bu w no w7 [.ow kF a0 nn0 cc0 34 (tab (W * py + 0) (fun i => el X ((fun xp yp => atI wd hi (FU xp yp) (FV xp yp)) (i % W) (i / W)))), .blk b1 [.int .i64 wd, .int .i64 hi, .bool wr, .slice asp nsp csp, .slice als nls cls] 26, .rd kF a n X] := B.castX 0 rfl rfl (by rw [Int.add_zero])
        exact ⟨_, 0, a0, cc0, nn0, Fits.eq ⟨rfl, rfl, rfl, rfl, rfl, rfl, rfl, rfl, rfl, rfl, rfl, rfl, rfl, trivial⟩, B, (Int.le_refl _), (by omega)⟩
      · clear B; rintro _ w10 ⟨ρ11, px, a9, cc9, nn9, rfl, B, h0px, h1px⟩
        have hnn9 := (B.o 0 rfl).len
        rw [tab_length] at hnn9
        refine W_seq ?_
        refine W_region (by kernel_rfl) ?_
        by_cases c12 : px < W
        · refine s_y (v := .bool true) rfl (y_lss rfl rfl (decide_eq_true c12)) ?_
          refine s_nil ?_
          refine W_seq ?_
          refine W_if_t (by decide) rfl ?_
          refine W_skip ?_
          refine W_seq ?_
          refine W_block ?_
          refine W_seq ?_
          refine W_region (by kernel_rfl) ?_
          refine s_y (v := .int .i64 px) rfl (y_move rfl) ?_
          refine s_y (v := .int .i64 px) rfl (y_assign rfl) ?_
          refine s_nil ?_
          refine W_seq ?_
          refine W_region (by kernel_rfl) ?_
          refine s_y (v := .func (.func f) us.toArray xs.toArray) rfl (y_move rfl) ?_
          refine s_y (v := .int .i64 px) rfl (y_move rfl) ?_
          refine s_y (v := .int .i64 py) rfl (y_move rfl) ?_
          refine s_k rfl (k_callv hfB rfl (hF px py B.ext (by omega) (by omega) (by omega) (by omega)) rfl ?_)
          rintro _ w13 ⟨rfl, e14⟩
          replace B := B.ext0 e14
          clear e14
          have hr15 := hR px py (by omega) (by omega) (by omega) (by omega)
          refine s_y (v := .tuple #[.int .i64 (FU px py), .int .i64 (FV px py)]) rfl (y_move rfl) ?_
          refine s_y (v := .int .i64 (FU px py)) rfl (y_extract rfl rfl) ?_
          refine s_y (v := .int .i64 (FV px py)) rfl (y_extract rfl rfl) ?_
          refine s_y (v := .int .i64 (FU px py)) rfl (y_assign rfl) ?_
          refine s_y (v := .int .i64 (FV px py)) rfl (y_assign rfl) ?_
          refine s_nil ?_
          refine W_region (by kernel_rfl) ?_
          refine s_y (v := .slice a9 nn9 cc9) rfl (y_move rfl) ?_
          refine s_y (v := .slice a n c) rfl (y_move rfl) ?_
          refine s_y (v := .agg #[.int .i64 wd, .int .i64 hi, .bool wr, .slice asp nsp csp, .slice als nls cls]) rfl (y_loadn (b := b1) (o := 0) (vs := [.int .i64 wd, .int .i64 hi, .bool wr, .slice asp nsp csp, .slice als nls cls]) T104.agg_26_5 rfl rfl ((B.b 1 rfl).cells (o := 0) rfl)) ?_
          refine s_y (v := .int .i64 (FU px py)) rfl (y_move rfl) ?_
          refine s_y (v := .int .i64 (FV px py)) rfl (y_move rfl) ?_
          refine s_k rfl (k_call T104.fn_69 (c_i_at (by omega) (by omega) (by omega) (by omega) (by omega) (by omega) (by omega) (by omega)) rfl ?_)
          rintro _ w16 ⟨rfl, e17⟩
          replace B := B.ext0 e17
          clear e17
          have hat18 := atI_b (wd := wd) (hi := hi) (x := FU px py) (y := FV px py) (by omega) (by omega)
          refine s_y (v := .pointer (some (sat a ((atI wd hi (FU px py) (FV px py)).toNat * 1)))) rfl (y_idx T104.sl_24_34_1 rfl rfl ((B.r 2 rfl).addr (by omega)) (by omega) (by omega)) ?_
          obtain ⟨r20, hr21, hR19⟩ := Rd.atF (B.r 2 rfl) (atI wd hi (FU px py) (FV px py)) (by omega) (by omega)
          refine s_y (v := .float .f32 r20) rfl (y_load T104.one_34 rfl (hR19.cell (i := 0) rfl)) ?_
          refine s_k rfl (k_bsliceO (k := kF) (n := 1) (cells := #[.float .f32 r20]) (X := [el X (atI wd hi (FU px py) (FV px py))]) T104.slt_24 (by decide) (by first | rfl | kernel_rfl) (reps_cons (c := [.float .f32 r20]) ⟨_, rfl, hr21⟩ (rfl : Reps kF [] [])) rfl (fun b22 w23 hN24 => ?_))
          replace B := B.new1 hN24
          clear hN24
          refine s_k rfl (k_appO (k := kF) T104.slt_24 rfl rfl rfl (B.o 1 rfl) (B.o 0 rfl).rd (by omega) (by unfold maxLen; omega) (fun a25 c26 w27 hU28 => ?_))
          replace B : Bu w no w27 [.ow kF a25 (nn9 + 1) c26 34 ((tab (W * py + px) (fun i => el X ((fun xp yp => atI wd hi (FU xp yp) (FV xp yp)) (i % W) (i / W)))) ++ ([el X (atI wd hi (FU px py) (FV px py))])), .ow kF (some ⟨b22, 0, none⟩) 1 1 34 ([el X (atI wd hi (FU px py) (FV px py))]), .blk b1 [.int .i64 wd, .int .i64 hi, .bool wr, .slice asp nsp csp, .slice als nls cls] 26, .rd kF a n X] := B.upd [1] rfl hU28
          clear hU28
          refine s_y (v := .slice a25 (nn9 + 1) c26) rfl (y_assign rfl) ?_
          refine s_nil ?_
          refine W_region (by kernel_rfl) ?_
          refine s_y (v := .int .i64 (px + 1)) rfl (y_add rfl rfl rfl (by omega)) ?_
          refine s_y (v := .int .i64 (px + 1)) rfl (y_move rfl) ?_
          refine s_nil ?_
          replace B : Bu w no w27 [.ow kF a25 (nn9 + 1) c26 34 (tab (W * py + (px + 1)) (fun i => el X ((fun xp yp => atI wd hi (FU xp yp) (FV xp yp)) (i % W) (i / W)))), .ow kF (some ⟨b22, 0, none⟩) 1 1 34 ([el X (atI wd hi (FU px py) (FV px py))]), .blk b1 [.int .i64 wd, .int .i64 hi, .bool wr, .slice asp nsp csp, .slice als nls cls] 26, .rd kF a n X] := B.castX 0 rfl rfl (tab_row (g := fun p q => el X ((fun xp yp => atI wd hi (FU xp yp) (FV xp yp)) p q)) (by omega) (by omega) (by omega))
          refine ⟨⟨_, px + 1, a25, c26, nn9 + 1, Fits.eq ⟨rfl, rfl, rfl, rfl, rfl, rfl, rfl, rfl, rfl, rfl, rfl, rfl, rfl, trivial⟩, (B.pick [0, 2, 3] rfl rfl), (by omega), (by omega)⟩, ?_⟩
          show (W - (px + 1)).toNat < (W - px).toNat
          omega
        · refine s_y (v := .bool false) rfl (y_lss rfl rfl (decide_eq_false c12)) ?_
          refine s_nil ?_
          refine W_seq ?_
          refine W_if_f (by decide) rfl ?_
          refine W_exit ?_
          refine W_region (by kernel_rfl) ?_
          refine s_y (v := .int .i64 (py + 1)) rfl (y_add rfl rfl rfl (by omega)) ?_
          refine s_y (v := .int .i64 (py + 1)) rfl (y_move rfl) ?_
          refine s_nil ?_
          replace B : Bu w no w10 [.ow kF a9 nn9 cc9 34 (tab (W * (py + 1)) (fun i => el X ((fun xp yp => atI wd hi (FU xp yp) (FV xp yp)) (i % W) (i / W)))), .blk b1 [.int .i64 wd, .int .i64 hi, .bool wr, .slice asp nsp csp, .slice als nls cls] 26, .rd kF a n X] := B.castX 0 rfl rfl (congrArg (fun q => tab q _) (show W * py + px = W * (py + 1) by rw [Int.mul_add, Int.mul_one]; omega))
          refine ⟨⟨_, py + 1, a9, cc9, nn9, Fits.eq ⟨rfl, rfl, rfl, rfl, rfl, rfl, rfl, rfl, trivial⟩, B, (by omega), (by omega)⟩, ?_⟩
          show (H - (py + 1)).toNat < (H - py).toNat
          omega
    · refine s_y (v := .bool false) rfl (y_lss rfl rfl (decide_eq_false c9)) ?_
      refine s_nil ?_
      refine W_seq ?_
      refine W_if_f (by decide) rfl ?_
      refine W_exit ?_
      refine W_seq ?_
      refine W_region (by kernel_rfl) ?_
      refine s_y (v := .slice a0 nn0 cc0) rfl (y_move rfl) ?_
      refine s_y (v := .slice a0 nn0 cc0) rfl (y_assign rfl) ?_
      refine s_nil ?_
      refine W_ret ?_
      refine ret1 (v := .slice a0 nn0 cc0) rfl rfl rfl ⟨_, rfl, ?_⟩
      obtain rfl : H = py := by omega
      replace B : Bu w no w7 [.ow kF a0 ((W * H).toNat) cc0 34 (movL W H (fun xp yp => atI wd hi (FU xp yp) (FV xp yp)) X), .blk b1 [.int .i64 wd, .int .i64 hi, .bool wr, .slice asp nsp csp, .slice als nls cls] 26, .rd kF a n X] := B.castX 0 rfl (by omega) rfl
      exact ⟨_, _, (by rw [(show nn0 = (W * H).toNat from (by omega))]), B.give [0] rfl rfl rfl⟩
namespace T51
theorem mx : Try.prog.follows .mixedOrders = true := by kernel_rfl
theorem agg_26_5 : aggB Try.prog 26 5 = true := by kernel_rfl
theorem fld_26_0_0 : fldB Try.prog 26 0 0 = true := by kernel_rfl
theorem fld_26_1_1 : fldB Try.prog 26 1 1 = true := by kernel_rfl
theorem fld_26_2_2 : fldB Try.prog 26 2 2 = true := by kernel_rfl
theorem fld_26_3_3 : fldB Try.prog 26 3 3 = true := by kernel_rfl
theorem fld_26_4_4 : fldB Try.prog 26 4 4 = true := by kernel_rfl
theorem fn_103 : fnB Try.prog 103 = true := by kernel_rfl
theorem fn_104 : fnB Try.prog 104 = true := by kernel_rfl
theorem fn_65 : fnB Try.prog 65 = true := by kernel_rfl
theorem one_2 : oneB Try.prog 2 = true := by kernel_rfl
theorem one_24 : oneB Try.prog 24 = true := by kernel_rfl
theorem one_4 : oneB Try.prog 4 = true := by kernel_rfl
theorem sz_26_5 : szB Try.prog 26 5 = true := by kernel_rfl
theorem zero_26 : zeroB Try.prog 26 (.agg #[.int .i64 0, .int .i64 0, .bool false, .slice none 0 0, .slice none 0 0]) := by unfold zeroB; kernel_rfl
end T51
set_option maxRecDepth 100000 in
set_option maxHeartbeats 4000000 in
theorem c_i_MirrorSheet {wd : Int} {hi : Int} {wr : Bool} {asp : Option Addr} {nsp : Nat} {csp : Nat} {Xsp : List Nat} {als : Option Addr} {nls : Nat} {cls : Nat} {Xls : List Nat} {w : World} (qsp : Rd w kF asp nsp Xsp) (qls : Rd w kF als nls Xls) (hbsp : nsp ≤ 9223372036854775806) (hbls : nls ≤ 9223372036854775806) :
    Calls Try.prog 51 #[.agg #[.int .i64 wd, .int .i64 hi, .bool wr, .slice asp nsp csp, .slice als nls cls]] w (Rt fun v w' => (validS wd hi Xsp Xls = true ∧ ∃ (a1 : Option Addr) (c1 : Nat) (a2 : Option Addr) (c2 : Nat), v = .tuple #[.agg #[.int .i64 wd, .int .i64 hi, .bool wr, .slice a1 ((wd * hi).toNat) c1, .slice a2 ((wd * hi).toNat) c2], .bool true] ∧ New w w' [.ow kF a1 ((wd * hi).toNat) c1 34 (mirS wd hi Xsp), .ow kF a2 ((wd * hi).toNat) c2 34 (mirS wd hi Xls)]) ∨ (validS wd hi Xsp Xls = false ∧ v = .tuple #[.agg #[.int .i64 0, .int .i64 0, .bool false, .slice none 0 0, .slice none 0 0], .bool false] ∧ Ext0 w w')) := by
  have hlsp := qsp.len
  have hlls := qls.len
  have B : Bu w no w [.rd kF asp nsp Xsp, .rd kF als nls Xls] := Bu.ro (All.cons qsp (All.cons qls All.nil)) rfl
  refine calls_W (n := 35) Try.func51 rfl rfl (Nat.le_of_ble_eq_true rfl) ?_
  refine W_seq ?_
  refine W_region (by kernel_rfl) ?_
  refine s_k rfl (k_boxN (v := .agg #[.int .i64 wd, .int .i64 hi, .bool wr, .slice asp nsp csp, .slice als nls cls]) (cs := [.int .i64 wd, .int .i64 hi, .bool wr, .slice asp nsp csp, .slice als nls cls]) rfl rfl (fun b1 w2 hN3 => ?_))
  replace B := B.new1 hN3
  clear hN3
  refine s_k rfl (k_allocN (z := (.agg #[.int .i64 0, .int .i64 0, .bool false, .slice none 0 0, .slice none 0 0])) (cs := [.int .i64 0, .int .i64 0, .bool false, .slice none 0 0, .slice none 0 0]) T51.zero_26 rfl (fun b4 w5 hN6 => ?_))
  replace B := B.new1 hN6
  clear hN6
  refine s_y (v := .bool false) rfl (y_assign rfl) ?_
  refine s_nil ?_
  refine W_seq ?_
  refine W_seq ?_
  refine W_region (by kernel_rfl) ?_
  refine s_y (v := .agg #[.int .i64 wd, .int .i64 hi, .bool wr, .slice asp nsp csp, .slice als nls cls]) rfl (y_loadn (b := b1) (o := 0) (vs := [.int .i64 wd, .int .i64 hi, .bool wr, .slice asp nsp csp, .slice als nls cls]) T51.agg_26_5 rfl rfl ((B.b 1 rfl).cells (o := 0) rfl)) ?_
  refine s_k rfl (k_call T51.fn_65 (c_i_ValidSheet (B.r 2 rfl) (B.r 3 rfl) (by omega) (by omega)) rfl ?_)
  rintro v9 w7 ⟨hv10, e8⟩
  replace B := B.ext0 e8
  clear e8
  by_cases c11 : validS wd hi Xsp Xls = true
  · have hb12 := validS_b c11
    obtain rfl : v9 = .bool true := hv10.trans (congrArg Value.bool c11)
    refine s_y (v := .bool false) rfl (y_not rfl rfl) ?_
    refine s_nil ?_
    refine W_if_f (by decide) rfl ?_
    refine W_skip ?_
    refine W_seq ?_
    refine W_region (by kernel_rfl) ?_
    refine s_y (v := .func (.func 103) #[] #[.pointer (some ⟨b1, 0, none⟩)]) rfl (y_func rfl rfl) ?_
    refine s_y (v := .func (.func 103) #[] #[.pointer (some ⟨b1, 0, none⟩)]) rfl (y_assign rfl) ?_
    refine s_nil ?_
    refine W_seq ?_
    have B0_17 := B
    refine W_draw (at1 b4) T51.mx (by kernel_rfl) (fun w15 e16 => ?_)
    have R18 := Ext.refl (at1 b4) w7
    replace R18 := R18.trans (Ext0.any e16)
    replace B := B.ext0 e16
    clear e16
    refine m_y (v := .pointer (some ⟨b1, 0, none⟩)) 0 rfl (by kernel_rfl) rfl rfl (fun w' e' => y_fld (o := 0) T51.fld_26_0_0 rfl) ?_
    refine m_y (v := .int .i64 wd) 1 rfl (by kernel_rfl) rfl rfl (fun w' e' => y_load T51.one_2 rfl ((B0_17.bx 1 0 rfl rfl rfl rfl e' (fun _ h => h)).cell (j := 0) rfl)) ?_
    refine m_y (v := .pointer (some ⟨b1, 1, none⟩)) 2 rfl (by kernel_rfl) rfl rfl (fun w' e' => y_fld (o := 0) T51.fld_26_1_1 rfl) ?_
    refine m_y (v := .int .i64 hi) 3 rfl (by kernel_rfl) rfl rfl (fun w' e' => y_load T51.one_2 rfl ((B0_17.bx 1 0 rfl rfl rfl rfl e' (fun _ h => h)).cell (j := 1) rfl)) ?_
    refine m_y (v := .pointer (some ⟨b1, 2, none⟩)) 4 rfl (by kernel_rfl) rfl rfl (fun w' e' => y_fld (o := 0) T51.fld_26_2_2 rfl) ?_
    refine m_y (v := .bool wr) 5 rfl (by kernel_rfl) rfl rfl (fun w' e' => y_load T51.one_4 rfl ((B0_17.bx 1 0 rfl rfl rfl rfl e' (fun _ h => h)).cell (j := 2) rfl)) ?_
    refine m_y (v := .agg #[.int .i64 wd, .int .i64 hi, .bool wr, .slice asp nsp csp, .slice als nls cls]) 6 rfl (by kernel_rfl) rfl rfl (fun w' e' => y_loadn (b := b1) (o := 0) (vs := [.int .i64 wd, .int .i64 hi, .bool wr, .slice asp nsp csp, .slice als nls cls]) T51.agg_26_5 rfl rfl ((B0_17.bx 1 0 rfl rfl rfl rfl e' (fun _ h => h)).cells (o := 0) rfl)) ?_
    refine m_y (v := .pointer (some ⟨b1, 3, none⟩)) 7 rfl (by kernel_rfl) rfl rfl (fun w' e' => y_fld (o := 0) T51.fld_26_3_3 rfl) ?_
    refine m_y (v := .slice asp nsp csp) 8 rfl (by kernel_rfl) rfl rfl (fun w' e' => y_load T51.one_24 rfl ((B0_17.bx 1 0 rfl rfl rfl rfl e' (fun _ h => h)).cell (j := 3) rfl)) ?_
    refine m_y (v := .pointer (some ⟨b1, 0, none⟩)) 9 rfl (by kernel_rfl) rfl rfl (fun w' e' => y_fld (o := 0) T51.fld_26_0_0 rfl) ?_
    refine m_y (v := .int .i64 wd) 10 rfl (by kernel_rfl) rfl rfl (fun w' e' => y_load T51.one_2 rfl ((B0_17.bx 1 0 rfl rfl rfl rfl e' (fun _ h => h)).cell (j := 0) rfl)) ?_
    refine m_y (v := .pointer (some ⟨b1, 1, none⟩)) 11 rfl (by kernel_rfl) rfl rfl (fun w' e' => y_fld (o := 0) T51.fld_26_1_1 rfl) ?_
    refine m_y (v := .int .i64 hi) 12 rfl (by kernel_rfl) rfl rfl (fun w' e' => y_load T51.one_2 rfl ((B0_17.bx 1 0 rfl rfl rfl rfl e' (fun _ h => h)).cell (j := 1) rfl)) ?_
    refine m_y (v := .func (.func 103) #[] #[.pointer (some ⟨b1, 0, none⟩)]) 13 rfl (by kernel_rfl) rfl rfl (fun w' e' => y_move rfl) ?_
    refine m_y (v := .agg #[.int .i64 wd, .int .i64 hi, .bool wr, .slice asp nsp csp, .slice als nls cls]) 15 rfl (by kernel_rfl) rfl rfl (fun w' e' => y_loadn (b := b1) (o := 0) (vs := [.int .i64 wd, .int .i64 hi, .bool wr, .slice asp nsp csp, .slice als nls cls]) T51.agg_26_5 rfl rfl ((B0_17.bx 1 0 rfl rfl rfl rfl e' (fun _ h => h)).cells (o := 0) rfl)) ?_
    refine m_y (v := .pointer (some ⟨b1, 4, none⟩)) 16 rfl (by kernel_rfl) rfl rfl (fun w' e' => y_fld (o := 0) T51.fld_26_4_4 rfl) ?_
    refine m_y (v := .slice als nls cls) 17 rfl (by kernel_rfl) rfl rfl (fun w' e' => y_load T51.one_24 rfl ((B0_17.bx 1 0 rfl rfl rfl rfl e' (fun _ h => h)).cell (j := 4) rfl)) ?_
    refine m_y (v := .pointer (some ⟨b1, 0, none⟩)) 18 rfl (by kernel_rfl) rfl rfl (fun w' e' => y_fld (o := 0) T51.fld_26_0_0 rfl) ?_
    refine m_y (v := .int .i64 wd) 19 rfl (by kernel_rfl) rfl rfl (fun w' e' => y_load T51.one_2 rfl ((B0_17.bx 1 0 rfl rfl rfl rfl e' (fun _ h => h)).cell (j := 0) rfl)) ?_
    refine m_y (v := .pointer (some ⟨b1, 1, none⟩)) 20 rfl (by kernel_rfl) rfl rfl (fun w' e' => y_fld (o := 0) T51.fld_26_1_1 rfl) ?_
    refine m_y (v := .int .i64 hi) 21 rfl (by kernel_rfl) rfl rfl (fun w' e' => y_load T51.one_2 rfl ((B0_17.bx 1 0 rfl rfl rfl rfl e' (fun _ h => h)).cell (j := 1) rfl)) ?_
    refine m_y (v := .func (.func 103) #[] #[.pointer (some ⟨b1, 0, none⟩)]) 22 rfl (by kernel_rfl) rfl rfl (fun w' e' => y_move rfl) ?_
    refine m_k 14 [23, 24, 25, 26] rfl (by kernel_rfl) rfl rfl (fun w19 e20 => ?_)
    replace R18 := R18.trans (Ext0.any e20)
    replace B := B.ext0 e20
    clear e20
    refine k_call T51.fn_104 (c_i_moved (f := 103) (us := []) (xs := [.pointer (some ⟨b1, 0, none⟩)]) (FU := (fun xq _ => wd - 1 - xq)) (FV := (fun _ yq => yq)) (W := wd) (H := hi) (B.r 2 rfl) T51.fn_103 (fun xq yq w1 he h0 h1 h2 h3 => (c_i_MirrorSheet_1 ((B.b 1 rfl).sl.ext0 he) (by omega) (by omega) (by omega) (by omega))) (fun x y h0 h1 h2 h3 => by first | omega | (simp only []; omega)) (by omega) (by omega) (by omega) (by omega) (by omega) (by omega) (by omega) (by omega) (by omega)) rfl ?_
    rintro _ w21 ⟨a22, c23, rfl, hN24⟩
    replace R18 := R18.trans (Ext0.any hN24.ext)
    replace B := B.new1 hN24
    clear hN24
    refine ⟨fun _ => R18, ?_⟩
    refine m_k 23 [24, 25, 26] rfl (by kernel_rfl) rfl rfl (fun w25 e26 => ?_)
    replace R18 := R18.trans (Ext0.any e26)
    replace B := B.ext0 e26
    clear e26
    refine k_call T51.fn_104 (c_i_moved (f := 103) (us := []) (xs := [.pointer (some ⟨b1, 0, none⟩)]) (FU := (fun xq _ => wd - 1 - xq)) (FV := (fun _ yq => yq)) (W := wd) (H := hi) (B.r 4 rfl) T51.fn_103 (fun xq yq w1 he h0 h1 h2 h3 => (c_i_MirrorSheet_1 ((B.b 2 rfl).sl.ext0 he) (by omega) (by omega) (by omega) (by omega))) (fun x y h0 h1 h2 h3 => by first | omega | (simp only []; omega)) (by omega) (by omega) (by omega) (by omega) (by omega) (by omega) (by omega) (by omega) (by omega)) rfl ?_
    rintro _ w27 ⟨a28, c29, rfl, hN30⟩
    replace R18 := R18.trans (Ext0.any hN30.ext)
    replace B := B.new1 hN30
    clear hN30
    refine ⟨fun _ => R18, ?_⟩
    refine m_y (v := .agg #[.int .i64 wd, .int .i64 hi, .bool wr, .slice a22 ((wd * hi).toNat) c23, .slice a28 ((wd * hi).toNat) c29]) 24 rfl (by kernel_rfl) rfl rfl (fun w' e' => y_build (cells := #[.int .i64 wd, .int .i64 hi, .bool wr, .slice a22 ((wd * hi).toNat) c23, .slice a28 ((wd * hi).toNat) c29]) (by kernel_rfl)) ?_
    refine m_k 25 [26] rfl (by kernel_rfl) rfl rfl (fun w33 e34 => ?_)
    replace R18 := R18.trans (Ext0.any e34)
    replace B := B.ext0 e34
    clear e34
    refine k_stB (v := .agg #[.int .i64 wd, .int .i64 hi, .bool wr, .slice a22 ((wd * hi).toNat) c23, .slice a28 ((wd * hi).toNat) c29]) (n := 5) (cs' := [.int .i64 wd, .int .i64 hi, .bool wr, .slice a22 ((wd * hi).toNat) c23, .slice a28 ((wd * hi).toNat) c29]) T51.sz_26_5 rfl rfl rfl (B.b 2 rfl) (by simp [Value.cells, Value.oneCell']) (Nat.le_of_ble_eq_true rfl) rfl (fun w31 hU32 => ?_)
    replace R18 := R18.trans hU32.at1
    replace B : Bu w no w31 [.blk b4 [.int .i64 wd, .int .i64 hi, .bool wr, .slice a22 ((wd * hi).toNat) c23, .slice a28 ((wd * hi).toNat) c29] 26, .ow kF a28 ((wd * hi).toNat) c29 34 (movL wd hi (fun xp yp => atI wd hi ((fun xq _ => wd - 1 - xq) xp yp) ((fun _ yq => yq) xp yp)) Xls), .ow kF a22 ((wd * hi).toNat) c23 34 (movL wd hi (fun xp yp => atI wd hi ((fun xq _ => wd - 1 - xq) xp yp) ((fun _ yq => yq) xp yp)) Xsp), .blk b1 [.int .i64 wd, .int .i64 hi, .bool wr, .slice asp nsp csp, .slice als nls cls] 26, .rd kF asp nsp Xsp, .rd kF als nls Xls] := B.upd [2] rfl hU32
    clear hU32
    refine ⟨fun _ => R18, ?_⟩
    refine m_y (v := .bool true) 26 rfl (by kernel_rfl) rfl rfl (fun w' e' => y_assign rfl) ?_
    refine m_done (by kernel_rfl) (fun w35 e36 => ?_)
    replace B := B.ext0 e36
    clear e36
    clear B0_17 R18
    refine W_ret ?_
    refine ret2 (v1 := .agg #[.int .i64 wd, .int .i64 hi, .bool wr, .slice a22 ((wd * hi).toNat) c23, .slice a28 ((wd * hi).toNat) c29]) (v2 := .bool true) rfl rfl rfl ⟨_, [.int .i64 wd, .int .i64 hi, .bool wr, .slice a22 ((wd * hi).toNat) c23, .slice a28 ((wd * hi).toNat) c29], _, rfl, (B.b 0 rfl), T51.agg_26_5, rfl⟩ rfl ⟨_, rfl, ?_⟩
    have hcond : validS wd hi Xsp Xls = true := by simp only [c11, Bool.and_true, Bool.true_and, Bool.and_false, Bool.false_and, Bool.not_true, Bool.not_false, Bool.or_true, Bool.true_or, Bool.or_false, Bool.false_or]
    replace B : Bu w no w35 [.blk b4 [.int .i64 wd, .int .i64 hi, .bool wr, .slice a22 ((wd * hi).toNat) c23, .slice a28 ((wd * hi).toNat) c29] 26, .ow kF a28 ((wd * hi).toNat) c29 34 (movL wd hi (fun xp yp => atI wd hi ((fun xq _ => wd - 1 - xq) xp yp) ((fun _ yq => yq) xp yp)) Xls), .ow kF a22 ((wd * hi).toNat) c23 34 (mirS wd hi Xsp), .blk b1 [.int .i64 wd, .int .i64 hi, .bool wr, .slice asp nsp csp, .slice als nls cls] 26, .rd kF asp nsp Xsp, .rd kF als nls Xls] := B.castX 2 rfl rfl (mir_i (by omega))
    replace B : Bu w no w35 [.blk b4 [.int .i64 wd, .int .i64 hi, .bool wr, .slice a22 ((wd * hi).toNat) c23, .slice a28 ((wd * hi).toNat) c29] 26, .ow kF a28 ((wd * hi).toNat) c29 34 (mirS wd hi Xls), .ow kF a22 ((wd * hi).toNat) c23 34 (mirS wd hi Xsp), .blk b1 [.int .i64 wd, .int .i64 hi, .bool wr, .slice asp nsp csp, .slice als nls cls] 26, .rd kF asp nsp Xsp, .rd kF als nls Xls] := B.castX 1 rfl rfl (mir_i (by omega))
    exact .inl ⟨hcond, ⟨_, _, _, _, rfl, B.give [2, 1] rfl rfl rfl⟩⟩
  · obtain rfl : v9 = .bool false := hv10.trans (congrArg Value.bool (Bool.eq_false_iff.2 c11))
    refine s_y (v := .bool true) rfl (y_not rfl rfl) ?_
    refine s_nil ?_
    refine W_if_t (by decide) rfl ?_
    refine W_seq ?_
    refine W_region (by kernel_rfl) ?_
    refine s_y (v := .agg #[.int .i64 0, .int .i64 0, .bool false, .slice none 0 0, .slice none 0 0]) rfl (y_build (cells := #[.int .i64 0, .int .i64 0, .bool false, .slice none 0 0, .slice none 0 0]) (by kernel_rfl)) ?_
    refine s_k0 rfl (k_stB (v := .agg #[.int .i64 0, .int .i64 0, .bool false, .slice none 0 0, .slice none 0 0]) (n := 5) (cs' := [.int .i64 0, .int .i64 0, .bool false, .slice none 0 0, .slice none 0 0]) T51.sz_26_5 rfl rfl rfl (B.b 0 rfl) (by simp [Value.cells, Value.oneCell']) (Nat.le_of_ble_eq_true rfl) rfl (fun w37 hU38 => ?_))
    replace B : Bu w no w37 [.blk b4 [.int .i64 0, .int .i64 0, .bool false, .slice none 0 0, .slice none 0 0] 26, .blk b1 [.int .i64 wd, .int .i64 hi, .bool wr, .slice asp nsp csp, .slice als nls cls] 26, .rd kF asp nsp Xsp, .rd kF als nls Xls] := B.upd [0] rfl hU38
    clear hU38
    refine s_y (v := .bool false) rfl (y_assign rfl) ?_
    refine s_nil ?_
    refine W_ret ?_
    refine ret2 (v1 := .agg #[.int .i64 0, .int .i64 0, .bool false, .slice none 0 0, .slice none 0 0]) (v2 := .bool false) rfl rfl rfl ⟨_, [.int .i64 0, .int .i64 0, .bool false, .slice none 0 0, .slice none 0 0], _, rfl, (B.b 0 rfl), T51.agg_26_5, rfl⟩ rfl ⟨_, rfl, ?_⟩
    exact .inr ⟨by simp only [(Bool.eq_false_iff.2 c11), Bool.and_true, Bool.true_and, Bool.and_false, Bool.false_and, Bool.not_true, Bool.not_false, Bool.or_true, Bool.true_or, Bool.or_false, Bool.false_or], rfl, B.ext⟩
namespace T105
theorem mx : Try.prog.follows .mixedOrders = true := by kernel_rfl
theorem fld_26_0_0 : fldB Try.prog 26 0 0 = true := by kernel_rfl
theorem one_2 : oneB Try.prog 2 = true := by kernel_rfl
end T105
set_option maxRecDepth 100000 in
set_option maxHeartbeats 4000000 in
theorem c_i_MirrorField_1 {x : Int} {y : Int} {b : Nat} {wd : Int} {hi : Int} {wr : Bool} {asp : Option Addr} {nsp : Nat} {csp : Nat} {als : Option Addr} {nls : Nat} {cls : Nat} {w : World} (Pb : Sl w (some ⟨b, 0, none⟩) [.int .i64 wd, .int .i64 hi, .bool wr, .slice asp nsp csp, .slice als nls cls]) (h1 : 3 ≤ wd) (h2 : wd ≤ 16) (h5 : 0 ≤ x) (h6 : x ≤ 1000000) :
    Calls Try.prog 105 #[.int .i64 x, .int .i64 y, .pointer (some ⟨b, 0, none⟩)] w (Rt fun v w' => v = .tuple #[.int .i64 (wd - 1 - x), .int .i64 y] ∧ Ext0 w w') := by
  have B : Bu w no w [.sl (some ⟨b, 0, none⟩) [.int .i64 wd, .int .i64 hi, .bool wr, .slice asp nsp csp, .slice als nls cls]] := Bu.ro (All.cons Pb All.nil) rfl
  refine calls_W (n := 13) Try.func105 rfl rfl (Nat.le_of_ble_eq_true rfl) ?_
  refine W_seq ?_
  refine W_region (by kernel_rfl) ?_
  refine s_y (v := .int .i64 0) rfl (y_assign rfl) ?_
  refine s_y (v := .int .i64 0) rfl (y_assign rfl) ?_
  refine s_nil ?_
  refine W_seq ?_
  refine W_region (by kernel_rfl) ?_
  refine s_y (v := .pointer (some ⟨b, 0, none⟩)) rfl (y_fld (o := 0 + 0) T105.fld_26_0_0 rfl) ?_
  refine s_y (v := .int .i64 wd) rfl (y_load T105.one_2 rfl ((B.s 0 rfl).cell (j := 0) rfl)) ?_
  refine s_y (v := .int .i64 (wd - 1)) rfl (y_sub rfl rfl rfl (by omega)) ?_
  refine s_y (v := .int .i64 x) rfl (y_move rfl) ?_
  refine s_y (v := .int .i64 ((wd - 1) - x)) rfl (y_sub rfl rfl rfl (by omega)) ?_
  refine s_y (v := .int .i64 y) rfl (y_move rfl) ?_
  refine s_y (v := .int .i64 ((wd - 1) - x)) rfl (y_assign rfl) ?_
  refine s_y (v := .int .i64 y) rfl (y_assign rfl) ?_
  refine s_nil ?_
  refine W_ret ?_
  refine ret2 (v1 := .int .i64 ((wd - 1) - x)) (v2 := .int .i64 y) rfl rfl rfl rfl rfl ⟨_, rfl, ?_⟩
  exact ⟨rfl, B.ext⟩
namespace T106
theorem mx : Try.prog.follows .mixedOrders = true := by kernel_rfl
theorem fld_26_0_0 : fldB Try.prog 26 0 0 = true := by kernel_rfl
theorem one_2 : oneB Try.prog 2 = true := by kernel_rfl
end T106
set_option maxRecDepth 100000 in
set_option maxHeartbeats 4000000 in
theorem c_i_MirrorField_2 {x : Int} {y : Int} {b : Nat} {wd : Int} {hi : Int} {wr : Bool} {asp : Option Addr} {nsp : Nat} {csp : Nat} {als : Option Addr} {nls : Nat} {cls : Nat} {w : World} (Pb : Sl w (some ⟨b, 0, none⟩) [.int .i64 wd, .int .i64 hi, .bool wr, .slice asp nsp csp, .slice als nls cls]) (h1 : 3 ≤ wd) (h2 : wd ≤ 16) (h5 : 0 ≤ x) (h6 : x ≤ 1000000) :
    Calls Try.prog 106 #[.int .i64 x, .int .i64 y, .pointer (some ⟨b, 0, none⟩)] w (Rt fun v w' => v = .tuple #[.int .i64 (wd - 2 - x), .int .i64 y] ∧ Ext0 w w') := by
  have B : Bu w no w [.sl (some ⟨b, 0, none⟩) [.int .i64 wd, .int .i64 hi, .bool wr, .slice asp nsp csp, .slice als nls cls]] := Bu.ro (All.cons Pb All.nil) rfl
  refine calls_W (n := 13) Try.func106 rfl rfl (Nat.le_of_ble_eq_true rfl) ?_
  refine W_seq ?_
  refine W_region (by kernel_rfl) ?_
  refine s_y (v := .int .i64 0) rfl (y_assign rfl) ?_
  refine s_y (v := .int .i64 0) rfl (y_assign rfl) ?_
  refine s_nil ?_
  refine W_seq ?_
  refine W_region (by kernel_rfl) ?_
  refine s_y (v := .pointer (some ⟨b, 0, none⟩)) rfl (y_fld (o := 0 + 0) T106.fld_26_0_0 rfl) ?_
  refine s_y (v := .int .i64 wd) rfl (y_load T106.one_2 rfl ((B.s 0 rfl).cell (j := 0) rfl)) ?_
  refine s_y (v := .int .i64 (wd - 2)) rfl (y_sub rfl rfl rfl (by omega)) ?_
  refine s_y (v := .int .i64 x) rfl (y_move rfl) ?_
  refine s_y (v := .int .i64 ((wd - 2) - x)) rfl (y_sub rfl rfl rfl (by omega)) ?_
  refine s_y (v := .int .i64 y) rfl (y_move rfl) ?_
  refine s_y (v := .int .i64 ((wd - 2) - x)) rfl (y_assign rfl) ?_
  refine s_y (v := .int .i64 y) rfl (y_assign rfl) ?_
  refine s_nil ?_
  refine W_ret ?_
  refine ret2 (v1 := .int .i64 ((wd - 2) - x)) (v2 := .int .i64 y) rfl rfl rfl rfl rfl ⟨_, rfl, ?_⟩
  exact ⟨rfl, B.ext⟩
namespace T97
theorem mx : Try.prog.follows .mixedOrders = true := by kernel_rfl
theorem one_34 : oneB Try.prog 34 = true := by kernel_rfl
theorem sl_24_34_1 : slB Try.prog 24 34 1 = true := by kernel_rfl
theorem slt_24 : SlT Try.prog 24 34 1 4 (.float .f32 0) := ⟨by kernel_rfl, by kernel_rfl, rfl, by decide⟩
end T97
set_option maxRecDepth 100000 in
set_option maxHeartbeats 4000000 in
theorem c_i_both {aa : Option Addr} {na : Nat} {ca : Nat} {Xa : List Nat} {ab : Option Addr} {nb : Nat} {cb : Nat} {Xb : List Nat} {f : Nat} {us xs : List Value} {FM : Nat → Nat → Nat} {w : World} (qa : Rd w kF aa na Xa) (qb : Rd w kF ab nb Xb) (hfB : fnB Try.prog f = true) (hF : ∀ r R r2 R2 {w1}, Ext0 w w1 → Cn .f32 r R → Cn .f32 r2 R2 → Calls Try.prog f (us ++ ([.float .f32 r, .float .f32 r2] : List Value) ++ xs).toArray w1 (Rt fun v w2 => (∃ q, v = .float .f32 q ∧ Cn .f32 q (FM R R2)) ∧ Ext0 w1 w2)) (hab : nb = na) (hb : na ≤ 1048576) :
    Calls Try.prog 97 #[.slice aa na ca, .slice ab nb cb, .func (.func f) us.toArray xs.toArray] w (Rt fun v w' => ∃ (a1 : Option Addr) (c1 : Nat), v = .slice a1 na c1 ∧ New w w' [.ow kF a1 na c1 34 (zipL na FM Xa Xb)]) := by
  have hla := qa.len
  have hlb := qb.len
  have B : Bu w no w [.rd kF aa na Xa, .rd kF ab nb Xb] := Bu.ro (All.cons qa (All.cons qb All.nil)) rfl
  refine calls_W (n := 30) Try.func97 rfl rfl (Nat.le_of_ble_eq_true rfl) ?_
  refine W_seq ?_
  refine W_region (by kernel_rfl) ?_
  refine s_y (v := .slice none 0 0) rfl (y_assign rfl) ?_
  refine s_nil ?_
  refine W_seq ?_
  refine W_region (by kernel_rfl) ?_
  refine s_k rfl (k_bsliceO (k := kF) (n := 0) (cells := #[]) (X := []) T97.slt_24 (by decide) (by first | rfl | kernel_rfl) (rfl : Reps kF [] []) rfl (fun b1 w2 hN3 => ?_))
  replace B := B.new1 hN3
  clear hN3
  refine s_y (v := .slice (some ⟨b1, 0, none⟩) 0 0) rfl (y_assign rfl) ?_
  refine s_nil ?_
  refine W_seq ?_
  refine W_seq ?_
  refine W_region (by kernel_rfl) ?_
  refine s_y (v := .slice aa na ca) rfl (y_move rfl) ?_
  refine s_y (v := .int .i64 ((na : Nat) : Int)) rfl (y_len T97.sl_24_34_1 rfl rfl) ?_
  refine s_y (v := .int .i64 0) rfl (y_move rfl) ?_
  refine s_nil ?_
  refine W_block ?_
  refine W_loop (fun ρ' w' => ∃ (ρ1 : Env) (k : Int) (a0 : Option Addr) (cc0 : Nat) (nn0 : Nat), ρ' = updL ρ1 [(1, .slice ab nb cb), (2, .func (.func f) us.toArray xs.toArray), (6, .slice none 0 0), (7, .slice a0 nn0 cc0), (11, .slice aa na ca), (12, .int .i64 ((na : Nat) : Int)), (13, .int .i64 k)] ∧ Bu w no w' [.ow kF a0 nn0 cc0 34 (tab k (fun i => FM (el Xa i) (el Xb i))), .rd kF aa na Xa, .rd kF ab nb Xb] ∧ (0 ≤ k) ∧ (k ≤ (na : Int))) (fun ρ' _ => ((na : Int) - iv (ρ' 13)).toNat) ?_ ?_
  · replace B : Bu w no w2 [.ow kF (some ⟨b1, 0, none⟩) 0 0 34 (tab 0 (fun i => FM (el Xa i) (el Xb i))), .rd kF aa na Xa, .rd kF ab nb Xb] := B.castX 0 rfl rfl rfl
    exact ⟨_, 0, (some ⟨b1, 0, none⟩), 0, 0, Fits.eq ⟨rfl, rfl, rfl, rfl, rfl, rfl, rfl, trivial⟩, B, (Int.le_refl _), (by omega)⟩
  · clear B; rintro _ w4 ⟨ρ5, k, a0, cc0, nn0, rfl, B, h0k, h1k⟩
    have hnn0 := (B.o 0 rfl).len
    rw [tab_length] at hnn0
    refine W_seq ?_
    refine W_region (by kernel_rfl) ?_
    by_cases c6 : k < ((na : Nat) : Int)
    · refine s_y (v := .bool true) rfl (y_lss rfl rfl (decide_eq_true c6)) ?_
      refine s_nil ?_
      refine W_seq ?_
      refine W_if_t (by decide) rfl ?_
      refine W_skip ?_
      refine W_seq ?_
      refine W_block ?_
      refine W_seq ?_
      refine W_region (by kernel_rfl) ?_
      refine s_y (v := .int .i64 k) rfl (y_move rfl) ?_
      refine s_y (v := .pointer (some (sat aa ((k).toNat * 1)))) rfl (y_idx T97.sl_24_34_1 rfl rfl ((B.r 1 rfl).addr (by omega)) (by omega) (by omega)) ?_
      obtain ⟨r8, hr9, hR7⟩ := Rd.atF (B.r 1 rfl) k (by omega) (by omega)
      refine s_y (v := .float .f32 r8) rfl (y_load T97.one_34 rfl (hR7.cell (i := 0) rfl)) ?_
      refine s_y (v := .int .i64 k) rfl (y_assign rfl) ?_
      refine s_y (v := .float .f32 r8) rfl (y_assign rfl) ?_
      refine s_nil ?_
      refine W_region (by kernel_rfl) ?_
      refine s_y (v := .slice a0 nn0 cc0) rfl (y_move rfl) ?_
      refine s_y (v := .func (.func f) us.toArray xs.toArray) rfl (y_move rfl) ?_
      refine s_y (v := .float .f32 r8) rfl (y_move rfl) ?_
      refine s_y (v := .slice ab nb cb) rfl (y_move rfl) ?_
      refine s_y (v := .int .i64 k) rfl (y_move rfl) ?_
      refine s_y (v := .pointer (some (sat ab ((k).toNat * 1)))) rfl (y_idx T97.sl_24_34_1 rfl rfl ((B.r 2 rfl).addr (by omega)) (by omega) (by omega)) ?_
      obtain ⟨r11, hr12, hR10⟩ := Rd.atF (B.r 2 rfl) k (by omega) (by omega)
      refine s_y (v := .float .f32 r11) rfl (y_load T97.one_34 rfl (hR10.cell (i := 0) rfl)) ?_
      refine s_k rfl (k_callv hfB rfl (hF r8 (el Xa k) r11 (el Xb k) B.ext hr9 hr12) rfl ?_)
      rintro _ w13 ⟨⟨r15, rfl, hr16⟩, e14⟩
      replace B := B.ext0 e14
      clear e14
      refine s_k rfl (k_bsliceO (k := kF) (n := 1) (cells := #[.float .f32 r15]) (X := [FM (el Xa k) (el Xb k)]) T97.slt_24 (by decide) (by first | rfl | kernel_rfl) (reps_cons (c := [.float .f32 r15]) ⟨_, rfl, hr16⟩ (rfl : Reps kF [] [])) rfl (fun b17 w18 hN19 => ?_))
      replace B := B.new1 hN19
      clear hN19
      refine s_k rfl (k_appO (k := kF) T97.slt_24 rfl rfl rfl (B.o 1 rfl) (B.o 0 rfl).rd (by omega) (by unfold maxLen; omega) (fun a20 c21 w22 hU23 => ?_))
      replace B : Bu w no w22 [.ow kF a20 (nn0 + 1) c21 34 ((tab k (fun i => FM (el Xa i) (el Xb i))) ++ ([FM (el Xa k) (el Xb k)])), .ow kF (some ⟨b17, 0, none⟩) 1 1 34 ([FM (el Xa k) (el Xb k)]), .rd kF aa na Xa, .rd kF ab nb Xb] := B.upd [1] rfl hU23
      clear hU23
      refine s_y (v := .slice a20 (nn0 + 1) c21) rfl (y_assign rfl) ?_
      refine s_nil ?_
      refine W_region (by kernel_rfl) ?_
      refine s_y (v := .int .i64 (k + 1)) rfl (y_add rfl rfl rfl (by omega)) ?_
      refine s_y (v := .int .i64 (k + 1)) rfl (y_move rfl) ?_
      refine s_nil ?_
      replace B : Bu w no w22 [.ow kF a20 (nn0 + 1) c21 34 (tab (k + 1) (fun i => FM (el Xa i) (el Xb i))), .ow kF (some ⟨b17, 0, none⟩) 1 1 34 ([FM (el Xa k) (el Xb k)]), .rd kF aa na Xa, .rd kF ab nb Xb] := B.castX 0 rfl rfl (tab_snoc (g := fun i => FM (el Xa i) (el Xb i)) (by omega) rfl)
      refine ⟨⟨_, k + 1, a20, c21, nn0 + 1, Fits.eq ⟨rfl, rfl, rfl, rfl, rfl, rfl, rfl, trivial⟩, (B.pick [0, 2, 3] rfl rfl), (by omega), (by omega)⟩, ?_⟩
      show ((na : Int) - (k + 1)).toNat < ((na : Int) - k).toNat
      omega
    · refine s_y (v := .bool false) rfl (y_lss rfl rfl (decide_eq_false c6)) ?_
      refine s_nil ?_
      refine W_seq ?_
      refine W_if_f (by decide) rfl ?_
      refine W_exit ?_
      refine W_seq ?_
      refine W_region (by kernel_rfl) ?_
      refine s_y (v := .slice a0 nn0 cc0) rfl (y_move rfl) ?_
      refine s_y (v := .slice a0 nn0 cc0) rfl (y_assign rfl) ?_
      refine s_nil ?_
      refine W_ret ?_
      refine ret1 (v := .slice a0 nn0 cc0) rfl rfl rfl ⟨_, rfl, ?_⟩
      obtain rfl : k = (na : Int) := by omega
      replace B : Bu w no w4 [.ow kF a0 na cc0 34 (zipL na FM Xa Xb), .rd kF aa na Xa, .rd kF ab nb Xb] := B.castX 0 rfl (by omega) rfl
      exact ⟨_, _, (by rw [(show nn0 = na from (by omega))]), B.give [0] rfl rfl rfl⟩
namespace T133
theorem mx : Try.prog.follows .mixedOrders = true := by kernel_rfl
end T133
set_option maxRecDepth 100000 in
set_option maxHeartbeats 4000000 in
theorem c_i_opposites_1 {r : Nat} {R : Nat} {r2 : Nat} {R2 : Nat} {w : World} (h1 : Cn .f32 r R) (h2 : Cn .f32 r2 R2) :
    Calls Try.prog 133 #[.float .f32 r, .float .f32 r2] w (Rt fun v w' => (∃ r, v = .float .f32 r ∧ Cn .f32 r (fneg .f32 R)) ∧ Ext0 w w') := by
  have B : Bu w no w [] := Bu.ro All.nil rfl
  refine calls_W (n := 7) Try.func133 rfl rfl (Nat.le_of_ble_eq_true rfl) ?_
  refine W_seq ?_
  refine W_region (by kernel_rfl) ?_
  refine s_y (v := .float .f32 0) rfl (y_assign rfl) ?_
  refine s_nil ?_
  refine W_seq ?_
  refine W_region (by kernel_rfl) ?_
  refine s_y (v := .float .f32 r) rfl (y_move rfl) ?_
  refine s_y (v := .float .f32 (Op.negFloat .f32 r)) rfl (y_fneg rfl) ?_
  refine s_y (v := .float .f32 (Op.negFloat .f32 r)) rfl (y_assign rfl) ?_
  refine s_nil ?_
  refine W_ret ?_
  refine ret1 (v := .float .f32 (Op.negFloat .f32 r)) rfl rfl rfl ⟨_, rfl, ?_⟩
  exact ⟨⟨_, rfl, (negC h1)⟩, B.ext⟩
namespace T107
theorem mx : Try.prog.follows .mixedOrders = true := by kernel_rfl
theorem fn_133 : fnB Try.prog 133 = true := by kernel_rfl
theorem fn_97 : fnB Try.prog 97 = true := by kernel_rfl
end T107
set_option maxRecDepth 100000 in
set_option maxHeartbeats 4000000 in
theorem c_i_opposites {a : Option Addr} {n : Nat} {c : Nat} {X : List Nat} {w : World} (q : Rd w kF a n X) (hb : n ≤ 1048576) :
    Calls Try.prog 107 #[.slice a n c] w (Rt fun v w' => ∃ (a1 : Option Addr) (c1 : Nat), v = .slice a1 n c1 ∧ New w w' [.ow kF a1 n c1 34 (negL n X)]) := by
  have hl := q.len
  have B : Bu w no w [.rd kF a n X] := Bu.ro (All.cons q All.nil) rfl
  refine calls_W (n := 6) Try.func107 rfl rfl (Nat.le_of_ble_eq_true rfl) ?_
  refine W_seq ?_
  refine W_region (by kernel_rfl) ?_
  refine s_y (v := .slice none 0 0) rfl (y_assign rfl) ?_
  refine s_nil ?_
  refine W_seq ?_
  refine W_region (by kernel_rfl) ?_
  refine s_y (v := .slice a n c) rfl (y_move rfl) ?_
  refine s_y (v := .slice a n c) rfl (y_move rfl) ?_
  refine s_k rfl (k_call T107.fn_97 (c_i_both (f := 133) (us := []) (xs := []) (FM := (fun a _ => fneg .f32 a)) (B.r 0 rfl) (B.r 0 rfl) T107.fn_133 (fun r R r2 R2 w1 he h1 h2 => (c_i_opposites_1 h1 h2)) rfl (by omega)) rfl ?_)
  rintro _ w1 ⟨a2, c3, rfl, hN4⟩
  replace B := B.new1 hN4
  clear hN4
  refine s_y (v := .slice a2 n c3) rfl (y_assign rfl) ?_
  refine s_nil ?_
  refine W_ret ?_
  refine ret1 (v := .slice a2 n c3) rfl rfl rfl ⟨_, rfl, ?_⟩
  replace B : Bu w no w1 [.ow kF a2 n c3 34 (negL n X), .rd kF a n X] := B.castX 0 rfl rfl rfl
  exact ⟨_, _, rfl, B.give [0] rfl rfl rfl⟩
namespace T52
theorem mx : Try.prog.follows .mixedOrders = true := by kernel_rfl
theorem agg_26_5 : aggB Try.prog 26 5 = true := by kernel_rfl
theorem agg_30_3 : aggB Try.prog 30 3 = true := by kernel_rfl
theorem fld_26_0_0 : fldB Try.prog 26 0 0 = true := by kernel_rfl
theorem fld_26_1_1 : fldB Try.prog 26 1 1 = true := by kernel_rfl
theorem fld_30_0_0 : fldB Try.prog 30 0 0 = true := by kernel_rfl
theorem fld_30_1_1 : fldB Try.prog 30 1 1 = true := by kernel_rfl
theorem fld_30_2_2 : fldB Try.prog 30 2 2 = true := by kernel_rfl
theorem fn_104 : fnB Try.prog 104 = true := by kernel_rfl
theorem fn_105 : fnB Try.prog 105 = true := by kernel_rfl
theorem fn_106 : fnB Try.prog 106 = true := by kernel_rfl
theorem fn_107 : fnB Try.prog 107 = true := by kernel_rfl
theorem fn_41 : fnB Try.prog 41 = true := by kernel_rfl
theorem one_2 : oneB Try.prog 2 = true := by kernel_rfl
theorem one_24 : oneB Try.prog 24 = true := by kernel_rfl
theorem sz_30_3 : szB Try.prog 30 3 = true := by kernel_rfl
theorem zero_30 : zeroB Try.prog 30 (.agg #[.slice none 0 0, .slice none 0 0, .slice none 0 0]) := by unfold zeroB; kernel_rfl
end T52
set_option maxRecDepth 100000 in
set_option maxHeartbeats 4000000 in
theorem c_i_MirrorField {wd : Int} {hi : Int} {wr : Bool} {asp : Option Addr} {nsp : Nat} {csp : Nat} {Xsp : List Nat} {als : Option Addr} {nls : Nat} {cls : Nat} {Xls : List Nat} {afe : Option Addr} {nfe : Nat} {cfe : Nat} {Xfe : List Nat} {afx : Option Addr} {nfx : Nat} {cfx : Nat} {Xfx : List Nat} {afy : Option Addr} {nfy : Nat} {cfy : Nat} {Xfy : List Nat} {w : World} (qsp : Rd w kF asp nsp Xsp) (qls : Rd w kF als nls Xls) (qfe : Rd w kF afe nfe Xfe) (qfx : Rd w kF afx nfx Xfx) (qfy : Rd w kF afy nfy Xfy) (hbsp : nsp ≤ 9223372036854775806) (hbls : nls ≤ 9223372036854775806) (hbfe : nfe ≤ 9223372036854775806) (hbfx : nfx ≤ 9223372036854775806) (hbfy : nfy ≤ 9223372036854775806) :
    Calls Try.prog 52 #[.agg #[.int .i64 wd, .int .i64 hi, .bool wr, .slice asp nsp csp, .slice als nls cls], .agg #[.slice afe nfe cfe, .slice afx nfx cfx, .slice afy nfy cfy]] w (Rt fun v w' => (fieldB wd hi wr Xsp Xls Xfe Xfx Xfy = true ∧ ∃ (a1 : Option Addr) (c1 : Nat) (a2 : Option Addr) (c2 : Nat) (a3 : Option Addr) (c3 : Nat), v = .tuple #[.agg #[.slice a1 ((wd * hi).toNat) c1, .slice a2 ((wd * hi).toNat) c2, .slice a3 ((wd * hi).toNat) c3], .bool true] ∧ New w w' [.ow kF a1 ((wd * hi).toNat) c1 34 (mirS wd hi Xfe), .ow kF a2 ((wd * hi).toNat) c2 34 (mirS wd hi Xfx), .ow kF a3 ((wd * hi).toNat) c3 34 (mirY wd hi Xfy)]) ∨ (fieldB wd hi wr Xsp Xls Xfe Xfx Xfy = false ∧ v = .tuple #[.agg #[.slice none 0 0, .slice none 0 0, .slice none 0 0], .bool false] ∧ Ext0 w w')) := by
  have hlsp := qsp.len
  have hlls := qls.len
  have hlfe := qfe.len
  have hlfx := qfx.len
  have hlfy := qfy.len
  have B : Bu w no w [.rd kF asp nsp Xsp, .rd kF als nls Xls, .rd kF afe nfe Xfe, .rd kF afx nfx Xfx, .rd kF afy nfy Xfy] := Bu.ro (All.cons qsp (All.cons qls (All.cons qfe (All.cons qfx (All.cons qfy All.nil))))) rfl
  refine calls_W (n := 44) Try.func52 rfl rfl (Nat.le_of_ble_eq_true rfl) ?_
  refine W_seq ?_
  refine W_region (by kernel_rfl) ?_
  refine s_k rfl (k_boxN (v := .agg #[.int .i64 wd, .int .i64 hi, .bool wr, .slice asp nsp csp, .slice als nls cls]) (cs := [.int .i64 wd, .int .i64 hi, .bool wr, .slice asp nsp csp, .slice als nls cls]) rfl rfl (fun b1 w2 hN3 => ?_))
  replace B := B.new1 hN3
  clear hN3
  refine s_k rfl (k_boxN (v := .agg #[.slice afe nfe cfe, .slice afx nfx cfx, .slice afy nfy cfy]) (cs := [.slice afe nfe cfe, .slice afx nfx cfx, .slice afy nfy cfy]) rfl rfl (fun b4 w5 hN6 => ?_))
  replace B := B.new1 hN6
  clear hN6
  refine s_k rfl (k_allocN (z := (.agg #[.slice none 0 0, .slice none 0 0, .slice none 0 0])) (cs := [.slice none 0 0, .slice none 0 0, .slice none 0 0]) T52.zero_30 rfl (fun b7 w8 hN9 => ?_))
  replace B := B.new1 hN9
  clear hN9
  refine s_y (v := .bool false) rfl (y_assign rfl) ?_
  refine s_nil ?_
  refine W_seq ?_
  refine W_seq ?_
  refine W_region (by kernel_rfl) ?_
  refine s_y (v := .agg #[.int .i64 wd, .int .i64 hi, .bool wr, .slice asp nsp csp, .slice als nls cls]) rfl (y_loadn (b := b1) (o := 0) (vs := [.int .i64 wd, .int .i64 hi, .bool wr, .slice asp nsp csp, .slice als nls cls]) T52.agg_26_5 rfl rfl ((B.b 2 rfl).cells (o := 0) rfl)) ?_
  refine s_y (v := .agg #[.slice afe nfe cfe, .slice afx nfx cfx, .slice afy nfy cfy]) rfl (y_loadn (b := b4) (o := 0) (vs := [.slice afe nfe cfe, .slice afx nfx cfx, .slice afy nfy cfy]) T52.agg_30_3 rfl rfl ((B.b 1 rfl).cells (o := 0) rfl)) ?_
  refine s_k rfl (k_call T52.fn_41 (c_i_IsField (B.r 3 rfl) (B.r 4 rfl) (B.r 5 rfl) (B.r 6 rfl) (B.r 7 rfl) (by omega) (by omega) (by omega) (by omega) (by omega)) rfl ?_)
  rintro v12 w10 ⟨hv13, e11⟩
  replace B := B.ext0 e11
  clear e11
  by_cases c14 : fieldB wd hi wr Xsp Xls Xfe Xfx Xfy = true
  · have hb15 := fieldB_b c14
    obtain rfl : v12 = .bool true := hv13.trans (congrArg Value.bool c14)
    refine s_y (v := .bool false) rfl (y_not rfl rfl) ?_
    refine s_nil ?_
    refine W_if_f (by decide) rfl ?_
    refine W_skip ?_
    refine W_seq ?_
    refine W_region (by kernel_rfl) ?_
    refine s_y (v := .func (.func 105) #[] #[.pointer (some ⟨b1, 0, none⟩)]) rfl (y_func rfl rfl) ?_
    refine s_y (v := .func (.func 105) #[] #[.pointer (some ⟨b1, 0, none⟩)]) rfl (y_assign rfl) ?_
    refine s_nil ?_
    refine W_seq ?_
    refine W_region (by kernel_rfl) ?_
    refine s_y (v := .func (.func 106) #[] #[.pointer (some ⟨b1, 0, none⟩)]) rfl (y_func rfl rfl) ?_
    refine s_y (v := .func (.func 106) #[] #[.pointer (some ⟨b1, 0, none⟩)]) rfl (y_assign rfl) ?_
    refine s_nil ?_
    refine W_seq ?_
    have B0_20 := B
    refine W_draw (at1 b7) T52.mx (by kernel_rfl) (fun w18 e19 => ?_)
    have R21 := Ext.refl (at1 b7) w10
    replace R21 := R21.trans (Ext0.any e19)
    replace B := B.ext0 e19
    clear e19
    refine m_y (v := .agg #[.int .i64 wd, .int .i64 hi, .bool wr, .slice asp nsp csp, .slice als nls cls]) 0 rfl (by kernel_rfl) rfl rfl (fun w' e' => y_loadn (b := b1) (o := 0) (vs := [.int .i64 wd, .int .i64 hi, .bool wr, .slice asp nsp csp, .slice als nls cls]) T52.agg_26_5 rfl rfl ((B0_20.bx 2 0 rfl rfl rfl rfl e' (fun _ h => h)).cells (o := 0) rfl)) ?_
    refine m_y (v := .pointer (some ⟨b4, 0, none⟩)) 1 rfl (by kernel_rfl) rfl rfl (fun w' e' => y_fld (o := 0) T52.fld_30_0_0 rfl) ?_
    refine m_y (v := .slice afe nfe cfe) 2 rfl (by kernel_rfl) rfl rfl (fun w' e' => y_load T52.one_24 rfl ((B0_20.bx 1 0 rfl rfl rfl rfl e' (fun _ h => h)).cell (j := 0) rfl)) ?_
    refine m_y (v := .pointer (some ⟨b1, 0, none⟩)) 3 rfl (by kernel_rfl) rfl rfl (fun w' e' => y_fld (o := 0) T52.fld_26_0_0 rfl) ?_
    refine m_y (v := .int .i64 wd) 4 rfl (by kernel_rfl) rfl rfl (fun w' e' => y_load T52.one_2 rfl ((B0_20.bx 2 0 rfl rfl rfl rfl e' (fun _ h => h)).cell (j := 0) rfl)) ?_
    refine m_y (v := .pointer (some ⟨b1, 1, none⟩)) 5 rfl (by kernel_rfl) rfl rfl (fun w' e' => y_fld (o := 0) T52.fld_26_1_1 rfl) ?_
    refine m_y (v := .int .i64 hi) 6 rfl (by kernel_rfl) rfl rfl (fun w' e' => y_load T52.one_2 rfl ((B0_20.bx 2 0 rfl rfl rfl rfl e' (fun _ h => h)).cell (j := 1) rfl)) ?_
    refine m_y (v := .func (.func 105) #[] #[.pointer (some ⟨b1, 0, none⟩)]) 7 rfl (by kernel_rfl) rfl rfl (fun w' e' => y_move rfl) ?_
    refine m_y (v := .agg #[.int .i64 wd, .int .i64 hi, .bool wr, .slice asp nsp csp, .slice als nls cls]) 9 rfl (by kernel_rfl) rfl rfl (fun w' e' => y_loadn (b := b1) (o := 0) (vs := [.int .i64 wd, .int .i64 hi, .bool wr, .slice asp nsp csp, .slice als nls cls]) T52.agg_26_5 rfl rfl ((B0_20.bx 2 0 rfl rfl rfl rfl e' (fun _ h => h)).cells (o := 0) rfl)) ?_
    refine m_y (v := .pointer (some ⟨b4, 1, none⟩)) 10 rfl (by kernel_rfl) rfl rfl (fun w' e' => y_fld (o := 0) T52.fld_30_1_1 rfl) ?_
    refine m_y (v := .slice afx nfx cfx) 11 rfl (by kernel_rfl) rfl rfl (fun w' e' => y_load T52.one_24 rfl ((B0_20.bx 1 0 rfl rfl rfl rfl e' (fun _ h => h)).cell (j := 1) rfl)) ?_
    refine m_y (v := .pointer (some ⟨b1, 0, none⟩)) 12 rfl (by kernel_rfl) rfl rfl (fun w' e' => y_fld (o := 0) T52.fld_26_0_0 rfl) ?_
    refine m_y (v := .int .i64 wd) 13 rfl (by kernel_rfl) rfl rfl (fun w' e' => y_load T52.one_2 rfl ((B0_20.bx 2 0 rfl rfl rfl rfl e' (fun _ h => h)).cell (j := 0) rfl)) ?_
    refine m_y (v := .pointer (some ⟨b1, 1, none⟩)) 14 rfl (by kernel_rfl) rfl rfl (fun w' e' => y_fld (o := 0) T52.fld_26_1_1 rfl) ?_
    refine m_y (v := .int .i64 hi) 15 rfl (by kernel_rfl) rfl rfl (fun w' e' => y_load T52.one_2 rfl ((B0_20.bx 2 0 rfl rfl rfl rfl e' (fun _ h => h)).cell (j := 1) rfl)) ?_
    refine m_y (v := .func (.func 105) #[] #[.pointer (some ⟨b1, 0, none⟩)]) 16 rfl (by kernel_rfl) rfl rfl (fun w' e' => y_move rfl) ?_
    refine m_y (v := .agg #[.int .i64 wd, .int .i64 hi, .bool wr, .slice asp nsp csp, .slice als nls cls]) 18 rfl (by kernel_rfl) rfl rfl (fun w' e' => y_loadn (b := b1) (o := 0) (vs := [.int .i64 wd, .int .i64 hi, .bool wr, .slice asp nsp csp, .slice als nls cls]) T52.agg_26_5 rfl rfl ((B0_20.bx 2 0 rfl rfl rfl rfl e' (fun _ h => h)).cells (o := 0) rfl)) ?_
    refine m_y (v := .pointer (some ⟨b4, 2, none⟩)) 19 rfl (by kernel_rfl) rfl rfl (fun w' e' => y_fld (o := 0) T52.fld_30_2_2 rfl) ?_
    refine m_y (v := .slice afy nfy cfy) 20 rfl (by kernel_rfl) rfl rfl (fun w' e' => y_load T52.one_24 rfl ((B0_20.bx 1 0 rfl rfl rfl rfl e' (fun _ h => h)).cell (j := 2) rfl)) ?_
    refine m_y (v := .pointer (some ⟨b1, 0, none⟩)) 21 rfl (by kernel_rfl) rfl rfl (fun w' e' => y_fld (o := 0) T52.fld_26_0_0 rfl) ?_
    refine m_y (v := .int .i64 wd) 22 rfl (by kernel_rfl) rfl rfl (fun w' e' => y_load T52.one_2 rfl ((B0_20.bx 2 0 rfl rfl rfl rfl e' (fun _ h => h)).cell (j := 0) rfl)) ?_
    refine m_y (v := .pointer (some ⟨b1, 1, none⟩)) 23 rfl (by kernel_rfl) rfl rfl (fun w' e' => y_fld (o := 0) T52.fld_26_1_1 rfl) ?_
    refine m_y (v := .int .i64 hi) 24 rfl (by kernel_rfl) rfl rfl (fun w' e' => y_load T52.one_2 rfl ((B0_20.bx 2 0 rfl rfl rfl rfl e' (fun _ h => h)).cell (j := 1) rfl)) ?_
    refine m_y (v := .func (.func 106) #[] #[.pointer (some ⟨b1, 0, none⟩)]) 25 rfl (by kernel_rfl) rfl rfl (fun w' e' => y_move rfl) ?_
    refine m_k 8 [17, 26, 27, 28, 29, 30] rfl (by kernel_rfl) rfl rfl (fun w22 e23 => ?_)
    replace R21 := R21.trans (Ext0.any e23)
    replace B := B.ext0 e23
    clear e23
    refine k_call T52.fn_104 (c_i_moved (f := 105) (us := []) (xs := [.pointer (some ⟨b1, 0, none⟩)]) (FU := (fun xq _ => wd - 1 - xq)) (FV := (fun _ yq => yq)) (W := wd) (H := hi) (B.r 5 rfl) T52.fn_105 (fun xq yq w1 he h0 h1 h2 h3 => (c_i_MirrorField_1 ((B.b 2 rfl).sl.ext0 he) (by omega) (by omega) (by omega) (by omega))) (fun x y h0 h1 h2 h3 => by first | omega | (simp only []; omega)) (by omega) (by omega) (by omega) (by omega) (by omega) (by omega) (by omega) (by omega) (by omega)) rfl ?_
    rintro _ w24 ⟨a25, c26, rfl, hN27⟩
    replace R21 := R21.trans (Ext0.any hN27.ext)
    replace B := B.new1 hN27
    clear hN27
    refine ⟨fun _ => R21, ?_⟩
    refine m_k 17 [26, 27, 28, 29, 30] rfl (by kernel_rfl) rfl rfl (fun w28 e29 => ?_)
    replace R21 := R21.trans (Ext0.any e29)
    replace B := B.ext0 e29
    clear e29
    refine k_call T52.fn_104 (c_i_moved (f := 105) (us := []) (xs := [.pointer (some ⟨b1, 0, none⟩)]) (FU := (fun xq _ => wd - 1 - xq)) (FV := (fun _ yq => yq)) (W := wd) (H := hi) (B.r 7 rfl) T52.fn_105 (fun xq yq w1 he h0 h1 h2 h3 => (c_i_MirrorField_1 ((B.b 3 rfl).sl.ext0 he) (by omega) (by omega) (by omega) (by omega))) (fun x y h0 h1 h2 h3 => by first | omega | (simp only []; omega)) (by omega) (by omega) (by omega) (by omega) (by omega) (by omega) (by omega) (by omega) (by omega)) rfl ?_
    rintro _ w30 ⟨a31, c32, rfl, hN33⟩
    replace R21 := R21.trans (Ext0.any hN33.ext)
    replace B := B.new1 hN33
    clear hN33
    refine ⟨fun _ => R21, ?_⟩
    refine m_k 26 [27, 28, 29, 30] rfl (by kernel_rfl) rfl rfl (fun w34 e35 => ?_)
    replace R21 := R21.trans (Ext0.any e35)
    replace B := B.ext0 e35
    clear e35
    refine k_call T52.fn_104 (c_i_moved (f := 106) (us := []) (xs := [.pointer (some ⟨b1, 0, none⟩)]) (FU := (fun xq _ => wd - 2 - xq)) (FV := (fun _ yq => yq)) (W := wd) (H := hi) (B.r 9 rfl) T52.fn_106 (fun xq yq w1 he h0 h1 h2 h3 => (c_i_MirrorField_2 ((B.b 4 rfl).sl.ext0 he) (by omega) (by omega) (by omega) (by omega))) (fun x y h0 h1 h2 h3 => by first | omega | (simp only []; omega)) (by omega) (by omega) (by omega) (by omega) (by omega) (by omega) (by omega) (by omega) (by omega)) rfl ?_
    rintro _ w36 ⟨a37, c38, rfl, hN39⟩
    replace R21 := R21.trans (Ext0.any hN39.ext)
    replace B := B.new1 hN39
    clear hN39
    refine ⟨fun _ => R21, ?_⟩
    refine m_k 27 [28, 29, 30] rfl (by kernel_rfl) rfl rfl (fun w40 e41 => ?_)
    replace R21 := R21.trans (Ext0.any e41)
    replace B := B.ext0 e41
    clear e41
    refine k_call T52.fn_107 (c_i_opposites ((B.o 0 rfl).rd) (by omega)) rfl ?_
    rintro _ w42 ⟨a43, c44, rfl, hN45⟩
    replace R21 := R21.trans (Ext0.any hN45.ext)
    replace B := B.new1 hN45
    clear hN45
    refine ⟨fun _ => R21, ?_⟩
    refine m_y (v := .agg #[.slice a25 ((wd * hi).toNat) c26, .slice a31 ((wd * hi).toNat) c32, .slice a43 ((wd * hi).toNat) c44]) 28 rfl (by kernel_rfl) rfl rfl (fun w' e' => y_build (cells := #[.slice a25 ((wd * hi).toNat) c26, .slice a31 ((wd * hi).toNat) c32, .slice a43 ((wd * hi).toNat) c44]) (by kernel_rfl)) ?_
    refine m_k 29 [30] rfl (by kernel_rfl) rfl rfl (fun w48 e49 => ?_)
    replace R21 := R21.trans (Ext0.any e49)
    replace B := B.ext0 e49
    clear e49
    refine k_stB (v := .agg #[.slice a25 ((wd * hi).toNat) c26, .slice a31 ((wd * hi).toNat) c32, .slice a43 ((wd * hi).toNat) c44]) (n := 3) (cs' := [.slice a25 ((wd * hi).toNat) c26, .slice a31 ((wd * hi).toNat) c32, .slice a43 ((wd * hi).toNat) c44]) T52.sz_30_3 rfl rfl rfl (B.b 4 rfl) (by simp [Value.cells, Value.oneCell']) (Nat.le_of_ble_eq_true rfl) rfl (fun w46 hU47 => ?_)
    replace R21 := R21.trans hU47.at1
    replace B : Bu w no w46 [.blk b7 [.slice a25 ((wd * hi).toNat) c26, .slice a31 ((wd * hi).toNat) c32, .slice a43 ((wd * hi).toNat) c44] 30, .ow kF a43 ((wd * hi).toNat) c44 34 (negL ((wd * hi).toNat) (movL wd hi (fun xp yp => atI wd hi ((fun xq _ => wd - 2 - xq) xp yp) ((fun _ yq => yq) xp yp)) Xfy)), .ow kF a37 ((wd * hi).toNat) c38 34 (movL wd hi (fun xp yp => atI wd hi ((fun xq _ => wd - 2 - xq) xp yp) ((fun _ yq => yq) xp yp)) Xfy), .ow kF a31 ((wd * hi).toNat) c32 34 (movL wd hi (fun xp yp => atI wd hi ((fun xq _ => wd - 1 - xq) xp yp) ((fun _ yq => yq) xp yp)) Xfx), .ow kF a25 ((wd * hi).toNat) c26 34 (movL wd hi (fun xp yp => atI wd hi ((fun xq _ => wd - 1 - xq) xp yp) ((fun _ yq => yq) xp yp)) Xfe), .blk b4 [.slice afe nfe cfe, .slice afx nfx cfx, .slice afy nfy cfy] 30, .blk b1 [.int .i64 wd, .int .i64 hi, .bool wr, .slice asp nsp csp, .slice als nls cls] 26, .rd kF asp nsp Xsp, .rd kF als nls Xls, .rd kF afe nfe Xfe, .rd kF afx nfx Xfx, .rd kF afy nfy Xfy] := B.upd [4] rfl hU47
    clear hU47
    refine ⟨fun _ => R21, ?_⟩
    refine m_y (v := .bool true) 30 rfl (by kernel_rfl) rfl rfl (fun w' e' => y_assign rfl) ?_
    refine m_done (by kernel_rfl) (fun w50 e51 => ?_)
    replace B := B.ext0 e51
    clear e51
    clear B0_20 R21
    refine W_ret ?_
    refine ret2 (v1 := .agg #[.slice a25 ((wd * hi).toNat) c26, .slice a31 ((wd * hi).toNat) c32, .slice a43 ((wd * hi).toNat) c44]) (v2 := .bool true) rfl rfl rfl ⟨_, [.slice a25 ((wd * hi).toNat) c26, .slice a31 ((wd * hi).toNat) c32, .slice a43 ((wd * hi).toNat) c44], _, rfl, (B.b 0 rfl), T52.agg_30_3, rfl⟩ rfl ⟨_, rfl, ?_⟩
    have hcond : fieldB wd hi wr Xsp Xls Xfe Xfx Xfy = true := by simp only [c14, Bool.and_true, Bool.true_and, Bool.and_false, Bool.false_and, Bool.not_true, Bool.not_false, Bool.or_true, Bool.true_or, Bool.or_false, Bool.false_or]
    replace B : Bu w no w50 [.blk b7 [.slice a25 ((wd * hi).toNat) c26, .slice a31 ((wd * hi).toNat) c32, .slice a43 ((wd * hi).toNat) c44] 30, .ow kF a43 ((wd * hi).toNat) c44 34 (negL ((wd * hi).toNat) (movL wd hi (fun xp yp => atI wd hi ((fun xq _ => wd - 2 - xq) xp yp) ((fun _ yq => yq) xp yp)) Xfy)), .ow kF a37 ((wd * hi).toNat) c38 34 (movL wd hi (fun xp yp => atI wd hi ((fun xq _ => wd - 2 - xq) xp yp) ((fun _ yq => yq) xp yp)) Xfy), .ow kF a31 ((wd * hi).toNat) c32 34 (movL wd hi (fun xp yp => atI wd hi ((fun xq _ => wd - 1 - xq) xp yp) ((fun _ yq => yq) xp yp)) Xfx), .ow kF a25 ((wd * hi).toNat) c26 34 (mirS wd hi Xfe), .blk b4 [.slice afe nfe cfe, .slice afx nfx cfx, .slice afy nfy cfy] 30, .blk b1 [.int .i64 wd, .int .i64 hi, .bool wr, .slice asp nsp csp, .slice als nls cls] 26, .rd kF asp nsp Xsp, .rd kF als nls Xls, .rd kF afe nfe Xfe, .rd kF afx nfx Xfx, .rd kF afy nfy Xfy] := B.castX 4 rfl rfl (mir_i (by omega))
    replace B : Bu w no w50 [.blk b7 [.slice a25 ((wd * hi).toNat) c26, .slice a31 ((wd * hi).toNat) c32, .slice a43 ((wd * hi).toNat) c44] 30, .ow kF a43 ((wd * hi).toNat) c44 34 (negL ((wd * hi).toNat) (movL wd hi (fun xp yp => atI wd hi ((fun xq _ => wd - 2 - xq) xp yp) ((fun _ yq => yq) xp yp)) Xfy)), .ow kF a37 ((wd * hi).toNat) c38 34 (movL wd hi (fun xp yp => atI wd hi ((fun xq _ => wd - 2 - xq) xp yp) ((fun _ yq => yq) xp yp)) Xfy), .ow kF a31 ((wd * hi).toNat) c32 34 (mirS wd hi Xfx), .ow kF a25 ((wd * hi).toNat) c26 34 (mirS wd hi Xfe), .blk b4 [.slice afe nfe cfe, .slice afx nfx cfx, .slice afy nfy cfy] 30, .blk b1 [.int .i64 wd, .int .i64 hi, .bool wr, .slice asp nsp csp, .slice als nls cls] 26, .rd kF asp nsp Xsp, .rd kF als nls Xls, .rd kF afe nfe Xfe, .rd kF afx nfx Xfx, .rd kF afy nfy Xfy] := B.castX 3 rfl rfl (mir_i (by omega))
    replace B : Bu w no w50 [.blk b7 [.slice a25 ((wd * hi).toNat) c26, .slice a31 ((wd * hi).toNat) c32, .slice a43 ((wd * hi).toNat) c44] 30, .ow kF a43 ((wd * hi).toNat) c44 34 (mirY wd hi Xfy), .ow kF a37 ((wd * hi).toNat) c38 34 (movL wd hi (fun xp yp => atI wd hi ((fun xq _ => wd - 2 - xq) xp yp) ((fun _ yq => yq) xp yp)) Xfy), .ow kF a31 ((wd * hi).toNat) c32 34 (mirS wd hi Xfx), .ow kF a25 ((wd * hi).toNat) c26 34 (mirS wd hi Xfe), .blk b4 [.slice afe nfe cfe, .slice afx nfx cfx, .slice afy nfy cfy] 30, .blk b1 [.int .i64 wd, .int .i64 hi, .bool wr, .slice asp nsp csp, .slice als nls cls] 26, .rd kF asp nsp Xsp, .rd kF als nls Xls, .rd kF afe nfe Xfe, .rd kF afx nfx Xfx, .rd kF afy nfy Xfy] := B.castX 1 rfl rfl (mirY_i (by omega) (by omega))
    exact .inl ⟨hcond, ⟨_, _, _, _, _, _, rfl, B.give [4, 3, 1] rfl rfl rfl⟩⟩
  · obtain rfl : v12 = .bool false := hv13.trans (congrArg Value.bool (Bool.eq_false_iff.2 c14))
    refine s_y (v := .bool true) rfl (y_not rfl rfl) ?_
    refine s_nil ?_
    refine W_if_t (by decide) rfl ?_
    refine W_seq ?_
    refine W_region (by kernel_rfl) ?_
    refine s_y (v := .agg #[.slice none 0 0, .slice none 0 0, .slice none 0 0]) rfl (y_build (cells := #[.slice none 0 0, .slice none 0 0, .slice none 0 0]) (by kernel_rfl)) ?_
    refine s_k0 rfl (k_stB (v := .agg #[.slice none 0 0, .slice none 0 0, .slice none 0 0]) (n := 3) (cs' := [.slice none 0 0, .slice none 0 0, .slice none 0 0]) T52.sz_30_3 rfl rfl rfl (B.b 0 rfl) (by simp [Value.cells, Value.oneCell']) (Nat.le_of_ble_eq_true rfl) rfl (fun w52 hU53 => ?_))
    replace B : Bu w no w52 [.blk b7 [.slice none 0 0, .slice none 0 0, .slice none 0 0] 30, .blk b4 [.slice afe nfe cfe, .slice afx nfx cfx, .slice afy nfy cfy] 30, .blk b1 [.int .i64 wd, .int .i64 hi, .bool wr, .slice asp nsp csp, .slice als nls cls] 26, .rd kF asp nsp Xsp, .rd kF als nls Xls, .rd kF afe nfe Xfe, .rd kF afx nfx Xfx, .rd kF afy nfy Xfy] := B.upd [0] rfl hU53
    clear hU53
    refine s_y (v := .bool false) rfl (y_assign rfl) ?_
    refine s_nil ?_
    refine W_ret ?_
    refine ret2 (v1 := .agg #[.slice none 0 0, .slice none 0 0, .slice none 0 0]) (v2 := .bool false) rfl rfl rfl ⟨_, [.slice none 0 0, .slice none 0 0, .slice none 0 0], _, rfl, (B.b 0 rfl), T52.agg_30_3, rfl⟩ rfl ⟨_, rfl, ?_⟩
    exact .inr ⟨by simp only [(Bool.eq_false_iff.2 c14), Bool.and_true, Bool.true_and, Bool.and_false, Bool.false_and, Bool.not_true, Bool.not_false, Bool.or_true, Bool.true_or, Bool.or_false, Bool.false_or], rfl, B.ext⟩
namespace T108
theorem mx : Try.prog.follows .mixedOrders = true := by kernel_rfl
end T108
set_option maxRecDepth 100000 in
set_option maxHeartbeats 4000000 in
theorem c_i_exchanged {x : Int} {y : Int} {w : World} :
    Calls Try.prog 108 #[.int .i64 x, .int .i64 y] w (Rt fun v w' => v = .tuple #[.int .i64 y, .int .i64 x] ∧ Ext0 w w') := by
  have B : Bu w no w [] := Bu.ro All.nil rfl
  refine calls_W (n := 8) Try.func108 rfl rfl (Nat.le_of_ble_eq_true rfl) ?_
  refine W_seq ?_
  refine W_region (by kernel_rfl) ?_
  refine s_y (v := .int .i64 0) rfl (y_assign rfl) ?_
  refine s_y (v := .int .i64 0) rfl (y_assign rfl) ?_
  refine s_nil ?_
  refine W_seq ?_
  refine W_region (by kernel_rfl) ?_
  refine s_y (v := .int .i64 y) rfl (y_move rfl) ?_
  refine s_y (v := .int .i64 x) rfl (y_move rfl) ?_
  refine s_y (v := .int .i64 y) rfl (y_assign rfl) ?_
  refine s_y (v := .int .i64 x) rfl (y_assign rfl) ?_
  refine s_nil ?_
  refine W_ret ?_
  refine ret2 (v1 := .int .i64 y) (v2 := .int .i64 x) rfl rfl rfl rfl rfl ⟨_, rfl, ?_⟩
  exact ⟨rfl, B.ext⟩
namespace T53
theorem mx : Try.prog.follows .mixedOrders = true := by kernel_rfl
theorem agg_26_5 : aggB Try.prog 26 5 = true := by kernel_rfl
theorem fld_26_0_0 : fldB Try.prog 26 0 0 = true := by kernel_rfl
theorem fld_26_1_1 : fldB Try.prog 26 1 1 = true := by kernel_rfl
theorem fld_26_2_2 : fldB Try.prog 26 2 2 = true := by kernel_rfl
theorem fld_26_3_3 : fldB Try.prog 26 3 3 = true := by kernel_rfl
theorem fld_26_4_4 : fldB Try.prog 26 4 4 = true := by kernel_rfl
theorem fn_104 : fnB Try.prog 104 = true := by kernel_rfl
theorem fn_108 : fnB Try.prog 108 = true := by kernel_rfl
theorem fn_65 : fnB Try.prog 65 = true := by kernel_rfl
theorem one_2 : oneB Try.prog 2 = true := by kernel_rfl
theorem one_24 : oneB Try.prog 24 = true := by kernel_rfl
theorem one_4 : oneB Try.prog 4 = true := by kernel_rfl
theorem sz_26_5 : szB Try.prog 26 5 = true := by kernel_rfl
theorem zero_26 : zeroB Try.prog 26 (.agg #[.int .i64 0, .int .i64 0, .bool false, .slice none 0 0, .slice none 0 0]) := by unfold zeroB; kernel_rfl
end T53
set_option maxRecDepth 100000 in
set_option maxHeartbeats 4000000 in
theorem c_i_SwapSheet {wd : Int} {hi : Int} {wr : Bool} {asp : Option Addr} {nsp : Nat} {csp : Nat} {Xsp : List Nat} {als : Option Addr} {nls : Nat} {cls : Nat} {Xls : List Nat} {w : World} (qsp : Rd w kF asp nsp Xsp) (qls : Rd w kF als nls Xls) (hbsp : nsp ≤ 9223372036854775806) (hbls : nls ≤ 9223372036854775806) :
    Calls Try.prog 53 #[.agg #[.int .i64 wd, .int .i64 hi, .bool wr, .slice asp nsp csp, .slice als nls cls]] w (Rt fun v w' => (validS wd hi Xsp Xls = true ∧ ∃ (a1 : Option Addr) (c1 : Nat) (a2 : Option Addr) (c2 : Nat), v = .tuple #[.agg #[.int .i64 hi, .int .i64 wd, .bool wr, .slice a1 ((wd * hi).toNat) c1, .slice a2 ((wd * hi).toNat) c2], .bool true] ∧ New w w' [.ow kF a1 ((wd * hi).toNat) c1 34 (swpS wd hi Xsp), .ow kF a2 ((wd * hi).toNat) c2 34 (swpS wd hi Xls)]) ∨ (validS wd hi Xsp Xls = false ∧ v = .tuple #[.agg #[.int .i64 0, .int .i64 0, .bool false, .slice none 0 0, .slice none 0 0], .bool false] ∧ Ext0 w w')) := by
  have hlsp := qsp.len
  have hlls := qls.len
  have B : Bu w no w [.rd kF asp nsp Xsp, .rd kF als nls Xls] := Bu.ro (All.cons qsp (All.cons qls All.nil)) rfl
  have hcm0 := Int.mul_comm hi wd
  refine calls_W (n := 31) Try.func53 rfl rfl (Nat.le_of_ble_eq_true rfl) ?_
  refine W_seq ?_
  refine W_region (by kernel_rfl) ?_
  refine s_k rfl (k_boxN (v := .agg #[.int .i64 wd, .int .i64 hi, .bool wr, .slice asp nsp csp, .slice als nls cls]) (cs := [.int .i64 wd, .int .i64 hi, .bool wr, .slice asp nsp csp, .slice als nls cls]) rfl rfl (fun b1 w2 hN3 => ?_))
  replace B := B.new1 hN3
  clear hN3
  refine s_k rfl (k_allocN (z := (.agg #[.int .i64 0, .int .i64 0, .bool false, .slice none 0 0, .slice none 0 0])) (cs := [.int .i64 0, .int .i64 0, .bool false, .slice none 0 0, .slice none 0 0]) T53.zero_26 rfl (fun b4 w5 hN6 => ?_))
  replace B := B.new1 hN6
  clear hN6
  refine s_y (v := .bool false) rfl (y_assign rfl) ?_
  refine s_nil ?_
  refine W_seq ?_
  refine W_seq ?_
  refine W_region (by kernel_rfl) ?_
  refine s_y (v := .agg #[.int .i64 wd, .int .i64 hi, .bool wr, .slice asp nsp csp, .slice als nls cls]) rfl (y_loadn (b := b1) (o := 0) (vs := [.int .i64 wd, .int .i64 hi, .bool wr, .slice asp nsp csp, .slice als nls cls]) T53.agg_26_5 rfl rfl ((B.b 1 rfl).cells (o := 0) rfl)) ?_
  refine s_k rfl (k_call T53.fn_65 (c_i_ValidSheet (B.r 2 rfl) (B.r 3 rfl) (by omega) (by omega)) rfl ?_)
  rintro v9 w7 ⟨hv10, e8⟩
  replace B := B.ext0 e8
  clear e8
  by_cases c11 : validS wd hi Xsp Xls = true
  · have hb12 := validS_b c11
    obtain rfl : v9 = .bool true := hv10.trans (congrArg Value.bool c11)
    refine s_y (v := .bool false) rfl (y_not rfl rfl) ?_
    refine s_nil ?_
    refine W_if_f (by decide) rfl ?_
    refine W_skip ?_
    refine W_seq ?_
    have B0_17 := B
    refine W_draw (at1 b4) T53.mx (by kernel_rfl) (fun w15 e16 => ?_)
    have R18 := Ext.refl (at1 b4) w7
    replace R18 := R18.trans (Ext0.any e16)
    replace B := B.ext0 e16
    clear e16
    refine m_y (v := .pointer (some ⟨b1, 1, none⟩)) 0 rfl (by kernel_rfl) rfl rfl (fun w' e' => y_fld (o := 0) T53.fld_26_1_1 rfl) ?_
    refine m_y (v := .int .i64 hi) 1 rfl (by kernel_rfl) rfl rfl (fun w' e' => y_load T53.one_2 rfl ((B0_17.bx 1 0 rfl rfl rfl rfl e' (fun _ h => h)).cell (j := 1) rfl)) ?_
    refine m_y (v := .pointer (some ⟨b1, 0, none⟩)) 2 rfl (by kernel_rfl) rfl rfl (fun w' e' => y_fld (o := 0) T53.fld_26_0_0 rfl) ?_
    refine m_y (v := .int .i64 wd) 3 rfl (by kernel_rfl) rfl rfl (fun w' e' => y_load T53.one_2 rfl ((B0_17.bx 1 0 rfl rfl rfl rfl e' (fun _ h => h)).cell (j := 0) rfl)) ?_
    refine m_y (v := .pointer (some ⟨b1, 2, none⟩)) 4 rfl (by kernel_rfl) rfl rfl (fun w' e' => y_fld (o := 0) T53.fld_26_2_2 rfl) ?_
    refine m_y (v := .bool wr) 5 rfl (by kernel_rfl) rfl rfl (fun w' e' => y_load T53.one_4 rfl ((B0_17.bx 1 0 rfl rfl rfl rfl e' (fun _ h => h)).cell (j := 2) rfl)) ?_
    refine m_y (v := .agg #[.int .i64 wd, .int .i64 hi, .bool wr, .slice asp nsp csp, .slice als nls cls]) 6 rfl (by kernel_rfl) rfl rfl (fun w' e' => y_loadn (b := b1) (o := 0) (vs := [.int .i64 wd, .int .i64 hi, .bool wr, .slice asp nsp csp, .slice als nls cls]) T53.agg_26_5 rfl rfl ((B0_17.bx 1 0 rfl rfl rfl rfl e' (fun _ h => h)).cells (o := 0) rfl)) ?_
    refine m_y (v := .pointer (some ⟨b1, 3, none⟩)) 7 rfl (by kernel_rfl) rfl rfl (fun w' e' => y_fld (o := 0) T53.fld_26_3_3 rfl) ?_
    refine m_y (v := .slice asp nsp csp) 8 rfl (by kernel_rfl) rfl rfl (fun w' e' => y_load T53.one_24 rfl ((B0_17.bx 1 0 rfl rfl rfl rfl e' (fun _ h => h)).cell (j := 3) rfl)) ?_
    refine m_y (v := .pointer (some ⟨b1, 1, none⟩)) 9 rfl (by kernel_rfl) rfl rfl (fun w' e' => y_fld (o := 0) T53.fld_26_1_1 rfl) ?_
    refine m_y (v := .int .i64 hi) 10 rfl (by kernel_rfl) rfl rfl (fun w' e' => y_load T53.one_2 rfl ((B0_17.bx 1 0 rfl rfl rfl rfl e' (fun _ h => h)).cell (j := 1) rfl)) ?_
    refine m_y (v := .pointer (some ⟨b1, 0, none⟩)) 11 rfl (by kernel_rfl) rfl rfl (fun w' e' => y_fld (o := 0) T53.fld_26_0_0 rfl) ?_
    refine m_y (v := .int .i64 wd) 12 rfl (by kernel_rfl) rfl rfl (fun w' e' => y_load T53.one_2 rfl ((B0_17.bx 1 0 rfl rfl rfl rfl e' (fun _ h => h)).cell (j := 0) rfl)) ?_
    refine m_y (v := .agg #[.int .i64 wd, .int .i64 hi, .bool wr, .slice asp nsp csp, .slice als nls cls]) 14 rfl (by kernel_rfl) rfl rfl (fun w' e' => y_loadn (b := b1) (o := 0) (vs := [.int .i64 wd, .int .i64 hi, .bool wr, .slice asp nsp csp, .slice als nls cls]) T53.agg_26_5 rfl rfl ((B0_17.bx 1 0 rfl rfl rfl rfl e' (fun _ h => h)).cells (o := 0) rfl)) ?_
    refine m_y (v := .pointer (some ⟨b1, 4, none⟩)) 15 rfl (by kernel_rfl) rfl rfl (fun w' e' => y_fld (o := 0) T53.fld_26_4_4 rfl) ?_
    refine m_y (v := .slice als nls cls) 16 rfl (by kernel_rfl) rfl rfl (fun w' e' => y_load T53.one_24 rfl ((B0_17.bx 1 0 rfl rfl rfl rfl e' (fun _ h => h)).cell (j := 4) rfl)) ?_
    refine m_y (v := .pointer (some ⟨b1, 1, none⟩)) 17 rfl (by kernel_rfl) rfl rfl (fun w' e' => y_fld (o := 0) T53.fld_26_1_1 rfl) ?_
    refine m_y (v := .int .i64 hi) 18 rfl (by kernel_rfl) rfl rfl (fun w' e' => y_load T53.one_2 rfl ((B0_17.bx 1 0 rfl rfl rfl rfl e' (fun _ h => h)).cell (j := 1) rfl)) ?_
    refine m_y (v := .pointer (some ⟨b1, 0, none⟩)) 19 rfl (by kernel_rfl) rfl rfl (fun w' e' => y_fld (o := 0) T53.fld_26_0_0 rfl) ?_
    refine m_y (v := .int .i64 wd) 20 rfl (by kernel_rfl) rfl rfl (fun w' e' => y_load T53.one_2 rfl ((B0_17.bx 1 0 rfl rfl rfl rfl e' (fun _ h => h)).cell (j := 0) rfl)) ?_
    refine m_k 13 [21, 22, 23, 24] rfl (by kernel_rfl) rfl rfl (fun w19 e20 => ?_)
    replace R18 := R18.trans (Ext0.any e20)
    replace B := B.ext0 e20
    clear e20
    refine k_call T53.fn_104 (c_i_moved (f := 108) (us := []) (xs := []) (FU := (fun _ y => y)) (FV := (fun x _ => x)) (W := hi) (H := wd) (B.r 2 rfl) T53.fn_108 (fun x y w1 he h0 h1 h2 h3 => c_i_exchanged) (fun x y h0 h1 h2 h3 => by first | omega | (simp only []; omega)) (by omega) (by omega) (by omega) (by omega) (by omega) (by omega) (by omega) (by omega) (by omega)) rfl ?_
    rintro _ w21 ⟨a22, c23, rfl, hN24⟩
    replace R18 := R18.trans (Ext0.any hN24.ext)
    replace B := B.new1 hN24
    clear hN24
    refine ⟨fun _ => R18, ?_⟩
    refine m_k 21 [22, 23, 24] rfl (by kernel_rfl) rfl rfl (fun w25 e26 => ?_)
    replace R18 := R18.trans (Ext0.any e26)
    replace B := B.ext0 e26
    clear e26
    refine k_call T53.fn_104 (c_i_moved (f := 108) (us := []) (xs := []) (FU := (fun _ y => y)) (FV := (fun x _ => x)) (W := hi) (H := wd) (B.r 4 rfl) T53.fn_108 (fun x y w1 he h0 h1 h2 h3 => c_i_exchanged) (fun x y h0 h1 h2 h3 => by first | omega | (simp only []; omega)) (by omega) (by omega) (by omega) (by omega) (by omega) (by omega) (by omega) (by omega) (by omega)) rfl ?_
    rintro _ w27 ⟨a28, c29, rfl, hN30⟩
    replace R18 := R18.trans (Ext0.any hN30.ext)
    replace B := B.new1 hN30
    clear hN30
    refine ⟨fun _ => R18, ?_⟩
    refine m_y (v := .agg #[.int .i64 hi, .int .i64 wd, .bool wr, .slice a22 ((hi * wd).toNat) c23, .slice a28 ((hi * wd).toNat) c29]) 22 rfl (by kernel_rfl) rfl rfl (fun w' e' => y_build (cells := #[.int .i64 hi, .int .i64 wd, .bool wr, .slice a22 ((hi * wd).toNat) c23, .slice a28 ((hi * wd).toNat) c29]) (by kernel_rfl)) ?_
    refine m_k 23 [24] rfl (by kernel_rfl) rfl rfl (fun w33 e34 => ?_)
    replace R18 := R18.trans (Ext0.any e34)
    replace B := B.ext0 e34
    clear e34
    refine k_stB (v := .agg #[.int .i64 hi, .int .i64 wd, .bool wr, .slice a22 ((hi * wd).toNat) c23, .slice a28 ((hi * wd).toNat) c29]) (n := 5) (cs' := [.int .i64 hi, .int .i64 wd, .bool wr, .slice a22 ((hi * wd).toNat) c23, .slice a28 ((hi * wd).toNat) c29]) T53.sz_26_5 rfl rfl rfl (B.b 2 rfl) (by simp [Value.cells, Value.oneCell']) (Nat.le_of_ble_eq_true rfl) rfl (fun w31 hU32 => ?_)
    replace R18 := R18.trans hU32.at1
    replace B : Bu w no w31 [.blk b4 [.int .i64 hi, .int .i64 wd, .bool wr, .slice a22 ((hi * wd).toNat) c23, .slice a28 ((hi * wd).toNat) c29] 26, .ow kF a28 ((hi * wd).toNat) c29 34 (movL hi wd (fun xp yp => atI wd hi ((fun _ y => y) xp yp) ((fun x _ => x) xp yp)) Xls), .ow kF a22 ((hi * wd).toNat) c23 34 (movL hi wd (fun xp yp => atI wd hi ((fun _ y => y) xp yp) ((fun x _ => x) xp yp)) Xsp), .blk b1 [.int .i64 wd, .int .i64 hi, .bool wr, .slice asp nsp csp, .slice als nls cls] 26, .rd kF asp nsp Xsp, .rd kF als nls Xls] := B.upd [2] rfl hU32
    clear hU32
    refine ⟨fun _ => R18, ?_⟩
    refine m_y (v := .bool true) 24 rfl (by kernel_rfl) rfl rfl (fun w' e' => y_assign rfl) ?_
    refine m_done (by kernel_rfl) (fun w35 e36 => ?_)
    replace B := B.ext0 e36
    clear e36
    clear B0_17 R18
    refine W_ret ?_
    refine ret2 (v1 := .agg #[.int .i64 hi, .int .i64 wd, .bool wr, .slice a22 ((hi * wd).toNat) c23, .slice a28 ((hi * wd).toNat) c29]) (v2 := .bool true) rfl rfl rfl ⟨_, [.int .i64 hi, .int .i64 wd, .bool wr, .slice a22 ((hi * wd).toNat) c23, .slice a28 ((hi * wd).toNat) c29], _, rfl, (B.b 0 rfl), T53.agg_26_5, rfl⟩ rfl ⟨_, rfl, ?_⟩
    have hcond : validS wd hi Xsp Xls = true := by simp only [c11, Bool.and_true, Bool.true_and, Bool.and_false, Bool.false_and, Bool.not_true, Bool.not_false, Bool.or_true, Bool.true_or, Bool.or_false, Bool.false_or]
    replace B : Bu w no w35 [.blk b4 [.int .i64 hi, .int .i64 wd, .bool wr, .slice a22 ((hi * wd).toNat) c23, .slice a28 ((hi * wd).toNat) c29] 26, .ow kF a28 ((hi * wd).toNat) c29 34 (movL hi wd (fun xp yp => atI wd hi ((fun _ y => y) xp yp) ((fun x _ => x) xp yp)) Xls), .ow kF a22 ((wd * hi).toNat) c23 34 (swpS wd hi Xsp), .blk b1 [.int .i64 wd, .int .i64 hi, .bool wr, .slice asp nsp csp, .slice als nls cls] 26, .rd kF asp nsp Xsp, .rd kF als nls Xls] := B.castX 2 rfl (by rw [Int.mul_comm]) (swp_i (by omega))
    replace B : Bu w no w35 [.blk b4 [.int .i64 hi, .int .i64 wd, .bool wr, .slice a22 ((hi * wd).toNat) c23, .slice a28 ((hi * wd).toNat) c29] 26, .ow kF a28 ((wd * hi).toNat) c29 34 (swpS wd hi Xls), .ow kF a22 ((wd * hi).toNat) c23 34 (swpS wd hi Xsp), .blk b1 [.int .i64 wd, .int .i64 hi, .bool wr, .slice asp nsp csp, .slice als nls cls] 26, .rd kF asp nsp Xsp, .rd kF als nls Xls] := B.castX 1 rfl (by rw [Int.mul_comm]) (swp_i (by omega))
    exact .inl ⟨hcond, ⟨_, _, _, _, (by rw [(show (hi * wd).toNat = (wd * hi).toNat from (by rw [Int.mul_comm]))]), B.give [2, 1] rfl rfl rfl⟩⟩
  · obtain rfl : v9 = .bool false := hv10.trans (congrArg Value.bool (Bool.eq_false_iff.2 c11))
    refine s_y (v := .bool true) rfl (y_not rfl rfl) ?_
    refine s_nil ?_
    refine W_if_t (by decide) rfl ?_
    refine W_seq ?_
    refine W_region (by kernel_rfl) ?_
    refine s_y (v := .agg #[.int .i64 0, .int .i64 0, .bool false, .slice none 0 0, .slice none 0 0]) rfl (y_build (cells := #[.int .i64 0, .int .i64 0, .bool false, .slice none 0 0, .slice none 0 0]) (by kernel_rfl)) ?_
    refine s_k0 rfl (k_stB (v := .agg #[.int .i64 0, .int .i64 0, .bool false, .slice none 0 0, .slice none 0 0]) (n := 5) (cs' := [.int .i64 0, .int .i64 0, .bool false, .slice none 0 0, .slice none 0 0]) T53.sz_26_5 rfl rfl rfl (B.b 0 rfl) (by simp [Value.cells, Value.oneCell']) (Nat.le_of_ble_eq_true rfl) rfl (fun w37 hU38 => ?_))
    replace B : Bu w no w37 [.blk b4 [.int .i64 0, .int .i64 0, .bool false, .slice none 0 0, .slice none 0 0] 26, .blk b1 [.int .i64 wd, .int .i64 hi, .bool wr, .slice asp nsp csp, .slice als nls cls] 26, .rd kF asp nsp Xsp, .rd kF als nls Xls] := B.upd [0] rfl hU38
    clear hU38
    refine s_y (v := .bool false) rfl (y_assign rfl) ?_
    refine s_nil ?_
    refine W_ret ?_
    refine ret2 (v1 := .agg #[.int .i64 0, .int .i64 0, .bool false, .slice none 0 0, .slice none 0 0]) (v2 := .bool false) rfl rfl rfl ⟨_, [.int .i64 0, .int .i64 0, .bool false, .slice none 0 0, .slice none 0 0], _, rfl, (B.b 0 rfl), T53.agg_26_5, rfl⟩ rfl ⟨_, rfl, ?_⟩
    exact .inr ⟨by simp only [(Bool.eq_false_iff.2 c11), Bool.and_true, Bool.true_and, Bool.and_false, Bool.false_and, Bool.not_true, Bool.not_false, Bool.or_true, Bool.true_or, Bool.or_false, Bool.false_or], rfl, B.ext⟩
namespace T54
theorem mx : Try.prog.follows .mixedOrders = true := by kernel_rfl
theorem agg_26_5 : aggB Try.prog 26 5 = true := by kernel_rfl
theorem agg_30_3 : aggB Try.prog 30 3 = true := by kernel_rfl
theorem fld_26_0_0 : fldB Try.prog 26 0 0 = true := by kernel_rfl
theorem fld_26_1_1 : fldB Try.prog 26 1 1 = true := by kernel_rfl
theorem fld_30_0_0 : fldB Try.prog 30 0 0 = true := by kernel_rfl
theorem fld_30_1_1 : fldB Try.prog 30 1 1 = true := by kernel_rfl
theorem fld_30_2_2 : fldB Try.prog 30 2 2 = true := by kernel_rfl
theorem fn_104 : fnB Try.prog 104 = true := by kernel_rfl
theorem fn_107 : fnB Try.prog 107 = true := by kernel_rfl
theorem fn_108 : fnB Try.prog 108 = true := by kernel_rfl
theorem fn_41 : fnB Try.prog 41 = true := by kernel_rfl
theorem one_2 : oneB Try.prog 2 = true := by kernel_rfl
theorem one_24 : oneB Try.prog 24 = true := by kernel_rfl
theorem sz_30_3 : szB Try.prog 30 3 = true := by kernel_rfl
theorem zero_30 : zeroB Try.prog 30 (.agg #[.slice none 0 0, .slice none 0 0, .slice none 0 0]) := by unfold zeroB; kernel_rfl
end T54
set_option maxRecDepth 100000 in
set_option maxHeartbeats 4000000 in
theorem c_i_SwapField {wd : Int} {hi : Int} {wr : Bool} {asp : Option Addr} {nsp : Nat} {csp : Nat} {Xsp : List Nat} {als : Option Addr} {nls : Nat} {cls : Nat} {Xls : List Nat} {afe : Option Addr} {nfe : Nat} {cfe : Nat} {Xfe : List Nat} {afx : Option Addr} {nfx : Nat} {cfx : Nat} {Xfx : List Nat} {afy : Option Addr} {nfy : Nat} {cfy : Nat} {Xfy : List Nat} {w : World} (qsp : Rd w kF asp nsp Xsp) (qls : Rd w kF als nls Xls) (qfe : Rd w kF afe nfe Xfe) (qfx : Rd w kF afx nfx Xfx) (qfy : Rd w kF afy nfy Xfy) (hbsp : nsp ≤ 9223372036854775806) (hbls : nls ≤ 9223372036854775806) (hbfe : nfe ≤ 9223372036854775806) (hbfx : nfx ≤ 9223372036854775806) (hbfy : nfy ≤ 9223372036854775806) :
    Calls Try.prog 54 #[.agg #[.int .i64 wd, .int .i64 hi, .bool wr, .slice asp nsp csp, .slice als nls cls], .agg #[.slice afe nfe cfe, .slice afx nfx cfx, .slice afy nfy cfy]] w (Rt fun v w' => (fieldB wd hi wr Xsp Xls Xfe Xfx Xfy = true ∧ ∃ (a1 : Option Addr) (c1 : Nat) (a2 : Option Addr) (c2 : Nat) (a3 : Option Addr) (c3 : Nat), v = .tuple #[.agg #[.slice a1 ((wd * hi).toNat) c1, .slice a2 ((wd * hi).toNat) c2, .slice a3 ((wd * hi).toNat) c3], .bool true] ∧ New w w' [.ow kF a1 ((wd * hi).toNat) c1 34 (swpS wd hi Xfe), .ow kF a2 ((wd * hi).toNat) c2 34 (negL (wd * hi) (swpS wd hi Xfy)), .ow kF a3 ((wd * hi).toNat) c3 34 (negL (wd * hi) (swpS wd hi Xfx))]) ∨ (fieldB wd hi wr Xsp Xls Xfe Xfx Xfy = false ∧ v = .tuple #[.agg #[.slice none 0 0, .slice none 0 0, .slice none 0 0], .bool false] ∧ Ext0 w w')) := by
  have hlsp := qsp.len
  have hlls := qls.len
  have hlfe := qfe.len
  have hlfx := qfx.len
  have hlfy := qfy.len
  have B : Bu w no w [.rd kF asp nsp Xsp, .rd kF als nls Xls, .rd kF afe nfe Xfe, .rd kF afx nfx Xfx, .rd kF afy nfy Xfy] := Bu.ro (All.cons qsp (All.cons qls (All.cons qfe (All.cons qfx (All.cons qfy All.nil))))) rfl
  have hcm0 := Int.mul_comm hi wd
  refine calls_W (n := 38) Try.func54 rfl rfl (Nat.le_of_ble_eq_true rfl) ?_
  refine W_seq ?_
  refine W_region (by kernel_rfl) ?_
  refine s_k rfl (k_boxN (v := .agg #[.int .i64 wd, .int .i64 hi, .bool wr, .slice asp nsp csp, .slice als nls cls]) (cs := [.int .i64 wd, .int .i64 hi, .bool wr, .slice asp nsp csp, .slice als nls cls]) rfl rfl (fun b1 w2 hN3 => ?_))
  replace B := B.new1 hN3
  clear hN3
  refine s_k rfl (k_boxN (v := .agg #[.slice afe nfe cfe, .slice afx nfx cfx, .slice afy nfy cfy]) (cs := [.slice afe nfe cfe, .slice afx nfx cfx, .slice afy nfy cfy]) rfl rfl (fun b4 w5 hN6 => ?_))
  replace B := B.new1 hN6
  clear hN6
  refine s_k rfl (k_allocN (z := (.agg #[.slice none 0 0, .slice none 0 0, .slice none 0 0])) (cs := [.slice none 0 0, .slice none 0 0, .slice none 0 0]) T54.zero_30 rfl (fun b7 w8 hN9 => ?_))
  replace B := B.new1 hN9
  clear hN9
  refine s_y (v := .bool false) rfl (y_assign rfl) ?_
  refine s_nil ?_
  refine W_seq ?_
  refine W_seq ?_
  refine W_region (by kernel_rfl) ?_
  refine s_y (v := .agg #[.int .i64 wd, .int .i64 hi, .bool wr, .slice asp nsp csp, .slice als nls cls]) rfl (y_loadn (b := b1) (o := 0) (vs := [.int .i64 wd, .int .i64 hi, .bool wr, .slice asp nsp csp, .slice als nls cls]) T54.agg_26_5 rfl rfl ((B.b 2 rfl).cells (o := 0) rfl)) ?_
  refine s_y (v := .agg #[.slice afe nfe cfe, .slice afx nfx cfx, .slice afy nfy cfy]) rfl (y_loadn (b := b4) (o := 0) (vs := [.slice afe nfe cfe, .slice afx nfx cfx, .slice afy nfy cfy]) T54.agg_30_3 rfl rfl ((B.b 1 rfl).cells (o := 0) rfl)) ?_
  refine s_k rfl (k_call T54.fn_41 (c_i_IsField (B.r 3 rfl) (B.r 4 rfl) (B.r 5 rfl) (B.r 6 rfl) (B.r 7 rfl) (by omega) (by omega) (by omega) (by omega) (by omega)) rfl ?_)
  rintro v12 w10 ⟨hv13, e11⟩
  replace B := B.ext0 e11
  clear e11
  by_cases c14 : fieldB wd hi wr Xsp Xls Xfe Xfx Xfy = true
  · have hb15 := fieldB_b c14
    obtain rfl : v12 = .bool true := hv13.trans (congrArg Value.bool c14)
    refine s_y (v := .bool false) rfl (y_not rfl rfl) ?_
    refine s_nil ?_
    refine W_if_f (by decide) rfl ?_
    refine W_skip ?_
    refine W_seq ?_
    have B0_20 := B
    refine W_draw (at1 b7) T54.mx (by kernel_rfl) (fun w18 e19 => ?_)
    have R21 := Ext.refl (at1 b7) w10
    replace R21 := R21.trans (Ext0.any e19)
    replace B := B.ext0 e19
    clear e19
    refine m_y (v := .agg #[.int .i64 wd, .int .i64 hi, .bool wr, .slice asp nsp csp, .slice als nls cls]) 0 rfl (by kernel_rfl) rfl rfl (fun w' e' => y_loadn (b := b1) (o := 0) (vs := [.int .i64 wd, .int .i64 hi, .bool wr, .slice asp nsp csp, .slice als nls cls]) T54.agg_26_5 rfl rfl ((B0_20.bx 2 0 rfl rfl rfl rfl e' (fun _ h => h)).cells (o := 0) rfl)) ?_
    refine m_y (v := .pointer (some ⟨b4, 0, none⟩)) 1 rfl (by kernel_rfl) rfl rfl (fun w' e' => y_fld (o := 0) T54.fld_30_0_0 rfl) ?_
    refine m_y (v := .slice afe nfe cfe) 2 rfl (by kernel_rfl) rfl rfl (fun w' e' => y_load T54.one_24 rfl ((B0_20.bx 1 0 rfl rfl rfl rfl e' (fun _ h => h)).cell (j := 0) rfl)) ?_
    refine m_y (v := .pointer (some ⟨b1, 1, none⟩)) 3 rfl (by kernel_rfl) rfl rfl (fun w' e' => y_fld (o := 0) T54.fld_26_1_1 rfl) ?_
    refine m_y (v := .int .i64 hi) 4 rfl (by kernel_rfl) rfl rfl (fun w' e' => y_load T54.one_2 rfl ((B0_20.bx 2 0 rfl rfl rfl rfl e' (fun _ h => h)).cell (j := 1) rfl)) ?_
    refine m_y (v := .pointer (some ⟨b1, 0, none⟩)) 5 rfl (by kernel_rfl) rfl rfl (fun w' e' => y_fld (o := 0) T54.fld_26_0_0 rfl) ?_
    refine m_y (v := .int .i64 wd) 6 rfl (by kernel_rfl) rfl rfl (fun w' e' => y_load T54.one_2 rfl ((B0_20.bx 2 0 rfl rfl rfl rfl e' (fun _ h => h)).cell (j := 0) rfl)) ?_
    refine m_y (v := .agg #[.int .i64 wd, .int .i64 hi, .bool wr, .slice asp nsp csp, .slice als nls cls]) 8 rfl (by kernel_rfl) rfl rfl (fun w' e' => y_loadn (b := b1) (o := 0) (vs := [.int .i64 wd, .int .i64 hi, .bool wr, .slice asp nsp csp, .slice als nls cls]) T54.agg_26_5 rfl rfl ((B0_20.bx 2 0 rfl rfl rfl rfl e' (fun _ h => h)).cells (o := 0) rfl)) ?_
    refine m_y (v := .pointer (some ⟨b4, 2, none⟩)) 9 rfl (by kernel_rfl) rfl rfl (fun w' e' => y_fld (o := 0) T54.fld_30_2_2 rfl) ?_
    refine m_y (v := .slice afy nfy cfy) 10 rfl (by kernel_rfl) rfl rfl (fun w' e' => y_load T54.one_24 rfl ((B0_20.bx 1 0 rfl rfl rfl rfl e' (fun _ h => h)).cell (j := 2) rfl)) ?_
    refine m_y (v := .pointer (some ⟨b1, 1, none⟩)) 11 rfl (by kernel_rfl) rfl rfl (fun w' e' => y_fld (o := 0) T54.fld_26_1_1 rfl) ?_
    refine m_y (v := .int .i64 hi) 12 rfl (by kernel_rfl) rfl rfl (fun w' e' => y_load T54.one_2 rfl ((B0_20.bx 2 0 rfl rfl rfl rfl e' (fun _ h => h)).cell (j := 1) rfl)) ?_
    refine m_y (v := .pointer (some ⟨b1, 0, none⟩)) 13 rfl (by kernel_rfl) rfl rfl (fun w' e' => y_fld (o := 0) T54.fld_26_0_0 rfl) ?_
    refine m_y (v := .int .i64 wd) 14 rfl (by kernel_rfl) rfl rfl (fun w' e' => y_load T54.one_2 rfl ((B0_20.bx 2 0 rfl rfl rfl rfl e' (fun _ h => h)).cell (j := 0) rfl)) ?_
    refine m_y (v := .agg #[.int .i64 wd, .int .i64 hi, .bool wr, .slice asp nsp csp, .slice als nls cls]) 17 rfl (by kernel_rfl) rfl rfl (fun w' e' => y_loadn (b := b1) (o := 0) (vs := [.int .i64 wd, .int .i64 hi, .bool wr, .slice asp nsp csp, .slice als nls cls]) T54.agg_26_5 rfl rfl ((B0_20.bx 2 0 rfl rfl rfl rfl e' (fun _ h => h)).cells (o := 0) rfl)) ?_
    refine m_y (v := .pointer (some ⟨b4, 1, none⟩)) 18 rfl (by kernel_rfl) rfl rfl (fun w' e' => y_fld (o := 0) T54.fld_30_1_1 rfl) ?_
    refine m_y (v := .slice afx nfx cfx) 19 rfl (by kernel_rfl) rfl rfl (fun w' e' => y_load T54.one_24 rfl ((B0_20.bx 1 0 rfl rfl rfl rfl e' (fun _ h => h)).cell (j := 1) rfl)) ?_
    refine m_y (v := .pointer (some ⟨b1, 1, none⟩)) 20 rfl (by kernel_rfl) rfl rfl (fun w' e' => y_fld (o := 0) T54.fld_26_1_1 rfl) ?_
    refine m_y (v := .int .i64 hi) 21 rfl (by kernel_rfl) rfl rfl (fun w' e' => y_load T54.one_2 rfl ((B0_20.bx 2 0 rfl rfl rfl rfl e' (fun _ h => h)).cell (j := 1) rfl)) ?_
    refine m_y (v := .pointer (some ⟨b1, 0, none⟩)) 22 rfl (by kernel_rfl) rfl rfl (fun w' e' => y_fld (o := 0) T54.fld_26_0_0 rfl) ?_
    refine m_y (v := .int .i64 wd) 23 rfl (by kernel_rfl) rfl rfl (fun w' e' => y_load T54.one_2 rfl ((B0_20.bx 2 0 rfl rfl rfl rfl e' (fun _ h => h)).cell (j := 0) rfl)) ?_
    refine m_k 7 [15, 16, 24, 25, 26, 27, 28] rfl (by kernel_rfl) rfl rfl (fun w22 e23 => ?_)
    replace R21 := R21.trans (Ext0.any e23)
    replace B := B.ext0 e23
    clear e23
    refine k_call T54.fn_104 (c_i_moved (f := 108) (us := []) (xs := []) (FU := (fun _ y => y)) (FV := (fun x _ => x)) (W := hi) (H := wd) (B.r 5 rfl) T54.fn_108 (fun x y w1 he h0 h1 h2 h3 => c_i_exchanged) (fun x y h0 h1 h2 h3 => by first | omega | (simp only []; omega)) (by omega) (by omega) (by omega) (by omega) (by omega) (by omega) (by omega) (by omega) (by omega)) rfl ?_
    rintro _ w24 ⟨a25, c26, rfl, hN27⟩
    replace R21 := R21.trans (Ext0.any hN27.ext)
    replace B := B.new1 hN27
    clear hN27
    refine ⟨fun _ => R21, ?_⟩
    refine m_k 15 [16, 24, 25, 26, 27, 28] rfl (by kernel_rfl) rfl rfl (fun w28 e29 => ?_)
    replace R21 := R21.trans (Ext0.any e29)
    replace B := B.ext0 e29
    clear e29
    refine k_call T54.fn_104 (c_i_moved (f := 108) (us := []) (xs := []) (FU := (fun _ y => y)) (FV := (fun x _ => x)) (W := hi) (H := wd) (B.r 8 rfl) T54.fn_108 (fun x y w1 he h0 h1 h2 h3 => c_i_exchanged) (fun x y h0 h1 h2 h3 => by first | omega | (simp only []; omega)) (by omega) (by omega) (by omega) (by omega) (by omega) (by omega) (by omega) (by omega) (by omega)) rfl ?_
    rintro _ w30 ⟨a31, c32, rfl, hN33⟩
    replace R21 := R21.trans (Ext0.any hN33.ext)
    replace B := B.new1 hN33
    clear hN33
    refine ⟨fun _ => R21, ?_⟩
    refine m_k 16 [24, 25, 26, 27, 28] rfl (by kernel_rfl) rfl rfl (fun w34 e35 => ?_)
    replace R21 := R21.trans (Ext0.any e35)
    replace B := B.ext0 e35
    clear e35
    refine k_call T54.fn_107 (c_i_opposites ((B.o 0 rfl).rd) (by omega)) rfl ?_
    rintro _ w36 ⟨a37, c38, rfl, hN39⟩
    replace R21 := R21.trans (Ext0.any hN39.ext)
    replace B := B.new1 hN39
    clear hN39
    refine ⟨fun _ => R21, ?_⟩
    refine m_k 24 [25, 26, 27, 28] rfl (by kernel_rfl) rfl rfl (fun w40 e41 => ?_)
    replace R21 := R21.trans (Ext0.any e41)
    replace B := B.ext0 e41
    clear e41
    refine k_call T54.fn_104 (c_i_moved (f := 108) (us := []) (xs := []) (FU := (fun _ y => y)) (FV := (fun x _ => x)) (W := hi) (H := wd) (B.r 9 rfl) T54.fn_108 (fun x y w1 he h0 h1 h2 h3 => c_i_exchanged) (fun x y h0 h1 h2 h3 => by first | omega | (simp only []; omega)) (by omega) (by omega) (by omega) (by omega) (by omega) (by omega) (by omega) (by omega) (by omega)) rfl ?_
    rintro _ w42 ⟨a43, c44, rfl, hN45⟩
    replace R21 := R21.trans (Ext0.any hN45.ext)
    replace B := B.new1 hN45
    clear hN45
    refine ⟨fun _ => R21, ?_⟩
    refine m_k 25 [26, 27, 28] rfl (by kernel_rfl) rfl rfl (fun w46 e47 => ?_)
    replace R21 := R21.trans (Ext0.any e47)
    replace B := B.ext0 e47
    clear e47
    refine k_call T54.fn_107 (c_i_opposites ((B.o 0 rfl).rd) (by omega)) rfl ?_
    rintro _ w48 ⟨a49, c50, rfl, hN51⟩
    replace R21 := R21.trans (Ext0.any hN51.ext)
    replace B := B.new1 hN51
    clear hN51
    refine ⟨fun _ => R21, ?_⟩
    refine m_y (v := .agg #[.slice a25 ((hi * wd).toNat) c26, .slice a37 ((hi * wd).toNat) c38, .slice a49 ((hi * wd).toNat) c50]) 26 rfl (by kernel_rfl) rfl rfl (fun w' e' => y_build (cells := #[.slice a25 ((hi * wd).toNat) c26, .slice a37 ((hi * wd).toNat) c38, .slice a49 ((hi * wd).toNat) c50]) (by kernel_rfl)) ?_
    refine m_k 27 [28] rfl (by kernel_rfl) rfl rfl (fun w54 e55 => ?_)
    replace R21 := R21.trans (Ext0.any e55)
    replace B := B.ext0 e55
    clear e55
    refine k_stB (v := .agg #[.slice a25 ((hi * wd).toNat) c26, .slice a37 ((hi * wd).toNat) c38, .slice a49 ((hi * wd).toNat) c50]) (n := 3) (cs' := [.slice a25 ((hi * wd).toNat) c26, .slice a37 ((hi * wd).toNat) c38, .slice a49 ((hi * wd).toNat) c50]) T54.sz_30_3 rfl rfl rfl (B.b 5 rfl) (by simp [Value.cells, Value.oneCell']) (Nat.le_of_ble_eq_true rfl) rfl (fun w52 hU53 => ?_)
    replace R21 := R21.trans hU53.at1
    replace B : Bu w no w52 [.blk b7 [.slice a25 ((hi * wd).toNat) c26, .slice a37 ((hi * wd).toNat) c38, .slice a49 ((hi * wd).toNat) c50] 30, .ow kF a49 ((hi * wd).toNat) c50 34 (negL ((hi * wd).toNat) (movL hi wd (fun xp yp => atI wd hi ((fun _ y => y) xp yp) ((fun x _ => x) xp yp)) Xfx)), .ow kF a43 ((hi * wd).toNat) c44 34 (movL hi wd (fun xp yp => atI wd hi ((fun _ y => y) xp yp) ((fun x _ => x) xp yp)) Xfx), .ow kF a37 ((hi * wd).toNat) c38 34 (negL ((hi * wd).toNat) (movL hi wd (fun xp yp => atI wd hi ((fun _ y => y) xp yp) ((fun x _ => x) xp yp)) Xfy)), .ow kF a31 ((hi * wd).toNat) c32 34 (movL hi wd (fun xp yp => atI wd hi ((fun _ y => y) xp yp) ((fun x _ => x) xp yp)) Xfy), .ow kF a25 ((hi * wd).toNat) c26 34 (movL hi wd (fun xp yp => atI wd hi ((fun _ y => y) xp yp) ((fun x _ => x) xp yp)) Xfe), .blk b4 [.slice afe nfe cfe, .slice afx nfx cfx, .slice afy nfy cfy] 30, .blk b1 [.int .i64 wd, .int .i64 hi, .bool wr, .slice asp nsp csp, .slice als nls cls] 26, .rd kF asp nsp Xsp, .rd kF als nls Xls, .rd kF afe nfe Xfe, .rd kF afx nfx Xfx, .rd kF afy nfy Xfy] := B.upd [5] rfl hU53
    clear hU53
    refine ⟨fun _ => R21, ?_⟩
    refine m_y (v := .bool true) 28 rfl (by kernel_rfl) rfl rfl (fun w' e' => y_assign rfl) ?_
    refine m_done (by kernel_rfl) (fun w56 e57 => ?_)
    replace B := B.ext0 e57
    clear e57
    clear B0_20 R21
    refine W_ret ?_
    refine ret2 (v1 := .agg #[.slice a25 ((hi * wd).toNat) c26, .slice a37 ((hi * wd).toNat) c38, .slice a49 ((hi * wd).toNat) c50]) (v2 := .bool true) rfl rfl rfl ⟨_, [.slice a25 ((hi * wd).toNat) c26, .slice a37 ((hi * wd).toNat) c38, .slice a49 ((hi * wd).toNat) c50], _, rfl, (B.b 0 rfl), T54.agg_30_3, rfl⟩ rfl ⟨_, rfl, ?_⟩
    have hcond : fieldB wd hi wr Xsp Xls Xfe Xfx Xfy = true := by simp only [c14, Bool.and_true, Bool.true_and, Bool.and_false, Bool.false_and, Bool.not_true, Bool.not_false, Bool.or_true, Bool.true_or, Bool.or_false, Bool.false_or]
    replace B : Bu w no w56 [.blk b7 [.slice a25 ((hi * wd).toNat) c26, .slice a37 ((hi * wd).toNat) c38, .slice a49 ((hi * wd).toNat) c50] 30, .ow kF a49 ((hi * wd).toNat) c50 34 (negL ((hi * wd).toNat) (movL hi wd (fun xp yp => atI wd hi ((fun _ y => y) xp yp) ((fun x _ => x) xp yp)) Xfx)), .ow kF a43 ((hi * wd).toNat) c44 34 (movL hi wd (fun xp yp => atI wd hi ((fun _ y => y) xp yp) ((fun x _ => x) xp yp)) Xfx), .ow kF a37 ((hi * wd).toNat) c38 34 (negL ((hi * wd).toNat) (movL hi wd (fun xp yp => atI wd hi ((fun _ y => y) xp yp) ((fun x _ => x) xp yp)) Xfy)), .ow kF a31 ((hi * wd).toNat) c32 34 (movL hi wd (fun xp yp => atI wd hi ((fun _ y => y) xp yp) ((fun x _ => x) xp yp)) Xfy), .ow kF a25 ((wd * hi).toNat) c26 34 (swpS wd hi Xfe), .blk b4 [.slice afe nfe cfe, .slice afx nfx cfx, .slice afy nfy cfy] 30, .blk b1 [.int .i64 wd, .int .i64 hi, .bool wr, .slice asp nsp csp, .slice als nls cls] 26, .rd kF asp nsp Xsp, .rd kF als nls Xls, .rd kF afe nfe Xfe, .rd kF afx nfx Xfx, .rd kF afy nfy Xfy] := B.castX 5 rfl (by rw [Int.mul_comm]) (swp_i (by omega))
    replace B : Bu w no w56 [.blk b7 [.slice a25 ((hi * wd).toNat) c26, .slice a37 ((hi * wd).toNat) c38, .slice a49 ((hi * wd).toNat) c50] 30, .ow kF a49 ((hi * wd).toNat) c50 34 (negL ((hi * wd).toNat) (movL hi wd (fun xp yp => atI wd hi ((fun _ y => y) xp yp) ((fun x _ => x) xp yp)) Xfx)), .ow kF a43 ((hi * wd).toNat) c44 34 (movL hi wd (fun xp yp => atI wd hi ((fun _ y => y) xp yp) ((fun x _ => x) xp yp)) Xfx), .ow kF a37 ((wd * hi).toNat) c38 34 (negL (wd * hi) (swpS wd hi Xfy)), .ow kF a31 ((hi * wd).toNat) c32 34 (movL hi wd (fun xp yp => atI wd hi ((fun _ y => y) xp yp) ((fun x _ => x) xp yp)) Xfy), .ow kF a25 ((wd * hi).toNat) c26 34 (swpS wd hi Xfe), .blk b4 [.slice afe nfe cfe, .slice afx nfx cfx, .slice afy nfy cfy] 30, .blk b1 [.int .i64 wd, .int .i64 hi, .bool wr, .slice asp nsp csp, .slice als nls cls] 26, .rd kF asp nsp Xsp, .rd kF als nls Xls, .rd kF afe nfe Xfe, .rd kF afx nfx Xfx, .rd kF afy nfy Xfy] := B.castX 3 rfl (by rw [Int.mul_comm]) (swpN_i (by omega) (by omega))
    replace B : Bu w no w56 [.blk b7 [.slice a25 ((hi * wd).toNat) c26, .slice a37 ((hi * wd).toNat) c38, .slice a49 ((hi * wd).toNat) c50] 30, .ow kF a49 ((wd * hi).toNat) c50 34 (negL (wd * hi) (swpS wd hi Xfx)), .ow kF a43 ((hi * wd).toNat) c44 34 (movL hi wd (fun xp yp => atI wd hi ((fun _ y => y) xp yp) ((fun x _ => x) xp yp)) Xfx), .ow kF a37 ((wd * hi).toNat) c38 34 (negL (wd * hi) (swpS wd hi Xfy)), .ow kF a31 ((hi * wd).toNat) c32 34 (movL hi wd (fun xp yp => atI wd hi ((fun _ y => y) xp yp) ((fun x _ => x) xp yp)) Xfy), .ow kF a25 ((wd * hi).toNat) c26 34 (swpS wd hi Xfe), .blk b4 [.slice afe nfe cfe, .slice afx nfx cfx, .slice afy nfy cfy] 30, .blk b1 [.int .i64 wd, .int .i64 hi, .bool wr, .slice asp nsp csp, .slice als nls cls] 26, .rd kF asp nsp Xsp, .rd kF als nls Xls, .rd kF afe nfe Xfe, .rd kF afx nfx Xfx, .rd kF afy nfy Xfy] := B.castX 1 rfl (by rw [Int.mul_comm]) (swpN_i (by omega) (by omega))
    exact .inl ⟨hcond, ⟨_, _, _, _, _, _, (by rw [(show (hi * wd).toNat = (wd * hi).toNat from (by rw [Int.mul_comm]))]), B.give [5, 3, 1] rfl rfl rfl⟩⟩
  · obtain rfl : v12 = .bool false := hv13.trans (congrArg Value.bool (Bool.eq_false_iff.2 c14))
    refine s_y (v := .bool true) rfl (y_not rfl rfl) ?_
    refine s_nil ?_
    refine W_if_t (by decide) rfl ?_
    refine W_seq ?_
    refine W_region (by kernel_rfl) ?_
    refine s_y (v := .agg #[.slice none 0 0, .slice none 0 0, .slice none 0 0]) rfl (y_build (cells := #[.slice none 0 0, .slice none 0 0, .slice none 0 0]) (by kernel_rfl)) ?_
    refine s_k0 rfl (k_stB (v := .agg #[.slice none 0 0, .slice none 0 0, .slice none 0 0]) (n := 3) (cs' := [.slice none 0 0, .slice none 0 0, .slice none 0 0]) T54.sz_30_3 rfl rfl rfl (B.b 0 rfl) (by simp [Value.cells, Value.oneCell']) (Nat.le_of_ble_eq_true rfl) rfl (fun w58 hU59 => ?_))
    replace B : Bu w no w58 [.blk b7 [.slice none 0 0, .slice none 0 0, .slice none 0 0] 30, .blk b4 [.slice afe nfe cfe, .slice afx nfx cfx, .slice afy nfy cfy] 30, .blk b1 [.int .i64 wd, .int .i64 hi, .bool wr, .slice asp nsp csp, .slice als nls cls] 26, .rd kF asp nsp Xsp, .rd kF als nls Xls, .rd kF afe nfe Xfe, .rd kF afx nfx Xfx, .rd kF afy nfy Xfy] := B.upd [0] rfl hU59
    clear hU59
    refine s_y (v := .bool false) rfl (y_assign rfl) ?_
    refine s_nil ?_
    refine W_ret ?_
    refine ret2 (v1 := .agg #[.slice none 0 0, .slice none 0 0, .slice none 0 0]) (v2 := .bool false) rfl rfl rfl ⟨_, [.slice none 0 0, .slice none 0 0, .slice none 0 0], _, rfl, (B.b 0 rfl), T54.agg_30_3, rfl⟩ rfl ⟨_, rfl, ?_⟩
    exact .inr ⟨by simp only [(Bool.eq_false_iff.2 c14), Bool.and_true, Bool.true_and, Bool.and_false, Bool.false_and, Bool.not_true, Bool.not_false, Bool.or_true, Bool.true_or, Bool.or_false, Bool.false_or], rfl, B.ext⟩
end Go.Proofs.Ytgohmocjjmkepaa
