/- Walks: what the functions under FnQuiet do (part 3). Printed by a program of this claim's author. -/
import Derived.Test.YtgohmocjjmkepaaQuietW1
set_option linter.unusedSimpArgs false
set_option linter.unusedVariables false
open Go.Wv
namespace Go.Proofs.Ytgohmocjjmkepaa
open Go.Proofs
namespace T130
theorem mx : Try.prog.follows .mixedOrders = true := by kernel_rfl
theorem agg_26_5 : aggB Try.prog 26 5 = true := by kernel_rfl
theorem fld_26_0_0 : fldB Try.prog 26 0 0 = true := by kernel_rfl
theorem fld_26_1_1 : fldB Try.prog 26 1 1 = true := by kernel_rfl
theorem fld_26_2_2 : fldB Try.prog 26 2 2 = true := by kernel_rfl
theorem fld_30_0_0 : fldB Try.prog 30 0 0 = true := by kernel_rfl
theorem fld_30_1_1 : fldB Try.prog 30 1 1 = true := by kernel_rfl
theorem fld_30_2_2 : fldB Try.prog 30 2 2 = true := by kernel_rfl
theorem fn_69 : fnB Try.prog 69 = true := by kernel_rfl
theorem one_2 : oneB Try.prog 2 = true := by kernel_rfl
theorem one_24 : oneB Try.prog 24 = true := by kernel_rfl
theorem one_34 : oneB Try.prog 34 = true := by kernel_rfl
theorem one_4 : oneB Try.prog 4 = true := by kernel_rfl
theorem sl_24_34_1 : slB Try.prog 24 34 1 = true := by kernel_rfl
theorem sz_34_1 : szB Try.prog 34 1 = true := by kernel_rfl
end T130
set_option maxRecDepth 100000 in
set_option maxHeartbeats 4000000 in
theorem c_i_halfStep {wd : Int} {hi : Int} {wr : Bool} {asp : Option Addr} {nsp : Nat} {csp : Nat} {als : Option Addr} {nls : Nat} {cls : Nat} {b : Nat} {afe : Option Addr} {nfe : Nat} {cfe : Nat} {Xfe : List Nat} {afx : Option Addr} {nfx : Nat} {cfx : Nat} {afy : Option Addr} {nfy : Nat} {cfy : Nat} {Xfx Xfy : List Nat} {w : World} (h1 : 3 ≤ wd) (h2 : wd ≤ 16) (h3 : 3 ≤ hi) (h4 : hi ≤ 16) (gfe : (nfe : Int) = wd * hi) (gfx : (nfx : Int) = wd * hi) (gfy : (nfy : Int) = wd * hi) (HA : All w [.ow kF afx nfx cfx 34 Xfx, .ow kF afy nfy cfy 34 Xfy, .rd kF afe nfe Xfe, .sl (some ⟨b, 0, none⟩) [.slice afe nfe cfe, .slice afx nfx cfx, .slice afy nfy cfy]]) (HP : Pw [.ow kF afx nfx cfx 34 Xfx, .ow kF afy nfy cfy 34 Xfy, .rd kF afe nfe Xfe, .sl (some ⟨b, 0, none⟩) [.slice afe nfe cfe, .slice afx nfx cfx, .slice afy nfy cfy]]) :
    Calls Try.prog 130 #[.agg #[.int .i64 wd, .int .i64 hi, .bool wr, .slice asp nsp csp, .slice als nls cls], .pointer (some ⟨b, 0, none⟩)] w (Rt fun v w' => v = .tuple #[] ∧ Upd w w' [.ow kF afx nfx cfx 34 Xfx, .ow kF afy nfy cfy 34 Xfy] [.ow kF afx nfx cfx 34 (hxL wd hi wr Xfe Xfx), .ow kF afy nfy cfy 34 (hyL wd hi wr Xfe Xfy)]) := by
  have B : Bu w (hasW [.ow kF afx nfx cfx 34 Xfx, .ow kF afy nfy cfy 34 Xfy]) w [.ow kF afx nfx cfx 34 Xfx, .ow kF afy nfy cfy 34 Xfy, .rd kF afe nfe Xfe, .sl (some ⟨b, 0, none⟩) [.slice afe nfe cfe, .slice afx nfx cfx, .slice afy nfy cfy]] := Bu.initW (W := [.ow kF afx nfx cfx 34 Xfx, .ow kF afy nfy cfy 34 Xfy]) (R := [.rd kF afe nfe Xfe, .sl (some ⟨b, 0, none⟩) [.slice afe nfe cfe, .slice afx nfx cfx, .slice afy nfy cfy]]) HA HP rfl
  have hlfx := (B.o 0 rfl).len
  have hlfy := (B.o 1 rfl).len
  have hlfe := (B.r 2 rfl).len
  have hwh := mul16 (And.intro (And.intro h1 h2) (And.intro h3 h4))
  refine calls_W (n := 109) Try.func130 rfl rfl (Nat.le_of_ble_eq_true rfl) ?_
  refine W_seq ?_
  refine W_region (by kernel_rfl) ?_
  refine s_k rfl (k_boxN (v := .agg #[.int .i64 wd, .int .i64 hi, .bool wr, .slice asp nsp csp, .slice als nls cls]) (cs := [.int .i64 wd, .int .i64 hi, .bool wr, .slice asp nsp csp, .slice als nls cls]) rfl rfl (fun b1 w2 hN3 => ?_))
  replace B := B.new1 hN3
  clear hN3
  refine s_nil ?_
  refine W_seq ?_
  refine W_region (by kernel_rfl) ?_
  refine s_y (v := .pointer (some ⟨b1, 1, none⟩)) rfl (y_fld (o := 0) T130.fld_26_1_1 rfl) ?_
  refine s_y (v := .int .i64 hi) rfl (y_load T130.one_2 rfl ((B.b 0 rfl).cell (j := 1) rfl)) ?_
  refine s_y (v := .int .i64 0) rfl (y_move rfl) ?_
  refine s_nil ?_
  refine W_block ?_
  refine W_loop (fun ρ' w' => ∃ (ρ1 : Env) (py : Int), ρ' = updL ρ1 [(1, .pointer (some ⟨b, 0, none⟩)), (2, .pointer (some ⟨b1, 0, none⟩)), (8, .int .i64 hi), (9, .int .i64 py)] ∧ Bu w (hasW [.ow kF afx nfx cfx 34 Xfx, .ow kF afy nfy cfy 34 Xfy]) w' [.ow kF afx nfx cfx 34 (mix (wd * hi) (wd * py) (fun i => hxF wd hi wr Xfe Xfx (i % wd) (i / wd)) Xfx), .ow kF afy nfy cfy 34 (mix (wd * hi) (wd * py) (fun i => hyF wd hi wr Xfe Xfy (i % wd) (i / wd)) Xfy), .blk b1 [.int .i64 wd, .int .i64 hi, .bool wr, .slice asp nsp csp, .slice als nls cls] 26, .rd kF afe nfe Xfe, .sl (some ⟨b, 0, none⟩) [.slice afe nfe cfe, .slice afx nfx cfx, .slice afy nfy cfy]] ∧ (0 ≤ py) ∧ (py ≤ hi)) (fun ρ' _ => (hi - iv (ρ' 9)).toNat) ?_ ?_
  · replace B : Bu w (hasW [.ow kF afx nfx cfx 34 Xfx, .ow kF afy nfy cfy 34 Xfy]) w2 [.blk b1 [.int .i64 wd, .int .i64 hi, .bool wr, .slice asp nsp csp, .slice als nls cls] 26, .ow kF afx nfx cfx 34 (mix (wd * hi) (wd * 0) (fun i => hxF wd hi wr Xfe Xfx (i % wd) (i / wd)) Xfx), .ow kF afy nfy cfy 34 Xfy, .rd kF afe nfe Xfe, .sl (some ⟨b, 0, none⟩) [.slice afe nfe cfe, .slice afx nfx cfx, .slice afy nfy cfy]] := B.castX 1 rfl rfl ((mix_zero (by omega)).trans (congrArg (fun q => mix (wd * hi) q (fun i => hxF wd hi wr Xfe Xfx (i % wd) (i / wd)) _) (Int.mul_zero wd).symm))
    replace B : Bu w (hasW [.ow kF afx nfx cfx 34 Xfx, .ow kF afy nfy cfy 34 Xfy]) w2 [.blk b1 [.int .i64 wd, .int .i64 hi, .bool wr, .slice asp nsp csp, .slice als nls cls] 26, .ow kF afx nfx cfx 34 (mix (wd * hi) (wd * 0) (fun i => hxF wd hi wr Xfe Xfx (i % wd) (i / wd)) Xfx), .ow kF afy nfy cfy 34 (mix (wd * hi) (wd * 0) (fun i => hyF wd hi wr Xfe Xfy (i % wd) (i / wd)) Xfy), .rd kF afe nfe Xfe, .sl (some ⟨b, 0, none⟩) [.slice afe nfe cfe, .slice afx nfx cfx, .slice afy nfy cfy]] := B.castX 2 rfl rfl ((mix_zero (by omega)).trans (congrArg (fun q => mix (wd * hi) q (fun i => hyF wd hi wr Xfe Xfy (i % wd) (i / wd)) _) (Int.mul_zero wd).symm))
    exact ⟨_, 0, Fits.eq ⟨rfl, rfl, rfl, rfl, trivial⟩, (B.pick [1, 2, 0, 3, 4] rfl rfl), (Int.le_refl _), (by omega)⟩
  · clear B; rintro _ w4 ⟨ρ5, py, rfl, B, h0py, h1py⟩
    refine W_seq ?_
    refine W_region (by kernel_rfl) ?_
    by_cases c6 : py < hi
    · refine s_y (v := .bool true) rfl (y_lss rfl rfl (decide_eq_true c6)) ?_
      refine s_nil ?_
      refine W_seq ?_
      refine W_if_t (by decide) rfl ?_
      refine W_skip ?_
      refine W_seq ?_
      refine W_block ?_
      refine W_seq ?_
      refine W_region (by kernel_rfl) ?_
      refine s_y (v := .int .i64 py) rfl (y_move rfl) ?_
      refine s_y (v := .int .i64 py) rfl (y_assign rfl) ?_
      refine s_nil ?_
      refine W_seq ?_
      refine W_region (by kernel_rfl) ?_
      refine s_y (v := .pointer (some ⟨b1, 0, none⟩)) rfl (y_fld (o := 0) T130.fld_26_0_0 rfl) ?_
      refine s_y (v := .int .i64 wd) rfl (y_load T130.one_2 rfl ((B.b 2 rfl).cell (j := 0) rfl)) ?_
      refine s_y (v := .int .i64 0) rfl (y_move rfl) ?_
      refine s_nil ?_
      refine W_block ?_
      refine W_loop (fun ρ' w' => ∃ (ρ1 : Env) (px : Int), ρ' = updL ρ1 [(1, .pointer (some ⟨b, 0, none⟩)), (2, .pointer (some ⟨b1, 0, none⟩)), (4, .int .i64 py), (8, .int .i64 hi), (9, .int .i64 py), (10, .bool true), (11, .int .i64 py), (12, .pointer (some ⟨b1, 0, none⟩)), (13, .int .i64 wd), (14, .int .i64 px)] ∧ Bu w (hasW [.ow kF afx nfx cfx 34 Xfx, .ow kF afy nfy cfy 34 Xfy]) w' [.ow kF afx nfx cfx 34 (mix (wd * hi) (wd * py + px) (fun i => hxF wd hi wr Xfe Xfx (i % wd) (i / wd)) Xfx), .ow kF afy nfy cfy 34 (mix (wd * hi) (wd * py + px) (fun i => hyF wd hi wr Xfe Xfy (i % wd) (i / wd)) Xfy), .blk b1 [.int .i64 wd, .int .i64 hi, .bool wr, .slice asp nsp csp, .slice als nls cls] 26, .rd kF afe nfe Xfe, .sl (some ⟨b, 0, none⟩) [.slice afe nfe cfe, .slice afx nfx cfx, .slice afy nfy cfy]] ∧ (0 ≤ px) ∧ (px ≤ wd)) (fun ρ' _ => (wd - iv (ρ' 14)).toNat) ?_ ?_
      · replace B : Bu w (hasW [.ow kF afx nfx cfx 34 Xfx, .ow kF afy nfy cfy 34 Xfy]) w4 [.ow kF afx nfx cfx 34 (mix (wd * hi) (wd * py + 0) (fun i => hxF wd hi wr Xfe Xfx (i % wd) (i / wd)) Xfx), .ow kF afy nfy cfy 34 (mix (wd * hi) (wd * py) (fun i => hyF wd hi wr Xfe Xfy (i % wd) (i / wd)) Xfy), .blk b1 [.int .i64 wd, .int .i64 hi, .bool wr, .slice asp nsp csp, .slice als nls cls] 26, .rd kF afe nfe Xfe, .sl (some ⟨b, 0, none⟩) [.slice afe nfe cfe, .slice afx nfx cfx, .slice afy nfy cfy]] := B.castX 0 rfl rfl (congrArg (fun q => mix (wd * hi) q (fun i => hxF wd hi wr Xfe Xfx (i % wd) (i / wd)) _) (Int.add_zero _).symm)
        replace B : Bu w (hasW [.ow kF afx nfx cfx 34 Xfx, .ow kF afy nfy cfy 34 Xfy]) w4 [.ow kF afx nfx cfx 34 (mix (wd * hi) (wd * py + 0) (fun i => hxF wd hi wr Xfe Xfx (i % wd) (i / wd)) Xfx), .ow kF afy nfy cfy 34 (mix (wd * hi) (wd * py + 0) (fun i => hyF wd hi wr Xfe Xfy (i % wd) (i / wd)) Xfy), .blk b1 [.int .i64 wd, .int .i64 hi, .bool wr, .slice asp nsp csp, .slice als nls cls] 26, .rd kF afe nfe Xfe, .sl (some ⟨b, 0, none⟩) [.slice afe nfe cfe, .slice afx nfx cfx, .slice afy nfy cfy]] := B.castX 1 rfl rfl (congrArg (fun q => mix (wd * hi) q (fun i => hyF wd hi wr Xfe Xfy (i % wd) (i / wd)) _) (Int.add_zero _).symm)
        exact ⟨_, 0, Fits.eq ⟨rfl, rfl, rfl, rfl, rfl, rfl, rfl, rfl, rfl, rfl, trivial⟩, B, (Int.le_refl _), (by omega)⟩
      · clear B; rintro _ w7 ⟨ρ8, px, rfl, B, h0px, h1px⟩
        refine W_seq ?_
        refine W_region (by kernel_rfl) ?_
        by_cases c9 : px < wd
        · refine s_y (v := .bool true) rfl (y_lss rfl rfl (decide_eq_true c9)) ?_
          refine s_nil ?_
          refine W_seq ?_
          refine W_if_t (by decide) rfl ?_
          refine W_skip ?_
          refine W_seq ?_
          refine W_block ?_
          refine W_seq ?_
          refine W_region (by kernel_rfl) ?_
          refine s_y (v := .int .i64 px) rfl (y_move rfl) ?_
          refine s_y (v := .int .i64 px) rfl (y_assign rfl) ?_
          refine s_nil ?_
          refine W_seq ?_
          refine W_region (by kernel_rfl) ?_
          refine s_y (v := .agg #[.int .i64 wd, .int .i64 hi, .bool wr, .slice asp nsp csp, .slice als nls cls]) rfl (y_loadn (b := b1) (o := 0) (vs := [.int .i64 wd, .int .i64 hi, .bool wr, .slice asp nsp csp, .slice als nls cls]) T130.agg_26_5 rfl rfl ((B.b 2 rfl).cells (o := 0) rfl)) ?_
          refine s_y (v := .int .i64 px) rfl (y_move rfl) ?_
          refine s_y (v := .int .i64 py) rfl (y_move rfl) ?_
          refine s_k rfl (k_call T130.fn_69 (c_i_at (by omega) (by omega) (by omega) (by omega) (by omega) (by omega) (by omega) (by omega)) rfl ?_)
          rintro _ w10 ⟨rfl, e11⟩
          replace B := B.ext0 e11
          clear e11
          have hat12 := atI_b (wd := wd) (hi := hi) (x := px) (y := py) (by omega) (by omega)
          refine s_y (v := .int .i64 (atI wd hi px py)) rfl (y_assign rfl) ?_
          refine s_nil ?_
          refine W_seq ?_
          refine W_seq ?_
          refine W_region (by kernel_rfl) ?_
          refine s_y (v := .pointer (some ⟨b1, 2, none⟩)) rfl (y_fld (o := 0) T130.fld_26_2_2 rfl) ?_
          refine s_y (v := .bool wr) rfl (y_load T130.one_4 rfl ((B.b 2 rfl).cell (j := 2) rfl)) ?_
          refine s_y (v := .bool wr) rfl (y_move rfl) ?_
          cases wr
          · refine s_y (v := .int .i64 py) rfl (y_move rfl) ?_
            refine s_y (v := .pointer (some ⟨b1, 1, none⟩)) rfl (y_fld (o := 0) T130.fld_26_1_1 rfl) ?_
            refine s_y (v := .int .i64 hi) rfl (y_load T130.one_2 rfl ((B.b 2 rfl).cell (j := 1) rfl)) ?_
            refine s_y (v := .int .i64 (hi - 1)) rfl (y_sub rfl rfl rfl (by omega)) ?_
            by_cases c13 : py < (hi - 1)
            · refine s_y (v := .bool true) rfl (y_lss rfl rfl (decide_eq_true c13)) ?_
              refine s_y (v := .bool true) rfl (y_pick_f rfl rfl) ?_
              refine s_nil ?_
              refine W_if_t (by decide) rfl ?_
              have B0_18 := B
              refine W_draw (no) T130.mx (by kernel_rfl) (fun w16 e17 => ?_)
              have R19 := Ext.refl (no) w10
              replace R19 := R19.trans (Ext0.any e17)
              replace B := B.ext0 e17
              clear e17
              refine m_y (v := .pointer (some ⟨b, 0, none⟩)) 0 rfl (by kernel_rfl) rfl rfl (fun w' e' => y_move rfl) ?_
              refine m_y (v := .pointer (some ⟨b, 0, none⟩)) 1 rfl (by kernel_rfl) rfl rfl (fun w' e' => y_nil rfl) ?_
              refine m_y (v := .pointer (some ⟨b, 0 + 1, none⟩)) 2 rfl (by kernel_rfl) rfl rfl (fun w' e' => y_fld (o := 0 + 0) T130.fld_30_1_1 rfl) ?_
              refine m_y (v := .slice afx nfx cfx) 3 rfl (by kernel_rfl) rfl rfl (fun w' e' => y_load T130.one_24 rfl (((B0_18.s 4 rfl).ext0 e').cell (j := 1) rfl)) ?_
              refine m_y (v := .int .i64 (atI wd hi px py)) 4 rfl (by kernel_rfl) rfl rfl (fun w' e' => y_move rfl) ?_
              refine m_y (v := .pointer (some ⟨b, 0, none⟩)) 5 rfl (by kernel_rfl) rfl rfl (fun w' e' => y_move rfl) ?_
              refine m_y (v := .pointer (some ⟨b, 0, none⟩)) 6 rfl (by kernel_rfl) rfl rfl (fun w' e' => y_nil rfl) ?_
              refine m_y (v := .pointer (some ⟨b, 0 + 1, none⟩)) 7 rfl (by kernel_rfl) rfl rfl (fun w' e' => y_fld (o := 0 + 0) T130.fld_30_1_1 rfl) ?_
              refine m_y (v := .slice afx nfx cfx) 8 rfl (by kernel_rfl) rfl rfl (fun w' e' => y_load T130.one_24 rfl (((B0_18.s 4 rfl).ext0 e').cell (j := 1) rfl)) ?_
              refine m_y (v := .int .i64 (atI wd hi px py)) 9 rfl (by kernel_rfl) rfl rfl (fun w' e' => y_move rfl) ?_
              refine m_y (v := .pointer (some (sat afx ((atI wd hi px py).toNat * 1)))) 10 rfl (by kernel_rfl) rfl rfl (fun w' e' => y_idx T130.sl_24_34_1 rfl rfl ((B.o 0 rfl).rd.addr (by omega)) (by omega) (by omega)) ?_
              obtain ⟨r21, hr22, hR20⟩ := Rd.atF (B0_18.o 0 rfl).rd (atI wd hi px py) (by omega) (by omega)
              refine m_y (v := .float .f32 r21) 11 rfl (by kernel_rfl) rfl rfl (fun w' e' => y_load T130.one_34 rfl ((hR20.ext0 e').cell (i := 0) rfl)) ?_
              refine m_y (v := .pointer (some ⟨b, 0, none⟩)) 12 rfl (by kernel_rfl) rfl rfl (fun w' e' => y_move rfl) ?_
              refine m_y (v := .pointer (some ⟨b, 0, none⟩)) 13 rfl (by kernel_rfl) rfl rfl (fun w' e' => y_nil rfl) ?_
              refine m_y (v := .pointer (some ⟨b, 0, none⟩)) 14 rfl (by kernel_rfl) rfl rfl (fun w' e' => y_fld (o := 0 + 0) T130.fld_30_0_0 rfl) ?_
              refine m_y (v := .slice afe nfe cfe) 15 rfl (by kernel_rfl) rfl rfl (fun w' e' => y_load T130.one_24 rfl (((B0_18.s 4 rfl).ext0 e').cell (j := 0) rfl)) ?_
              refine m_y (v := .agg #[.int .i64 wd, .int .i64 hi, .bool false, .slice asp nsp csp, .slice als nls cls]) 16 rfl (by kernel_rfl) rfl rfl (fun w' e' => y_loadn (b := b1) (o := 0) (vs := [.int .i64 wd, .int .i64 hi, .bool false, .slice asp nsp csp, .slice als nls cls]) T130.agg_26_5 rfl rfl (((B0_18.b 2 rfl).ext0 e').cells (o := 0) rfl)) ?_
              refine m_y (v := .int .i64 px) 17 rfl (by kernel_rfl) rfl rfl (fun w' e' => y_move rfl) ?_
              refine m_y (v := .int .i64 py) 18 rfl (by kernel_rfl) rfl rfl (fun w' e' => y_move rfl) ?_
              refine m_y (v := .int .i64 (py + 1)) 19 rfl (by kernel_rfl) rfl rfl (fun w' e' => y_add rfl rfl rfl (by omega)) ?_
              refine m_y (v := .pointer (some ⟨b, 0, none⟩)) 23 rfl (by kernel_rfl) rfl rfl (fun w' e' => y_move rfl) ?_
              refine m_y (v := .pointer (some ⟨b, 0, none⟩)) 24 rfl (by kernel_rfl) rfl rfl (fun w' e' => y_nil rfl) ?_
              refine m_y (v := .pointer (some ⟨b, 0, none⟩)) 25 rfl (by kernel_rfl) rfl rfl (fun w' e' => y_fld (o := 0 + 0) T130.fld_30_0_0 rfl) ?_
              refine m_y (v := .slice afe nfe cfe) 26 rfl (by kernel_rfl) rfl rfl (fun w' e' => y_load T130.one_24 rfl (((B0_18.s 4 rfl).ext0 e').cell (j := 0) rfl)) ?_
              refine m_y (v := .int .i64 (atI wd hi px py)) 27 rfl (by kernel_rfl) rfl rfl (fun w' e' => y_move rfl) ?_
              refine m_y (v := .pointer (some (sat afe ((atI wd hi px py).toNat * 1)))) 28 rfl (by kernel_rfl) rfl rfl (fun w' e' => y_idx T130.sl_24_34_1 rfl rfl ((B.r 3 rfl).addr (by omega)) (by omega) (by omega)) ?_
              obtain ⟨r24, hr25, hR23⟩ := Rd.atF (B0_18.r 3 rfl) (atI wd hi px py) (by omega) (by omega)
              refine m_y (v := .float .f32 r24) 29 rfl (by kernel_rfl) rfl rfl (fun w' e' => y_load T130.one_34 rfl ((hR23.ext0 e').cell (i := 0) rfl)) ?_
              refine m_k 20 [21, 22, 30, 31, 32, 33, 34] rfl (by kernel_rfl) rfl rfl (fun w26 e27 => ?_)
              replace R19 := R19.trans (Ext0.any e27)
              replace B := B.ext0 e27
              clear e27
              refine k_call T130.fn_69 (c_i_at (by omega) (by omega) (by omega) (by omega) (by omega) (by omega) (by omega) (by omega)) rfl ?_
              rintro _ w28 ⟨rfl, e29⟩
              replace R19 := R19.trans (Ext0.any e29)
              replace B := B.ext0 e29
              clear e29
              refine ⟨fun _ => R19, ?_⟩
              have hat30 := atI_b (wd := wd) (hi := hi) (x := px) (y := py + 1) (by omega) (by omega)
              refine m_y (v := .pointer (some (sat afe ((atI wd hi px (py + 1)).toNat * 1)))) 21 rfl (by kernel_rfl) rfl rfl (fun w' e' => y_idx T130.sl_24_34_1 rfl rfl ((B.r 3 rfl).addr (by omega)) (by omega) (by omega)) ?_
              obtain ⟨r32, hr33, hR31⟩ := Rd.atF (B0_18.r 3 rfl) (atI wd hi px (py + 1)) (by omega) (by omega)
              refine m_y (v := .float .f32 r32) 22 rfl (by kernel_rfl) rfl rfl (fun w' e' => y_load T130.one_34 rfl ((hR31.ext0 e').cell (i := 0) rfl)) ?_
              refine m_n 30 [31, 32, 33, 34] rfl (by kernel_rfl) rfl rfl (fun w' e' => n_arith (by decide) rfl rfl) ?_
              rintro _ ⟨r35, rfl, hr36⟩
              have hc39 := fopC hr36 hr33 hr25
              refine m_n 31 [32, 33, 34] rfl (by kernel_rfl) rfl rfl (fun w' e' => n_arith (by decide) rfl rfl) ?_
              rintro _ ⟨r41, rfl, hr42⟩
              have hc45 := fopC hr42 (cnLit (k := .f32) (t := 1056964608) (by kernel_rfl) (by kernel_rfl)) hc39
              refine m_n 32 [33, 34] rfl (by kernel_rfl) rfl rfl (fun w' e' => n_arith (by decide) rfl rfl) ?_
              rintro _ ⟨r47, rfl, hr48⟩
              have hc51 := fopC hr48 hr22 hc45
              refine m_y (v := .pointer (some (sat afx ((atI wd hi px py).toNat * 1)))) 33 rfl (by kernel_rfl) rfl rfl (fun w' e' => y_idx T130.sl_24_34_1 rfl rfl ((B.o 0 rfl).rd.addr (by omega)) (by omega) (by omega)) ?_
              refine m_kt 34 [] rfl (by kernel_rfl) rfl rfl (by kernel_rfl) (fun w54 e55 => ?_)
              replace R19 := R19.trans (Ext0.any e55)
              replace B := B.ext0 e55
              clear e55
              refine k_stO (k := kF) (i := atI wd hi px py) (j := 0) (x' := fop .sub .f32 (el (mix (wd * hi) (wd * py + px) (fun i => hxF wd hi false Xfe Xfx (i % wd) (i / wd)) Xfx) (atI wd hi px py)) (fop .mul .f32 1056964608 (fop .sub .f32 (el Xfe (atI wd hi px (py + 1))) (el Xfe (atI wd hi px py))))) (new := [.float .f32 r47]) T130.sz_34_1 rfl rfl rfl rfl rfl (by simp [Value.oneCell']) (by decide) (B.o 0 rfl) (by omega) (by omega) (by decide) (by rintro q ⟨_, rfl, _⟩; exact ⟨_, rfl, hc51⟩) (fun w52 hU53 => ?_)
              clear R19
              replace B : Bu w (hasW [.ow kF afx nfx cfx 34 Xfx, .ow kF afy nfy cfy 34 Xfy]) w52 [.ow kF afx nfx cfx 34 (put (mix (wd * hi) (wd * py + px) (fun i => hxF wd hi false Xfe Xfx (i % wd) (i / wd)) Xfx) (atI wd hi px py) (fop .sub .f32 (el (mix (wd * hi) (wd * py + px) (fun i => hxF wd hi false Xfe Xfx (i % wd) (i / wd)) Xfx) (atI wd hi px py)) (fop .mul .f32 1056964608 (fop .sub .f32 (el Xfe (atI wd hi px (py + 1))) (el Xfe (atI wd hi px py)))))), .ow kF afy nfy cfy 34 (mix (wd * hi) (wd * py + px) (fun i => hyF wd hi false Xfe Xfy (i % wd) (i / wd)) Xfy), .blk b1 [.int .i64 wd, .int .i64 hi, .bool false, .slice asp nsp csp, .slice als nls cls] 26, .rd kF afe nfe Xfe, .sl (some ⟨b, 0, none⟩) [.slice afe nfe cfe, .slice afx nfx cfx, .slice afy nfy cfy]] := B.upd [0] rfl hU53
              clear hU53
              refine m_done (by kernel_rfl) (fun w56 e57 => ?_)
              replace B := B.ext0 e57
              clear e57
              clear B0_18
              refine W_seq ?_
              refine W_region (by kernel_rfl) ?_
              refine s_y (v := .pointer (some ⟨b1, 2, none⟩)) rfl (y_fld (o := 0) T130.fld_26_2_2 rfl) ?_
              refine s_y (v := .bool false) rfl (y_load T130.one_4 rfl ((B.b 2 rfl).cell (j := 2) rfl)) ?_
              refine s_y (v := .bool false) rfl (y_move rfl) ?_
              refine s_y (v := .int .i64 px) rfl (y_move rfl) ?_
              refine s_y (v := .pointer (some ⟨b1, 0, none⟩)) rfl (y_fld (o := 0) T130.fld_26_0_0 rfl) ?_
              refine s_y (v := .int .i64 wd) rfl (y_load T130.one_2 rfl ((B.b 2 rfl).cell (j := 0) rfl)) ?_
              refine s_y (v := .int .i64 (wd - 1)) rfl (y_sub rfl rfl rfl (by omega)) ?_
              by_cases c58 : px < (wd - 1)
              · refine s_y (v := .bool true) rfl (y_lss rfl rfl (decide_eq_true c58)) ?_
                refine s_y (v := .bool true) rfl (y_pick_f rfl rfl) ?_
                refine s_nil ?_
                refine W_if_t (by decide) rfl ?_
                have B0_63 := B
                refine W_draw (no) T130.mx (by kernel_rfl) (fun w61 e62 => ?_)
                have R64 := Ext.refl (no) w56
                replace R64 := R64.trans (Ext0.any e62)
                replace B := B.ext0 e62
                clear e62
                refine m_y (v := .pointer (some ⟨b, 0, none⟩)) 0 rfl (by kernel_rfl) rfl rfl (fun w' e' => y_move rfl) ?_
                refine m_y (v := .pointer (some ⟨b, 0, none⟩)) 1 rfl (by kernel_rfl) rfl rfl (fun w' e' => y_nil rfl) ?_
                refine m_y (v := .pointer (some ⟨b, 0 + 2, none⟩)) 2 rfl (by kernel_rfl) rfl rfl (fun w' e' => y_fld (o := 0 + 0) T130.fld_30_2_2 rfl) ?_
                refine m_y (v := .slice afy nfy cfy) 3 rfl (by kernel_rfl) rfl rfl (fun w' e' => y_load T130.one_24 rfl (((B0_63.s 4 rfl).ext0 e').cell (j := 2) rfl)) ?_
                refine m_y (v := .int .i64 (atI wd hi px py)) 4 rfl (by kernel_rfl) rfl rfl (fun w' e' => y_move rfl) ?_
                refine m_y (v := .pointer (some ⟨b, 0, none⟩)) 5 rfl (by kernel_rfl) rfl rfl (fun w' e' => y_move rfl) ?_
                refine m_y (v := .pointer (some ⟨b, 0, none⟩)) 6 rfl (by kernel_rfl) rfl rfl (fun w' e' => y_nil rfl) ?_
                refine m_y (v := .pointer (some ⟨b, 0 + 2, none⟩)) 7 rfl (by kernel_rfl) rfl rfl (fun w' e' => y_fld (o := 0 + 0) T130.fld_30_2_2 rfl) ?_
                refine m_y (v := .slice afy nfy cfy) 8 rfl (by kernel_rfl) rfl rfl (fun w' e' => y_load T130.one_24 rfl (((B0_63.s 4 rfl).ext0 e').cell (j := 2) rfl)) ?_
                refine m_y (v := .int .i64 (atI wd hi px py)) 9 rfl (by kernel_rfl) rfl rfl (fun w' e' => y_move rfl) ?_
                refine m_y (v := .pointer (some (sat afy ((atI wd hi px py).toNat * 1)))) 10 rfl (by kernel_rfl) rfl rfl (fun w' e' => y_idx T130.sl_24_34_1 rfl rfl ((B.o 1 rfl).rd.addr (by omega)) (by omega) (by omega)) ?_
                obtain ⟨r66, hr67, hR65⟩ := Rd.atF (B0_63.o 1 rfl).rd (atI wd hi px py) (by omega) (by omega)
                refine m_y (v := .float .f32 r66) 11 rfl (by kernel_rfl) rfl rfl (fun w' e' => y_load T130.one_34 rfl ((hR65.ext0 e').cell (i := 0) rfl)) ?_
                refine m_y (v := .pointer (some ⟨b, 0, none⟩)) 12 rfl (by kernel_rfl) rfl rfl (fun w' e' => y_move rfl) ?_
                refine m_y (v := .pointer (some ⟨b, 0, none⟩)) 13 rfl (by kernel_rfl) rfl rfl (fun w' e' => y_nil rfl) ?_
                refine m_y (v := .pointer (some ⟨b, 0, none⟩)) 14 rfl (by kernel_rfl) rfl rfl (fun w' e' => y_fld (o := 0 + 0) T130.fld_30_0_0 rfl) ?_
                refine m_y (v := .slice afe nfe cfe) 15 rfl (by kernel_rfl) rfl rfl (fun w' e' => y_load T130.one_24 rfl (((B0_63.s 4 rfl).ext0 e').cell (j := 0) rfl)) ?_
                refine m_y (v := .agg #[.int .i64 wd, .int .i64 hi, .bool false, .slice asp nsp csp, .slice als nls cls]) 16 rfl (by kernel_rfl) rfl rfl (fun w' e' => y_loadn (b := b1) (o := 0) (vs := [.int .i64 wd, .int .i64 hi, .bool false, .slice asp nsp csp, .slice als nls cls]) T130.agg_26_5 rfl rfl (((B0_63.b 2 rfl).ext0 e').cells (o := 0) rfl)) ?_
                refine m_y (v := .int .i64 px) 17 rfl (by kernel_rfl) rfl rfl (fun w' e' => y_move rfl) ?_
                refine m_y (v := .int .i64 (px + 1)) 18 rfl (by kernel_rfl) rfl rfl (fun w' e' => y_add rfl rfl rfl (by omega)) ?_
                refine m_y (v := .int .i64 py) 19 rfl (by kernel_rfl) rfl rfl (fun w' e' => y_move rfl) ?_
                refine m_y (v := .pointer (some ⟨b, 0, none⟩)) 23 rfl (by kernel_rfl) rfl rfl (fun w' e' => y_move rfl) ?_
                refine m_y (v := .pointer (some ⟨b, 0, none⟩)) 24 rfl (by kernel_rfl) rfl rfl (fun w' e' => y_nil rfl) ?_
                refine m_y (v := .pointer (some ⟨b, 0, none⟩)) 25 rfl (by kernel_rfl) rfl rfl (fun w' e' => y_fld (o := 0 + 0) T130.fld_30_0_0 rfl) ?_
                refine m_y (v := .slice afe nfe cfe) 26 rfl (by kernel_rfl) rfl rfl (fun w' e' => y_load T130.one_24 rfl (((B0_63.s 4 rfl).ext0 e').cell (j := 0) rfl)) ?_
                refine m_y (v := .int .i64 (atI wd hi px py)) 27 rfl (by kernel_rfl) rfl rfl (fun w' e' => y_move rfl) ?_
                refine m_y (v := .pointer (some (sat afe ((atI wd hi px py).toNat * 1)))) 28 rfl (by kernel_rfl) rfl rfl (fun w' e' => y_idx T130.sl_24_34_1 rfl rfl ((B.r 3 rfl).addr (by omega)) (by omega) (by omega)) ?_
                obtain ⟨r69, hr70, hR68⟩ := Rd.atF (B0_63.r 3 rfl) (atI wd hi px py) (by omega) (by omega)
                refine m_y (v := .float .f32 r69) 29 rfl (by kernel_rfl) rfl rfl (fun w' e' => y_load T130.one_34 rfl ((hR68.ext0 e').cell (i := 0) rfl)) ?_
                refine m_k 20 [21, 22, 30, 31, 32, 33, 34] rfl (by kernel_rfl) rfl rfl (fun w71 e72 => ?_)
                replace R64 := R64.trans (Ext0.any e72)
                replace B := B.ext0 e72
                clear e72
                refine k_call T130.fn_69 (c_i_at (by omega) (by omega) (by omega) (by omega) (by omega) (by omega) (by omega) (by omega)) rfl ?_
                rintro _ w73 ⟨rfl, e74⟩
                replace R64 := R64.trans (Ext0.any e74)
                replace B := B.ext0 e74
                clear e74
                refine ⟨fun _ => R64, ?_⟩
                have hat75 := atI_b (wd := wd) (hi := hi) (x := px + 1) (y := py) (by omega) (by omega)
                refine m_y (v := .pointer (some (sat afe ((atI wd hi (px + 1) py).toNat * 1)))) 21 rfl (by kernel_rfl) rfl rfl (fun w' e' => y_idx T130.sl_24_34_1 rfl rfl ((B.r 3 rfl).addr (by omega)) (by omega) (by omega)) ?_
                obtain ⟨r77, hr78, hR76⟩ := Rd.atF (B0_63.r 3 rfl) (atI wd hi (px + 1) py) (by omega) (by omega)
                refine m_y (v := .float .f32 r77) 22 rfl (by kernel_rfl) rfl rfl (fun w' e' => y_load T130.one_34 rfl ((hR76.ext0 e').cell (i := 0) rfl)) ?_
                refine m_n 30 [31, 32, 33, 34] rfl (by kernel_rfl) rfl rfl (fun w' e' => n_arith (by decide) rfl rfl) ?_
                rintro _ ⟨r80, rfl, hr81⟩
                have hc84 := fopC hr81 hr78 hr70
                refine m_n 31 [32, 33, 34] rfl (by kernel_rfl) rfl rfl (fun w' e' => n_arith (by decide) rfl rfl) ?_
                rintro _ ⟨r86, rfl, hr87⟩
                have hc90 := fopC hr87 (cnLit (k := .f32) (t := 1056964608) (by kernel_rfl) (by kernel_rfl)) hc84
                refine m_n 32 [33, 34] rfl (by kernel_rfl) rfl rfl (fun w' e' => n_arith (by decide) rfl rfl) ?_
                rintro _ ⟨r92, rfl, hr93⟩
                have hc96 := fopC hr93 hr67 hc90
                refine m_y (v := .pointer (some (sat afy ((atI wd hi px py).toNat * 1)))) 33 rfl (by kernel_rfl) rfl rfl (fun w' e' => y_idx T130.sl_24_34_1 rfl rfl ((B.o 1 rfl).rd.addr (by omega)) (by omega) (by omega)) ?_
                refine m_kt 34 [] rfl (by kernel_rfl) rfl rfl (by kernel_rfl) (fun w99 e100 => ?_)
                replace R64 := R64.trans (Ext0.any e100)
                replace B := B.ext0 e100
                clear e100
                refine k_stO (k := kF) (i := atI wd hi px py) (j := 0) (x' := fop .add .f32 (el (mix (wd * hi) (wd * py + px) (fun i => hyF wd hi false Xfe Xfy (i % wd) (i / wd)) Xfy) (atI wd hi px py)) (fop .mul .f32 1056964608 (fop .sub .f32 (el Xfe (atI wd hi (px + 1) py)) (el Xfe (atI wd hi px py))))) (new := [.float .f32 r92]) T130.sz_34_1 rfl rfl rfl rfl rfl (by simp [Value.oneCell']) (by decide) (B.o 1 rfl) (by omega) (by omega) (by decide) (by rintro q ⟨_, rfl, _⟩; exact ⟨_, rfl, hc96⟩) (fun w97 hU98 => ?_)
                clear R64
                replace B : Bu w (hasW [.ow kF afx nfx cfx 34 Xfx, .ow kF afy nfy cfy 34 Xfy]) w97 [.ow kF afy nfy cfy 34 (put (mix (wd * hi) (wd * py + px) (fun i => hyF wd hi false Xfe Xfy (i % wd) (i / wd)) Xfy) (atI wd hi px py) (fop .add .f32 (el (mix (wd * hi) (wd * py + px) (fun i => hyF wd hi false Xfe Xfy (i % wd) (i / wd)) Xfy) (atI wd hi px py)) (fop .mul .f32 1056964608 (fop .sub .f32 (el Xfe (atI wd hi (px + 1) py)) (el Xfe (atI wd hi px py)))))), .ow kF afx nfx cfx 34 (put (mix (wd * hi) (wd * py + px) (fun i => hxF wd hi false Xfe Xfx (i % wd) (i / wd)) Xfx) (atI wd hi px py) (fop .sub .f32 (el (mix (wd * hi) (wd * py + px) (fun i => hxF wd hi false Xfe Xfx (i % wd) (i / wd)) Xfx) (atI wd hi px py)) (fop .mul .f32 1056964608 (fop .sub .f32 (el Xfe (atI wd hi px (py + 1))) (el Xfe (atI wd hi px py)))))), .blk b1 [.int .i64 wd, .int .i64 hi, .bool false, .slice asp nsp csp, .slice als nls cls] 26, .rd kF afe nfe Xfe, .sl (some ⟨b, 0, none⟩) [.slice afe nfe cfe, .slice afx nfx cfx, .slice afy nfy cfy]] := B.upd [1] rfl hU98
                clear hU98
                refine m_done (by kernel_rfl) (fun w101 e102 => ?_)
                replace B := B.ext0 e102
                clear e102
                clear B0_63
                refine W_region (by kernel_rfl) ?_
                refine s_y (v := .int .i64 (px + 1)) rfl (y_add rfl rfl rfl (by omega)) ?_
                refine s_y (v := .int .i64 (px + 1)) rfl (y_move rfl) ?_
                refine s_nil ?_
                have hcx : (false || decide (py < hi - 1)) = true := by simp only [(decide_eq_true c6), (decide_eq_true c9), (decide_eq_true c13), (decide_eq_true c58), Bool.and_true, Bool.true_and, Bool.and_false, Bool.false_and, Bool.not_true, Bool.not_false, Bool.or_true, Bool.true_or, Bool.or_false, Bool.false_or]
                replace B : Bu w (hasW [.ow kF afx nfx cfx 34 Xfx, .ow kF afy nfy cfy 34 Xfy]) w101 [.ow kF afy nfy cfy 34 (put (mix (wd * hi) (wd * py + px) (fun i => hyF wd hi false Xfe Xfy (i % wd) (i / wd)) Xfy) (atI wd hi px py) (fop .add .f32 (el (mix (wd * hi) (wd * py + px) (fun i => hyF wd hi false Xfe Xfy (i % wd) (i / wd)) Xfy) (atI wd hi px py)) (fop .mul .f32 1056964608 (fop .sub .f32 (el Xfe (atI wd hi (px + 1) py)) (el Xfe (atI wd hi px py)))))), .ow kF afx nfx cfx 34 (mix (wd * hi) (wd * py + (px + 1)) (fun i => hxF wd hi false Xfe Xfx (i % wd) (i / wd)) Xfx), .blk b1 [.int .i64 wd, .int .i64 hi, .bool false, .slice asp nsp csp, .slice als nls cls] 26, .rd kF afe nfe Xfe, .sl (some ⟨b, 0, none⟩) [.slice afe nfe cfe, .slice afx nfx cfx, .slice afy nfy cfy]] := B.castX 1 rfl rfl (mix_cell (G := hxF wd hi false Xfe Xfx) rfl (by omega) (by omega) (by omega) (by omega) rfl (hx_yes rfl (by omega) (by omega) (by omega) (by omega) hcx))
                have hcy : (false || decide (px < wd - 1)) = true := by simp only [(decide_eq_true c6), (decide_eq_true c9), (decide_eq_true c13), (decide_eq_true c58), Bool.and_true, Bool.true_and, Bool.and_false, Bool.false_and, Bool.not_true, Bool.not_false, Bool.or_true, Bool.true_or, Bool.or_false, Bool.false_or]
                replace B : Bu w (hasW [.ow kF afx nfx cfx 34 Xfx, .ow kF afy nfy cfy 34 Xfy]) w101 [.ow kF afy nfy cfy 34 (mix (wd * hi) (wd * py + (px + 1)) (fun i => hyF wd hi false Xfe Xfy (i % wd) (i / wd)) Xfy), .ow kF afx nfx cfx 34 (mix (wd * hi) (wd * py + (px + 1)) (fun i => hxF wd hi false Xfe Xfx (i % wd) (i / wd)) Xfx), .blk b1 [.int .i64 wd, .int .i64 hi, .bool false, .slice asp nsp csp, .slice als nls cls] 26, .rd kF afe nfe Xfe, .sl (some ⟨b, 0, none⟩) [.slice afe nfe cfe, .slice afx nfx cfx, .slice afy nfy cfy]] := B.castX 0 rfl rfl (mix_cell (G := hyF wd hi false Xfe Xfy) rfl (by omega) (by omega) (by omega) (by omega) rfl (hy_yes rfl (by omega) (by omega) (by omega) (by omega) hcy))
                refine ⟨⟨_, px + 1, Fits.eq ⟨rfl, rfl, rfl, rfl, rfl, rfl, rfl, rfl, rfl, rfl, trivial⟩, (B.pick [1, 0, 2, 3, 4] rfl rfl), (by omega), (by omega)⟩, ?_⟩
                show (wd - (px + 1)).toNat < (wd - px).toNat
                omega
              · refine s_y (v := .bool false) rfl (y_lss rfl rfl (decide_eq_false c58)) ?_
                refine s_y (v := .bool false) rfl (y_pick_f rfl rfl) ?_
                refine s_nil ?_
                refine W_if_f (by decide) rfl ?_
                refine W_skip ?_
                refine W_region (by kernel_rfl) ?_
                refine s_y (v := .int .i64 (px + 1)) rfl (y_add rfl rfl rfl (by omega)) ?_
                refine s_y (v := .int .i64 (px + 1)) rfl (y_move rfl) ?_
                refine s_nil ?_
                have hcx : (false || decide (py < hi - 1)) = true := by simp only [(decide_eq_true c6), (decide_eq_true c9), (decide_eq_true c13), (decide_eq_false c58), Bool.and_true, Bool.true_and, Bool.and_false, Bool.false_and, Bool.not_true, Bool.not_false, Bool.or_true, Bool.true_or, Bool.or_false, Bool.false_or]
                replace B : Bu w (hasW [.ow kF afx nfx cfx 34 Xfx, .ow kF afy nfy cfy 34 Xfy]) w56 [.ow kF afx nfx cfx 34 (mix (wd * hi) (wd * py + (px + 1)) (fun i => hxF wd hi false Xfe Xfx (i % wd) (i / wd)) Xfx), .ow kF afy nfy cfy 34 (mix (wd * hi) (wd * py + px) (fun i => hyF wd hi false Xfe Xfy (i % wd) (i / wd)) Xfy), .blk b1 [.int .i64 wd, .int .i64 hi, .bool false, .slice asp nsp csp, .slice als nls cls] 26, .rd kF afe nfe Xfe, .sl (some ⟨b, 0, none⟩) [.slice afe nfe cfe, .slice afx nfx cfx, .slice afy nfy cfy]] := B.castX 0 rfl rfl (mix_cell (G := hxF wd hi false Xfe Xfx) rfl (by omega) (by omega) (by omega) (by omega) rfl (hx_yes rfl (by omega) (by omega) (by omega) (by omega) hcx))
                have hcy : (false || decide (px < wd - 1)) = false := by simp only [(decide_eq_true c6), (decide_eq_true c9), (decide_eq_true c13), (decide_eq_false c58), Bool.and_true, Bool.true_and, Bool.and_false, Bool.false_and, Bool.not_true, Bool.not_false, Bool.or_true, Bool.true_or, Bool.or_false, Bool.false_or]
                replace B : Bu w (hasW [.ow kF afx nfx cfx 34 Xfx, .ow kF afy nfy cfy 34 Xfy]) w56 [.ow kF afx nfx cfx 34 (mix (wd * hi) (wd * py + (px + 1)) (fun i => hxF wd hi false Xfe Xfx (i % wd) (i / wd)) Xfx), .ow kF afy nfy cfy 34 (mix (wd * hi) (wd * py + (px + 1)) (fun i => hyF wd hi false Xfe Xfy (i % wd) (i / wd)) Xfy), .blk b1 [.int .i64 wd, .int .i64 hi, .bool false, .slice asp nsp csp, .slice als nls cls] 26, .rd kF afe nfe Xfe, .sl (some ⟨b, 0, none⟩) [.slice afe nfe cfe, .slice afx nfx cfx, .slice afy nfy cfy]] := B.castX 1 rfl rfl (mix_same (G := hyF wd hi false Xfe Xfy) (by omega) (by omega) (by omega) (by omega) (hy_no hcy))
                refine ⟨⟨_, px + 1, Fits.eq ⟨rfl, rfl, rfl, rfl, rfl, rfl, rfl, rfl, rfl, rfl, trivial⟩, B, (by omega), (by omega)⟩, ?_⟩
                show (wd - (px + 1)).toNat < (wd - px).toNat
                omega
            · refine s_y (v := .bool false) rfl (y_lss rfl rfl (decide_eq_false c13)) ?_
              refine s_y (v := .bool false) rfl (y_pick_f rfl rfl) ?_
              refine s_nil ?_
              refine W_if_f (by decide) rfl ?_
              refine W_skip ?_
              refine W_seq ?_
              refine W_region (by kernel_rfl) ?_
              refine s_y (v := .pointer (some ⟨b1, 2, none⟩)) rfl (y_fld (o := 0) T130.fld_26_2_2 rfl) ?_
              refine s_y (v := .bool false) rfl (y_load T130.one_4 rfl ((B.b 2 rfl).cell (j := 2) rfl)) ?_
              refine s_y (v := .bool false) rfl (y_move rfl) ?_
              refine s_y (v := .int .i64 px) rfl (y_move rfl) ?_
              refine s_y (v := .pointer (some ⟨b1, 0, none⟩)) rfl (y_fld (o := 0) T130.fld_26_0_0 rfl) ?_
              refine s_y (v := .int .i64 wd) rfl (y_load T130.one_2 rfl ((B.b 2 rfl).cell (j := 0) rfl)) ?_
              refine s_y (v := .int .i64 (wd - 1)) rfl (y_sub rfl rfl rfl (by omega)) ?_
              by_cases c103 : px < (wd - 1)
              · refine s_y (v := .bool true) rfl (y_lss rfl rfl (decide_eq_true c103)) ?_
                refine s_y (v := .bool true) rfl (y_pick_f rfl rfl) ?_
                refine s_nil ?_
                refine W_if_t (by decide) rfl ?_
                have B0_108 := B
                refine W_draw (no) T130.mx (by kernel_rfl) (fun w106 e107 => ?_)
                have R109 := Ext.refl (no) w10
                replace R109 := R109.trans (Ext0.any e107)
                replace B := B.ext0 e107
                clear e107
                refine m_y (v := .pointer (some ⟨b, 0, none⟩)) 0 rfl (by kernel_rfl) rfl rfl (fun w' e' => y_move rfl) ?_
                refine m_y (v := .pointer (some ⟨b, 0, none⟩)) 1 rfl (by kernel_rfl) rfl rfl (fun w' e' => y_nil rfl) ?_
                refine m_y (v := .pointer (some ⟨b, 0 + 2, none⟩)) 2 rfl (by kernel_rfl) rfl rfl (fun w' e' => y_fld (o := 0 + 0) T130.fld_30_2_2 rfl) ?_
                refine m_y (v := .slice afy nfy cfy) 3 rfl (by kernel_rfl) rfl rfl (fun w' e' => y_load T130.one_24 rfl (((B0_108.s 4 rfl).ext0 e').cell (j := 2) rfl)) ?_
                refine m_y (v := .int .i64 (atI wd hi px py)) 4 rfl (by kernel_rfl) rfl rfl (fun w' e' => y_move rfl) ?_
                refine m_y (v := .pointer (some ⟨b, 0, none⟩)) 5 rfl (by kernel_rfl) rfl rfl (fun w' e' => y_move rfl) ?_
                refine m_y (v := .pointer (some ⟨b, 0, none⟩)) 6 rfl (by kernel_rfl) rfl rfl (fun w' e' => y_nil rfl) ?_
                refine m_y (v := .pointer (some ⟨b, 0 + 2, none⟩)) 7 rfl (by kernel_rfl) rfl rfl (fun w' e' => y_fld (o := 0 + 0) T130.fld_30_2_2 rfl) ?_
                refine m_y (v := .slice afy nfy cfy) 8 rfl (by kernel_rfl) rfl rfl (fun w' e' => y_load T130.one_24 rfl (((B0_108.s 4 rfl).ext0 e').cell (j := 2) rfl)) ?_
                refine m_y (v := .int .i64 (atI wd hi px py)) 9 rfl (by kernel_rfl) rfl rfl (fun w' e' => y_move rfl) ?_
                refine m_y (v := .pointer (some (sat afy ((atI wd hi px py).toNat * 1)))) 10 rfl (by kernel_rfl) rfl rfl (fun w' e' => y_idx T130.sl_24_34_1 rfl rfl ((B.o 1 rfl).rd.addr (by omega)) (by omega) (by omega)) ?_
                obtain ⟨r111, hr112, hR110⟩ := Rd.atF (B0_108.o 1 rfl).rd (atI wd hi px py) (by omega) (by omega)
                refine m_y (v := .float .f32 r111) 11 rfl (by kernel_rfl) rfl rfl (fun w' e' => y_load T130.one_34 rfl ((hR110.ext0 e').cell (i := 0) rfl)) ?_
                refine m_y (v := .pointer (some ⟨b, 0, none⟩)) 12 rfl (by kernel_rfl) rfl rfl (fun w' e' => y_move rfl) ?_
                refine m_y (v := .pointer (some ⟨b, 0, none⟩)) 13 rfl (by kernel_rfl) rfl rfl (fun w' e' => y_nil rfl) ?_
                refine m_y (v := .pointer (some ⟨b, 0, none⟩)) 14 rfl (by kernel_rfl) rfl rfl (fun w' e' => y_fld (o := 0 + 0) T130.fld_30_0_0 rfl) ?_
                refine m_y (v := .slice afe nfe cfe) 15 rfl (by kernel_rfl) rfl rfl (fun w' e' => y_load T130.one_24 rfl (((B0_108.s 4 rfl).ext0 e').cell (j := 0) rfl)) ?_
                refine m_y (v := .agg #[.int .i64 wd, .int .i64 hi, .bool false, .slice asp nsp csp, .slice als nls cls]) 16 rfl (by kernel_rfl) rfl rfl (fun w' e' => y_loadn (b := b1) (o := 0) (vs := [.int .i64 wd, .int .i64 hi, .bool false, .slice asp nsp csp, .slice als nls cls]) T130.agg_26_5 rfl rfl (((B0_108.b 2 rfl).ext0 e').cells (o := 0) rfl)) ?_
                refine m_y (v := .int .i64 px) 17 rfl (by kernel_rfl) rfl rfl (fun w' e' => y_move rfl) ?_
                refine m_y (v := .int .i64 (px + 1)) 18 rfl (by kernel_rfl) rfl rfl (fun w' e' => y_add rfl rfl rfl (by omega)) ?_
                refine m_y (v := .int .i64 py) 19 rfl (by kernel_rfl) rfl rfl (fun w' e' => y_move rfl) ?_
                refine m_y (v := .pointer (some ⟨b, 0, none⟩)) 23 rfl (by kernel_rfl) rfl rfl (fun w' e' => y_move rfl) ?_
                refine m_y (v := .pointer (some ⟨b, 0, none⟩)) 24 rfl (by kernel_rfl) rfl rfl (fun w' e' => y_nil rfl) ?_
                refine m_y (v := .pointer (some ⟨b, 0, none⟩)) 25 rfl (by kernel_rfl) rfl rfl (fun w' e' => y_fld (o := 0 + 0) T130.fld_30_0_0 rfl) ?_
                refine m_y (v := .slice afe nfe cfe) 26 rfl (by kernel_rfl) rfl rfl (fun w' e' => y_load T130.one_24 rfl (((B0_108.s 4 rfl).ext0 e').cell (j := 0) rfl)) ?_
                refine m_y (v := .int .i64 (atI wd hi px py)) 27 rfl (by kernel_rfl) rfl rfl (fun w' e' => y_move rfl) ?_
                refine m_y (v := .pointer (some (sat afe ((atI wd hi px py).toNat * 1)))) 28 rfl (by kernel_rfl) rfl rfl (fun w' e' => y_idx T130.sl_24_34_1 rfl rfl ((B.r 3 rfl).addr (by omega)) (by omega) (by omega)) ?_
                obtain ⟨r114, hr115, hR113⟩ := Rd.atF (B0_108.r 3 rfl) (atI wd hi px py) (by omega) (by omega)
                refine m_y (v := .float .f32 r114) 29 rfl (by kernel_rfl) rfl rfl (fun w' e' => y_load T130.one_34 rfl ((hR113.ext0 e').cell (i := 0) rfl)) ?_
                refine m_k 20 [21, 22, 30, 31, 32, 33, 34] rfl (by kernel_rfl) rfl rfl (fun w116 e117 => ?_)
                replace R109 := R109.trans (Ext0.any e117)
                replace B := B.ext0 e117
                clear e117
                refine k_call T130.fn_69 (c_i_at (by omega) (by omega) (by omega) (by omega) (by omega) (by omega) (by omega) (by omega)) rfl ?_
                rintro _ w118 ⟨rfl, e119⟩
                replace R109 := R109.trans (Ext0.any e119)
                replace B := B.ext0 e119
                clear e119
                refine ⟨fun _ => R109, ?_⟩
                have hat120 := atI_b (wd := wd) (hi := hi) (x := px + 1) (y := py) (by omega) (by omega)
                refine m_y (v := .pointer (some (sat afe ((atI wd hi (px + 1) py).toNat * 1)))) 21 rfl (by kernel_rfl) rfl rfl (fun w' e' => y_idx T130.sl_24_34_1 rfl rfl ((B.r 3 rfl).addr (by omega)) (by omega) (by omega)) ?_
                obtain ⟨r122, hr123, hR121⟩ := Rd.atF (B0_108.r 3 rfl) (atI wd hi (px + 1) py) (by omega) (by omega)
                refine m_y (v := .float .f32 r122) 22 rfl (by kernel_rfl) rfl rfl (fun w' e' => y_load T130.one_34 rfl ((hR121.ext0 e').cell (i := 0) rfl)) ?_
                refine m_n 30 [31, 32, 33, 34] rfl (by kernel_rfl) rfl rfl (fun w' e' => n_arith (by decide) rfl rfl) ?_
                rintro _ ⟨r125, rfl, hr126⟩
                have hc129 := fopC hr126 hr123 hr115
                refine m_n 31 [32, 33, 34] rfl (by kernel_rfl) rfl rfl (fun w' e' => n_arith (by decide) rfl rfl) ?_
                rintro _ ⟨r131, rfl, hr132⟩
                have hc135 := fopC hr132 (cnLit (k := .f32) (t := 1056964608) (by kernel_rfl) (by kernel_rfl)) hc129
                refine m_n 32 [33, 34] rfl (by kernel_rfl) rfl rfl (fun w' e' => n_arith (by decide) rfl rfl) ?_
                rintro _ ⟨r137, rfl, hr138⟩
                have hc141 := fopC hr138 hr112 hc135
                refine m_y (v := .pointer (some (sat afy ((atI wd hi px py).toNat * 1)))) 33 rfl (by kernel_rfl) rfl rfl (fun w' e' => y_idx T130.sl_24_34_1 rfl rfl ((B.o 1 rfl).rd.addr (by omega)) (by omega) (by omega)) ?_
                refine m_kt 34 [] rfl (by kernel_rfl) rfl rfl (by kernel_rfl) (fun w144 e145 => ?_)
                replace R109 := R109.trans (Ext0.any e145)
                replace B := B.ext0 e145
                clear e145
                refine k_stO (k := kF) (i := atI wd hi px py) (j := 0) (x' := fop .add .f32 (el (mix (wd * hi) (wd * py + px) (fun i => hyF wd hi false Xfe Xfy (i % wd) (i / wd)) Xfy) (atI wd hi px py)) (fop .mul .f32 1056964608 (fop .sub .f32 (el Xfe (atI wd hi (px + 1) py)) (el Xfe (atI wd hi px py))))) (new := [.float .f32 r137]) T130.sz_34_1 rfl rfl rfl rfl rfl (by simp [Value.oneCell']) (by decide) (B.o 1 rfl) (by omega) (by omega) (by decide) (by rintro q ⟨_, rfl, _⟩; exact ⟨_, rfl, hc141⟩) (fun w142 hU143 => ?_)
                clear R109
                replace B : Bu w (hasW [.ow kF afx nfx cfx 34 Xfx, .ow kF afy nfy cfy 34 Xfy]) w142 [.ow kF afy nfy cfy 34 (put (mix (wd * hi) (wd * py + px) (fun i => hyF wd hi false Xfe Xfy (i % wd) (i / wd)) Xfy) (atI wd hi px py) (fop .add .f32 (el (mix (wd * hi) (wd * py + px) (fun i => hyF wd hi false Xfe Xfy (i % wd) (i / wd)) Xfy) (atI wd hi px py)) (fop .mul .f32 1056964608 (fop .sub .f32 (el Xfe (atI wd hi (px + 1) py)) (el Xfe (atI wd hi px py)))))), .ow kF afx nfx cfx 34 (mix (wd * hi) (wd * py + px) (fun i => hxF wd hi false Xfe Xfx (i % wd) (i / wd)) Xfx), .blk b1 [.int .i64 wd, .int .i64 hi, .bool false, .slice asp nsp csp, .slice als nls cls] 26, .rd kF afe nfe Xfe, .sl (some ⟨b, 0, none⟩) [.slice afe nfe cfe, .slice afx nfx cfx, .slice afy nfy cfy]] := B.upd [1] rfl hU143
                clear hU143
                refine m_done (by kernel_rfl) (fun w146 e147 => ?_)
                replace B := B.ext0 e147
                clear e147
                clear B0_108
                refine W_region (by kernel_rfl) ?_
                refine s_y (v := .int .i64 (px + 1)) rfl (y_add rfl rfl rfl (by omega)) ?_
                refine s_y (v := .int .i64 (px + 1)) rfl (y_move rfl) ?_
                refine s_nil ?_
                have hcx : (false || decide (py < hi - 1)) = false := by simp only [(decide_eq_true c6), (decide_eq_true c9), (decide_eq_false c13), (decide_eq_true c103), Bool.and_true, Bool.true_and, Bool.and_false, Bool.false_and, Bool.not_true, Bool.not_false, Bool.or_true, Bool.true_or, Bool.or_false, Bool.false_or]
                replace B : Bu w (hasW [.ow kF afx nfx cfx 34 Xfx, .ow kF afy nfy cfy 34 Xfy]) w146 [.ow kF afy nfy cfy 34 (put (mix (wd * hi) (wd * py + px) (fun i => hyF wd hi false Xfe Xfy (i % wd) (i / wd)) Xfy) (atI wd hi px py) (fop .add .f32 (el (mix (wd * hi) (wd * py + px) (fun i => hyF wd hi false Xfe Xfy (i % wd) (i / wd)) Xfy) (atI wd hi px py)) (fop .mul .f32 1056964608 (fop .sub .f32 (el Xfe (atI wd hi (px + 1) py)) (el Xfe (atI wd hi px py)))))), .ow kF afx nfx cfx 34 (mix (wd * hi) (wd * py + (px + 1)) (fun i => hxF wd hi false Xfe Xfx (i % wd) (i / wd)) Xfx), .blk b1 [.int .i64 wd, .int .i64 hi, .bool false, .slice asp nsp csp, .slice als nls cls] 26, .rd kF afe nfe Xfe, .sl (some ⟨b, 0, none⟩) [.slice afe nfe cfe, .slice afx nfx cfx, .slice afy nfy cfy]] := B.castX 1 rfl rfl (mix_same (G := hxF wd hi false Xfe Xfx) (by omega) (by omega) (by omega) (by omega) (hx_no hcx))
                have hcy : (false || decide (px < wd - 1)) = true := by simp only [(decide_eq_true c6), (decide_eq_true c9), (decide_eq_false c13), (decide_eq_true c103), Bool.and_true, Bool.true_and, Bool.and_false, Bool.false_and, Bool.not_true, Bool.not_false, Bool.or_true, Bool.true_or, Bool.or_false, Bool.false_or]
                replace B : Bu w (hasW [.ow kF afx nfx cfx 34 Xfx, .ow kF afy nfy cfy 34 Xfy]) w146 [.ow kF afy nfy cfy 34 (mix (wd * hi) (wd * py + (px + 1)) (fun i => hyF wd hi false Xfe Xfy (i % wd) (i / wd)) Xfy), .ow kF afx nfx cfx 34 (mix (wd * hi) (wd * py + (px + 1)) (fun i => hxF wd hi false Xfe Xfx (i % wd) (i / wd)) Xfx), .blk b1 [.int .i64 wd, .int .i64 hi, .bool false, .slice asp nsp csp, .slice als nls cls] 26, .rd kF afe nfe Xfe, .sl (some ⟨b, 0, none⟩) [.slice afe nfe cfe, .slice afx nfx cfx, .slice afy nfy cfy]] := B.castX 0 rfl rfl (mix_cell (G := hyF wd hi false Xfe Xfy) rfl (by omega) (by omega) (by omega) (by omega) rfl (hy_yes rfl (by omega) (by omega) (by omega) (by omega) hcy))
                refine ⟨⟨_, px + 1, Fits.eq ⟨rfl, rfl, rfl, rfl, rfl, rfl, rfl, rfl, rfl, rfl, trivial⟩, (B.pick [1, 0, 2, 3, 4] rfl rfl), (by omega), (by omega)⟩, ?_⟩
                show (wd - (px + 1)).toNat < (wd - px).toNat
                omega
              · refine s_y (v := .bool false) rfl (y_lss rfl rfl (decide_eq_false c103)) ?_
                refine s_y (v := .bool false) rfl (y_pick_f rfl rfl) ?_
                refine s_nil ?_
                refine W_if_f (by decide) rfl ?_
                refine W_skip ?_
                refine W_region (by kernel_rfl) ?_
                refine s_y (v := .int .i64 (px + 1)) rfl (y_add rfl rfl rfl (by omega)) ?_
                refine s_y (v := .int .i64 (px + 1)) rfl (y_move rfl) ?_
                refine s_nil ?_
                have hcx : (false || decide (py < hi - 1)) = false := by simp only [(decide_eq_true c6), (decide_eq_true c9), (decide_eq_false c13), (decide_eq_false c103), Bool.and_true, Bool.true_and, Bool.and_false, Bool.false_and, Bool.not_true, Bool.not_false, Bool.or_true, Bool.true_or, Bool.or_false, Bool.false_or]
                replace B : Bu w (hasW [.ow kF afx nfx cfx 34 Xfx, .ow kF afy nfy cfy 34 Xfy]) w10 [.ow kF afx nfx cfx 34 (mix (wd * hi) (wd * py + (px + 1)) (fun i => hxF wd hi false Xfe Xfx (i % wd) (i / wd)) Xfx), .ow kF afy nfy cfy 34 (mix (wd * hi) (wd * py + px) (fun i => hyF wd hi false Xfe Xfy (i % wd) (i / wd)) Xfy), .blk b1 [.int .i64 wd, .int .i64 hi, .bool false, .slice asp nsp csp, .slice als nls cls] 26, .rd kF afe nfe Xfe, .sl (some ⟨b, 0, none⟩) [.slice afe nfe cfe, .slice afx nfx cfx, .slice afy nfy cfy]] := B.castX 0 rfl rfl (mix_same (G := hxF wd hi false Xfe Xfx) (by omega) (by omega) (by omega) (by omega) (hx_no hcx))
                have hcy : (false || decide (px < wd - 1)) = false := by simp only [(decide_eq_true c6), (decide_eq_true c9), (decide_eq_false c13), (decide_eq_false c103), Bool.and_true, Bool.true_and, Bool.and_false, Bool.false_and, Bool.not_true, Bool.not_false, Bool.or_true, Bool.true_or, Bool.or_false, Bool.false_or]
                replace B : Bu w (hasW [.ow kF afx nfx cfx 34 Xfx, .ow kF afy nfy cfy 34 Xfy]) w10 [.ow kF afx nfx cfx 34 (mix (wd * hi) (wd * py + (px + 1)) (fun i => hxF wd hi false Xfe Xfx (i % wd) (i / wd)) Xfx), .ow kF afy nfy cfy 34 (mix (wd * hi) (wd * py + (px + 1)) (fun i => hyF wd hi false Xfe Xfy (i % wd) (i / wd)) Xfy), .blk b1 [.int .i64 wd, .int .i64 hi, .bool false, .slice asp nsp csp, .slice als nls cls] 26, .rd kF afe nfe Xfe, .sl (some ⟨b, 0, none⟩) [.slice afe nfe cfe, .slice afx nfx cfx, .slice afy nfy cfy]] := B.castX 1 rfl rfl (mix_same (G := hyF wd hi false Xfe Xfy) (by omega) (by omega) (by omega) (by omega) (hy_no hcy))
                refine ⟨⟨_, px + 1, Fits.eq ⟨rfl, rfl, rfl, rfl, rfl, rfl, rfl, rfl, rfl, rfl, trivial⟩, B, (by omega), (by omega)⟩, ?_⟩
                show (wd - (px + 1)).toNat < (wd - px).toNat
                omega
          · refine s_skip rfl ?_
            refine s_skip rfl ?_
            refine s_skip rfl ?_
            refine s_skip rfl ?_
            refine s_skip rfl ?_
            refine s_y (v := .bool true) rfl (y_pick_t rfl rfl) ?_
            refine s_nil ?_
            refine W_if_t (by decide) rfl ?_
            have B0_152 := B
            refine W_draw (no) T130.mx (by kernel_rfl) (fun w150 e151 => ?_)
            have R153 := Ext.refl (no) w10
            replace R153 := R153.trans (Ext0.any e151)
            replace B := B.ext0 e151
            clear e151
            refine m_y (v := .pointer (some ⟨b, 0, none⟩)) 0 rfl (by kernel_rfl) rfl rfl (fun w' e' => y_move rfl) ?_
            refine m_y (v := .pointer (some ⟨b, 0, none⟩)) 1 rfl (by kernel_rfl) rfl rfl (fun w' e' => y_nil rfl) ?_
            refine m_y (v := .pointer (some ⟨b, 0 + 1, none⟩)) 2 rfl (by kernel_rfl) rfl rfl (fun w' e' => y_fld (o := 0 + 0) T130.fld_30_1_1 rfl) ?_
            refine m_y (v := .slice afx nfx cfx) 3 rfl (by kernel_rfl) rfl rfl (fun w' e' => y_load T130.one_24 rfl (((B0_152.s 4 rfl).ext0 e').cell (j := 1) rfl)) ?_
            refine m_y (v := .int .i64 (atI wd hi px py)) 4 rfl (by kernel_rfl) rfl rfl (fun w' e' => y_move rfl) ?_
            refine m_y (v := .pointer (some ⟨b, 0, none⟩)) 5 rfl (by kernel_rfl) rfl rfl (fun w' e' => y_move rfl) ?_
            refine m_y (v := .pointer (some ⟨b, 0, none⟩)) 6 rfl (by kernel_rfl) rfl rfl (fun w' e' => y_nil rfl) ?_
            refine m_y (v := .pointer (some ⟨b, 0 + 1, none⟩)) 7 rfl (by kernel_rfl) rfl rfl (fun w' e' => y_fld (o := 0 + 0) T130.fld_30_1_1 rfl) ?_
            refine m_y (v := .slice afx nfx cfx) 8 rfl (by kernel_rfl) rfl rfl (fun w' e' => y_load T130.one_24 rfl (((B0_152.s 4 rfl).ext0 e').cell (j := 1) rfl)) ?_
            refine m_y (v := .int .i64 (atI wd hi px py)) 9 rfl (by kernel_rfl) rfl rfl (fun w' e' => y_move rfl) ?_
            refine m_y (v := .pointer (some (sat afx ((atI wd hi px py).toNat * 1)))) 10 rfl (by kernel_rfl) rfl rfl (fun w' e' => y_idx T130.sl_24_34_1 rfl rfl ((B.o 0 rfl).rd.addr (by omega)) (by omega) (by omega)) ?_
            obtain ⟨r155, hr156, hR154⟩ := Rd.atF (B0_152.o 0 rfl).rd (atI wd hi px py) (by omega) (by omega)
            refine m_y (v := .float .f32 r155) 11 rfl (by kernel_rfl) rfl rfl (fun w' e' => y_load T130.one_34 rfl ((hR154.ext0 e').cell (i := 0) rfl)) ?_
            refine m_y (v := .pointer (some ⟨b, 0, none⟩)) 12 rfl (by kernel_rfl) rfl rfl (fun w' e' => y_move rfl) ?_
            refine m_y (v := .pointer (some ⟨b, 0, none⟩)) 13 rfl (by kernel_rfl) rfl rfl (fun w' e' => y_nil rfl) ?_
            refine m_y (v := .pointer (some ⟨b, 0, none⟩)) 14 rfl (by kernel_rfl) rfl rfl (fun w' e' => y_fld (o := 0 + 0) T130.fld_30_0_0 rfl) ?_
            refine m_y (v := .slice afe nfe cfe) 15 rfl (by kernel_rfl) rfl rfl (fun w' e' => y_load T130.one_24 rfl (((B0_152.s 4 rfl).ext0 e').cell (j := 0) rfl)) ?_
            refine m_y (v := .agg #[.int .i64 wd, .int .i64 hi, .bool true, .slice asp nsp csp, .slice als nls cls]) 16 rfl (by kernel_rfl) rfl rfl (fun w' e' => y_loadn (b := b1) (o := 0) (vs := [.int .i64 wd, .int .i64 hi, .bool true, .slice asp nsp csp, .slice als nls cls]) T130.agg_26_5 rfl rfl (((B0_152.b 2 rfl).ext0 e').cells (o := 0) rfl)) ?_
            refine m_y (v := .int .i64 px) 17 rfl (by kernel_rfl) rfl rfl (fun w' e' => y_move rfl) ?_
            refine m_y (v := .int .i64 py) 18 rfl (by kernel_rfl) rfl rfl (fun w' e' => y_move rfl) ?_
            refine m_y (v := .int .i64 (py + 1)) 19 rfl (by kernel_rfl) rfl rfl (fun w' e' => y_add rfl rfl rfl (by omega)) ?_
            refine m_y (v := .pointer (some ⟨b, 0, none⟩)) 23 rfl (by kernel_rfl) rfl rfl (fun w' e' => y_move rfl) ?_
            refine m_y (v := .pointer (some ⟨b, 0, none⟩)) 24 rfl (by kernel_rfl) rfl rfl (fun w' e' => y_nil rfl) ?_
            refine m_y (v := .pointer (some ⟨b, 0, none⟩)) 25 rfl (by kernel_rfl) rfl rfl (fun w' e' => y_fld (o := 0 + 0) T130.fld_30_0_0 rfl) ?_
            refine m_y (v := .slice afe nfe cfe) 26 rfl (by kernel_rfl) rfl rfl (fun w' e' => y_load T130.one_24 rfl (((B0_152.s 4 rfl).ext0 e').cell (j := 0) rfl)) ?_
            refine m_y (v := .int .i64 (atI wd hi px py)) 27 rfl (by kernel_rfl) rfl rfl (fun w' e' => y_move rfl) ?_
            refine m_y (v := .pointer (some (sat afe ((atI wd hi px py).toNat * 1)))) 28 rfl (by kernel_rfl) rfl rfl (fun w' e' => y_idx T130.sl_24_34_1 rfl rfl ((B.r 3 rfl).addr (by omega)) (by omega) (by omega)) ?_
            obtain ⟨r158, hr159, hR157⟩ := Rd.atF (B0_152.r 3 rfl) (atI wd hi px py) (by omega) (by omega)
            refine m_y (v := .float .f32 r158) 29 rfl (by kernel_rfl) rfl rfl (fun w' e' => y_load T130.one_34 rfl ((hR157.ext0 e').cell (i := 0) rfl)) ?_
            refine m_k 20 [21, 22, 30, 31, 32, 33, 34] rfl (by kernel_rfl) rfl rfl (fun w160 e161 => ?_)
            replace R153 := R153.trans (Ext0.any e161)
            replace B := B.ext0 e161
            clear e161
            refine k_call T130.fn_69 (c_i_at (by omega) (by omega) (by omega) (by omega) (by omega) (by omega) (by omega) (by omega)) rfl ?_
            rintro _ w162 ⟨rfl, e163⟩
            replace R153 := R153.trans (Ext0.any e163)
            replace B := B.ext0 e163
            clear e163
            refine ⟨fun _ => R153, ?_⟩
            have hat164 := atI_b (wd := wd) (hi := hi) (x := px) (y := py + 1) (by omega) (by omega)
            refine m_y (v := .pointer (some (sat afe ((atI wd hi px (py + 1)).toNat * 1)))) 21 rfl (by kernel_rfl) rfl rfl (fun w' e' => y_idx T130.sl_24_34_1 rfl rfl ((B.r 3 rfl).addr (by omega)) (by omega) (by omega)) ?_
            obtain ⟨r166, hr167, hR165⟩ := Rd.atF (B0_152.r 3 rfl) (atI wd hi px (py + 1)) (by omega) (by omega)
            refine m_y (v := .float .f32 r166) 22 rfl (by kernel_rfl) rfl rfl (fun w' e' => y_load T130.one_34 rfl ((hR165.ext0 e').cell (i := 0) rfl)) ?_
            refine m_n 30 [31, 32, 33, 34] rfl (by kernel_rfl) rfl rfl (fun w' e' => n_arith (by decide) rfl rfl) ?_
            rintro _ ⟨r169, rfl, hr170⟩
            have hc173 := fopC hr170 hr167 hr159
            refine m_n 31 [32, 33, 34] rfl (by kernel_rfl) rfl rfl (fun w' e' => n_arith (by decide) rfl rfl) ?_
            rintro _ ⟨r175, rfl, hr176⟩
            have hc179 := fopC hr176 (cnLit (k := .f32) (t := 1056964608) (by kernel_rfl) (by kernel_rfl)) hc173
            refine m_n 32 [33, 34] rfl (by kernel_rfl) rfl rfl (fun w' e' => n_arith (by decide) rfl rfl) ?_
            rintro _ ⟨r181, rfl, hr182⟩
            have hc185 := fopC hr182 hr156 hc179
            refine m_y (v := .pointer (some (sat afx ((atI wd hi px py).toNat * 1)))) 33 rfl (by kernel_rfl) rfl rfl (fun w' e' => y_idx T130.sl_24_34_1 rfl rfl ((B.o 0 rfl).rd.addr (by omega)) (by omega) (by omega)) ?_
            refine m_kt 34 [] rfl (by kernel_rfl) rfl rfl (by kernel_rfl) (fun w188 e189 => ?_)
            replace R153 := R153.trans (Ext0.any e189)
            replace B := B.ext0 e189
            clear e189
            refine k_stO (k := kF) (i := atI wd hi px py) (j := 0) (x' := fop .sub .f32 (el (mix (wd * hi) (wd * py + px) (fun i => hxF wd hi true Xfe Xfx (i % wd) (i / wd)) Xfx) (atI wd hi px py)) (fop .mul .f32 1056964608 (fop .sub .f32 (el Xfe (atI wd hi px (py + 1))) (el Xfe (atI wd hi px py))))) (new := [.float .f32 r181]) T130.sz_34_1 rfl rfl rfl rfl rfl (by simp [Value.oneCell']) (by decide) (B.o 0 rfl) (by omega) (by omega) (by decide) (by rintro q ⟨_, rfl, _⟩; exact ⟨_, rfl, hc185⟩) (fun w186 hU187 => ?_)
            clear R153
            replace B : Bu w (hasW [.ow kF afx nfx cfx 34 Xfx, .ow kF afy nfy cfy 34 Xfy]) w186 [.ow kF afx nfx cfx 34 (put (mix (wd * hi) (wd * py + px) (fun i => hxF wd hi true Xfe Xfx (i % wd) (i / wd)) Xfx) (atI wd hi px py) (fop .sub .f32 (el (mix (wd * hi) (wd * py + px) (fun i => hxF wd hi true Xfe Xfx (i % wd) (i / wd)) Xfx) (atI wd hi px py)) (fop .mul .f32 1056964608 (fop .sub .f32 (el Xfe (atI wd hi px (py + 1))) (el Xfe (atI wd hi px py)))))), .ow kF afy nfy cfy 34 (mix (wd * hi) (wd * py + px) (fun i => hyF wd hi true Xfe Xfy (i % wd) (i / wd)) Xfy), .blk b1 [.int .i64 wd, .int .i64 hi, .bool true, .slice asp nsp csp, .slice als nls cls] 26, .rd kF afe nfe Xfe, .sl (some ⟨b, 0, none⟩) [.slice afe nfe cfe, .slice afx nfx cfx, .slice afy nfy cfy]] := B.upd [0] rfl hU187
            clear hU187
            refine m_done (by kernel_rfl) (fun w190 e191 => ?_)
            replace B := B.ext0 e191
            clear e191
            clear B0_152
            refine W_seq ?_
            refine W_region (by kernel_rfl) ?_
            refine s_y (v := .pointer (some ⟨b1, 2, none⟩)) rfl (y_fld (o := 0) T130.fld_26_2_2 rfl) ?_
            refine s_y (v := .bool true) rfl (y_load T130.one_4 rfl ((B.b 2 rfl).cell (j := 2) rfl)) ?_
            refine s_y (v := .bool true) rfl (y_move rfl) ?_
            refine s_skip rfl ?_
            refine s_skip rfl ?_
            refine s_skip rfl ?_
            refine s_skip rfl ?_
            refine s_skip rfl ?_
            refine s_y (v := .bool true) rfl (y_pick_t rfl rfl) ?_
            refine s_nil ?_
            refine W_if_t (by decide) rfl ?_
            have B0_196 := B
            refine W_draw (no) T130.mx (by kernel_rfl) (fun w194 e195 => ?_)
            have R197 := Ext.refl (no) w190
            replace R197 := R197.trans (Ext0.any e195)
            replace B := B.ext0 e195
            clear e195
            refine m_y (v := .pointer (some ⟨b, 0, none⟩)) 0 rfl (by kernel_rfl) rfl rfl (fun w' e' => y_move rfl) ?_
            refine m_y (v := .pointer (some ⟨b, 0, none⟩)) 1 rfl (by kernel_rfl) rfl rfl (fun w' e' => y_nil rfl) ?_
            refine m_y (v := .pointer (some ⟨b, 0 + 2, none⟩)) 2 rfl (by kernel_rfl) rfl rfl (fun w' e' => y_fld (o := 0 + 0) T130.fld_30_2_2 rfl) ?_
            refine m_y (v := .slice afy nfy cfy) 3 rfl (by kernel_rfl) rfl rfl (fun w' e' => y_load T130.one_24 rfl (((B0_196.s 4 rfl).ext0 e').cell (j := 2) rfl)) ?_
            refine m_y (v := .int .i64 (atI wd hi px py)) 4 rfl (by kernel_rfl) rfl rfl (fun w' e' => y_move rfl) ?_
            refine m_y (v := .pointer (some ⟨b, 0, none⟩)) 5 rfl (by kernel_rfl) rfl rfl (fun w' e' => y_move rfl) ?_
            refine m_y (v := .pointer (some ⟨b, 0, none⟩)) 6 rfl (by kernel_rfl) rfl rfl (fun w' e' => y_nil rfl) ?_
            refine m_y (v := .pointer (some ⟨b, 0 + 2, none⟩)) 7 rfl (by kernel_rfl) rfl rfl (fun w' e' => y_fld (o := 0 + 0) T130.fld_30_2_2 rfl) ?_
            refine m_y (v := .slice afy nfy cfy) 8 rfl (by kernel_rfl) rfl rfl (fun w' e' => y_load T130.one_24 rfl (((B0_196.s 4 rfl).ext0 e').cell (j := 2) rfl)) ?_
            refine m_y (v := .int .i64 (atI wd hi px py)) 9 rfl (by kernel_rfl) rfl rfl (fun w' e' => y_move rfl) ?_
            refine m_y (v := .pointer (some (sat afy ((atI wd hi px py).toNat * 1)))) 10 rfl (by kernel_rfl) rfl rfl (fun w' e' => y_idx T130.sl_24_34_1 rfl rfl ((B.o 1 rfl).rd.addr (by omega)) (by omega) (by omega)) ?_
            obtain ⟨r199, hr200, hR198⟩ := Rd.atF (B0_196.o 1 rfl).rd (atI wd hi px py) (by omega) (by omega)
            refine m_y (v := .float .f32 r199) 11 rfl (by kernel_rfl) rfl rfl (fun w' e' => y_load T130.one_34 rfl ((hR198.ext0 e').cell (i := 0) rfl)) ?_
            refine m_y (v := .pointer (some ⟨b, 0, none⟩)) 12 rfl (by kernel_rfl) rfl rfl (fun w' e' => y_move rfl) ?_
            refine m_y (v := .pointer (some ⟨b, 0, none⟩)) 13 rfl (by kernel_rfl) rfl rfl (fun w' e' => y_nil rfl) ?_
            refine m_y (v := .pointer (some ⟨b, 0, none⟩)) 14 rfl (by kernel_rfl) rfl rfl (fun w' e' => y_fld (o := 0 + 0) T130.fld_30_0_0 rfl) ?_
            refine m_y (v := .slice afe nfe cfe) 15 rfl (by kernel_rfl) rfl rfl (fun w' e' => y_load T130.one_24 rfl (((B0_196.s 4 rfl).ext0 e').cell (j := 0) rfl)) ?_
            refine m_y (v := .agg #[.int .i64 wd, .int .i64 hi, .bool true, .slice asp nsp csp, .slice als nls cls]) 16 rfl (by kernel_rfl) rfl rfl (fun w' e' => y_loadn (b := b1) (o := 0) (vs := [.int .i64 wd, .int .i64 hi, .bool true, .slice asp nsp csp, .slice als nls cls]) T130.agg_26_5 rfl rfl (((B0_196.b 2 rfl).ext0 e').cells (o := 0) rfl)) ?_
            refine m_y (v := .int .i64 px) 17 rfl (by kernel_rfl) rfl rfl (fun w' e' => y_move rfl) ?_
            refine m_y (v := .int .i64 (px + 1)) 18 rfl (by kernel_rfl) rfl rfl (fun w' e' => y_add rfl rfl rfl (by omega)) ?_
            refine m_y (v := .int .i64 py) 19 rfl (by kernel_rfl) rfl rfl (fun w' e' => y_move rfl) ?_
            refine m_y (v := .pointer (some ⟨b, 0, none⟩)) 23 rfl (by kernel_rfl) rfl rfl (fun w' e' => y_move rfl) ?_
            refine m_y (v := .pointer (some ⟨b, 0, none⟩)) 24 rfl (by kernel_rfl) rfl rfl (fun w' e' => y_nil rfl) ?_
            refine m_y (v := .pointer (some ⟨b, 0, none⟩)) 25 rfl (by kernel_rfl) rfl rfl (fun w' e' => y_fld (o := 0 + 0) T130.fld_30_0_0 rfl) ?_
            refine m_y (v := .slice afe nfe cfe) 26 rfl (by kernel_rfl) rfl rfl (fun w' e' => y_load T130.one_24 rfl (((B0_196.s 4 rfl).ext0 e').cell (j := 0) rfl)) ?_
            refine m_y (v := .int .i64 (atI wd hi px py)) 27 rfl (by kernel_rfl) rfl rfl (fun w' e' => y_move rfl) ?_
            refine m_y (v := .pointer (some (sat afe ((atI wd hi px py).toNat * 1)))) 28 rfl (by kernel_rfl) rfl rfl (fun w' e' => y_idx T130.sl_24_34_1 rfl rfl ((B.r 3 rfl).addr (by omega)) (by omega) (by omega)) ?_
            obtain ⟨r202, hr203, hR201⟩ := Rd.atF (B0_196.r 3 rfl) (atI wd hi px py) (by omega) (by omega)
            refine m_y (v := .float .f32 r202) 29 rfl (by kernel_rfl) rfl rfl (fun w' e' => y_load T130.one_34 rfl ((hR201.ext0 e').cell (i := 0) rfl)) ?_
            refine m_k 20 [21, 22, 30, 31, 32, 33, 34] rfl (by kernel_rfl) rfl rfl (fun w204 e205 => ?_)
            replace R197 := R197.trans (Ext0.any e205)
            replace B := B.ext0 e205
            clear e205
            refine k_call T130.fn_69 (c_i_at (by omega) (by omega) (by omega) (by omega) (by omega) (by omega) (by omega) (by omega)) rfl ?_
            rintro _ w206 ⟨rfl, e207⟩
            replace R197 := R197.trans (Ext0.any e207)
            replace B := B.ext0 e207
            clear e207
            refine ⟨fun _ => R197, ?_⟩
            have hat208 := atI_b (wd := wd) (hi := hi) (x := px + 1) (y := py) (by omega) (by omega)
            refine m_y (v := .pointer (some (sat afe ((atI wd hi (px + 1) py).toNat * 1)))) 21 rfl (by kernel_rfl) rfl rfl (fun w' e' => y_idx T130.sl_24_34_1 rfl rfl ((B.r 3 rfl).addr (by omega)) (by omega) (by omega)) ?_
            obtain ⟨r210, hr211, hR209⟩ := Rd.atF (B0_196.r 3 rfl) (atI wd hi (px + 1) py) (by omega) (by omega)
            refine m_y (v := .float .f32 r210) 22 rfl (by kernel_rfl) rfl rfl (fun w' e' => y_load T130.one_34 rfl ((hR209.ext0 e').cell (i := 0) rfl)) ?_
            refine m_n 30 [31, 32, 33, 34] rfl (by kernel_rfl) rfl rfl (fun w' e' => n_arith (by decide) rfl rfl) ?_
            rintro _ ⟨r213, rfl, hr214⟩
            have hc217 := fopC hr214 hr211 hr203
            refine m_n 31 [32, 33, 34] rfl (by kernel_rfl) rfl rfl (fun w' e' => n_arith (by decide) rfl rfl) ?_
            rintro _ ⟨r219, rfl, hr220⟩
            have hc223 := fopC hr220 (cnLit (k := .f32) (t := 1056964608) (by kernel_rfl) (by kernel_rfl)) hc217
            refine m_n 32 [33, 34] rfl (by kernel_rfl) rfl rfl (fun w' e' => n_arith (by decide) rfl rfl) ?_
            rintro _ ⟨r225, rfl, hr226⟩
            have hc229 := fopC hr226 hr200 hc223
            refine m_y (v := .pointer (some (sat afy ((atI wd hi px py).toNat * 1)))) 33 rfl (by kernel_rfl) rfl rfl (fun w' e' => y_idx T130.sl_24_34_1 rfl rfl ((B.o 1 rfl).rd.addr (by omega)) (by omega) (by omega)) ?_
            refine m_kt 34 [] rfl (by kernel_rfl) rfl rfl (by kernel_rfl) (fun w232 e233 => ?_)
            replace R197 := R197.trans (Ext0.any e233)
            replace B := B.ext0 e233
            clear e233
            refine k_stO (k := kF) (i := atI wd hi px py) (j := 0) (x' := fop .add .f32 (el (mix (wd * hi) (wd * py + px) (fun i => hyF wd hi true Xfe Xfy (i % wd) (i / wd)) Xfy) (atI wd hi px py)) (fop .mul .f32 1056964608 (fop .sub .f32 (el Xfe (atI wd hi (px + 1) py)) (el Xfe (atI wd hi px py))))) (new := [.float .f32 r225]) T130.sz_34_1 rfl rfl rfl rfl rfl (by simp [Value.oneCell']) (by decide) (B.o 1 rfl) (by omega) (by omega) (by decide) (by rintro q ⟨_, rfl, _⟩; exact ⟨_, rfl, hc229⟩) (fun w230 hU231 => ?_)
            clear R197
            replace B : Bu w (hasW [.ow kF afx nfx cfx 34 Xfx, .ow kF afy nfy cfy 34 Xfy]) w230 [.ow kF afy nfy cfy 34 (put (mix (wd * hi) (wd * py + px) (fun i => hyF wd hi true Xfe Xfy (i % wd) (i / wd)) Xfy) (atI wd hi px py) (fop .add .f32 (el (mix (wd * hi) (wd * py + px) (fun i => hyF wd hi true Xfe Xfy (i % wd) (i / wd)) Xfy) (atI wd hi px py)) (fop .mul .f32 1056964608 (fop .sub .f32 (el Xfe (atI wd hi (px + 1) py)) (el Xfe (atI wd hi px py)))))), .ow kF afx nfx cfx 34 (put (mix (wd * hi) (wd * py + px) (fun i => hxF wd hi true Xfe Xfx (i % wd) (i / wd)) Xfx) (atI wd hi px py) (fop .sub .f32 (el (mix (wd * hi) (wd * py + px) (fun i => hxF wd hi true Xfe Xfx (i % wd) (i / wd)) Xfx) (atI wd hi px py)) (fop .mul .f32 1056964608 (fop .sub .f32 (el Xfe (atI wd hi px (py + 1))) (el Xfe (atI wd hi px py)))))), .blk b1 [.int .i64 wd, .int .i64 hi, .bool true, .slice asp nsp csp, .slice als nls cls] 26, .rd kF afe nfe Xfe, .sl (some ⟨b, 0, none⟩) [.slice afe nfe cfe, .slice afx nfx cfx, .slice afy nfy cfy]] := B.upd [1] rfl hU231
            clear hU231
            refine m_done (by kernel_rfl) (fun w234 e235 => ?_)
            replace B := B.ext0 e235
            clear e235
            clear B0_196
            refine W_region (by kernel_rfl) ?_
            refine s_y (v := .int .i64 (px + 1)) rfl (y_add rfl rfl rfl (by omega)) ?_
            refine s_y (v := .int .i64 (px + 1)) rfl (y_move rfl) ?_
            refine s_nil ?_
            have hcx : (true || decide (py < hi - 1)) = true := by simp only [(decide_eq_true c6), (decide_eq_true c9), Bool.and_true, Bool.true_and, Bool.and_false, Bool.false_and, Bool.not_true, Bool.not_false, Bool.or_true, Bool.true_or, Bool.or_false, Bool.false_or]
            replace B : Bu w (hasW [.ow kF afx nfx cfx 34 Xfx, .ow kF afy nfy cfy 34 Xfy]) w234 [.ow kF afy nfy cfy 34 (put (mix (wd * hi) (wd * py + px) (fun i => hyF wd hi true Xfe Xfy (i % wd) (i / wd)) Xfy) (atI wd hi px py) (fop .add .f32 (el (mix (wd * hi) (wd * py + px) (fun i => hyF wd hi true Xfe Xfy (i % wd) (i / wd)) Xfy) (atI wd hi px py)) (fop .mul .f32 1056964608 (fop .sub .f32 (el Xfe (atI wd hi (px + 1) py)) (el Xfe (atI wd hi px py)))))), .ow kF afx nfx cfx 34 (mix (wd * hi) (wd * py + (px + 1)) (fun i => hxF wd hi true Xfe Xfx (i % wd) (i / wd)) Xfx), .blk b1 [.int .i64 wd, .int .i64 hi, .bool true, .slice asp nsp csp, .slice als nls cls] 26, .rd kF afe nfe Xfe, .sl (some ⟨b, 0, none⟩) [.slice afe nfe cfe, .slice afx nfx cfx, .slice afy nfy cfy]] := B.castX 1 rfl rfl (mix_cell (G := hxF wd hi true Xfe Xfx) rfl (by omega) (by omega) (by omega) (by omega) rfl (hx_yes rfl (by omega) (by omega) (by omega) (by omega) hcx))
            have hcy : (true || decide (px < wd - 1)) = true := by simp only [(decide_eq_true c6), (decide_eq_true c9), Bool.and_true, Bool.true_and, Bool.and_false, Bool.false_and, Bool.not_true, Bool.not_false, Bool.or_true, Bool.true_or, Bool.or_false, Bool.false_or]
            replace B : Bu w (hasW [.ow kF afx nfx cfx 34 Xfx, .ow kF afy nfy cfy 34 Xfy]) w234 [.ow kF afy nfy cfy 34 (mix (wd * hi) (wd * py + (px + 1)) (fun i => hyF wd hi true Xfe Xfy (i % wd) (i / wd)) Xfy), .ow kF afx nfx cfx 34 (mix (wd * hi) (wd * py + (px + 1)) (fun i => hxF wd hi true Xfe Xfx (i % wd) (i / wd)) Xfx), .blk b1 [.int .i64 wd, .int .i64 hi, .bool true, .slice asp nsp csp, .slice als nls cls] 26, .rd kF afe nfe Xfe, .sl (some ⟨b, 0, none⟩) [.slice afe nfe cfe, .slice afx nfx cfx, .slice afy nfy cfy]] := B.castX 0 rfl rfl (mix_cell (G := hyF wd hi true Xfe Xfy) rfl (by omega) (by omega) (by omega) (by omega) rfl (hy_yes rfl (by omega) (by omega) (by omega) (by omega) hcy))
            refine ⟨⟨_, px + 1, Fits.eq ⟨rfl, rfl, rfl, rfl, rfl, rfl, rfl, rfl, rfl, rfl, trivial⟩, (B.pick [1, 0, 2, 3, 4] rfl rfl), (by omega), (by omega)⟩, ?_⟩
            show (wd - (px + 1)).toNat < (wd - px).toNat
            omega
        · refine s_y (v := .bool false) rfl (y_lss rfl rfl (decide_eq_false c9)) ?_
          refine s_nil ?_
          refine W_seq ?_
          refine W_if_f (by decide) rfl ?_
          refine W_exit ?_
          refine W_region (by kernel_rfl) ?_
          refine s_y (v := .int .i64 (py + 1)) rfl (y_add rfl rfl rfl (by omega)) ?_
          refine s_y (v := .int .i64 (py + 1)) rfl (y_move rfl) ?_
          refine s_nil ?_
          replace B : Bu w (hasW [.ow kF afx nfx cfx 34 Xfx, .ow kF afy nfy cfy 34 Xfy]) w7 [.ow kF afx nfx cfx 34 (mix (wd * hi) (wd * (py + 1)) (fun i => hxF wd hi wr Xfe Xfx (i % wd) (i / wd)) Xfx), .ow kF afy nfy cfy 34 (mix (wd * hi) (wd * py + px) (fun i => hyF wd hi wr Xfe Xfy (i % wd) (i / wd)) Xfy), .blk b1 [.int .i64 wd, .int .i64 hi, .bool wr, .slice asp nsp csp, .slice als nls cls] 26, .rd kF afe nfe Xfe, .sl (some ⟨b, 0, none⟩) [.slice afe nfe cfe, .slice afx nfx cfx, .slice afy nfy cfy]] := B.castX 0 rfl rfl (congrArg (fun q => mix (wd * hi) q (fun i => hxF wd hi wr Xfe Xfx (i % wd) (i / wd)) _) (show wd * py + px = wd * (py + 1) by rw [Int.mul_add, Int.mul_one]; omega))
          replace B : Bu w (hasW [.ow kF afx nfx cfx 34 Xfx, .ow kF afy nfy cfy 34 Xfy]) w7 [.ow kF afx nfx cfx 34 (mix (wd * hi) (wd * (py + 1)) (fun i => hxF wd hi wr Xfe Xfx (i % wd) (i / wd)) Xfx), .ow kF afy nfy cfy 34 (mix (wd * hi) (wd * (py + 1)) (fun i => hyF wd hi wr Xfe Xfy (i % wd) (i / wd)) Xfy), .blk b1 [.int .i64 wd, .int .i64 hi, .bool wr, .slice asp nsp csp, .slice als nls cls] 26, .rd kF afe nfe Xfe, .sl (some ⟨b, 0, none⟩) [.slice afe nfe cfe, .slice afx nfx cfx, .slice afy nfy cfy]] := B.castX 1 rfl rfl (congrArg (fun q => mix (wd * hi) q (fun i => hyF wd hi wr Xfe Xfy (i % wd) (i / wd)) _) (show wd * py + px = wd * (py + 1) by rw [Int.mul_add, Int.mul_one]; omega))
          refine ⟨⟨_, py + 1, Fits.eq ⟨rfl, rfl, rfl, rfl, trivial⟩, B, (by omega), (by omega)⟩, ?_⟩
          show (hi - (py + 1)).toNat < (hi - py).toNat
          omega
    · refine s_y (v := .bool false) rfl (y_lss rfl rfl (decide_eq_false c6)) ?_
      refine s_nil ?_
      refine W_seq ?_
      refine W_if_f (by decide) rfl ?_
      refine W_exit ?_
      have hye : py = hi := by omega
      subst hye
      replace B : Bu w (hasW [.ow kF afx nfx cfx 34 Xfx, .ow kF afy nfy cfy 34 Xfy]) w4 [.ow kF afx nfx cfx 34 (tab (wd * py) (fun i => hxF wd py wr Xfe Xfx (i % wd) (i / wd))), .ow kF afy nfy cfy 34 (mix (wd * py) (wd * py) (fun i => hyF wd py wr Xfe Xfy (i % wd) (i / wd)) Xfy), .blk b1 [.int .i64 wd, .int .i64 py, .bool wr, .slice asp nsp csp, .slice als nls cls] 26, .rd kF afe nfe Xfe, .sl (some ⟨b, 0, none⟩) [.slice afe nfe cfe, .slice afx nfx cfx, .slice afy nfy cfy]] := B.castX 0 rfl rfl mix_all
      replace B : Bu w (hasW [.ow kF afx nfx cfx 34 Xfx, .ow kF afy nfy cfy 34 Xfy]) w4 [.ow kF afx nfx cfx 34 (tab (wd * py) (fun i => hxF wd py wr Xfe Xfx (i % wd) (i / wd))), .ow kF afy nfy cfy 34 (tab (wd * py) (fun i => hyF wd py wr Xfe Xfy (i % wd) (i / wd))), .blk b1 [.int .i64 wd, .int .i64 py, .bool wr, .slice asp nsp csp, .slice als nls cls] 26, .rd kF afe nfe Xfe, .sl (some ⟨b, 0, none⟩) [.slice afe nfe cfe, .slice afx nfx cfx, .slice afy nfy cfy]] := B.castX 1 rfl rfl mix_all
      refine ret0 rfl ⟨_, rfl, ?_⟩
      replace B : Bu w (hasW [.ow kF afx nfx cfx 34 Xfx, .ow kF afy nfy cfy 34 Xfy]) w4 [.ow kF afx nfx cfx 34 (hxL wd py wr Xfe Xfx), .ow kF afy nfy cfy 34 (tab (wd * py) (fun i => hyF wd py wr Xfe Xfy (i % wd) (i / wd))), .blk b1 [.int .i64 wd, .int .i64 py, .bool wr, .slice asp nsp csp, .slice als nls cls] 26, .rd kF afe nfe Xfe, .sl (some ⟨b, 0, none⟩) [.slice afe nfe cfe, .slice afx nfx cfx, .slice afy nfy cfy]] := B.castX 0 rfl rfl rfl
      replace B : Bu w (hasW [.ow kF afx nfx cfx 34 Xfx, .ow kF afy nfy cfy 34 Xfy]) w4 [.ow kF afx nfx cfx 34 (hxL wd py wr Xfe Xfx), .ow kF afy nfy cfy 34 (hyL wd py wr Xfe Xfy), .blk b1 [.int .i64 wd, .int .i64 py, .bool wr, .slice asp nsp csp, .slice als nls cls] 26, .rd kF afe nfe Xfe, .sl (some ⟨b, 0, none⟩) [.slice afe nfe cfe, .slice afx nfx cfx, .slice afy nfy cfy]] := B.castX 1 rfl rfl rfl
      exact ⟨rfl, B.wrote [0, 1] rfl rfl rfl⟩
namespace T131
theorem mx : Try.prog.follows .mixedOrders = true := by kernel_rfl
theorem agg_26_5 : aggB Try.prog 26 5 = true := by kernel_rfl
theorem fld_26_3_3 : fldB Try.prog 26 3 3 = true := by kernel_rfl
theorem fld_26_4_4 : fldB Try.prog 26 4 4 = true := by kernel_rfl
theorem fld_30_0_0 : fldB Try.prog 30 0 0 = true := by kernel_rfl
theorem fld_30_1_1 : fldB Try.prog 30 1 1 = true := by kernel_rfl
theorem fld_30_2_2 : fldB Try.prog 30 2 2 = true := by kernel_rfl
theorem fn_69 : fnB Try.prog 69 = true := by kernel_rfl
theorem one_24 : oneB Try.prog 24 = true := by kernel_rfl
theorem one_34 : oneB Try.prog 34 = true := by kernel_rfl
theorem sl_24_34_1 : slB Try.prog 24 34 1 = true := by kernel_rfl
end T131
set_option maxRecDepth 100000 in
set_option maxHeartbeats 4000000 in
theorem c_i_newValue {wd : Int} {hi : Int} {wr : Bool} {asp : Option Addr} {nsp : Nat} {csp : Nat} {Xsp : List Nat} {als : Option Addr} {nls : Nat} {cls : Nat} {Xls : List Nat} {afe : Option Addr} {nfe : Nat} {cfe : Nat} {Xfe : List Nat} {afx : Option Addr} {nfx : Nat} {cfx : Nat} {Xfx : List Nat} {afy : Option Addr} {nfy : Nat} {cfy : Nat} {Xfy : List Nat} {x : Int} {y : Int} {w : World} (qsp : Rd w kF asp nsp Xsp) (qls : Rd w kF als nls Xls) (qfe : Rd w kF afe nfe Xfe) (qfx : Rd w kF afx nfx Xfx) (qfy : Rd w kF afy nfy Xfy) (h1 : 3 ≤ wd) (h2 : wd ≤ 16) (h3 : 3 ≤ hi) (h4 : hi ≤ 16) (gfe : (nfe : Int) = wd * hi) (gfx : (nfx : Int) = wd * hi) (gfy : (nfy : Int) = wd * hi) (gsp : (nsp : Int) = wd * hi) (gls : (nls : Int) = wd * hi) (p1 : 0 ≤ x) (p2 : x < wd) (p3 : 0 ≤ y) (p4 : y < hi) :
    Calls Try.prog 131 #[.agg #[.int .i64 wd, .int .i64 hi, .bool wr, .slice asp nsp csp, .slice als nls cls], .agg #[.slice afe nfe cfe, .slice afx nfx cfx, .slice afy nfy cfy], .int .i64 x, .int .i64 y] w (Rt fun v w' => (∃ r, v = .float .f32 r ∧ Cn .f32 r (nvV wd hi Xsp Xls (el Xfe (atI wd hi x y)) Xfx Xfy x y)) ∧ Ext0 w w') := by
  have hlsp := qsp.len
  have hlls := qls.len
  have hlfe := qfe.len
  have hlfx := qfx.len
  have hlfy := qfy.len
  have B : Bu w no w [.rd kF asp nsp Xsp, .rd kF als nls Xls, .rd kF afe nfe Xfe, .rd kF afx nfx Xfx, .rd kF afy nfy Xfy] := Bu.ro (All.cons qsp (All.cons qls (All.cons qfe (All.cons qfx (All.cons qfy All.nil))))) rfl
  refine calls_W (n := 66) Try.func131 rfl rfl (Nat.le_of_ble_eq_true rfl) ?_
  refine W_seq ?_
  refine W_region (by kernel_rfl) ?_
  refine s_k rfl (k_boxN (v := .agg #[.int .i64 wd, .int .i64 hi, .bool wr, .slice asp nsp csp, .slice als nls cls]) (cs := [.int .i64 wd, .int .i64 hi, .bool wr, .slice asp nsp csp, .slice als nls cls]) rfl rfl (fun b1 w2 hN3 => ?_))
  replace B := B.new1 hN3
  clear hN3
  refine s_k rfl (k_boxN (v := .agg #[.slice afe nfe cfe, .slice afx nfx cfx, .slice afy nfy cfy]) (cs := [.slice afe nfe cfe, .slice afx nfx cfx, .slice afy nfy cfy]) rfl rfl (fun b4 w5 hN6 => ?_))
  replace B := B.new1 hN6
  clear hN6
  refine s_y (v := .float .f32 0) rfl (y_assign rfl) ?_
  refine s_nil ?_
  refine W_seq ?_
  refine W_region (by kernel_rfl) ?_
  refine s_y (v := .agg #[.int .i64 wd, .int .i64 hi, .bool wr, .slice asp nsp csp, .slice als nls cls]) rfl (y_loadn (b := b1) (o := 0) (vs := [.int .i64 wd, .int .i64 hi, .bool wr, .slice asp nsp csp, .slice als nls cls]) T131.agg_26_5 rfl rfl ((B.b 1 rfl).cells (o := 0) rfl)) ?_
  refine s_y (v := .int .i64 x) rfl (y_move rfl) ?_
  refine s_y (v := .int .i64 y) rfl (y_move rfl) ?_
  refine s_k rfl (k_call T131.fn_69 (c_i_at (by omega) (by omega) (by omega) (by omega) (by omega) (by omega) (by omega) (by omega)) rfl ?_)
  rintro _ w7 ⟨rfl, e8⟩
  replace B := B.ext0 e8
  clear e8
  have hat9 := atI_b (wd := wd) (hi := hi) (x := x) (y := y) (by omega) (by omega)
  refine s_y (v := .int .i64 (atI wd hi x y)) rfl (y_assign rfl) ?_
  refine s_nil ?_
  refine W_seq ?_
  have B0_14 := B
  refine W_draw (no) T131.mx (by kernel_rfl) (fun w12 e13 => ?_)
  have R15 := Ext.refl (no) w7
  replace R15 := R15.trans (Ext0.any e13)
  replace B := B.ext0 e13
  clear e13
  refine m_y (v := .pointer (some ⟨b4, 2, none⟩)) 0 rfl (by kernel_rfl) rfl rfl (fun w' e' => y_fld (o := 0) T131.fld_30_2_2 rfl) ?_
  refine m_y (v := .slice afy nfy cfy) 1 rfl (by kernel_rfl) rfl rfl (fun w' e' => y_load T131.one_24 rfl (((B0_14.b 0 rfl).ext0 e').cell (j := 2) rfl)) ?_
  refine m_y (v := .int .i64 (atI wd hi x y)) 2 rfl (by kernel_rfl) rfl rfl (fun w' e' => y_move rfl) ?_
  refine m_y (v := .pointer (some (sat afy ((atI wd hi x y).toNat * 1)))) 3 rfl (by kernel_rfl) rfl rfl (fun w' e' => y_idx T131.sl_24_34_1 rfl rfl ((B.r 6 rfl).addr (by omega)) (by omega) (by omega)) ?_
  obtain ⟨r17, hr18, hR16⟩ := Rd.atF (B0_14.r 6 rfl) (atI wd hi x y) (by omega) (by omega)
  refine m_y (v := .float .f32 r17) 4 rfl (by kernel_rfl) rfl rfl (fun w' e' => y_load T131.one_34 rfl ((hR16.ext0 e').cell (i := 0) rfl)) ?_
  refine m_y (v := .pointer (some ⟨b4, 2, none⟩)) 5 rfl (by kernel_rfl) rfl rfl (fun w' e' => y_fld (o := 0) T131.fld_30_2_2 rfl) ?_
  refine m_y (v := .slice afy nfy cfy) 6 rfl (by kernel_rfl) rfl rfl (fun w' e' => y_load T131.one_24 rfl (((B0_14.b 0 rfl).ext0 e').cell (j := 2) rfl)) ?_
  refine m_y (v := .agg #[.int .i64 wd, .int .i64 hi, .bool wr, .slice asp nsp csp, .slice als nls cls]) 7 rfl (by kernel_rfl) rfl rfl (fun w' e' => y_loadn (b := b1) (o := 0) (vs := [.int .i64 wd, .int .i64 hi, .bool wr, .slice asp nsp csp, .slice als nls cls]) T131.agg_26_5 rfl rfl (((B0_14.b 1 rfl).ext0 e').cells (o := 0) rfl)) ?_
  refine m_y (v := .int .i64 x) 8 rfl (by kernel_rfl) rfl rfl (fun w' e' => y_move rfl) ?_
  refine m_y (v := .int .i64 (x - 1)) 9 rfl (by kernel_rfl) rfl rfl (fun w' e' => y_sub rfl rfl rfl (by omega)) ?_
  refine m_y (v := .int .i64 y) 10 rfl (by kernel_rfl) rfl rfl (fun w' e' => y_move rfl) ?_
  refine m_y (v := .pointer (some ⟨b4, 1, none⟩)) 15 rfl (by kernel_rfl) rfl rfl (fun w' e' => y_fld (o := 0) T131.fld_30_1_1 rfl) ?_
  refine m_y (v := .slice afx nfx cfx) 16 rfl (by kernel_rfl) rfl rfl (fun w' e' => y_load T131.one_24 rfl (((B0_14.b 0 rfl).ext0 e').cell (j := 1) rfl)) ?_
  refine m_y (v := .int .i64 (atI wd hi x y)) 17 rfl (by kernel_rfl) rfl rfl (fun w' e' => y_move rfl) ?_
  refine m_y (v := .pointer (some (sat afx ((atI wd hi x y).toNat * 1)))) 18 rfl (by kernel_rfl) rfl rfl (fun w' e' => y_idx T131.sl_24_34_1 rfl rfl ((B.r 5 rfl).addr (by omega)) (by omega) (by omega)) ?_
  obtain ⟨r20, hr21, hR19⟩ := Rd.atF (B0_14.r 5 rfl) (atI wd hi x y) (by omega) (by omega)
  refine m_y (v := .float .f32 r20) 19 rfl (by kernel_rfl) rfl rfl (fun w' e' => y_load T131.one_34 rfl ((hR19.ext0 e').cell (i := 0) rfl)) ?_
  refine m_y (v := .pointer (some ⟨b4, 1, none⟩)) 20 rfl (by kernel_rfl) rfl rfl (fun w' e' => y_fld (o := 0) T131.fld_30_1_1 rfl) ?_
  refine m_y (v := .slice afx nfx cfx) 21 rfl (by kernel_rfl) rfl rfl (fun w' e' => y_load T131.one_24 rfl (((B0_14.b 0 rfl).ext0 e').cell (j := 1) rfl)) ?_
  refine m_y (v := .agg #[.int .i64 wd, .int .i64 hi, .bool wr, .slice asp nsp csp, .slice als nls cls]) 22 rfl (by kernel_rfl) rfl rfl (fun w' e' => y_loadn (b := b1) (o := 0) (vs := [.int .i64 wd, .int .i64 hi, .bool wr, .slice asp nsp csp, .slice als nls cls]) T131.agg_26_5 rfl rfl (((B0_14.b 1 rfl).ext0 e').cells (o := 0) rfl)) ?_
  refine m_y (v := .int .i64 x) 23 rfl (by kernel_rfl) rfl rfl (fun w' e' => y_move rfl) ?_
  refine m_y (v := .int .i64 y) 24 rfl (by kernel_rfl) rfl rfl (fun w' e' => y_move rfl) ?_
  refine m_y (v := .int .i64 (y - 1)) 25 rfl (by kernel_rfl) rfl rfl (fun w' e' => y_sub rfl rfl rfl (by omega)) ?_
  refine m_k 11 [12, 13, 14, 26, 27, 28, 29, 30, 31] rfl (by kernel_rfl) rfl rfl (fun w22 e23 => ?_)
  replace R15 := R15.trans (Ext0.any e23)
  replace B := B.ext0 e23
  clear e23
  refine k_call T131.fn_69 (c_i_at (by omega) (by omega) (by omega) (by omega) (by omega) (by omega) (by omega) (by omega)) rfl ?_
  rintro _ w24 ⟨rfl, e25⟩
  replace R15 := R15.trans (Ext0.any e25)
  replace B := B.ext0 e25
  clear e25
  refine ⟨fun _ => R15, ?_⟩
  have hat26 := atI_b (wd := wd) (hi := hi) (x := x - 1) (y := y) (by omega) (by omega)
  refine m_y (v := .pointer (some (sat afy ((atI wd hi (x - 1) y).toNat * 1)))) 12 rfl (by kernel_rfl) rfl rfl (fun w' e' => y_idx T131.sl_24_34_1 rfl rfl ((B.r 6 rfl).addr (by omega)) (by omega) (by omega)) ?_
  obtain ⟨r28, hr29, hR27⟩ := Rd.atF (B0_14.r 6 rfl) (atI wd hi (x - 1) y) (by omega) (by omega)
  refine m_y (v := .float .f32 r28) 13 rfl (by kernel_rfl) rfl rfl (fun w' e' => y_load T131.one_34 rfl ((hR27.ext0 e').cell (i := 0) rfl)) ?_
  refine m_k 26 [27, 28, 29, 30, 31] rfl (by kernel_rfl) rfl rfl (fun w30 e31 => ?_)
  replace R15 := R15.trans (Ext0.any e31)
  replace B := B.ext0 e31
  clear e31
  refine k_call T131.fn_69 (c_i_at (by omega) (by omega) (by omega) (by omega) (by omega) (by omega) (by omega) (by omega)) rfl ?_
  rintro _ w32 ⟨rfl, e33⟩
  replace R15 := R15.trans (Ext0.any e33)
  replace B := B.ext0 e33
  clear e33
  refine ⟨fun _ => R15, ?_⟩
  have hat34 := atI_b (wd := wd) (hi := hi) (x := x) (y := y - 1) (by omega) (by omega)
  refine m_y (v := .pointer (some (sat afx ((atI wd hi x (y - 1)).toNat * 1)))) 27 rfl (by kernel_rfl) rfl rfl (fun w' e' => y_idx T131.sl_24_34_1 rfl rfl ((B.r 5 rfl).addr (by omega)) (by omega) (by omega)) ?_
  obtain ⟨r36, hr37, hR35⟩ := Rd.atF (B0_14.r 5 rfl) (atI wd hi x (y - 1)) (by omega) (by omega)
  refine m_y (v := .float .f32 r36) 28 rfl (by kernel_rfl) rfl rfl (fun w' e' => y_load T131.one_34 rfl ((hR35.ext0 e').cell (i := 0) rfl)) ?_
  refine m_n 14 [30, 31] rfl (by kernel_rfl) rfl rfl (fun w' e' => n_arith (by decide) rfl rfl) ?_
  rintro _ ⟨r39, rfl, hr40⟩
  have hc43 := fopC hr40 hr18 hr29
  refine m_n 29 [30, 31] rfl (by kernel_rfl) rfl rfl (fun w' e' => n_arith (by decide) rfl rfl) ?_
  rintro _ ⟨r45, rfl, hr46⟩
  have hc49 := fopC hr46 hr21 hr37
  refine m_n 30 [31] rfl (by kernel_rfl) rfl rfl (fun w' e' => n_arith (by decide) rfl rfl) ?_
  rintro _ ⟨r51, rfl, hr52⟩
  have hc55 := fopC hr52 hc43 hc49
  refine m_y (v := .float .f32 r51) 31 rfl (by kernel_rfl) rfl rfl (fun w' e' => y_assign rfl) ?_
  refine m_done (by kernel_rfl) (fun w56 e57 => ?_)
  replace B := B.ext0 e57
  clear e57
  clear B0_14 R15
  refine W_seq ?_
  have B0_62 := B
  refine W_draw (no) T131.mx (by kernel_rfl) (fun w60 e61 => ?_)
  have R63 := Ext.refl (no) w56
  replace R63 := R63.trans (Ext0.any e61)
  replace B := B.ext0 e61
  clear e61
  refine m_y (v := .pointer (some ⟨b4, 0, none⟩)) 0 rfl (by kernel_rfl) rfl rfl (fun w' e' => y_fld (o := 0) T131.fld_30_0_0 rfl) ?_
  refine m_y (v := .slice afe nfe cfe) 1 rfl (by kernel_rfl) rfl rfl (fun w' e' => y_load T131.one_24 rfl (((B0_62.b 0 rfl).ext0 e').cell (j := 0) rfl)) ?_
  refine m_y (v := .int .i64 (atI wd hi x y)) 2 rfl (by kernel_rfl) rfl rfl (fun w' e' => y_move rfl) ?_
  refine m_y (v := .pointer (some (sat afe ((atI wd hi x y).toNat * 1)))) 3 rfl (by kernel_rfl) rfl rfl (fun w' e' => y_idx T131.sl_24_34_1 rfl rfl ((B.r 4 rfl).addr (by omega)) (by omega) (by omega)) ?_
  obtain ⟨r65, hr66, hR64⟩ := Rd.atF (B0_62.r 4 rfl) (atI wd hi x y) (by omega) (by omega)
  refine m_y (v := .float .f32 r65) 4 rfl (by kernel_rfl) rfl rfl (fun w' e' => y_load T131.one_34 rfl ((hR64.ext0 e').cell (i := 0) rfl)) ?_
  refine m_y (v := .pointer (some ⟨b1, 4, none⟩)) 5 rfl (by kernel_rfl) rfl rfl (fun w' e' => y_fld (o := 0) T131.fld_26_4_4 rfl) ?_
  refine m_y (v := .slice als nls cls) 6 rfl (by kernel_rfl) rfl rfl (fun w' e' => y_load T131.one_24 rfl (((B0_62.b 1 rfl).ext0 e').cell (j := 4) rfl)) ?_
  refine m_y (v := .int .i64 (atI wd hi x y)) 7 rfl (by kernel_rfl) rfl rfl (fun w' e' => y_move rfl) ?_
  refine m_y (v := .pointer (some (sat als ((atI wd hi x y).toNat * 1)))) 8 rfl (by kernel_rfl) rfl rfl (fun w' e' => y_idx T131.sl_24_34_1 rfl rfl ((B.r 3 rfl).addr (by omega)) (by omega) (by omega)) ?_
  obtain ⟨r68, hr69, hR67⟩ := Rd.atF (B0_62.r 3 rfl) (atI wd hi x y) (by omega) (by omega)
  refine m_y (v := .float .f32 r68) 9 rfl (by kernel_rfl) rfl rfl (fun w' e' => y_load T131.one_34 rfl ((hR67.ext0 e').cell (i := 0) rfl)) ?_
  refine m_y (v := .pointer (some ⟨b1, 3, none⟩)) 12 rfl (by kernel_rfl) rfl rfl (fun w' e' => y_fld (o := 0) T131.fld_26_3_3 rfl) ?_
  refine m_y (v := .slice asp nsp csp) 13 rfl (by kernel_rfl) rfl rfl (fun w' e' => y_load T131.one_24 rfl (((B0_62.b 1 rfl).ext0 e').cell (j := 3) rfl)) ?_
  refine m_y (v := .int .i64 (atI wd hi x y)) 14 rfl (by kernel_rfl) rfl rfl (fun w' e' => y_move rfl) ?_
  refine m_y (v := .pointer (some (sat asp ((atI wd hi x y).toNat * 1)))) 15 rfl (by kernel_rfl) rfl rfl (fun w' e' => y_idx T131.sl_24_34_1 rfl rfl ((B.r 2 rfl).addr (by omega)) (by omega) (by omega)) ?_
  obtain ⟨r71, hr72, hR70⟩ := Rd.atF (B0_62.r 2 rfl) (atI wd hi x y) (by omega) (by omega)
  refine m_y (v := .float .f32 r71) 16 rfl (by kernel_rfl) rfl rfl (fun w' e' => y_load T131.one_34 rfl ((hR70.ext0 e').cell (i := 0) rfl)) ?_
  refine m_y (v := .float .f32 r51) 17 rfl (by kernel_rfl) rfl rfl (fun w' e' => y_move rfl) ?_
  refine m_n 10 [11, 19, 20] rfl (by kernel_rfl) rfl rfl (fun w' e' => n_arith (by decide) rfl rfl) ?_
  rintro _ ⟨r74, rfl, hr75⟩
  have hc78 := fopC hr75 (cnLit (k := .f32) (t := 1065353216) (by kernel_rfl) (by kernel_rfl)) hr69
  refine m_n 11 [19, 20] rfl (by kernel_rfl) rfl rfl (fun w' e' => n_arith (by decide) rfl rfl) ?_
  rintro _ ⟨r80, rfl, hr81⟩
  have hc84 := fopC hr81 hr66 hc78
  refine m_n 18 [19, 20] rfl (by kernel_rfl) rfl rfl (fun w' e' => n_arith (by decide) rfl rfl) ?_
  rintro _ ⟨r86, rfl, hr87⟩
  have hc90 := fopC hr87 hr72 hc55
  refine m_n 19 [20] rfl (by kernel_rfl) rfl rfl (fun w' e' => n_arith (by decide) rfl rfl) ?_
  rintro _ ⟨r92, rfl, hr93⟩
  have hc96 := fopC hr93 hc84 hc90
  refine m_y (v := .float .f32 r92) 20 rfl (by kernel_rfl) rfl rfl (fun w' e' => y_assign rfl) ?_
  refine m_done (by kernel_rfl) (fun w97 e98 => ?_)
  replace B := B.ext0 e98
  clear e98
  clear B0_62 R63
  refine W_ret ?_
  refine ret1 (v := .float .f32 r92) rfl rfl rfl ⟨_, rfl, ?_⟩
  exact ⟨⟨_, rfl, hc96⟩, B.ext⟩
namespace T89
theorem mx : Try.prog.follows .mixedOrders = true := by kernel_rfl
theorem agg_26_5 : aggB Try.prog 26 5 = true := by kernel_rfl
theorem agg_30_3 : aggB Try.prog 30 3 = true := by kernel_rfl
theorem fld_26_0_0 : fldB Try.prog 26 0 0 = true := by kernel_rfl
theorem fld_26_1_1 : fldB Try.prog 26 1 1 = true := by kernel_rfl
theorem fld_30_0_0 : fldB Try.prog 30 0 0 = true := by kernel_rfl
theorem fn_130 : fnB Try.prog 130 = true := by kernel_rfl
theorem fn_131 : fnB Try.prog 131 = true := by kernel_rfl
theorem fn_68 : fnB Try.prog 68 = true := by kernel_rfl
theorem fn_69 : fnB Try.prog 69 = true := by kernel_rfl
theorem fn_98 : fnB Try.prog 98 = true := by kernel_rfl
theorem one_2 : oneB Try.prog 2 = true := by kernel_rfl
theorem one_24 : oneB Try.prog 24 = true := by kernel_rfl
theorem sl_24_34_1 : slB Try.prog 24 34 1 = true := by kernel_rfl
theorem sz_30_3 : szB Try.prog 30 3 = true := by kernel_rfl
theorem sz_34_1 : szB Try.prog 34 1 = true := by kernel_rfl
theorem zero_30 : zeroB Try.prog 30 (.agg #[.slice none 0 0, .slice none 0 0, .slice none 0 0]) := by unfold zeroB; kernel_rfl
end T89
set_option maxRecDepth 100000 in
set_option maxHeartbeats 4000000 in
theorem c_i_stepped {wd : Int} {hi : Int} {wr : Bool} {asp : Option Addr} {nsp : Nat} {csp : Nat} {Xsp : List Nat} {als : Option Addr} {nls : Nat} {cls : Nat} {Xls : List Nat} {afe : Option Addr} {nfe : Nat} {cfe : Nat} {Xfe : List Nat} {afx : Option Addr} {nfx : Nat} {cfx : Nat} {Xfx : List Nat} {afy : Option Addr} {nfy : Nat} {cfy : Nat} {Xfy : List Nat} {w : World} (qsp : Rd w kF asp nsp Xsp) (qls : Rd w kF als nls Xls) (qfe : Rd w kF afe nfe Xfe) (qfx : Rd w kF afx nfx Xfx) (qfy : Rd w kF afy nfy Xfy) (h1 : 3 ≤ wd) (h2 : wd ≤ 16) (h3 : 3 ≤ hi) (h4 : hi ≤ 16) (gfe : (nfe : Int) = wd * hi) (gfx : (nfx : Int) = wd * hi) (gfy : (nfy : Int) = wd * hi) (gsp : (nsp : Int) = wd * hi) (gls : (nls : Int) = wd * hi) :
    Calls Try.prog 89 #[.agg #[.int .i64 wd, .int .i64 hi, .bool wr, .slice asp nsp csp, .slice als nls cls], .agg #[.slice afe nfe cfe, .slice afx nfx cfx, .slice afy nfy cfy]] w (Rt fun v w' => ∃ (a1 : Option Addr) (c1 : Nat) (a2 : Option Addr) (c2 : Nat) (a3 : Option Addr) (c3 : Nat), v = .agg #[.slice a1 nfe c1, .slice a2 nfx c2, .slice a3 nfy c3] ∧ New w w' [.ow kF a1 nfe c1 34 (nwL wd hi wr Xsp Xls Xfe (hxL wd hi wr Xfe Xfx) (hyL wd hi wr Xfe Xfy)), .ow kF a2 nfx c2 34 (hxL wd hi wr Xfe Xfx), .ow kF a3 nfy c3 34 (hyL wd hi wr Xfe Xfy)]) := by
  have hlsp := qsp.len
  have hlls := qls.len
  have hlfe := qfe.len
  have hlfx := qfx.len
  have hlfy := qfy.len
  have B : Bu w no w [.rd kF asp nsp Xsp, .rd kF als nls Xls, .rd kF afe nfe Xfe, .rd kF afx nfx Xfx, .rd kF afy nfy Xfy] := Bu.ro (All.cons qsp (All.cons qls (All.cons qfe (All.cons qfx (All.cons qfy All.nil))))) rfl
  have hwh := mul16 (And.intro (And.intro h1 h2) (And.intro h3 h4))
  refine calls_W (n := 42) Try.func89 rfl rfl (Nat.le_of_ble_eq_true rfl) ?_
  refine W_seq ?_
  refine W_region (by kernel_rfl) ?_
  refine s_k rfl (k_boxN (v := .agg #[.int .i64 wd, .int .i64 hi, .bool wr, .slice asp nsp csp, .slice als nls cls]) (cs := [.int .i64 wd, .int .i64 hi, .bool wr, .slice asp nsp csp, .slice als nls cls]) rfl rfl (fun b1 w2 hN3 => ?_))
  replace B := B.new1 hN3
  clear hN3
  refine s_k rfl (k_boxN (v := .agg #[.slice afe nfe cfe, .slice afx nfx cfx, .slice afy nfy cfy]) (cs := [.slice afe nfe cfe, .slice afx nfx cfx, .slice afy nfy cfy]) rfl rfl (fun b4 w5 hN6 => ?_))
  replace B := B.new1 hN6
  clear hN6
  refine s_k rfl (k_allocN (z := (.agg #[.slice none 0 0, .slice none 0 0, .slice none 0 0])) (cs := [.slice none 0 0, .slice none 0 0, .slice none 0 0]) T89.zero_30 rfl (fun b7 w8 hN9 => ?_))
  replace B := B.new1 hN9
  clear hN9
  refine s_nil ?_
  refine W_seq ?_
  refine W_region (by kernel_rfl) ?_
  refine s_y (v := .agg #[.slice afe nfe cfe, .slice afx nfx cfx, .slice afy nfy cfy]) rfl (y_loadn (b := b4) (o := 0) (vs := [.slice afe nfe cfe, .slice afx nfx cfx, .slice afy nfy cfy]) T89.agg_30_3 rfl rfl ((B.b 1 rfl).cells (o := 0) rfl)) ?_
  refine s_k rfl (k_call T89.fn_68 (c_i_copyField (B.r 5 rfl) (B.r 6 rfl) (B.r 7 rfl) (by omega) (by omega) (by omega)) rfl ?_)
  rintro _ w10 ⟨a11, c12, a13, c14, a15, c16, rfl, hN17⟩
  replace B := B.new3 hN17
  clear hN17
  refine s_k rfl (k_allocN (z := (.agg #[.slice none 0 0, .slice none 0 0, .slice none 0 0])) (cs := [.slice none 0 0, .slice none 0 0, .slice none 0 0]) T89.zero_30 rfl (fun b18 w19 hN20 => ?_))
  replace B := B.new1 hN20
  clear hN20
  refine s_k0 rfl (k_stB (v := .agg #[.slice a11 nfe c12, .slice a13 nfx c14, .slice a15 nfy c16]) (n := 3) (cs' := [.slice a11 nfe c12, .slice a13 nfx c14, .slice a15 nfy c16]) T89.sz_30_3 rfl rfl rfl (B.b 0 rfl) (by simp [Value.cells, Value.oneCell']) (Nat.le_of_ble_eq_true rfl) rfl (fun w21 hU22 => ?_))
  replace B : Bu w no w21 [.blk b18 [.slice a11 nfe c12, .slice a13 nfx c14, .slice a15 nfy c16] 30, .ow kF a11 nfe c12 34 Xfe, .ow kF a13 nfx c14 34 Xfx, .ow kF a15 nfy c16 34 Xfy, .blk b7 [.slice none 0 0, .slice none 0 0, .slice none 0 0] 30, .blk b4 [.slice afe nfe cfe, .slice afx nfx cfx, .slice afy nfy cfy] 30, .blk b1 [.int .i64 wd, .int .i64 hi, .bool wr, .slice asp nsp csp, .slice als nls cls] 26, .rd kF asp nsp Xsp, .rd kF als nls Xls, .rd kF afe nfe Xfe, .rd kF afx nfx Xfx, .rd kF afy nfy Xfy] := B.upd [0] rfl hU22
  clear hU22
  refine s_nil ?_
  refine W_seq ?_
  refine W_region (by kernel_rfl) ?_
  refine s_y (v := .agg #[.int .i64 wd, .int .i64 hi, .bool wr, .slice asp nsp csp, .slice als nls cls]) rfl (y_loadn (b := b1) (o := 0) (vs := [.int .i64 wd, .int .i64 hi, .bool wr, .slice asp nsp csp, .slice als nls cls]) T89.agg_26_5 rfl rfl ((B.b 6 rfl).cells (o := 0) rfl)) ?_
  have Bt := B.weakO 1 rfl
  have Bt := Bt.weakB 0 rfl
  refine s_k rfl (k_call T89.fn_130 (c_i_halfStep (by omega) (by omega) (by omega) (by omega) (by omega) (by omega) (by omega) (Bt.all.pick [2, 3, 1, 0] rfl) (Bt.pw.pick [2, 3, 1, 0] rfl rfl)) rfl ?_)
  rintro _ w23 ⟨rfl, hU24⟩
  replace B : Bu w no w23 [.ow kF a13 nfx c14 34 (hxL wd hi wr Xfe Xfx), .ow kF a15 nfy c16 34 (hyL wd hi wr Xfe Xfy), .blk b18 [.slice a11 nfe c12, .slice a13 nfx c14, .slice a15 nfy c16] 30, .ow kF a11 nfe c12 34 Xfe, .blk b7 [.slice none 0 0, .slice none 0 0, .slice none 0 0] 30, .blk b4 [.slice afe nfe cfe, .slice afx nfx cfx, .slice afy nfy cfy] 30, .blk b1 [.int .i64 wd, .int .i64 hi, .bool wr, .slice asp nsp csp, .slice als nls cls] 26, .rd kF asp nsp Xsp, .rd kF als nls Xls, .rd kF afe nfe Xfe, .rd kF afx nfx Xfx, .rd kF afy nfy Xfy] := B.upd [2, 3] rfl hU24
  clear hU24
  refine s_nil ?_
  refine W_seq ?_
  refine W_seq ?_
  refine W_region (by kernel_rfl) ?_
  refine s_y (v := .pointer (some ⟨b1, 1, none⟩)) rfl (y_fld (o := 0) T89.fld_26_1_1 rfl) ?_
  refine s_y (v := .int .i64 hi) rfl (y_load T89.one_2 rfl ((B.b 6 rfl).cell (j := 1) rfl)) ?_
  refine s_y (v := .int .i64 0) rfl (y_move rfl) ?_
  refine s_nil ?_
  refine W_block ?_
  refine W_loop (fun ρ' w' => ∃ (ρ1 : Env) (py : Int), ρ' = updL ρ1 [(2, .pointer (some ⟨b1, 0, none⟩)), (4, .pointer (some ⟨b7, 0, none⟩)), (5, .pointer (some ⟨b18, 0, none⟩)), (13, .int .i64 hi), (14, .int .i64 py)] ∧ Bu w no w' [.ow kF a11 nfe c12 34 (mix (wd * hi) (wd * py) (fun i => nwF wd hi wr Xsp Xls Xfe (hxL wd hi wr Xfe Xfx) (hyL wd hi wr Xfe Xfy) (i % wd) (i / wd)) Xfe), .ow kF a13 nfx c14 34 (hxL wd hi wr Xfe Xfx), .ow kF a15 nfy c16 34 (hyL wd hi wr Xfe Xfy), .blk b18 [.slice a11 nfe c12, .slice a13 nfx c14, .slice a15 nfy c16] 30, .blk b7 [.slice none 0 0, .slice none 0 0, .slice none 0 0] 30, .blk b4 [.slice afe nfe cfe, .slice afx nfx cfx, .slice afy nfy cfy] 30, .blk b1 [.int .i64 wd, .int .i64 hi, .bool wr, .slice asp nsp csp, .slice als nls cls] 26, .rd kF asp nsp Xsp, .rd kF als nls Xls, .rd kF afe nfe Xfe, .rd kF afx nfx Xfx, .rd kF afy nfy Xfy] ∧ (0 ≤ py) ∧ (py ≤ hi)) (fun ρ' _ => (hi - iv (ρ' 14)).toNat) ?_ ?_
  · replace B : Bu w no w23 [.ow kF a13 nfx c14 34 (hxL wd hi wr Xfe Xfx), .ow kF a15 nfy c16 34 (hyL wd hi wr Xfe Xfy), .blk b18 [.slice a11 nfe c12, .slice a13 nfx c14, .slice a15 nfy c16] 30, .ow kF a11 nfe c12 34 (mix (wd * hi) (wd * 0) (fun i => nwF wd hi wr Xsp Xls Xfe (hxL wd hi wr Xfe Xfx) (hyL wd hi wr Xfe Xfy) (i % wd) (i / wd)) Xfe), .blk b7 [.slice none 0 0, .slice none 0 0, .slice none 0 0] 30, .blk b4 [.slice afe nfe cfe, .slice afx nfx cfx, .slice afy nfy cfy] 30, .blk b1 [.int .i64 wd, .int .i64 hi, .bool wr, .slice asp nsp csp, .slice als nls cls] 26, .rd kF asp nsp Xsp, .rd kF als nls Xls, .rd kF afe nfe Xfe, .rd kF afx nfx Xfx, .rd kF afy nfy Xfy] := B.castX 3 rfl rfl ((mix_zero (by omega)).trans (congrArg (fun q => mix (wd * hi) q (fun i => nwF wd hi wr Xsp Xls Xfe (hxL wd hi wr Xfe Xfx) (hyL wd hi wr Xfe Xfy) (i % wd) (i / wd)) _) (Int.mul_zero wd).symm))
    exact ⟨_, 0, Fits.eq ⟨rfl, rfl, rfl, rfl, rfl, trivial⟩, (B.pick [3, 0, 1, 2, 4, 5, 6, 7, 8, 9, 10, 11] rfl rfl), (Int.le_refl _), (by omega)⟩
  · clear B; rintro _ w25 ⟨ρ26, py, rfl, B, h0py, h1py⟩
    refine W_seq ?_
    refine W_region (by kernel_rfl) ?_
    by_cases c27 : py < hi
    · refine s_y (v := .bool true) rfl (y_lss rfl rfl (decide_eq_true c27)) ?_
      refine s_nil ?_
      refine W_seq ?_
      refine W_if_t (by decide) rfl ?_
      refine W_skip ?_
      refine W_seq ?_
      refine W_block ?_
      refine W_seq ?_
      refine W_region (by kernel_rfl) ?_
      refine s_y (v := .int .i64 py) rfl (y_move rfl) ?_
      refine s_y (v := .int .i64 py) rfl (y_assign rfl) ?_
      refine s_nil ?_
      refine W_seq ?_
      refine W_region (by kernel_rfl) ?_
      refine s_y (v := .pointer (some ⟨b1, 0, none⟩)) rfl (y_fld (o := 0) T89.fld_26_0_0 rfl) ?_
      refine s_y (v := .int .i64 wd) rfl (y_load T89.one_2 rfl ((B.b 6 rfl).cell (j := 0) rfl)) ?_
      refine s_y (v := .int .i64 0) rfl (y_move rfl) ?_
      refine s_nil ?_
      refine W_block ?_
      refine W_loop (fun ρ' w' => ∃ (ρ1 : Env) (px : Int), ρ' = updL ρ1 [(2, .pointer (some ⟨b1, 0, none⟩)), (4, .pointer (some ⟨b7, 0, none⟩)), (5, .pointer (some ⟨b18, 0, none⟩)), (6, .int .i64 py), (13, .int .i64 hi), (14, .int .i64 py), (15, .bool true), (16, .int .i64 py), (17, .pointer (some ⟨b1, 0, none⟩)), (18, .int .i64 wd), (19, .int .i64 px)] ∧ Bu w no w' [.ow kF a11 nfe c12 34 (mix (wd * hi) (wd * py + px) (fun i => nwF wd hi wr Xsp Xls Xfe (hxL wd hi wr Xfe Xfx) (hyL wd hi wr Xfe Xfy) (i % wd) (i / wd)) Xfe), .ow kF a13 nfx c14 34 (hxL wd hi wr Xfe Xfx), .ow kF a15 nfy c16 34 (hyL wd hi wr Xfe Xfy), .blk b18 [.slice a11 nfe c12, .slice a13 nfx c14, .slice a15 nfy c16] 30, .blk b7 [.slice none 0 0, .slice none 0 0, .slice none 0 0] 30, .blk b4 [.slice afe nfe cfe, .slice afx nfx cfx, .slice afy nfy cfy] 30, .blk b1 [.int .i64 wd, .int .i64 hi, .bool wr, .slice asp nsp csp, .slice als nls cls] 26, .rd kF asp nsp Xsp, .rd kF als nls Xls, .rd kF afe nfe Xfe, .rd kF afx nfx Xfx, .rd kF afy nfy Xfy] ∧ (0 ≤ px) ∧ (px ≤ wd)) (fun ρ' _ => (wd - iv (ρ' 19)).toNat) ?_ ?_
      · replace B : Bu w no w25 [.ow kF a11 nfe c12 34 (mix (wd * hi) (wd * py + 0) (fun i => nwF wd hi wr Xsp Xls Xfe (hxL wd hi wr Xfe Xfx) (hyL wd hi wr Xfe Xfy) (i % wd) (i / wd)) Xfe), .ow kF a13 nfx c14 34 (hxL wd hi wr Xfe Xfx), .ow kF a15 nfy c16 34 (hyL wd hi wr Xfe Xfy), .blk b18 [.slice a11 nfe c12, .slice a13 nfx c14, .slice a15 nfy c16] 30, .blk b7 [.slice none 0 0, .slice none 0 0, .slice none 0 0] 30, .blk b4 [.slice afe nfe cfe, .slice afx nfx cfx, .slice afy nfy cfy] 30, .blk b1 [.int .i64 wd, .int .i64 hi, .bool wr, .slice asp nsp csp, .slice als nls cls] 26, .rd kF asp nsp Xsp, .rd kF als nls Xls, .rd kF afe nfe Xfe, .rd kF afx nfx Xfx, .rd kF afy nfy Xfy] := B.castX 0 rfl rfl (congrArg (fun q => mix (wd * hi) q (fun i => nwF wd hi wr Xsp Xls Xfe (hxL wd hi wr Xfe Xfx) (hyL wd hi wr Xfe Xfy) (i % wd) (i / wd)) _) (Int.add_zero _).symm)
        exact ⟨_, 0, Fits.eq ⟨rfl, rfl, rfl, rfl, rfl, rfl, rfl, rfl, rfl, rfl, rfl, trivial⟩, B, (Int.le_refl _), (by omega)⟩
      · clear B; rintro _ w28 ⟨ρ29, px, rfl, B, h0px, h1px⟩
        refine W_seq ?_
        refine W_region (by kernel_rfl) ?_
        by_cases c30 : px < wd
        · refine s_y (v := .bool true) rfl (y_lss rfl rfl (decide_eq_true c30)) ?_
          refine s_nil ?_
          refine W_seq ?_
          refine W_if_t (by decide) rfl ?_
          refine W_skip ?_
          refine W_seq ?_
          refine W_block ?_
          refine W_seq ?_
          refine W_region (by kernel_rfl) ?_
          refine s_y (v := .int .i64 px) rfl (y_move rfl) ?_
          refine s_y (v := .int .i64 px) rfl (y_assign rfl) ?_
          refine s_nil ?_
          refine W_seq ?_
          refine W_region (by kernel_rfl) ?_
          refine s_y (v := .agg #[.int .i64 wd, .int .i64 hi, .bool wr, .slice asp nsp csp, .slice als nls cls]) rfl (y_loadn (b := b1) (o := 0) (vs := [.int .i64 wd, .int .i64 hi, .bool wr, .slice asp nsp csp, .slice als nls cls]) T89.agg_26_5 rfl rfl ((B.b 6 rfl).cells (o := 0) rfl)) ?_
          refine s_y (v := .int .i64 px) rfl (y_move rfl) ?_
          refine s_y (v := .int .i64 py) rfl (y_move rfl) ?_
          refine s_k rfl (k_call T89.fn_98 (c_i_isBorder (by omega) (by omega) (by omega) (by omega)) rfl ?_)
          rintro v33 w31 ⟨hv34, e32⟩
          replace B := B.ext0 e32
          clear e32
          by_cases c35 : bordB wd hi wr px py = true
          · obtain rfl : v33 = .bool true := hv34.trans (congrArg Value.bool c35)
            refine s_y (v := .bool false) rfl (y_not rfl rfl) ?_
            refine s_nil ?_
            refine W_if_f (by decide) rfl ?_
            refine W_skip ?_
            refine W_region (by kernel_rfl) ?_
            refine s_y (v := .int .i64 (px + 1)) rfl (y_add rfl rfl rfl (by omega)) ?_
            refine s_y (v := .int .i64 (px + 1)) rfl (y_move rfl) ?_
            refine s_nil ?_
            replace B : Bu w no w31 [.ow kF a11 nfe c12 34 (mix (wd * hi) (wd * py + (px + 1)) (fun i => nwF wd hi wr Xsp Xls Xfe (hxL wd hi wr Xfe Xfx) (hyL wd hi wr Xfe Xfy) (i % wd) (i / wd)) Xfe), .ow kF a13 nfx c14 34 (hxL wd hi wr Xfe Xfx), .ow kF a15 nfy c16 34 (hyL wd hi wr Xfe Xfy), .blk b18 [.slice a11 nfe c12, .slice a13 nfx c14, .slice a15 nfy c16] 30, .blk b7 [.slice none 0 0, .slice none 0 0, .slice none 0 0] 30, .blk b4 [.slice afe nfe cfe, .slice afx nfx cfx, .slice afy nfy cfy] 30, .blk b1 [.int .i64 wd, .int .i64 hi, .bool wr, .slice asp nsp csp, .slice als nls cls] 26, .rd kF asp nsp Xsp, .rd kF als nls Xls, .rd kF afe nfe Xfe, .rd kF afx nfx Xfx, .rd kF afy nfy Xfy] := B.castX 0 rfl rfl (mix_same (G := nwF wd hi wr Xsp Xls Xfe (hxL wd hi wr Xfe Xfx) (hyL wd hi wr Xfe Xfy)) (by omega) (by omega) (by omega) (by omega) (nw_yes c35))
            refine ⟨⟨_, px + 1, Fits.eq ⟨rfl, rfl, rfl, rfl, rfl, rfl, rfl, rfl, rfl, rfl, rfl, trivial⟩, B, (by omega), (by omega)⟩, ?_⟩
            show (wd - (px + 1)).toNat < (wd - px).toNat
            omega
          · obtain rfl : v33 = .bool false := hv34.trans (congrArg Value.bool (Bool.eq_false_iff.2 c35))
            refine s_y (v := .bool true) rfl (y_not rfl rfl) ?_
            refine s_nil ?_
            refine W_if_t (by decide) rfl ?_
            have B0_40 := B
            refine W_draw (no) T89.mx (by kernel_rfl) (fun w38 e39 => ?_)
            have R41 := Ext.refl (no) w31
            replace R41 := R41.trans (Ext0.any e39)
            replace B := B.ext0 e39
            clear e39
            refine m_y (v := .pointer (some ⟨b18, 0, none⟩)) 0 rfl (by kernel_rfl) rfl rfl (fun w' e' => y_fld (o := 0) T89.fld_30_0_0 rfl) ?_
            refine m_y (v := .slice a11 nfe c12) 1 rfl (by kernel_rfl) rfl rfl (fun w' e' => y_load T89.one_24 rfl (((B0_40.b 3 rfl).ext0 e').cell (j := 0) rfl)) ?_
            refine m_y (v := .agg #[.int .i64 wd, .int .i64 hi, .bool wr, .slice asp nsp csp, .slice als nls cls]) 2 rfl (by kernel_rfl) rfl rfl (fun w' e' => y_loadn (b := b1) (o := 0) (vs := [.int .i64 wd, .int .i64 hi, .bool wr, .slice asp nsp csp, .slice als nls cls]) T89.agg_26_5 rfl rfl (((B0_40.b 6 rfl).ext0 e').cells (o := 0) rfl)) ?_
            refine m_y (v := .int .i64 px) 3 rfl (by kernel_rfl) rfl rfl (fun w' e' => y_move rfl) ?_
            refine m_y (v := .int .i64 py) 4 rfl (by kernel_rfl) rfl rfl (fun w' e' => y_move rfl) ?_
            refine m_y (v := .agg #[.int .i64 wd, .int .i64 hi, .bool wr, .slice asp nsp csp, .slice als nls cls]) 6 rfl (by kernel_rfl) rfl rfl (fun w' e' => y_loadn (b := b1) (o := 0) (vs := [.int .i64 wd, .int .i64 hi, .bool wr, .slice asp nsp csp, .slice als nls cls]) T89.agg_26_5 rfl rfl (((B0_40.b 6 rfl).ext0 e').cells (o := 0) rfl)) ?_
            refine m_y (v := .agg #[.slice a11 nfe c12, .slice a13 nfx c14, .slice a15 nfy c16]) 7 rfl (by kernel_rfl) rfl rfl (fun w' e' => y_loadn (b := b18) (o := 0) (vs := [.slice a11 nfe c12, .slice a13 nfx c14, .slice a15 nfy c16]) T89.agg_30_3 rfl rfl (((B0_40.b 3 rfl).ext0 e').cells (o := 0) rfl)) ?_
            refine m_y (v := .int .i64 px) 8 rfl (by kernel_rfl) rfl rfl (fun w' e' => y_move rfl) ?_
            refine m_y (v := .int .i64 py) 9 rfl (by kernel_rfl) rfl rfl (fun w' e' => y_move rfl) ?_
            refine m_k 5 [10, 11, 12] rfl (by kernel_rfl) rfl rfl (fun w42 e43 => ?_)
            replace R41 := R41.trans (Ext0.any e43)
            replace B := B.ext0 e43
            clear e43
            refine k_call T89.fn_69 (c_i_at (by omega) (by omega) (by omega) (by omega) (by omega) (by omega) (by omega) (by omega)) rfl ?_
            rintro _ w44 ⟨rfl, e45⟩
            replace R41 := R41.trans (Ext0.any e45)
            replace B := B.ext0 e45
            clear e45
            refine ⟨fun _ => R41, ?_⟩
            have hat46 := atI_b (wd := wd) (hi := hi) (x := px) (y := py) (by omega) (by omega)
            refine m_k 10 [11, 12] rfl (by kernel_rfl) rfl rfl (fun w47 e48 => ?_)
            replace R41 := R41.trans (Ext0.any e48)
            replace B := B.ext0 e48
            clear e48
            refine k_call T89.fn_131 (c_i_newValue (B.r 7 rfl) (B.r 8 rfl) ((B.o 0 rfl).rd) ((B.o 1 rfl).rd) ((B.o 2 rfl).rd) (by omega) (by omega) (by omega) (by omega) (by omega) (by omega) (by omega) (by omega) (by omega) (by omega) (by omega) (by omega) (by omega)) rfl ?_
            rintro _ w49 ⟨⟨r51, rfl, hr52⟩, e50⟩
            replace R41 := R41.trans (Ext0.any e50)
            replace B := B.ext0 e50
            clear e50
            refine ⟨fun _ => R41, ?_⟩
            refine m_y (v := .pointer (some (sat a11 ((atI wd hi px py).toNat * 1)))) 11 rfl (by kernel_rfl) rfl rfl (fun w' e' => y_idx T89.sl_24_34_1 rfl rfl ((B.o 0 rfl).rd.addr (by omega)) (by omega) (by omega)) ?_
            refine m_kt 12 [] rfl (by kernel_rfl) rfl rfl (by kernel_rfl) (fun w55 e56 => ?_)
            replace R41 := R41.trans (Ext0.any e56)
            replace B := B.ext0 e56
            clear e56
            refine k_stO (k := kF) (i := atI wd hi px py) (j := 0) (x' := nvV wd hi Xsp Xls (el (mix (wd * hi) (wd * py + px) (fun i => nwF wd hi wr Xsp Xls Xfe (hxL wd hi wr Xfe Xfx) (hyL wd hi wr Xfe Xfy) (i % wd) (i / wd)) Xfe) (atI wd hi px py)) (hxL wd hi wr Xfe Xfx) (hyL wd hi wr Xfe Xfy) px py) (new := [.float .f32 r51]) T89.sz_34_1 rfl rfl rfl rfl rfl (by simp [Value.oneCell']) (by decide) (B.o 0 rfl) (by omega) (by omega) (by decide) (by rintro q ⟨_, rfl, _⟩; exact ⟨_, rfl, hr52⟩) (fun w53 hU54 => ?_)
            clear R41
            replace B : Bu w no w53 [.ow kF a11 nfe c12 34 (put (mix (wd * hi) (wd * py + px) (fun i => nwF wd hi wr Xsp Xls Xfe (hxL wd hi wr Xfe Xfx) (hyL wd hi wr Xfe Xfy) (i % wd) (i / wd)) Xfe) (atI wd hi px py) (nvV wd hi Xsp Xls (el (mix (wd * hi) (wd * py + px) (fun i => nwF wd hi wr Xsp Xls Xfe (hxL wd hi wr Xfe Xfx) (hyL wd hi wr Xfe Xfy) (i % wd) (i / wd)) Xfe) (atI wd hi px py)) (hxL wd hi wr Xfe Xfx) (hyL wd hi wr Xfe Xfy) px py)), .ow kF a13 nfx c14 34 (hxL wd hi wr Xfe Xfx), .ow kF a15 nfy c16 34 (hyL wd hi wr Xfe Xfy), .blk b18 [.slice a11 nfe c12, .slice a13 nfx c14, .slice a15 nfy c16] 30, .blk b7 [.slice none 0 0, .slice none 0 0, .slice none 0 0] 30, .blk b4 [.slice afe nfe cfe, .slice afx nfx cfx, .slice afy nfy cfy] 30, .blk b1 [.int .i64 wd, .int .i64 hi, .bool wr, .slice asp nsp csp, .slice als nls cls] 26, .rd kF asp nsp Xsp, .rd kF als nls Xls, .rd kF afe nfe Xfe, .rd kF afx nfx Xfx, .rd kF afy nfy Xfy] := B.upd [0] rfl hU54
            clear hU54
            refine m_done (by kernel_rfl) (fun w57 e58 => ?_)
            replace B := B.ext0 e58
            clear e58
            clear B0_40
            refine W_region (by kernel_rfl) ?_
            refine s_y (v := .int .i64 (px + 1)) rfl (y_add rfl rfl rfl (by omega)) ?_
            refine s_y (v := .int .i64 (px + 1)) rfl (y_move rfl) ?_
            refine s_nil ?_
            replace B : Bu w no w57 [.ow kF a11 nfe c12 34 (mix (wd * hi) (wd * py + (px + 1)) (fun i => nwF wd hi wr Xsp Xls Xfe (hxL wd hi wr Xfe Xfx) (hyL wd hi wr Xfe Xfy) (i % wd) (i / wd)) Xfe), .ow kF a13 nfx c14 34 (hxL wd hi wr Xfe Xfx), .ow kF a15 nfy c16 34 (hyL wd hi wr Xfe Xfy), .blk b18 [.slice a11 nfe c12, .slice a13 nfx c14, .slice a15 nfy c16] 30, .blk b7 [.slice none 0 0, .slice none 0 0, .slice none 0 0] 30, .blk b4 [.slice afe nfe cfe, .slice afx nfx cfx, .slice afy nfy cfy] 30, .blk b1 [.int .i64 wd, .int .i64 hi, .bool wr, .slice asp nsp csp, .slice als nls cls] 26, .rd kF asp nsp Xsp, .rd kF als nls Xls, .rd kF afe nfe Xfe, .rd kF afx nfx Xfx, .rd kF afy nfy Xfy] := B.castX 0 rfl rfl (mix_cell (G := nwF wd hi wr Xsp Xls Xfe (hxL wd hi wr Xfe Xfx) (hyL wd hi wr Xfe Xfy)) rfl (by omega) (by omega) (by omega) (by omega) rfl (nw_no rfl (by omega) (by omega) (by omega) (by omega) (Bool.eq_false_iff.2 c35)))
            refine ⟨⟨_, px + 1, Fits.eq ⟨rfl, rfl, rfl, rfl, rfl, rfl, rfl, rfl, rfl, rfl, rfl, trivial⟩, B, (by omega), (by omega)⟩, ?_⟩
            show (wd - (px + 1)).toNat < (wd - px).toNat
            omega
        · refine s_y (v := .bool false) rfl (y_lss rfl rfl (decide_eq_false c30)) ?_
          refine s_nil ?_
          refine W_seq ?_
          refine W_if_f (by decide) rfl ?_
          refine W_exit ?_
          refine W_region (by kernel_rfl) ?_
          refine s_y (v := .int .i64 (py + 1)) rfl (y_add rfl rfl rfl (by omega)) ?_
          refine s_y (v := .int .i64 (py + 1)) rfl (y_move rfl) ?_
          refine s_nil ?_
          replace B : Bu w no w28 [.ow kF a11 nfe c12 34 (mix (wd * hi) (wd * (py + 1)) (fun i => nwF wd hi wr Xsp Xls Xfe (hxL wd hi wr Xfe Xfx) (hyL wd hi wr Xfe Xfy) (i % wd) (i / wd)) Xfe), .ow kF a13 nfx c14 34 (hxL wd hi wr Xfe Xfx), .ow kF a15 nfy c16 34 (hyL wd hi wr Xfe Xfy), .blk b18 [.slice a11 nfe c12, .slice a13 nfx c14, .slice a15 nfy c16] 30, .blk b7 [.slice none 0 0, .slice none 0 0, .slice none 0 0] 30, .blk b4 [.slice afe nfe cfe, .slice afx nfx cfx, .slice afy nfy cfy] 30, .blk b1 [.int .i64 wd, .int .i64 hi, .bool wr, .slice asp nsp csp, .slice als nls cls] 26, .rd kF asp nsp Xsp, .rd kF als nls Xls, .rd kF afe nfe Xfe, .rd kF afx nfx Xfx, .rd kF afy nfy Xfy] := B.castX 0 rfl rfl (congrArg (fun q => mix (wd * hi) q (fun i => nwF wd hi wr Xsp Xls Xfe (hxL wd hi wr Xfe Xfx) (hyL wd hi wr Xfe Xfy) (i % wd) (i / wd)) _) (show wd * py + px = wd * (py + 1) by rw [Int.mul_add, Int.mul_one]; omega))
          refine ⟨⟨_, py + 1, Fits.eq ⟨rfl, rfl, rfl, rfl, rfl, trivial⟩, B, (by omega), (by omega)⟩, ?_⟩
          show (hi - (py + 1)).toNat < (hi - py).toNat
          omega
    · refine s_y (v := .bool false) rfl (y_lss rfl rfl (decide_eq_false c27)) ?_
      refine s_nil ?_
      refine W_seq ?_
      refine W_if_f (by decide) rfl ?_
      refine W_exit ?_
      have hye : py = hi := by omega
      subst hye
      replace B : Bu w no w25 [.ow kF a11 nfe c12 34 (tab (wd * py) (fun i => nwF wd py wr Xsp Xls Xfe (hxL wd py wr Xfe Xfx) (hyL wd py wr Xfe Xfy) (i % wd) (i / wd))), .ow kF a13 nfx c14 34 (hxL wd py wr Xfe Xfx), .ow kF a15 nfy c16 34 (hyL wd py wr Xfe Xfy), .blk b18 [.slice a11 nfe c12, .slice a13 nfx c14, .slice a15 nfy c16] 30, .blk b7 [.slice none 0 0, .slice none 0 0, .slice none 0 0] 30, .blk b4 [.slice afe nfe cfe, .slice afx nfx cfx, .slice afy nfy cfy] 30, .blk b1 [.int .i64 wd, .int .i64 py, .bool wr, .slice asp nsp csp, .slice als nls cls] 26, .rd kF asp nsp Xsp, .rd kF als nls Xls, .rd kF afe nfe Xfe, .rd kF afx nfx Xfx, .rd kF afy nfy Xfy] := B.castX 0 rfl rfl mix_all
      refine W_seq ?_
      refine W_region (by kernel_rfl) ?_
      refine s_y (v := .agg #[.slice a11 nfe c12, .slice a13 nfx c14, .slice a15 nfy c16]) rfl (y_loadn (b := b18) (o := 0) (vs := [.slice a11 nfe c12, .slice a13 nfx c14, .slice a15 nfy c16]) T89.agg_30_3 rfl rfl ((B.b 3 rfl).cells (o := 0) rfl)) ?_
      refine s_k0 rfl (k_stB (v := .agg #[.slice a11 nfe c12, .slice a13 nfx c14, .slice a15 nfy c16]) (n := 3) (cs' := [.slice a11 nfe c12, .slice a13 nfx c14, .slice a15 nfy c16]) T89.sz_30_3 rfl rfl rfl (B.b 4 rfl) (by simp [Value.cells, Value.oneCell']) (Nat.le_of_ble_eq_true rfl) rfl (fun w59 hU60 => ?_))
      replace B : Bu w no w59 [.blk b7 [.slice a11 nfe c12, .slice a13 nfx c14, .slice a15 nfy c16] 30, .ow kF a11 nfe c12 34 (tab (wd * py) (fun i => nwF wd py wr Xsp Xls Xfe (hxL wd py wr Xfe Xfx) (hyL wd py wr Xfe Xfy) (i % wd) (i / wd))), .ow kF a13 nfx c14 34 (hxL wd py wr Xfe Xfx), .ow kF a15 nfy c16 34 (hyL wd py wr Xfe Xfy), .blk b18 [.slice a11 nfe c12, .slice a13 nfx c14, .slice a15 nfy c16] 30, .blk b4 [.slice afe nfe cfe, .slice afx nfx cfx, .slice afy nfy cfy] 30, .blk b1 [.int .i64 wd, .int .i64 py, .bool wr, .slice asp nsp csp, .slice als nls cls] 26, .rd kF asp nsp Xsp, .rd kF als nls Xls, .rd kF afe nfe Xfe, .rd kF afx nfx Xfx, .rd kF afy nfy Xfy] := B.upd [4] rfl hU60
      clear hU60
      refine s_nil ?_
      refine W_ret ?_
      refine ret1 (v := .agg #[.slice a11 nfe c12, .slice a13 nfx c14, .slice a15 nfy c16]) rfl rfl ⟨_, [.slice a11 nfe c12, .slice a13 nfx c14, .slice a15 nfy c16], _, rfl, (B.b 0 rfl), T89.agg_30_3, rfl⟩ ⟨_, rfl, ?_⟩
      replace B : Bu w no w59 [.blk b7 [.slice a11 nfe c12, .slice a13 nfx c14, .slice a15 nfy c16] 30, .ow kF a11 nfe c12 34 (nwL wd py wr Xsp Xls Xfe (hxL wd py wr Xfe Xfx) (hyL wd py wr Xfe Xfy)), .ow kF a13 nfx c14 34 (hxL wd py wr Xfe Xfx), .ow kF a15 nfy c16 34 (hyL wd py wr Xfe Xfy), .blk b18 [.slice a11 nfe c12, .slice a13 nfx c14, .slice a15 nfy c16] 30, .blk b4 [.slice afe nfe cfe, .slice afx nfx cfx, .slice afy nfy cfy] 30, .blk b1 [.int .i64 wd, .int .i64 py, .bool wr, .slice asp nsp csp, .slice als nls cls] 26, .rd kF asp nsp Xsp, .rd kF als nls Xls, .rd kF afe nfe Xfe, .rd kF afx nfx Xfx, .rd kF afy nfy Xfy] := B.castX 1 rfl rfl rfl
      exact ⟨_, _, _, _, _, _, rfl, B.give [1, 2, 3] rfl rfl rfl⟩
namespace T58
theorem mx : Try.prog.follows .mixedOrders = true := by kernel_rfl
theorem agg_26_5 : aggB Try.prog 26 5 = true := by kernel_rfl
theorem agg_30_3 : aggB Try.prog 30 3 = true := by kernel_rfl
theorem fn_111 : fnB Try.prog 111 = true := by kernel_rfl
theorem fn_41 : fnB Try.prog 41 = true := by kernel_rfl
theorem fn_74 : fnB Try.prog 74 = true := by kernel_rfl
theorem fn_89 : fnB Try.prog 89 = true := by kernel_rfl
theorem sz_30_3 : szB Try.prog 30 3 = true := by kernel_rfl
theorem zero_30 : zeroB Try.prog 30 (.agg #[.slice none 0 0, .slice none 0 0, .slice none 0 0]) := by unfold zeroB; kernel_rfl
end T58
set_option maxRecDepth 100000 in
set_option maxHeartbeats 4000000 in
theorem c_i_QuietAfter {wd : Int} {hi : Int} {wr : Bool} {asp : Option Addr} {nsp : Nat} {csp : Nat} {Xsp : List Nat} {als : Option Addr} {nls : Nat} {cls : Nat} {Xls : List Nat} {afe : Option Addr} {nfe : Nat} {cfe : Nat} {Xfe : List Nat} {afx : Option Addr} {nfx : Nat} {cfx : Nat} {Xfx : List Nat} {afy : Option Addr} {nfy : Nat} {cfy : Nat} {Xfy : List Nat} {lv : Nat} {V : Nat} {m : Int} {w : World} (qsp : Rd w kF asp nsp Xsp) (qls : Rd w kF als nls Xls) (qfe : Rd w kF afe nfe Xfe) (qfx : Rd w kF afx nfx Xfx) (qfy : Rd w kF afy nfy Xfy) (hlv : Cn .f32 lv V) (hbsp : nsp ≤ 9223372036854775806) (hbls : nls ≤ 9223372036854775806) (hbfe : nfe ≤ 9223372036854775806) (hbfx : nfx ≤ 9223372036854775806) (hbfy : nfy ≤ 9223372036854775806) :
    Calls Try.prog 58 #[.agg #[.int .i64 wd, .int .i64 hi, .bool wr, .slice asp nsp csp, .slice als nls cls], .agg #[.slice afe nfe cfe, .slice afx nfx cfx, .slice afy nfy cfy], .float .f32 lv, .int .i64 m] w (Rt fun v w' => (qtB wd hi wr Xsp Xls Xfe Xfx Xfy V m = true ∧ v = .tuple #[.int .i64 (qtV wd hi wr Xsp Xls (Xfe, Xfx, Xfy) V m), .bool true] ∧ Ext0 w w') ∨ (qtB wd hi wr Xsp Xls Xfe Xfx Xfy V m = false ∧ v = .tuple #[.int .i64 0, .bool false] ∧ Ext0 w w')) := by
  have hlsp := qsp.len
  have hlls := qls.len
  have hlfe := qfe.len
  have hlfx := qfx.len
  have hlfy := qfy.len
  have B : Bu w no w [.rd kF asp nsp Xsp, .rd kF als nls Xls, .rd kF afe nfe Xfe, .rd kF afx nfx Xfx, .rd kF afy nfy Xfy] := Bu.ro (All.cons qsp (All.cons qls (All.cons qfe (All.cons qfx (All.cons qfy All.nil))))) rfl
  refine calls_W (n := 35) Try.func58 rfl rfl (Nat.le_of_ble_eq_true rfl) ?_
  refine W_seq ?_
  refine W_region (by kernel_rfl) ?_
  refine s_k rfl (k_boxN (v := .agg #[.int .i64 wd, .int .i64 hi, .bool wr, .slice asp nsp csp, .slice als nls cls]) (cs := [.int .i64 wd, .int .i64 hi, .bool wr, .slice asp nsp csp, .slice als nls cls]) rfl rfl (fun b1 w2 hN3 => ?_))
  replace B := B.new1 hN3
  clear hN3
  refine s_k rfl (k_boxN (v := .agg #[.slice afe nfe cfe, .slice afx nfx cfx, .slice afy nfy cfy]) (cs := [.slice afe nfe cfe, .slice afx nfx cfx, .slice afy nfy cfy]) rfl rfl (fun b4 w5 hN6 => ?_))
  replace B := B.new1 hN6
  clear hN6
  refine s_y (v := .int .i64 0) rfl (y_assign rfl) ?_
  refine s_y (v := .bool false) rfl (y_assign rfl) ?_
  refine s_nil ?_
  refine W_seq ?_
  refine W_seq ?_
  refine W_region (by kernel_rfl) ?_
  refine s_y (v := .agg #[.int .i64 wd, .int .i64 hi, .bool wr, .slice asp nsp csp, .slice als nls cls]) rfl (y_loadn (b := b1) (o := 0) (vs := [.int .i64 wd, .int .i64 hi, .bool wr, .slice asp nsp csp, .slice als nls cls]) T58.agg_26_5 rfl rfl ((B.b 1 rfl).cells (o := 0) rfl)) ?_
  refine s_y (v := .agg #[.slice afe nfe cfe, .slice afx nfx cfx, .slice afy nfy cfy]) rfl (y_loadn (b := b4) (o := 0) (vs := [.slice afe nfe cfe, .slice afx nfx cfx, .slice afy nfy cfy]) T58.agg_30_3 rfl rfl ((B.b 0 rfl).cells (o := 0) rfl)) ?_
  refine s_k rfl (k_call T58.fn_41 (c_i_IsField (B.r 2 rfl) (B.r 3 rfl) (B.r 4 rfl) (B.r 5 rfl) (B.r 6 rfl) (by omega) (by omega) (by omega) (by omega) (by omega)) rfl ?_)
  rintro v9 w7 ⟨hv10, e8⟩
  replace B := B.ext0 e8
  clear e8
  by_cases c11 : fieldB wd hi wr Xsp Xls Xfe Xfx Xfy = true
  · have hb12 := fieldB_b c11
    obtain rfl : v9 = .bool true := hv10.trans (congrArg Value.bool c11)
    refine s_y (v := .bool false) rfl (y_not rfl rfl) ?_
    refine s_y (v := .bool false) rfl (y_move rfl) ?_
    refine s_y (v := .int .i64 m) rfl (y_move rfl) ?_
    refine s_k rfl (k_call T58.fn_74 (c_i_within) rfl ?_)
    rintro v15 w13 ⟨hv16, e14⟩
    replace B := B.ext0 e14
    clear e14
    by_cases c17 : within m 0 64 = true
    · have hb18 := within_b c17
      obtain rfl : v15 = .bool true := hv16.trans (congrArg Value.bool c17)
      refine s_y (v := .bool false) rfl (y_not rfl rfl) ?_
      refine s_y (v := .bool false) rfl (y_pick_f rfl rfl) ?_
      refine s_nil ?_
      refine W_if_f (by decide) rfl ?_
      refine W_skip ?_
      refine W_seq ?_
      refine W_region (by kernel_rfl) ?_
      refine s_y (v := .agg #[.slice afe nfe cfe, .slice afx nfx cfx, .slice afy nfy cfy]) rfl (y_loadn (b := b4) (o := 0) (vs := [.slice afe nfe cfe, .slice afx nfx cfx, .slice afy nfy cfy]) T58.agg_30_3 rfl rfl ((B.b 0 rfl).cells (o := 0) rfl)) ?_
      refine s_k rfl (k_allocN (z := (.agg #[.slice none 0 0, .slice none 0 0, .slice none 0 0])) (cs := [.slice none 0 0, .slice none 0 0, .slice none 0 0]) T58.zero_30 rfl (fun b19 w20 hN21 => ?_))
      replace B := B.new1 hN21
      clear hN21
      refine s_k0 rfl (k_stB (v := .agg #[.slice afe nfe cfe, .slice afx nfx cfx, .slice afy nfy cfy]) (n := 3) (cs' := [.slice afe nfe cfe, .slice afx nfx cfx, .slice afy nfy cfy]) T58.sz_30_3 rfl rfl rfl (B.b 0 rfl) (by simp [Value.cells, Value.oneCell']) (Nat.le_of_ble_eq_true rfl) rfl (fun w22 hU23 => ?_))
      replace B : Bu w no w22 [.blk b19 [.slice afe nfe cfe, .slice afx nfx cfx, .slice afy nfy cfy] 30, .blk b4 [.slice afe nfe cfe, .slice afx nfx cfx, .slice afy nfy cfy] 30, .blk b1 [.int .i64 wd, .int .i64 hi, .bool wr, .slice asp nsp csp, .slice als nls cls] 26, .rd kF asp nsp Xsp, .rd kF als nls Xls, .rd kF afe nfe Xfe, .rd kF afx nfx Xfx, .rd kF afy nfy Xfy] := B.upd [0] rfl hU23
      clear hU23
      refine s_nil ?_
      refine W_seq ?_
      refine W_seq ?_
      refine W_region (by kernel_rfl) ?_
      refine s_y (v := .int .i64 0) rfl (y_assign rfl) ?_
      refine s_nil ?_
      refine W_block ?_
      refine W_loop (fun ρ' w' => ∃ (ρ1 : Env) (k : Int) (A1 : Option Addr) (A2 : Option Addr) (A3 : Option Addr) (C1 : Nat) (C2 : Nat) (C3 : Nat), ρ' = updL ρ1 [(2, .float .f32 lv), (3, .int .i64 m), (4, .pointer (some ⟨b1, 0, none⟩)), (10, .pointer (some ⟨b19, 0, none⟩)), (11, .int .i64 k)] ∧ Bu w no w' [.rd kF A1 nfe ((rnT wd hi wr Xsp Xls (Xfe, Xfx, Xfy) (Int.toNat k)).1), .rd kF A2 nfx ((rnT wd hi wr Xsp Xls (Xfe, Xfx, Xfy) (Int.toNat k)).2.1), .rd kF A3 nfy ((rnT wd hi wr Xsp Xls (Xfe, Xfx, Xfy) (Int.toNat k)).2.2), .blk b19 [.slice A1 nfe C1, .slice A2 nfx C2, .slice A3 nfy C3] 30, .blk b4 [.slice afe nfe cfe, .slice afx nfx cfx, .slice afy nfy cfy] 30, .blk b1 [.int .i64 wd, .int .i64 hi, .bool wr, .slice asp nsp csp, .slice als nls cls] 26, .rd kF asp nsp Xsp, .rd kF als nls Xls] ∧ (0 ≤ k) ∧ (k ≤ m + 1) ∧ (qtV wd hi wr Xsp Xls (Xfe, Xfx, Xfy) V m = qtI wd hi wr Xsp Xls (Xfe, Xfx, Xfy) V (m + 1 - k).toNat k)) (fun ρ' _ => (m + 1 - iv (ρ' 11)).toNat) ?_ ?_
      · exact ⟨_, 0, afe, afx, afy, cfe, cfx, cfy, Fits.eq ⟨rfl, rfl, rfl, rfl, rfl, trivial⟩, (B.pick [5, 6, 7, 0, 1, 2, 3, 4] rfl rfl), (Int.le_refl _), (by omega), rfl⟩
      · clear B; rintro _ w24 ⟨ρ25, k, A1, A2, A3, C1, C2, C3, rfl, B, h0k, h1k, hM⟩
        have hlr := rnT_len (wd := wd) (hi := hi) (wr := wr) (P := Xsp) (L := Xls) (F := (Xfe, Xfx, Xfy)) (m := nfe) (by omega) (by show Xfx.length = _; omega) (by show Xfy.length = _; omega) (by omega) k.toNat
        refine W_seq ?_
        refine W_seq ?_
        refine W_region (by kernel_rfl) ?_
        refine s_y (v := .int .i64 k) rfl (y_move rfl) ?_
        refine s_y (v := .int .i64 m) rfl (y_move rfl) ?_
        by_cases c26 : k ≤ m
        · refine s_y (v := .bool true) rfl (y_leq rfl rfl (decide_eq_true c26)) ?_
          refine s_nil ?_
          refine W_if_t (by decide) rfl ?_
          refine W_skip ?_
          refine W_seq ?_
          refine W_block ?_
          refine W_seq ?_
          refine W_seq ?_
          refine W_region (by kernel_rfl) ?_
          refine s_y (v := .agg #[.slice A1 nfe C1, .slice A2 nfx C2, .slice A3 nfy C3]) rfl (y_loadn (b := b19) (o := 0) (vs := [.slice A1 nfe C1, .slice A2 nfx C2, .slice A3 nfy C3]) T58.agg_30_3 rfl rfl ((B.b 3 rfl).cells (o := 0) rfl)) ?_
          refine s_k rfl (k_call T58.fn_111 (c_i_peakSize (B.r 0 rfl) (B.r 1 rfl) (B.r 2 rfl) (by omega)) rfl ?_)
          rintro _ w27 ⟨⟨r29, rfl, hr30⟩, e28⟩
          replace B := B.ext0 e28
          clear e28
          refine s_y (v := .float .f32 lv) rfl (y_move rfl) ?_
          by_cases c31 : flt .f32 (pkS ((rnT wd hi wr Xsp Xls (Xfe, Xfx, Xfy) (Int.toNat k)).1)) V = true
          · refine s_y (v := .bool true) rfl (y_flss rfl rfl (fltC hr30 hlv c31)) ?_
            refine s_nil ?_
            refine W_if_t (by decide) rfl ?_
            refine W_seq ?_
            refine W_region (by kernel_rfl) ?_
            refine s_y (v := .int .i64 k) rfl (y_move rfl) ?_
            refine s_y (v := .int .i64 k) rfl (y_assign rfl) ?_
            refine s_y (v := .bool true) rfl (y_assign rfl) ?_
            refine s_nil ?_
            refine W_ret ?_
            refine ret2 (v1 := .int .i64 k) (v2 := .bool true) rfl rfl rfl rfl rfl ⟨_, rfl, ?_⟩
            have hrun : runB wd hi wr Xsp Xls Xfe Xfx Xfy m = true := by simp only [runB, c11, c17, Bool.and_true]
            have hqv := qt_yes (by omega) hM c31
            have hcond : qtB wd hi wr Xsp Xls Xfe Xfx Xfy V m = true := by simp only [qtB, hrun, Bool.true_and, decide_eq_true_eq]; omega
            exact .inl ⟨hcond, ⟨(by rw [hqv]), B.ext⟩⟩
          · refine s_y (v := .bool false) rfl (y_flss rfl rfl (fltC hr30 hlv (Bool.eq_false_iff.2 c31))) ?_
            refine s_nil ?_
            refine W_if_f (by decide) rfl ?_
            refine W_skip ?_
            refine W_region (by kernel_rfl) ?_
            refine s_y (v := .agg #[.int .i64 wd, .int .i64 hi, .bool wr, .slice asp nsp csp, .slice als nls cls]) rfl (y_loadn (b := b1) (o := 0) (vs := [.int .i64 wd, .int .i64 hi, .bool wr, .slice asp nsp csp, .slice als nls cls]) T58.agg_26_5 rfl rfl ((B.b 5 rfl).cells (o := 0) rfl)) ?_
            refine s_y (v := .agg #[.slice A1 nfe C1, .slice A2 nfx C2, .slice A3 nfy C3]) rfl (y_loadn (b := b19) (o := 0) (vs := [.slice A1 nfe C1, .slice A2 nfx C2, .slice A3 nfy C3]) T58.agg_30_3 rfl rfl ((B.b 3 rfl).cells (o := 0) rfl)) ?_
            refine s_k rfl (k_call T58.fn_89 (c_i_stepped (B.r 6 rfl) (B.r 7 rfl) (B.r 0 rfl) (B.r 1 rfl) (B.r 2 rfl) (by omega) (by omega) (by omega) (by omega) (by omega) (by omega) (by omega) (by omega) (by omega)) rfl ?_)
            rintro _ w32 ⟨a33, c34, a35, c36, a37, c38, rfl, hN39⟩
            replace B := B.new3 hN39
            clear hN39
            refine s_k0 rfl (k_stB (v := .agg #[.slice a33 nfe c34, .slice a35 nfx c36, .slice a37 nfy c38]) (n := 3) (cs' := [.slice a33 nfe c34, .slice a35 nfx c36, .slice a37 nfy c38]) T58.sz_30_3 rfl rfl rfl (B.b 6 rfl) (by simp [Value.cells, Value.oneCell']) (Nat.le_of_ble_eq_true rfl) rfl (fun w40 hU41 => ?_))
            replace B : Bu w no w40 [.blk b19 [.slice a33 nfe c34, .slice a35 nfx c36, .slice a37 nfy c38] 30, .ow kF a33 nfe c34 34 (nwL wd hi wr Xsp Xls ((rnT wd hi wr Xsp Xls (Xfe, Xfx, Xfy) (Int.toNat k)).1) (hxL wd hi wr ((rnT wd hi wr Xsp Xls (Xfe, Xfx, Xfy) (Int.toNat k)).1) ((rnT wd hi wr Xsp Xls (Xfe, Xfx, Xfy) (Int.toNat k)).2.1)) (hyL wd hi wr ((rnT wd hi wr Xsp Xls (Xfe, Xfx, Xfy) (Int.toNat k)).1) ((rnT wd hi wr Xsp Xls (Xfe, Xfx, Xfy) (Int.toNat k)).2.2))), .ow kF a35 nfx c36 34 (hxL wd hi wr ((rnT wd hi wr Xsp Xls (Xfe, Xfx, Xfy) (Int.toNat k)).1) ((rnT wd hi wr Xsp Xls (Xfe, Xfx, Xfy) (Int.toNat k)).2.1)), .ow kF a37 nfy c38 34 (hyL wd hi wr ((rnT wd hi wr Xsp Xls (Xfe, Xfx, Xfy) (Int.toNat k)).1) ((rnT wd hi wr Xsp Xls (Xfe, Xfx, Xfy) (Int.toNat k)).2.2)), .rd kF A1 nfe ((rnT wd hi wr Xsp Xls (Xfe, Xfx, Xfy) (Int.toNat k)).1), .rd kF A2 nfx ((rnT wd hi wr Xsp Xls (Xfe, Xfx, Xfy) (Int.toNat k)).2.1), .rd kF A3 nfy ((rnT wd hi wr Xsp Xls (Xfe, Xfx, Xfy) (Int.toNat k)).2.2), .blk b4 [.slice afe nfe cfe, .slice afx nfx cfx, .slice afy nfy cfy] 30, .blk b1 [.int .i64 wd, .int .i64 hi, .bool wr, .slice asp nsp csp, .slice als nls cls] 26, .rd kF asp nsp Xsp, .rd kF als nls Xls] := B.upd [6] rfl hU41
            clear hU41
            refine s_nil ?_
            refine W_region (by kernel_rfl) ?_
            refine s_y (v := .int .i64 k) rfl (y_move rfl) ?_
            refine s_y (v := .int .i64 (k + 1)) rfl (y_add rfl rfl rfl (by omega)) ?_
            refine s_y (v := .int .i64 (k + 1)) rfl (y_assign rfl) ?_
            refine s_nil ?_
            replace B : Bu w no w40 [.blk b19 [.slice a33 nfe c34, .slice a35 nfx c36, .slice a37 nfy c38] 30, .ow kF a33 nfe c34 34 ((rnT wd hi wr Xsp Xls (Xfe, Xfx, Xfy) (Int.toNat (k + 1))).1), .ow kF a35 nfx c36 34 (hxL wd hi wr ((rnT wd hi wr Xsp Xls (Xfe, Xfx, Xfy) (Int.toNat k)).1) ((rnT wd hi wr Xsp Xls (Xfe, Xfx, Xfy) (Int.toNat k)).2.1)), .ow kF a37 nfy c38 34 (hyL wd hi wr ((rnT wd hi wr Xsp Xls (Xfe, Xfx, Xfy) (Int.toNat k)).1) ((rnT wd hi wr Xsp Xls (Xfe, Xfx, Xfy) (Int.toNat k)).2.2)), .rd kF A1 nfe ((rnT wd hi wr Xsp Xls (Xfe, Xfx, Xfy) (Int.toNat k)).1), .rd kF A2 nfx ((rnT wd hi wr Xsp Xls (Xfe, Xfx, Xfy) (Int.toNat k)).2.1), .rd kF A3 nfy ((rnT wd hi wr Xsp Xls (Xfe, Xfx, Xfy) (Int.toNat k)).2.2), .blk b4 [.slice afe nfe cfe, .slice afx nfx cfx, .slice afy nfy cfy] 30, .blk b1 [.int .i64 wd, .int .i64 hi, .bool wr, .slice asp nsp csp, .slice als nls cls] 26, .rd kF asp nsp Xsp, .rd kF als nls Xls] := B.castX 1 rfl rfl (congrArg (fun q : Fld => q.1) (rnT_next (by omega)))
            replace B : Bu w no w40 [.blk b19 [.slice a33 nfe c34, .slice a35 nfx c36, .slice a37 nfy c38] 30, .ow kF a33 nfe c34 34 ((rnT wd hi wr Xsp Xls (Xfe, Xfx, Xfy) (Int.toNat (k + 1))).1), .ow kF a35 nfx c36 34 ((rnT wd hi wr Xsp Xls (Xfe, Xfx, Xfy) (Int.toNat (k + 1))).2.1), .ow kF a37 nfy c38 34 (hyL wd hi wr ((rnT wd hi wr Xsp Xls (Xfe, Xfx, Xfy) (Int.toNat k)).1) ((rnT wd hi wr Xsp Xls (Xfe, Xfx, Xfy) (Int.toNat k)).2.2)), .rd kF A1 nfe ((rnT wd hi wr Xsp Xls (Xfe, Xfx, Xfy) (Int.toNat k)).1), .rd kF A2 nfx ((rnT wd hi wr Xsp Xls (Xfe, Xfx, Xfy) (Int.toNat k)).2.1), .rd kF A3 nfy ((rnT wd hi wr Xsp Xls (Xfe, Xfx, Xfy) (Int.toNat k)).2.2), .blk b4 [.slice afe nfe cfe, .slice afx nfx cfx, .slice afy nfy cfy] 30, .blk b1 [.int .i64 wd, .int .i64 hi, .bool wr, .slice asp nsp csp, .slice als nls cls] 26, .rd kF asp nsp Xsp, .rd kF als nls Xls] := B.castX 2 rfl rfl (congrArg (fun q : Fld => q.2.1) (rnT_next (by omega)))
            replace B : Bu w no w40 [.blk b19 [.slice a33 nfe c34, .slice a35 nfx c36, .slice a37 nfy c38] 30, .ow kF a33 nfe c34 34 ((rnT wd hi wr Xsp Xls (Xfe, Xfx, Xfy) (Int.toNat (k + 1))).1), .ow kF a35 nfx c36 34 ((rnT wd hi wr Xsp Xls (Xfe, Xfx, Xfy) (Int.toNat (k + 1))).2.1), .ow kF a37 nfy c38 34 ((rnT wd hi wr Xsp Xls (Xfe, Xfx, Xfy) (Int.toNat (k + 1))).2.2), .rd kF A1 nfe ((rnT wd hi wr Xsp Xls (Xfe, Xfx, Xfy) (Int.toNat k)).1), .rd kF A2 nfx ((rnT wd hi wr Xsp Xls (Xfe, Xfx, Xfy) (Int.toNat k)).2.1), .rd kF A3 nfy ((rnT wd hi wr Xsp Xls (Xfe, Xfx, Xfy) (Int.toNat k)).2.2), .blk b4 [.slice afe nfe cfe, .slice afx nfx cfx, .slice afy nfy cfy] 30, .blk b1 [.int .i64 wd, .int .i64 hi, .bool wr, .slice asp nsp csp, .slice als nls cls] 26, .rd kF asp nsp Xsp, .rd kF als nls Xls] := B.castX 3 rfl rfl (congrArg (fun q : Fld => q.2.2) (rnT_next (by omega)))
            replace B : Bu w no w40 [.blk b19 [.slice a33 nfe c34, .slice a35 nfx c36, .slice a37 nfy c38] 30, .rd kF a33 nfe ((rnT wd hi wr Xsp Xls (Xfe, Xfx, Xfy) (Int.toNat (k + 1))).1), .ow kF a35 nfx c36 34 ((rnT wd hi wr Xsp Xls (Xfe, Xfx, Xfy) (Int.toNat (k + 1))).2.1), .ow kF a37 nfy c38 34 ((rnT wd hi wr Xsp Xls (Xfe, Xfx, Xfy) (Int.toNat (k + 1))).2.2), .rd kF A1 nfe ((rnT wd hi wr Xsp Xls (Xfe, Xfx, Xfy) (Int.toNat k)).1), .rd kF A2 nfx ((rnT wd hi wr Xsp Xls (Xfe, Xfx, Xfy) (Int.toNat k)).2.1), .rd kF A3 nfy ((rnT wd hi wr Xsp Xls (Xfe, Xfx, Xfy) (Int.toNat k)).2.2), .blk b4 [.slice afe nfe cfe, .slice afx nfx cfx, .slice afy nfy cfy] 30, .blk b1 [.int .i64 wd, .int .i64 hi, .bool wr, .slice asp nsp csp, .slice als nls cls] 26, .rd kF asp nsp Xsp, .rd kF als nls Xls] := B.weakO 1 rfl
            replace B : Bu w no w40 [.blk b19 [.slice a33 nfe c34, .slice a35 nfx c36, .slice a37 nfy c38] 30, .rd kF a33 nfe ((rnT wd hi wr Xsp Xls (Xfe, Xfx, Xfy) (Int.toNat (k + 1))).1), .rd kF a35 nfx ((rnT wd hi wr Xsp Xls (Xfe, Xfx, Xfy) (Int.toNat (k + 1))).2.1), .ow kF a37 nfy c38 34 ((rnT wd hi wr Xsp Xls (Xfe, Xfx, Xfy) (Int.toNat (k + 1))).2.2), .rd kF A1 nfe ((rnT wd hi wr Xsp Xls (Xfe, Xfx, Xfy) (Int.toNat k)).1), .rd kF A2 nfx ((rnT wd hi wr Xsp Xls (Xfe, Xfx, Xfy) (Int.toNat k)).2.1), .rd kF A3 nfy ((rnT wd hi wr Xsp Xls (Xfe, Xfx, Xfy) (Int.toNat k)).2.2), .blk b4 [.slice afe nfe cfe, .slice afx nfx cfx, .slice afy nfy cfy] 30, .blk b1 [.int .i64 wd, .int .i64 hi, .bool wr, .slice asp nsp csp, .slice als nls cls] 26, .rd kF asp nsp Xsp, .rd kF als nls Xls] := B.weakO 2 rfl
            replace B : Bu w no w40 [.blk b19 [.slice a33 nfe c34, .slice a35 nfx c36, .slice a37 nfy c38] 30, .rd kF a33 nfe ((rnT wd hi wr Xsp Xls (Xfe, Xfx, Xfy) (Int.toNat (k + 1))).1), .rd kF a35 nfx ((rnT wd hi wr Xsp Xls (Xfe, Xfx, Xfy) (Int.toNat (k + 1))).2.1), .rd kF a37 nfy ((rnT wd hi wr Xsp Xls (Xfe, Xfx, Xfy) (Int.toNat (k + 1))).2.2), .rd kF A1 nfe ((rnT wd hi wr Xsp Xls (Xfe, Xfx, Xfy) (Int.toNat k)).1), .rd kF A2 nfx ((rnT wd hi wr Xsp Xls (Xfe, Xfx, Xfy) (Int.toNat k)).2.1), .rd kF A3 nfy ((rnT wd hi wr Xsp Xls (Xfe, Xfx, Xfy) (Int.toNat k)).2.2), .blk b4 [.slice afe nfe cfe, .slice afx nfx cfx, .slice afy nfy cfy] 30, .blk b1 [.int .i64 wd, .int .i64 hi, .bool wr, .slice asp nsp csp, .slice als nls cls] 26, .rd kF asp nsp Xsp, .rd kF als nls Xls] := B.weakO 3 rfl
            refine ⟨⟨_, k + 1, a33, a35, a37, c34, c36, c38, Fits.eq ⟨rfl, rfl, rfl, rfl, rfl, trivial⟩, (B.pick [1, 2, 3, 0, 7, 8, 9, 10] rfl rfl), (by omega), (by omega), (qt_next (by omega) hM c31)⟩, ?_⟩
            show (m + 1 - (k + 1)).toNat < (m + 1 - k).toNat
            omega
        · refine s_y (v := .bool false) rfl (y_leq rfl rfl (decide_eq_false c26)) ?_
          refine s_nil ?_
          refine W_if_f (by decide) rfl ?_
          refine W_exit ?_
          refine W_seq ?_
          refine W_region (by kernel_rfl) ?_
          refine s_y (v := .int .i64 0) rfl (y_assign rfl) ?_
          refine s_y (v := .bool false) rfl (y_assign rfl) ?_
          refine s_nil ?_
          refine W_ret ?_
          refine ret2 (v1 := .int .i64 0) (v2 := .bool false) rfl rfl rfl rfl rfl ⟨_, rfl, ?_⟩
          have hrun : runB wd hi wr Xsp Xls Xfe Xfx Xfy m = true := by simp only [runB, c11, c17, Bool.and_true]
          have hqv := hM.trans (qt_end (by omega))
          exact .inr ⟨by simp only [qtB, hrun, Bool.true_and, decide_eq_false_iff_not]; omega, rfl, B.ext⟩
    · obtain rfl : v15 = .bool false := hv16.trans (congrArg Value.bool (Bool.eq_false_iff.2 c17))
      refine s_y (v := .bool true) rfl (y_not rfl rfl) ?_
      refine s_y (v := .bool true) rfl (y_pick_f rfl rfl) ?_
      refine s_nil ?_
      refine W_if_t (by decide) rfl ?_
      refine W_seq ?_
      refine W_region (by kernel_rfl) ?_
      refine s_y (v := .int .i64 0) rfl (y_assign rfl) ?_
      refine s_y (v := .bool false) rfl (y_assign rfl) ?_
      refine s_nil ?_
      refine W_ret ?_
      refine ret2 (v1 := .int .i64 0) (v2 := .bool false) rfl rfl rfl rfl rfl ⟨_, rfl, ?_⟩
      exact .inr ⟨by simp only [qtB, runB, c11, (Bool.eq_false_iff.2 c17), Bool.and_true, Bool.true_and, Bool.and_false, Bool.false_and, Bool.not_true, Bool.not_false, Bool.or_true, Bool.true_or, Bool.or_false, Bool.false_or], rfl, B.ext⟩
  · obtain rfl : v9 = .bool false := hv10.trans (congrArg Value.bool (Bool.eq_false_iff.2 c11))
    refine s_y (v := .bool true) rfl (y_not rfl rfl) ?_
    refine s_y (v := .bool true) rfl (y_move rfl) ?_
    refine s_skip rfl ?_
    refine s_skip rfl ?_
    refine s_skip rfl ?_
    refine s_y (v := .bool true) rfl (y_pick_t rfl rfl) ?_
    refine s_nil ?_
    refine W_if_t (by decide) rfl ?_
    refine W_seq ?_
    refine W_region (by kernel_rfl) ?_
    refine s_y (v := .int .i64 0) rfl (y_assign rfl) ?_
    refine s_y (v := .bool false) rfl (y_assign rfl) ?_
    refine s_nil ?_
    refine W_ret ?_
    refine ret2 (v1 := .int .i64 0) (v2 := .bool false) rfl rfl rfl rfl rfl ⟨_, rfl, ?_⟩
    exact .inr ⟨by simp only [qtB, runB, (Bool.eq_false_iff.2 c11), Bool.and_true, Bool.true_and, Bool.and_false, Bool.false_and, Bool.not_true, Bool.not_false, Bool.or_true, Bool.true_or, Bool.or_false, Bool.false_or], rfl, B.ext⟩
namespace T112
theorem mx : Try.prog.follows .mixedOrders = true := by kernel_rfl
theorem fn_124 : fnB Try.prog 124 = true := by kernel_rfl
theorem fn_135 : fnB Try.prog 135 = true := by kernel_rfl
end T112
set_option maxRecDepth 100000 in
set_option maxHeartbeats 4000000 in
theorem c_s_l03Both {b : Nat} {o : Nat} {wd : Int} {hi : Int} {wr : Bool} {asp : Option Addr} {nsp : Nat} {csp : Nat} {Xsp : List Nat} {als : Option Addr} {nls : Nat} {cls : Nat} {Xls : List Nat} {b2 : Nat} {o2 : Nat} {afe : Option Addr} {nfe : Nat} {cfe : Nat} {Xfe : List Nat} {afx : Option Addr} {nfx : Nat} {cfx : Nat} {Xfx : List Nat} {afy : Option Addr} {nfy : Nat} {cfy : Nat} {Xfy : List Nat} {w : World} (qsp : Rd w kF asp nsp Xsp) (qls : Rd w kF als nls Xls) (Pb : Sl w (some ⟨b, o, none⟩) [.int .i64 wd, .int .i64 hi, .bool wr, .slice asp nsp csp, .slice als nls cls]) (qfe : Rd w kF afe nfe Xfe) (qfx : Rd w kF afx nfx Xfx) (qfy : Rd w kF afy nfy Xfy) (Pb2 : Sl w (some ⟨b2, o2, none⟩) [.slice afe nfe cfe, .slice afx nfx cfx, .slice afy nfy cfy]) (hbsp : nsp ≤ 9223372036854775806) (hbls : nls ≤ 9223372036854775806) (hbfe : nfe ≤ 9223372036854775806) (hbfx : nfx ≤ 9223372036854775806) (hbfy : nfy ≤ 9223372036854775806) :
    Calls Try.prog 112 #[.pointer (some ⟨b, o, none⟩), .pointer (some ⟨b2, o2, none⟩)] w (Rt fun v w' => v = .bool (fieldB wd hi wr Xsp Xls Xfe Xfx Xfy) ∧ Ext0 w w') := by
  have hlsp := qsp.len
  have hlls := qls.len
  have hlfe := qfe.len
  have hlfx := qfx.len
  have hlfy := qfy.len
  have B : Bu w no w [.rd kF asp nsp Xsp, .rd kF als nls Xls, .sl (some ⟨b, o, none⟩) [.int .i64 wd, .int .i64 hi, .bool wr, .slice asp nsp csp, .slice als nls cls], .rd kF afe nfe Xfe, .rd kF afx nfx Xfx, .rd kF afy nfy Xfy, .sl (some ⟨b2, o2, none⟩) [.slice afe nfe cfe, .slice afx nfx cfx, .slice afy nfy cfy]] := Bu.ro (All.cons qsp (All.cons qls (All.cons Pb (All.cons qfe (All.cons qfx (All.cons qfy (All.cons Pb2 All.nil))))))) rfl
  refine calls_W (n := 12) Try.func112 rfl rfl (Nat.le_of_ble_eq_true rfl) ?_
  refine W_seq ?_
  refine W_region (by kernel_rfl) ?_
  refine s_y (v := .bool false) rfl (y_assign rfl) ?_
  refine s_nil ?_
  refine W_seq ?_
  refine W_region (by kernel_rfl) ?_
  refine s_y (v := .pointer (some ⟨b, o, none⟩)) rfl (y_move rfl) ?_
  refine s_k rfl (k_call T112.fn_124 (c_s_l02Is (B.r 0 rfl) (B.r 1 rfl) (B.s 2 rfl) (by omega) (by omega)) rfl ?_)
  rintro v3 w1 ⟨hv4, e2⟩
  replace B := B.ext0 e2
  clear e2
  by_cases c5 : validS wd hi Xsp Xls = true
  · have hb6 := validS_b c5
    obtain rfl : v3 = .bool true := hv4.trans (congrArg Value.bool c5)
    refine s_y (v := .bool true) rfl (y_move rfl) ?_
    refine s_y (v := .pointer (some ⟨b, o, none⟩)) rfl (y_move rfl) ?_
    refine s_y (v := .pointer (some ⟨b2, o2, none⟩)) rfl (y_move rfl) ?_
    refine s_k rfl (k_call T112.fn_135 (c_s_l02Fits (B.s 2 rfl) (B.r 3 rfl) (B.r 4 rfl) (B.r 5 rfl) (B.s 6 rfl) (by omega) (by omega) (by omega) (by omega) (by omega) (by omega) (by omega)) rfl ?_)
    rintro v9 w7 ⟨hv10, e8⟩
    replace B := B.ext0 e8
    clear e8
    by_cases c11 : fitsB wd hi wr Xfe Xfx Xfy = true
    · have hb12 := fitsB_b c11
      obtain rfl : v9 = .bool true := hv10.trans (congrArg Value.bool c11)
      refine s_y (v := .bool true) rfl (y_pick_t rfl rfl) ?_
      refine s_y (v := .bool true) rfl (y_assign rfl) ?_
      refine s_nil ?_
      refine W_ret ?_
      refine ret1 (v := .bool true) rfl rfl rfl ⟨_, rfl, ?_⟩
      exact ⟨congrArg Value.bool (by simp only [fieldB, c5, c11, Bool.and_true, Bool.true_and, Bool.and_false, Bool.false_and, Bool.not_true, Bool.not_false, Bool.or_true, Bool.true_or, Bool.or_false, Bool.false_or]), B.ext⟩
    · obtain rfl : v9 = .bool false := hv10.trans (congrArg Value.bool (Bool.eq_false_iff.2 c11))
      refine s_y (v := .bool false) rfl (y_pick_t rfl rfl) ?_
      refine s_y (v := .bool false) rfl (y_assign rfl) ?_
      refine s_nil ?_
      refine W_ret ?_
      refine ret1 (v := .bool false) rfl rfl rfl ⟨_, rfl, ?_⟩
      exact ⟨congrArg Value.bool (by simp only [fieldB, c5, (Bool.eq_false_iff.2 c11), Bool.and_true, Bool.true_and, Bool.and_false, Bool.false_and, Bool.not_true, Bool.not_false, Bool.or_true, Bool.true_or, Bool.or_false, Bool.false_or]), B.ext⟩
  · obtain rfl : v3 = .bool false := hv4.trans (congrArg Value.bool (Bool.eq_false_iff.2 c5))
    refine s_y (v := .bool false) rfl (y_move rfl) ?_
    refine s_skip rfl ?_
    refine s_skip rfl ?_
    refine s_skip rfl ?_
    refine s_y (v := .bool false) rfl (y_pick_f rfl rfl) ?_
    refine s_y (v := .bool false) rfl (y_assign rfl) ?_
    refine s_nil ?_
    refine W_ret ?_
    refine ret1 (v := .bool false) rfl rfl rfl ⟨_, rfl, ?_⟩
    exact ⟨congrArg Value.bool (by simp only [fieldB, (Bool.eq_false_iff.2 c5), Bool.and_true, Bool.true_and, Bool.and_false, Bool.false_and, Bool.not_true, Bool.not_false, Bool.or_true, Bool.true_or, Bool.or_false, Bool.false_or]), B.ext⟩
namespace T114
theorem mx : Try.prog.follows .mixedOrders = true := by kernel_rfl
theorem agg_30_3 : aggB Try.prog 30 3 = true := by kernel_rfl
theorem fld_30_0_0 : fldB Try.prog 30 0 0 = true := by kernel_rfl
theorem fld_30_1_1 : fldB Try.prog 30 1 1 = true := by kernel_rfl
theorem fld_30_2_2 : fldB Try.prog 30 2 2 = true := by kernel_rfl
theorem one_24 : oneB Try.prog 24 = true := by kernel_rfl
theorem slt_24 : SlT Try.prog 24 34 1 4 (.float .f32 0) := ⟨by kernel_rfl, by kernel_rfl, rfl, by decide⟩
theorem sz_24_1 : szB Try.prog 24 1 = true := by kernel_rfl
theorem sz_30_3 : szB Try.prog 30 3 = true := by kernel_rfl
theorem zero_30 : zeroB Try.prog 30 (.agg #[.slice none 0 0, .slice none 0 0, .slice none 0 0]) := by unfold zeroB; kernel_rfl
end T114
set_option maxRecDepth 100000 in
set_option maxHeartbeats 4000000 in
theorem c_s_l02Own {b : Nat} {o : Nat} {afe : Option Addr} {nfe : Nat} {cfe : Nat} {Xfe : List Nat} {afx : Option Addr} {nfx : Nat} {cfx : Nat} {Xfx : List Nat} {afy : Option Addr} {nfy : Nat} {cfy : Nat} {Xfy : List Nat} {w : World} (qfe : Rd w kF afe nfe Xfe) (qfx : Rd w kF afx nfx Xfx) (qfy : Rd w kF afy nfy Xfy) (Pb : Sl w (some ⟨b, o, none⟩) [.slice afe nfe cfe, .slice afx nfx cfx, .slice afy nfy cfy]) (b1 : nfe ≤ 1048576) (b2 : nfx ≤ 1048576) (b3 : nfy ≤ 1048576) :
    Calls Try.prog 114 #[.pointer (some ⟨b, o, none⟩)] w (Rt fun v w' => ∃ (a1 : Option Addr) (c1 : Nat) (a2 : Option Addr) (c2 : Nat) (a3 : Option Addr) (c3 : Nat), v = .agg #[.slice a1 nfe c1, .slice a2 nfx c2, .slice a3 nfy c3] ∧ New w w' [.ow kF a1 nfe c1 34 Xfe, .ow kF a2 nfx c2 34 Xfx, .ow kF a3 nfy c3 34 Xfy]) := by
  have hlfe := qfe.len
  have hlfx := qfx.len
  have hlfy := qfy.len
  have B : Bu w no w [.rd kF afe nfe Xfe, .rd kF afx nfx Xfx, .rd kF afy nfy Xfy, .sl (some ⟨b, o, none⟩) [.slice afe nfe cfe, .slice afx nfx cfx, .slice afy nfy cfy]] := Bu.ro (All.cons qfe (All.cons qfx (All.cons qfy (All.cons Pb All.nil)))) rfl
  refine calls_W (n := 26) Try.func114 rfl rfl (Nat.le_of_ble_eq_true rfl) ?_
  refine W_seq ?_
  refine W_region (by kernel_rfl) ?_
  refine s_k rfl (k_allocN (z := (.agg #[.slice none 0 0, .slice none 0 0, .slice none 0 0])) (cs := [.slice none 0 0, .slice none 0 0, .slice none 0 0]) T114.zero_30 rfl (fun b1 w2 hN3 => ?_))
  replace B := B.new1 hN3
  clear hN3
  refine s_nil ?_
  refine W_seq ?_
  refine W_region (by kernel_rfl) ?_
  refine s_k rfl (k_bsliceO (k := kF) (n := 0) (cells := #[]) (X := []) T114.slt_24 (by decide) (by first | rfl | kernel_rfl) (rfl : Reps kF [] []) rfl (fun b4 w5 hN6 => ?_))
  replace B := B.new1 hN6
  clear hN6
  refine s_y (v := .pointer (some ⟨b, o, none⟩)) rfl (y_move rfl) ?_
  refine s_y (v := .pointer (some ⟨b, o, none⟩)) rfl (y_nil rfl) ?_
  refine s_y (v := .pointer (some ⟨b, o, none⟩)) rfl (y_fld (o := o + 0) T114.fld_30_0_0 rfl) ?_
  refine s_y (v := .slice afe nfe cfe) rfl (y_load T114.one_24 rfl ((B.s 5 rfl).cell (j := 0) rfl)) ?_
  refine s_k rfl (k_appO (k := kF) T114.slt_24 rfl rfl rfl (B.o 0 rfl) (B.r 2 rfl) (by omega) (by unfold maxLen; omega) (fun a7 c8 w9 hU10 => ?_))
  replace B : Bu w no w9 [.ow kF a7 (0 + nfe) c8 34 (([] : List Nat) ++ Xfe), .blk b1 [.slice none 0 0, .slice none 0 0, .slice none 0 0] 30, .rd kF afe nfe Xfe, .rd kF afx nfx Xfx, .rd kF afy nfy Xfy, .sl (some ⟨b, o, none⟩) [.slice afe nfe cfe, .slice afx nfx cfx, .slice afy nfy cfy]] := B.upd [0] rfl hU10
  clear hU10
  refine s_y (v := .agg #[.slice a7 (0 + nfe) c8, .slice none 0 0, .slice none 0 0]) rfl (y_build (cells := #[.slice a7 (0 + nfe) c8, .slice none 0 0, .slice none 0 0]) (by kernel_rfl)) ?_
  refine s_k rfl (k_allocN (z := (.agg #[.slice none 0 0, .slice none 0 0, .slice none 0 0])) (cs := [.slice none 0 0, .slice none 0 0, .slice none 0 0]) T114.zero_30 rfl (fun b11 w12 hN13 => ?_))
  replace B := B.new1 hN13
  clear hN13
  refine s_k0 rfl (k_stB (v := .agg #[.slice a7 (0 + nfe) c8, .slice none 0 0, .slice none 0 0]) (n := 3) (cs' := [.slice a7 (0 + nfe) c8, .slice none 0 0, .slice none 0 0]) T114.sz_30_3 rfl rfl rfl (B.b 0 rfl) (by simp [Value.cells, Value.oneCell']) (Nat.le_of_ble_eq_true rfl) rfl (fun w14 hU15 => ?_))
  replace B : Bu w no w14 [.blk b11 [.slice a7 (0 + nfe) c8, .slice none 0 0, .slice none 0 0] 30, .ow kF a7 (0 + nfe) c8 34 (([] : List Nat) ++ Xfe), .blk b1 [.slice none 0 0, .slice none 0 0, .slice none 0 0] 30, .rd kF afe nfe Xfe, .rd kF afx nfx Xfx, .rd kF afy nfy Xfy, .sl (some ⟨b, o, none⟩) [.slice afe nfe cfe, .slice afx nfx cfx, .slice afy nfy cfy]] := B.upd [0] rfl hU15
  clear hU15
  refine s_nil ?_
  refine W_seq ?_
  refine W_region (by kernel_rfl) ?_
  refine s_k rfl (k_bsliceO (k := kF) (n := 0) (cells := #[]) (X := []) T114.slt_24 (by decide) (by first | rfl | kernel_rfl) (rfl : Reps kF [] []) rfl (fun b16 w17 hN18 => ?_))
  replace B := B.new1 hN18
  clear hN18
  refine s_y (v := .pointer (some ⟨b, o, none⟩)) rfl (y_move rfl) ?_
  refine s_y (v := .pointer (some ⟨b, o, none⟩)) rfl (y_nil rfl) ?_
  refine s_y (v := .pointer (some ⟨b, o + 1, none⟩)) rfl (y_fld (o := o + 0) T114.fld_30_1_1 rfl) ?_
  refine s_y (v := .slice afx nfx cfx) rfl (y_load T114.one_24 rfl ((B.s 7 rfl).cell (j := 1) rfl)) ?_
  refine s_k rfl (k_appO (k := kF) T114.slt_24 rfl rfl rfl (B.o 0 rfl) (B.r 5 rfl) (by omega) (by unfold maxLen; omega) (fun a19 c20 w21 hU22 => ?_))
  replace B : Bu w no w21 [.ow kF a19 (0 + nfx) c20 34 (([] : List Nat) ++ Xfx), .blk b11 [.slice a7 (0 + nfe) c8, .slice none 0 0, .slice none 0 0] 30, .ow kF a7 (0 + nfe) c8 34 (([] : List Nat) ++ Xfe), .blk b1 [.slice none 0 0, .slice none 0 0, .slice none 0 0] 30, .rd kF afe nfe Xfe, .rd kF afx nfx Xfx, .rd kF afy nfy Xfy, .sl (some ⟨b, o, none⟩) [.slice afe nfe cfe, .slice afx nfx cfx, .slice afy nfy cfy]] := B.upd [0] rfl hU22
  clear hU22
  refine s_y (v := .pointer (some ⟨b11, 1, none⟩)) rfl (y_fld (o := 0) T114.fld_30_1_1 rfl) ?_
  refine s_k0 rfl (k_stB (v := .slice a19 (0 + nfx) c20) (n := 1) (cs' := [.slice a7 (0 + nfe) c8, .slice a19 (0 + nfx) c20, .slice none 0 0]) T114.sz_24_1 rfl rfl rfl (B.b 1 rfl) (by simp [Value.cells, Value.oneCell']) (Nat.le_of_ble_eq_true rfl) rfl (fun w23 hU24 => ?_))
  replace B : Bu w no w23 [.blk b11 [.slice a7 (0 + nfe) c8, .slice a19 (0 + nfx) c20, .slice none 0 0] 30, .ow kF a19 (0 + nfx) c20 34 (([] : List Nat) ++ Xfx), .ow kF a7 (0 + nfe) c8 34 (([] : List Nat) ++ Xfe), .blk b1 [.slice none 0 0, .slice none 0 0, .slice none 0 0] 30, .rd kF afe nfe Xfe, .rd kF afx nfx Xfx, .rd kF afy nfy Xfy, .sl (some ⟨b, o, none⟩) [.slice afe nfe cfe, .slice afx nfx cfx, .slice afy nfy cfy]] := B.upd [1] rfl hU24
  clear hU24
  refine s_nil ?_
  refine W_seq ?_
  refine W_region (by kernel_rfl) ?_
  refine s_k rfl (k_bsliceO (k := kF) (n := 0) (cells := #[]) (X := []) T114.slt_24 (by decide) (by first | rfl | kernel_rfl) (rfl : Reps kF [] []) rfl (fun b25 w26 hN27 => ?_))
  replace B := B.new1 hN27
  clear hN27
  refine s_y (v := .pointer (some ⟨b, o, none⟩)) rfl (y_move rfl) ?_
  refine s_y (v := .pointer (some ⟨b, o, none⟩)) rfl (y_nil rfl) ?_
  refine s_y (v := .pointer (some ⟨b, o + 2, none⟩)) rfl (y_fld (o := o + 0) T114.fld_30_2_2 rfl) ?_
  refine s_y (v := .slice afy nfy cfy) rfl (y_load T114.one_24 rfl ((B.s 8 rfl).cell (j := 2) rfl)) ?_
  refine s_k rfl (k_appO (k := kF) T114.slt_24 rfl rfl rfl (B.o 0 rfl) (B.r 7 rfl) (by omega) (by unfold maxLen; omega) (fun a28 c29 w30 hU31 => ?_))
  replace B : Bu w no w30 [.ow kF a28 (0 + nfy) c29 34 (([] : List Nat) ++ Xfy), .blk b11 [.slice a7 (0 + nfe) c8, .slice a19 (0 + nfx) c20, .slice none 0 0] 30, .ow kF a19 (0 + nfx) c20 34 (([] : List Nat) ++ Xfx), .ow kF a7 (0 + nfe) c8 34 (([] : List Nat) ++ Xfe), .blk b1 [.slice none 0 0, .slice none 0 0, .slice none 0 0] 30, .rd kF afe nfe Xfe, .rd kF afx nfx Xfx, .rd kF afy nfy Xfy, .sl (some ⟨b, o, none⟩) [.slice afe nfe cfe, .slice afx nfx cfx, .slice afy nfy cfy]] := B.upd [0] rfl hU31
  clear hU31
  refine s_y (v := .pointer (some ⟨b11, 2, none⟩)) rfl (y_fld (o := 0) T114.fld_30_2_2 rfl) ?_
  refine s_k0 rfl (k_stB (v := .slice a28 (0 + nfy) c29) (n := 1) (cs' := [.slice a7 (0 + nfe) c8, .slice a19 (0 + nfx) c20, .slice a28 (0 + nfy) c29]) T114.sz_24_1 rfl rfl rfl (B.b 1 rfl) (by simp [Value.cells, Value.oneCell']) (Nat.le_of_ble_eq_true rfl) rfl (fun w32 hU33 => ?_))
  replace B : Bu w no w32 [.blk b11 [.slice a7 (0 + nfe) c8, .slice a19 (0 + nfx) c20, .slice a28 (0 + nfy) c29] 30, .ow kF a28 (0 + nfy) c29 34 (([] : List Nat) ++ Xfy), .ow kF a19 (0 + nfx) c20 34 (([] : List Nat) ++ Xfx), .ow kF a7 (0 + nfe) c8 34 (([] : List Nat) ++ Xfe), .blk b1 [.slice none 0 0, .slice none 0 0, .slice none 0 0] 30, .rd kF afe nfe Xfe, .rd kF afx nfx Xfx, .rd kF afy nfy Xfy, .sl (some ⟨b, o, none⟩) [.slice afe nfe cfe, .slice afx nfx cfx, .slice afy nfy cfy]] := B.upd [1] rfl hU33
  clear hU33
  refine s_nil ?_
  refine W_seq ?_
  refine W_region (by kernel_rfl) ?_
  refine s_y (v := .agg #[.slice a7 (0 + nfe) c8, .slice a19 (0 + nfx) c20, .slice a28 (0 + nfy) c29]) rfl (y_loadn (b := b11) (o := 0) (vs := [.slice a7 (0 + nfe) c8, .slice a19 (0 + nfx) c20, .slice a28 (0 + nfy) c29]) T114.agg_30_3 rfl rfl ((B.b 0 rfl).cells (o := 0) rfl)) ?_
  refine s_k0 rfl (k_stB (v := .agg #[.slice a7 (0 + nfe) c8, .slice a19 (0 + nfx) c20, .slice a28 (0 + nfy) c29]) (n := 3) (cs' := [.slice a7 (0 + nfe) c8, .slice a19 (0 + nfx) c20, .slice a28 (0 + nfy) c29]) T114.sz_30_3 rfl rfl rfl (B.b 4 rfl) (by simp [Value.cells, Value.oneCell']) (Nat.le_of_ble_eq_true rfl) rfl (fun w34 hU35 => ?_))
  replace B : Bu w no w34 [.blk b1 [.slice a7 (0 + nfe) c8, .slice a19 (0 + nfx) c20, .slice a28 (0 + nfy) c29] 30, .blk b11 [.slice a7 (0 + nfe) c8, .slice a19 (0 + nfx) c20, .slice a28 (0 + nfy) c29] 30, .ow kF a28 (0 + nfy) c29 34 (([] : List Nat) ++ Xfy), .ow kF a19 (0 + nfx) c20 34 (([] : List Nat) ++ Xfx), .ow kF a7 (0 + nfe) c8 34 (([] : List Nat) ++ Xfe), .rd kF afe nfe Xfe, .rd kF afx nfx Xfx, .rd kF afy nfy Xfy, .sl (some ⟨b, o, none⟩) [.slice afe nfe cfe, .slice afx nfx cfx, .slice afy nfy cfy]] := B.upd [4] rfl hU35
  clear hU35
  refine s_nil ?_
  refine W_ret ?_
  refine ret1 (v := .agg #[.slice a7 (0 + nfe) c8, .slice a19 (0 + nfx) c20, .slice a28 (0 + nfy) c29]) rfl rfl ⟨_, [.slice a7 (0 + nfe) c8, .slice a19 (0 + nfx) c20, .slice a28 (0 + nfy) c29], _, rfl, (B.b 0 rfl), T114.agg_30_3, rfl⟩ ⟨_, rfl, ?_⟩
  replace B : Bu w no w34 [.blk b1 [.slice a7 (0 + nfe) c8, .slice a19 (0 + nfx) c20, .slice a28 (0 + nfy) c29] 30, .blk b11 [.slice a7 (0 + nfe) c8, .slice a19 (0 + nfx) c20, .slice a28 (0 + nfy) c29] 30, .ow kF a28 (0 + nfy) c29 34 (([] : List Nat) ++ Xfy), .ow kF a19 (0 + nfx) c20 34 (([] : List Nat) ++ Xfx), .ow kF a7 nfe c8 34 Xfe, .rd kF afe nfe Xfe, .rd kF afx nfx Xfx, .rd kF afy nfy Xfy, .sl (some ⟨b, o, none⟩) [.slice afe nfe cfe, .slice afx nfx cfx, .slice afy nfy cfy]] := B.castX 4 rfl (by omega) rfl
  replace B : Bu w no w34 [.blk b1 [.slice a7 (0 + nfe) c8, .slice a19 (0 + nfx) c20, .slice a28 (0 + nfy) c29] 30, .blk b11 [.slice a7 (0 + nfe) c8, .slice a19 (0 + nfx) c20, .slice a28 (0 + nfy) c29] 30, .ow kF a28 (0 + nfy) c29 34 (([] : List Nat) ++ Xfy), .ow kF a19 nfx c20 34 Xfx, .ow kF a7 nfe c8 34 Xfe, .rd kF afe nfe Xfe, .rd kF afx nfx Xfx, .rd kF afy nfy Xfy, .sl (some ⟨b, o, none⟩) [.slice afe nfe cfe, .slice afx nfx cfx, .slice afy nfy cfy]] := B.castX 3 rfl (by omega) rfl
  replace B : Bu w no w34 [.blk b1 [.slice a7 (0 + nfe) c8, .slice a19 (0 + nfx) c20, .slice a28 (0 + nfy) c29] 30, .blk b11 [.slice a7 (0 + nfe) c8, .slice a19 (0 + nfx) c20, .slice a28 (0 + nfy) c29] 30, .ow kF a28 nfy c29 34 Xfy, .ow kF a19 nfx c20 34 Xfx, .ow kF a7 nfe c8 34 Xfe, .rd kF afe nfe Xfe, .rd kF afx nfx Xfx, .rd kF afy nfy Xfy, .sl (some ⟨b, o, none⟩) [.slice afe nfe cfe, .slice afx nfx cfx, .slice afy nfy cfy]] := B.castX 2 rfl (by omega) rfl
  exact ⟨_, _, _, _, _, _, (by rw [(show 0 + nfe = nfe from (by omega)), (show 0 + nfx = nfx from (by omega)), (show 0 + nfy = nfy from (by omega))]), B.give [4, 3, 2] rfl rfl rfl⟩
namespace T137
theorem mx : Try.prog.follows .mixedOrders = true := by kernel_rfl
end T137
set_option maxRecDepth 100000 in
set_option maxHeartbeats 4000000 in
theorem c_s_l02Size {x : Nat} {X : Nat} {w : World} (hx : Cn .f32 x X) :
    Calls Try.prog 137 #[.float .f32 x] w (Rt fun v w' => (∃ r, v = .float .f32 r ∧ Cn .f32 r (szX X)) ∧ Ext0 w w') := by
  have B : Bu w no w [] := Bu.ro All.nil rfl
  refine calls_W (n := 8) Try.func137 rfl rfl (Nat.le_of_ble_eq_true rfl) ?_
  refine W_seq ?_
  refine W_region (by kernel_rfl) ?_
  refine s_y (v := .float .f32 0) rfl (y_assign rfl) ?_
  refine s_nil ?_
  refine W_seq ?_
  refine W_seq ?_
  refine W_region (by kernel_rfl) ?_
  refine s_y (v := .float .f32 x) rfl (y_move rfl) ?_
  by_cases c1 : fle .f32 X 0 = true
  · refine s_y (v := .bool true) rfl (y_fleq rfl rfl (fleC hx (cnLit (k := .f32) (t := 0) (by kernel_rfl) (by kernel_rfl)) c1)) ?_
    refine s_nil ?_
    refine W_if_t (by decide) rfl ?_
    refine W_seq ?_
    refine W_region (by kernel_rfl) ?_
    refine s_y (v := .float .f32 x) rfl (y_move rfl) ?_
    refine s_n rfl (n_arith (by decide) rfl rfl) ?_
    rintro _ w5 e6 ⟨r3, rfl, hr4⟩
    replace B := B.ext0 e6
    clear e6
    have hc7 := fopC hr4 (cnLit (k := .f32) (t := 0) (by kernel_rfl) (by kernel_rfl)) hx
    refine s_y (v := .float .f32 r3) rfl (y_assign rfl) ?_
    refine s_nil ?_
    refine W_ret ?_
    refine ret1 (v := .float .f32 r3) rfl rfl rfl ⟨_, rfl, ?_⟩
    exact ⟨⟨_, rfl, cnT hc7 (szX_le hx (by assumption))⟩, B.ext⟩
  · refine s_y (v := .bool false) rfl (y_fleq rfl rfl (fleC hx (cnLit (k := .f32) (t := 0) (by kernel_rfl) (by kernel_rfl)) (Bool.eq_false_iff.2 c1))) ?_
    refine s_nil ?_
    refine W_if_f (by decide) rfl ?_
    refine W_skip ?_
    refine W_seq ?_
    refine W_region (by kernel_rfl) ?_
    refine s_y (v := .float .f32 x) rfl (y_move rfl) ?_
    refine s_y (v := .float .f32 x) rfl (y_assign rfl) ?_
    refine s_nil ?_
    refine W_ret ?_
    refine ret1 (v := .float .f32 x) rfl rfl rfl ⟨_, rfl, ?_⟩
    exact ⟨⟨_, rfl, cnT hx (szX_gt (by assumption))⟩, B.ext⟩
namespace T136
theorem mx : Try.prog.follows .mixedOrders = true := by kernel_rfl
theorem fn_137 : fnB Try.prog 137 = true := by kernel_rfl
theorem one_34 : oneB Try.prog 34 = true := by kernel_rfl
theorem sl_24_34_1 : slB Try.prog 24 34 1 = true := by kernel_rfl
end T136
set_option maxRecDepth 100000 in
set_option maxHeartbeats 4000000 in
theorem c_s_l02Peak {a : Option Addr} {n : Nat} {c : Nat} {X : List Nat} {w : World} (q : Rd w kF a n X) (hb : n ≤ 9223372036854775806) :
    Calls Try.prog 136 #[.slice a n c] w (Rt fun v w' => v = .int .i64 (peakI X X.length) ∧ Ext0 w w') := by
  have hl := q.len
  have B : Bu w no w [.rd kF a n X] := Bu.ro (All.cons q All.nil) rfl
  refine calls_W (n := 39) Try.func136 rfl rfl (Nat.le_of_ble_eq_true rfl) ?_
  refine W_seq ?_
  refine W_region (by kernel_rfl) ?_
  refine s_y (v := .int .i64 0) rfl (y_assign rfl) ?_
  refine s_nil ?_
  refine W_seq ?_
  refine W_region (by kernel_rfl) ?_
  refine s_y (v := .int .i64 (-1)) rfl (y_assign rfl) ?_
  refine s_nil ?_
  refine W_seq ?_
  refine W_seq ?_
  refine W_region (by kernel_rfl) ?_
  refine s_y (v := .int .i64 0) rfl (y_assign rfl) ?_
  refine s_nil ?_
  refine W_block ?_
  refine W_loop (fun ρ' w' => ∃ (ρ1 : Env) (k : Int) (b : Int), ρ' = updL ρ1 [(0, .slice a n c), (2, .int .i64 0), (3, .int .i64 b), (4, .int .i64 k)] ∧ Bu w no w' [.rd kF a n X] ∧ (0 ≤ k) ∧ (k ≤ (n : Int)) ∧ (-1 ≤ b) ∧ (b < k) ∧ (b = peakI X k.toNat)) (fun ρ' _ => ((n : Int) - iv (ρ' 4)).toNat) ?_ ?_
  · exact ⟨_, 0, (-1), Fits.eq ⟨rfl, rfl, rfl, rfl, trivial⟩, B, (Int.le_refl _), (by omega), (by omega), (by omega), rfl⟩
  · clear B; rintro _ w1 ⟨ρ2, k, b, rfl, B, h0k, h1k, hb0, hb1, hq⟩
    refine W_seq ?_
    refine W_seq ?_
    refine W_region (by kernel_rfl) ?_
    refine s_y (v := .int .i64 k) rfl (y_move rfl) ?_
    refine s_y (v := .slice a n c) rfl (y_move rfl) ?_
    refine s_y (v := .int .i64 ((n : Nat) : Int)) rfl (y_len T136.sl_24_34_1 rfl rfl) ?_
    by_cases c3 : k < ((n : Nat) : Int)
    · refine s_y (v := .bool true) rfl (y_lss rfl rfl (decide_eq_true c3)) ?_
      refine s_nil ?_
      refine W_if_t (by decide) rfl ?_
      refine W_skip ?_
      refine W_seq ?_
      refine W_block ?_
      refine W_seq ?_
      have B0_8 := B
      refine W_draw (no) T136.mx (by kernel_rfl) (fun w6 e7 => ?_)
      have R9 := Ext.refl (no) w1
      replace R9 := R9.trans (Ext0.any e7)
      replace B := B.ext0 e7
      clear e7
      refine m_y (v := .slice a n c) 0 rfl (by kernel_rfl) rfl rfl (fun w' e' => y_move rfl) ?_
      refine m_y (v := .int .i64 k) 1 rfl (by kernel_rfl) rfl rfl (fun w' e' => y_move rfl) ?_
      refine m_y (v := .pointer (some (sat a ((k).toNat * 1)))) 2 rfl (by kernel_rfl) rfl rfl (fun w' e' => y_idx T136.sl_24_34_1 rfl rfl ((B.r 0 rfl).addr (by omega)) (by omega) (by omega)) ?_
      obtain ⟨r11, hr12, hR10⟩ := Rd.atF (B0_8.r 0 rfl) k (by omega) (by omega)
      refine m_y (v := .float .f32 r11) 3 rfl (by kernel_rfl) rfl rfl (fun w' e' => y_load T136.one_34 rfl ((hR10.ext0 e').cell (i := 0) rfl)) ?_
      refine m_y (v := .slice a n c) 4 rfl (by kernel_rfl) rfl rfl (fun w' e' => y_move rfl) ?_
      refine m_y (v := .int .i64 k) 5 rfl (by kernel_rfl) rfl rfl (fun w' e' => y_move rfl) ?_
      refine m_y (v := .pointer (some (sat a ((k).toNat * 1)))) 6 rfl (by kernel_rfl) rfl rfl (fun w' e' => y_idx T136.sl_24_34_1 rfl rfl ((B.r 0 rfl).addr (by omega)) (by omega) (by omega)) ?_
      obtain ⟨r14, hr15, hR13⟩ := Rd.atF (B0_8.r 0 rfl) k (by omega) (by omega)
      refine m_y (v := .float .f32 r14) 7 rfl (by kernel_rfl) rfl rfl (fun w' e' => y_load T136.one_34 rfl ((hR13.ext0 e').cell (i := 0) rfl)) ?_
      by_cases c16 : feq .f32 (el X k) (el X k) = true
      · refine m_y (v := .bool true) 8 rfl (by kernel_rfl) rfl rfl (fun w' e' => y_feql rfl rfl (feqC hr12 hr15 c16)) ?_
        refine m_y (v := .bool true) 9 rfl (by kernel_rfl) rfl rfl (fun w' e' => y_move rfl) ?_
        refine m_y (v := .int .i64 b) 10 rfl (by kernel_rfl) rfl rfl (fun w' e' => y_move rfl) ?_
        by_cases c17 : b < 0
        · refine m_y (v := .bool true) 11 rfl (by kernel_rfl) rfl rfl (fun w' e' => y_lss rfl rfl (decide_eq_true c17)) ?_
          refine m_y (v := .bool true) 12 rfl (by kernel_rfl) rfl rfl (fun w' e' => y_move rfl) ?_
          refine m_skip 13 rfl (by kernel_rfl) rfl ?_
          refine m_skip 14 rfl (by kernel_rfl) rfl ?_
          refine m_skip 15 rfl (by kernel_rfl) rfl ?_
          refine m_skip 16 rfl (by kernel_rfl) rfl ?_
          refine m_skip 17 rfl (by kernel_rfl) rfl ?_
          refine m_skip 18 rfl (by kernel_rfl) rfl ?_
          refine m_skip 19 rfl (by kernel_rfl) rfl ?_
          refine m_skip 20 rfl (by kernel_rfl) rfl ?_
          refine m_skip 21 rfl (by kernel_rfl) rfl ?_
          refine m_skip 22 rfl (by kernel_rfl) rfl ?_
          refine m_skip 23 rfl (by kernel_rfl) rfl ?_
          refine m_y (v := .bool true) 24 rfl (by kernel_rfl) rfl rfl (fun w' e' => y_pick_t rfl rfl) ?_
          refine m_y (v := .bool true) 25 rfl (by kernel_rfl) rfl rfl (fun w' e' => y_pick_t rfl rfl) ?_
          refine m_done (by kernel_rfl) (fun w18 e19 => ?_)
          replace B := B.ext0 e19
          clear e19
          clear B0_8 R9
          refine W_if_t (by decide) rfl ?_
          refine W_region (by kernel_rfl) ?_
          refine s_y (v := .int .i64 k) rfl (y_move rfl) ?_
          refine s_y (v := .int .i64 k) rfl (y_assign rfl) ?_
          refine s_nil ?_
          refine W_region (by kernel_rfl) ?_
          refine s_y (v := .int .i64 k) rfl (y_move rfl) ?_
          refine s_y (v := .int .i64 (k + 1)) rfl (y_add rfl rfl rfl (by omega)) ?_
          refine s_y (v := .int .i64 (k + 1)) rfl (y_assign rfl) ?_
          refine s_nil ?_
          refine ⟨⟨_, k + 1, k, Fits.eq ⟨rfl, rfl, rfl, rfl, trivial⟩, B, (by omega), (by omega), (by omega), (by omega), (peak_yes (by omega) hq (by simp only [Bool.false_or, (decide_eq_true c3), c16, (decide_eq_true c17), Bool.and_true, Bool.true_and, Bool.and_false, Bool.false_and, Bool.not_true, Bool.not_false, Bool.or_true, Bool.true_or, Bool.or_false, Bool.false_or]))⟩, ?_⟩
          show ((n : Int) - (k + 1)).toNat < ((n : Int) - k).toNat
          omega
        · refine m_y (v := .bool false) 11 rfl (by kernel_rfl) rfl rfl (fun w' e' => y_lss rfl rfl (decide_eq_false c17)) ?_
          refine m_y (v := .bool false) 12 rfl (by kernel_rfl) rfl rfl (fun w' e' => y_move rfl) ?_
          refine m_y (v := .slice a n c) 13 rfl (by kernel_rfl) rfl rfl (fun w' e' => y_move rfl) ?_
          refine m_y (v := .int .i64 k) 14 rfl (by kernel_rfl) rfl rfl (fun w' e' => y_move rfl) ?_
          refine m_y (v := .pointer (some (sat a ((k).toNat * 1)))) 15 rfl (by kernel_rfl) rfl rfl (fun w' e' => y_idx T136.sl_24_34_1 rfl rfl ((B.r 0 rfl).addr (by omega)) (by omega) (by omega)) ?_
          obtain ⟨r21, hr22, hR20⟩ := Rd.atF (B0_8.r 0 rfl) k (by omega) (by omega)
          refine m_y (v := .float .f32 r21) 16 rfl (by kernel_rfl) rfl rfl (fun w' e' => y_load T136.one_34 rfl ((hR20.ext0 e').cell (i := 0) rfl)) ?_
          refine m_y (v := .slice a n c) 18 rfl (by kernel_rfl) rfl rfl (fun w' e' => y_move rfl) ?_
          refine m_y (v := .int .i64 b) 19 rfl (by kernel_rfl) rfl rfl (fun w' e' => y_move rfl) ?_
          refine m_y (v := .pointer (some (sat a ((b).toNat * 1)))) 20 rfl (by kernel_rfl) rfl rfl (fun w' e' => y_idx T136.sl_24_34_1 rfl rfl ((B.r 0 rfl).addr (by omega)) (by omega) (by omega)) ?_
          obtain ⟨r24, hr25, hR23⟩ := Rd.atF (B0_8.r 0 rfl) b (by omega) (by omega)
          refine m_y (v := .float .f32 r24) 21 rfl (by kernel_rfl) rfl rfl (fun w' e' => y_load T136.one_34 rfl ((hR23.ext0 e').cell (i := 0) rfl)) ?_
          refine m_k 17 [22, 23, 24, 25] rfl (by kernel_rfl) rfl rfl (fun w26 e27 => ?_)
          replace R9 := R9.trans (Ext0.any e27)
          replace B := B.ext0 e27
          clear e27
          refine k_call T136.fn_137 (c_s_l02Size hr22) rfl ?_
          rintro _ w28 ⟨⟨r30, rfl, hr31⟩, e29⟩
          replace R9 := R9.trans (Ext0.any e29)
          replace B := B.ext0 e29
          clear e29
          refine ⟨fun _ => R9, ?_⟩
          refine m_k 22 [23, 24, 25] rfl (by kernel_rfl) rfl rfl (fun w32 e33 => ?_)
          replace R9 := R9.trans (Ext0.any e33)
          replace B := B.ext0 e33
          clear e33
          refine k_call T136.fn_137 (c_s_l02Size hr25) rfl ?_
          rintro _ w34 ⟨⟨r36, rfl, hr37⟩, e35⟩
          replace R9 := R9.trans (Ext0.any e35)
          replace B := B.ext0 e35
          clear e35
          refine ⟨fun _ => R9, ?_⟩
          by_cases c38 : fgt .f32 (szX (el X k)) (szX (el X b)) = true
          · refine m_y (v := .bool true) 23 rfl (by kernel_rfl) rfl rfl (fun w' e' => y_fgtr rfl rfl (fgtC hr31 hr37 c38)) ?_
            refine m_y (v := .bool true) 24 rfl (by kernel_rfl) rfl rfl (fun w' e' => y_pick_f rfl rfl) ?_
            refine m_y (v := .bool true) 25 rfl (by kernel_rfl) rfl rfl (fun w' e' => y_pick_t rfl rfl) ?_
            refine m_done (by kernel_rfl) (fun w39 e40 => ?_)
            replace B := B.ext0 e40
            clear e40
            clear B0_8 R9
            refine W_if_t (by decide) rfl ?_
            refine W_region (by kernel_rfl) ?_
            refine s_y (v := .int .i64 k) rfl (y_move rfl) ?_
            refine s_y (v := .int .i64 k) rfl (y_assign rfl) ?_
            refine s_nil ?_
            refine W_region (by kernel_rfl) ?_
            refine s_y (v := .int .i64 k) rfl (y_move rfl) ?_
            refine s_y (v := .int .i64 (k + 1)) rfl (y_add rfl rfl rfl (by omega)) ?_
            refine s_y (v := .int .i64 (k + 1)) rfl (y_assign rfl) ?_
            refine s_nil ?_
            refine ⟨⟨_, k + 1, k, Fits.eq ⟨rfl, rfl, rfl, rfl, trivial⟩, B, (by omega), (by omega), (by omega), (by omega), (peak_yes (by omega) hq (by simp only [Bool.false_or, (decide_eq_true c3), c16, (decide_eq_false c17), c38, Bool.and_true, Bool.true_and, Bool.and_false, Bool.false_and, Bool.not_true, Bool.not_false, Bool.or_true, Bool.true_or, Bool.or_false, Bool.false_or]))⟩, ?_⟩
            show ((n : Int) - (k + 1)).toNat < ((n : Int) - k).toNat
            omega
          · refine m_y (v := .bool false) 23 rfl (by kernel_rfl) rfl rfl (fun w' e' => y_fgtr rfl rfl (fgtC hr31 hr37 (Bool.eq_false_iff.2 c38))) ?_
            refine m_y (v := .bool false) 24 rfl (by kernel_rfl) rfl rfl (fun w' e' => y_pick_f rfl rfl) ?_
            refine m_y (v := .bool false) 25 rfl (by kernel_rfl) rfl rfl (fun w' e' => y_pick_t rfl rfl) ?_
            refine m_done (by kernel_rfl) (fun w41 e42 => ?_)
            replace B := B.ext0 e42
            clear e42
            clear B0_8 R9
            refine W_if_f (by decide) rfl ?_
            refine W_skip ?_
            refine W_region (by kernel_rfl) ?_
            refine s_y (v := .int .i64 k) rfl (y_move rfl) ?_
            refine s_y (v := .int .i64 (k + 1)) rfl (y_add rfl rfl rfl (by omega)) ?_
            refine s_y (v := .int .i64 (k + 1)) rfl (y_assign rfl) ?_
            refine s_nil ?_
            refine ⟨⟨_, k + 1, b, Fits.eq ⟨rfl, rfl, rfl, rfl, trivial⟩, B, (by omega), (by omega), (by omega), (by omega), (peak_no (by omega) hq (by simp only [Bool.false_or, (decide_eq_true c3), c16, (decide_eq_false c17), (Bool.eq_false_iff.2 c38), Bool.and_true, Bool.true_and, Bool.and_false, Bool.false_and, Bool.not_true, Bool.not_false, Bool.or_true, Bool.true_or, Bool.or_false, Bool.false_or]))⟩, ?_⟩
            show ((n : Int) - (k + 1)).toNat < ((n : Int) - k).toNat
            omega
      · refine m_y (v := .bool false) 8 rfl (by kernel_rfl) rfl rfl (fun w' e' => y_feql rfl rfl (feqC hr12 hr15 (Bool.eq_false_iff.2 c16))) ?_
        refine m_y (v := .bool false) 9 rfl (by kernel_rfl) rfl rfl (fun w' e' => y_move rfl) ?_
        refine m_skip 10 rfl (by kernel_rfl) rfl ?_
        refine m_skip 11 rfl (by kernel_rfl) rfl ?_
        refine m_skip 12 rfl (by kernel_rfl) rfl ?_
        refine m_skip 13 rfl (by kernel_rfl) rfl ?_
        refine m_skip 14 rfl (by kernel_rfl) rfl ?_
        refine m_skip 15 rfl (by kernel_rfl) rfl ?_
        refine m_skip 16 rfl (by kernel_rfl) rfl ?_
        refine m_skip 17 rfl (by kernel_rfl) rfl ?_
        refine m_skip 18 rfl (by kernel_rfl) rfl ?_
        refine m_skip 19 rfl (by kernel_rfl) rfl ?_
        refine m_skip 20 rfl (by kernel_rfl) rfl ?_
        refine m_skip 21 rfl (by kernel_rfl) rfl ?_
        refine m_skip 22 rfl (by kernel_rfl) rfl ?_
        refine m_skip 23 rfl (by kernel_rfl) rfl ?_
        refine m_skip 24 rfl (by kernel_rfl) rfl ?_
        refine m_y (v := .bool false) 25 rfl (by kernel_rfl) rfl rfl (fun w' e' => y_pick_f rfl rfl) ?_
        refine m_done (by kernel_rfl) (fun w43 e44 => ?_)
        replace B := B.ext0 e44
        clear e44
        clear B0_8 R9
        refine W_if_f (by decide) rfl ?_
        refine W_skip ?_
        refine W_region (by kernel_rfl) ?_
        refine s_y (v := .int .i64 k) rfl (y_move rfl) ?_
        refine s_y (v := .int .i64 (k + 1)) rfl (y_add rfl rfl rfl (by omega)) ?_
        refine s_y (v := .int .i64 (k + 1)) rfl (y_assign rfl) ?_
        refine s_nil ?_
        refine ⟨⟨_, k + 1, b, Fits.eq ⟨rfl, rfl, rfl, rfl, trivial⟩, B, (by omega), (by omega), (by omega), (by omega), (peak_no (by omega) hq (by simp only [Bool.false_or, (decide_eq_true c3), (Bool.eq_false_iff.2 c16), Bool.and_true, Bool.true_and, Bool.and_false, Bool.false_and, Bool.not_true, Bool.not_false, Bool.or_true, Bool.true_or, Bool.or_false, Bool.false_or]))⟩, ?_⟩
        show ((n : Int) - (k + 1)).toNat < ((n : Int) - k).toNat
        omega
    · refine s_y (v := .bool false) rfl (y_lss rfl rfl (decide_eq_false c3)) ?_
      refine s_nil ?_
      refine W_if_f (by decide) rfl ?_
      refine W_exit ?_
      refine W_seq ?_
      refine W_region (by kernel_rfl) ?_
      refine s_y (v := .int .i64 b) rfl (y_move rfl) ?_
      refine s_y (v := .int .i64 b) rfl (y_assign rfl) ?_
      refine s_nil ?_
      refine W_ret ?_
      refine ret1 (v := .int .i64 b) rfl rfl rfl ⟨_, rfl, ?_⟩
      exact ⟨congrArg (Value.int .i64) (by rw [hq]; congr 1; omega), B.ext⟩
namespace T115
theorem mx : Try.prog.follows .mixedOrders = true := by kernel_rfl
theorem fld_30_0_0 : fldB Try.prog 30 0 0 = true := by kernel_rfl
theorem fn_136 : fnB Try.prog 136 = true := by kernel_rfl
theorem fn_137 : fnB Try.prog 137 = true := by kernel_rfl
theorem one_24 : oneB Try.prog 24 = true := by kernel_rfl
theorem one_34 : oneB Try.prog 34 = true := by kernel_rfl
theorem sl_24_34_1 : slB Try.prog 24 34 1 = true := by kernel_rfl
end T115
set_option maxRecDepth 100000 in
set_option maxHeartbeats 4000000 in
theorem c_s_l03Peak {b : Nat} {o : Nat} {afe : Option Addr} {nfe : Nat} {cfe : Nat} {Xfe : List Nat} {afx : Option Addr} {nfx : Nat} {cfx : Nat} {Xfx : List Nat} {afy : Option Addr} {nfy : Nat} {cfy : Nat} {Xfy : List Nat} {w : World} (qfe : Rd w kF afe nfe Xfe) (qfx : Rd w kF afx nfx Xfx) (qfy : Rd w kF afy nfy Xfy) (Pb : Sl w (some ⟨b, o, none⟩) [.slice afe nfe cfe, .slice afx nfx cfx, .slice afy nfy cfy]) (hbfe : nfe ≤ 9223372036854775806) :
    Calls Try.prog 115 #[.pointer (some ⟨b, o, none⟩)] w (Rt fun v w' => (∃ r, v = .float .f32 r ∧ Cn .f32 r (pkS Xfe)) ∧ Ext0 w w') := by
  have hlfe := qfe.len
  have hlfx := qfx.len
  have hlfy := qfy.len
  have B : Bu w no w [.rd kF afe nfe Xfe, .rd kF afx nfx Xfx, .rd kF afy nfy Xfy, .sl (some ⟨b, o, none⟩) [.slice afe nfe cfe, .slice afx nfx cfx, .slice afy nfy cfy]] := Bu.ro (All.cons qfe (All.cons qfx (All.cons qfy (All.cons Pb All.nil)))) rfl
  refine calls_W (n := 19) Try.func115 rfl rfl (Nat.le_of_ble_eq_true rfl) ?_
  refine W_seq ?_
  refine W_region (by kernel_rfl) ?_
  refine s_y (v := .float .f32 0) rfl (y_assign rfl) ?_
  refine s_nil ?_
  refine W_seq ?_
  refine W_region (by kernel_rfl) ?_
  refine s_y (v := .pointer (some ⟨b, o, none⟩)) rfl (y_move rfl) ?_
  refine s_y (v := .pointer (some ⟨b, o, none⟩)) rfl (y_nil rfl) ?_
  refine s_y (v := .pointer (some ⟨b, o, none⟩)) rfl (y_fld (o := o + 0) T115.fld_30_0_0 rfl) ?_
  refine s_y (v := .slice afe nfe cfe) rfl (y_load T115.one_24 rfl ((B.s 3 rfl).cell (j := 0) rfl)) ?_
  refine s_k rfl (k_call T115.fn_136 (c_s_l02Peak (B.r 0 rfl) (by omega)) rfl ?_)
  rintro _ w1 ⟨rfl, e2⟩
  replace B := B.ext0 e2
  clear e2
  have hpk3 := peakI_b Xfe (List.length Xfe)
  refine s_y (v := .int .i64 (peakI Xfe Xfe.length)) rfl (y_assign rfl) ?_
  refine s_nil ?_
  refine W_seq ?_
  refine W_seq ?_
  refine W_region (by kernel_rfl) ?_
  refine s_y (v := .int .i64 (peakI Xfe Xfe.length)) rfl (y_move rfl) ?_
  by_cases c4 : (peakI Xfe Xfe.length) < 0
  · refine s_y (v := .bool true) rfl (y_lss rfl rfl (decide_eq_true c4)) ?_
    refine s_nil ?_
    refine W_if_t (by decide) rfl ?_
    refine W_seq ?_
    refine W_region (by kernel_rfl) ?_
    refine s_y (v := .float .f32 0) rfl (y_assign rfl) ?_
    refine s_nil ?_
    refine W_ret ?_
    refine ret1 (v := .float .f32 0) rfl rfl rfl ⟨_, rfl, ?_⟩
    exact ⟨⟨_, rfl, cnT (cnLit (k := .f32) (t := 0) (by kernel_rfl) (by kernel_rfl)) (pkS_no (by assumption))⟩, B.ext⟩
  · refine s_y (v := .bool false) rfl (y_lss rfl rfl (decide_eq_false c4)) ?_
    refine s_nil ?_
    refine W_if_f (by decide) rfl ?_
    refine W_skip ?_
    refine W_seq ?_
    refine W_region (by kernel_rfl) ?_
    refine s_y (v := .pointer (some ⟨b, o, none⟩)) rfl (y_move rfl) ?_
    refine s_y (v := .pointer (some ⟨b, o, none⟩)) rfl (y_nil rfl) ?_
    refine s_y (v := .pointer (some ⟨b, o, none⟩)) rfl (y_fld (o := o + 0) T115.fld_30_0_0 rfl) ?_
    refine s_y (v := .slice afe nfe cfe) rfl (y_load T115.one_24 rfl ((B.s 3 rfl).cell (j := 0) rfl)) ?_
    refine s_y (v := .int .i64 (peakI Xfe Xfe.length)) rfl (y_move rfl) ?_
    refine s_y (v := .pointer (some (sat afe ((peakI Xfe Xfe.length).toNat * 1)))) rfl (y_idx T115.sl_24_34_1 rfl rfl ((B.r 0 rfl).addr (by omega)) (by omega) (by omega)) ?_
    obtain ⟨r6, hr7, hR5⟩ := Rd.atF (B.r 0 rfl) (peakI Xfe Xfe.length) (by omega) (by omega)
    refine s_y (v := .float .f32 r6) rfl (y_load T115.one_34 rfl (hR5.cell (i := 0) rfl)) ?_
    refine s_k rfl (k_call T115.fn_137 (c_s_l02Size hr7) rfl ?_)
    rintro _ w8 ⟨⟨r10, rfl, hr11⟩, e9⟩
    replace B := B.ext0 e9
    clear e9
    refine s_y (v := .float .f32 r10) rfl (y_assign rfl) ?_
    refine s_nil ?_
    refine W_ret ?_
    refine ret1 (v := .float .f32 r10) rfl rfl rfl ⟨_, rfl, ?_⟩
    exact ⟨⟨_, rfl, cnT hr11 (pkS_yes (by assumption))⟩, B.ext⟩
namespace T140
theorem mx : Try.prog.follows .mixedOrders = true := by kernel_rfl
theorem fld_26_0_0 : fldB Try.prog 26 0 0 = true := by kernel_rfl
theorem fld_26_1_1 : fldB Try.prog 26 1 1 = true := by kernel_rfl
theorem one_2 : oneB Try.prog 2 = true := by kernel_rfl
end T140
set_option maxRecDepth 100000 in
set_option maxHeartbeats 4000000 in
theorem c_s_l03At {b : Nat} {o : Nat} {wd : Int} {hi : Int} {wr : Bool} {asp : Option Addr} {nsp : Nat} {csp : Nat} {als : Option Addr} {nls : Nat} {cls : Nat} {x : Int} {y : Int} {w : World} (Pb : Sl w (some ⟨b, o, none⟩) [.int .i64 wd, .int .i64 hi, .bool wr, .slice asp nsp csp, .slice als nls cls]) (h1 : 3 ≤ wd) (h2 : wd ≤ 16) (h3 : 3 ≤ hi) (h4 : hi ≤ 16) (h5 : -wd ≤ x) (h6 : x ≤ 1000000) (h7 : -hi ≤ y) (h8 : y ≤ 1000000) :
    Calls Try.prog 140 #[.pointer (some ⟨b, o, none⟩), .int .i64 x, .int .i64 y] w (Rt fun v w' => v = .int .i64 (atI wd hi x y) ∧ Ext0 w w') := by
  have B : Bu w no w [.sl (some ⟨b, o, none⟩) [.int .i64 wd, .int .i64 hi, .bool wr, .slice asp nsp csp, .slice als nls cls]] := Bu.ro (All.cons Pb All.nil) rfl
  refine calls_W (n := 35) Try.func140 rfl rfl (Nat.le_of_ble_eq_true rfl) ?_
  refine W_seq ?_
  refine W_region (by kernel_rfl) ?_
  refine s_y (v := .int .i64 0) rfl (y_assign rfl) ?_
  refine s_nil ?_
  refine W_seq ?_
  have B0_5 := B
  refine W_draw (no) T140.mx (by kernel_rfl) (fun w3 e4 => ?_)
  have R6 := Ext.refl (no) w
  replace R6 := R6.trans (Ext0.any e4)
  replace B := B.ext0 e4
  clear e4
  refine m_y (v := .int .i64 x) 0 rfl (by kernel_rfl) rfl rfl (fun w' e' => y_move rfl) ?_
  refine m_y (v := .pointer (some ⟨b, o, none⟩)) 1 rfl (by kernel_rfl) rfl rfl (fun w' e' => y_move rfl) ?_
  refine m_y (v := .pointer (some ⟨b, o, none⟩)) 2 rfl (by kernel_rfl) rfl rfl (fun w' e' => y_nil rfl) ?_
  refine m_y (v := .pointer (some ⟨b, o, none⟩)) 3 rfl (by kernel_rfl) rfl rfl (fun w' e' => y_fld (o := o + 0) T140.fld_26_0_0 rfl) ?_
  refine m_y (v := .int .i64 wd) 4 rfl (by kernel_rfl) rfl rfl (fun w' e' => y_load T140.one_2 rfl (((B0_5.s 0 rfl).ext0 e').cell (j := 0) rfl)) ?_
  refine m_y (v := .int .i64 (x + wd)) 5 rfl (by kernel_rfl) rfl rfl (fun w' e' => y_add rfl rfl rfl (by omega)) ?_
  refine m_y (v := .pointer (some ⟨b, o, none⟩)) 6 rfl (by kernel_rfl) rfl rfl (fun w' e' => y_move rfl) ?_
  refine m_y (v := .pointer (some ⟨b, o, none⟩)) 7 rfl (by kernel_rfl) rfl rfl (fun w' e' => y_nil rfl) ?_
  refine m_y (v := .pointer (some ⟨b, o, none⟩)) 8 rfl (by kernel_rfl) rfl rfl (fun w' e' => y_fld (o := o + 0) T140.fld_26_0_0 rfl) ?_
  refine m_y (v := .int .i64 wd) 9 rfl (by kernel_rfl) rfl rfl (fun w' e' => y_load T140.one_2 rfl (((B0_5.s 0 rfl).ext0 e').cell (j := 0) rfl)) ?_
  have hm7 := rem_b (x := x + wd) (m := wd) (by omega) (by omega)
  refine m_y (v := .int .i64 ((x + wd) % wd)) 10 rfl (by kernel_rfl) rfl rfl (fun w' e' => y_rem rfl rfl (by omega) (by omega) rfl) ?_
  refine m_y (v := .pointer (some ⟨b, o, none⟩)) 11 rfl (by kernel_rfl) rfl rfl (fun w' e' => y_move rfl) ?_
  refine m_y (v := .pointer (some ⟨b, o, none⟩)) 12 rfl (by kernel_rfl) rfl rfl (fun w' e' => y_nil rfl) ?_
  refine m_y (v := .pointer (some ⟨b, o, none⟩)) 13 rfl (by kernel_rfl) rfl rfl (fun w' e' => y_fld (o := o + 0) T140.fld_26_0_0 rfl) ?_
  refine m_y (v := .int .i64 wd) 14 rfl (by kernel_rfl) rfl rfl (fun w' e' => y_load T140.one_2 rfl (((B0_5.s 0 rfl).ext0 e').cell (j := 0) rfl)) ?_
  refine m_y (v := .int .i64 y) 15 rfl (by kernel_rfl) rfl rfl (fun w' e' => y_move rfl) ?_
  refine m_y (v := .pointer (some ⟨b, o, none⟩)) 16 rfl (by kernel_rfl) rfl rfl (fun w' e' => y_move rfl) ?_
  refine m_y (v := .pointer (some ⟨b, o, none⟩)) 17 rfl (by kernel_rfl) rfl rfl (fun w' e' => y_nil rfl) ?_
  refine m_y (v := .pointer (some ⟨b, o + 1, none⟩)) 18 rfl (by kernel_rfl) rfl rfl (fun w' e' => y_fld (o := o + 0) T140.fld_26_1_1 rfl) ?_
  refine m_y (v := .int .i64 hi) 19 rfl (by kernel_rfl) rfl rfl (fun w' e' => y_load T140.one_2 rfl (((B0_5.s 0 rfl).ext0 e').cell (j := 1) rfl)) ?_
  refine m_y (v := .int .i64 (y + hi)) 20 rfl (by kernel_rfl) rfl rfl (fun w' e' => y_add rfl rfl rfl (by omega)) ?_
  refine m_y (v := .pointer (some ⟨b, o, none⟩)) 21 rfl (by kernel_rfl) rfl rfl (fun w' e' => y_move rfl) ?_
  refine m_y (v := .pointer (some ⟨b, o, none⟩)) 22 rfl (by kernel_rfl) rfl rfl (fun w' e' => y_nil rfl) ?_
  refine m_y (v := .pointer (some ⟨b, o + 1, none⟩)) 23 rfl (by kernel_rfl) rfl rfl (fun w' e' => y_fld (o := o + 0) T140.fld_26_1_1 rfl) ?_
  refine m_y (v := .int .i64 hi) 24 rfl (by kernel_rfl) rfl rfl (fun w' e' => y_load T140.one_2 rfl (((B0_5.s 0 rfl).ext0 e').cell (j := 1) rfl)) ?_
  have hm8 := rem_b (x := y + hi) (m := hi) (by omega) (by omega)
  refine m_y (v := .int .i64 ((y + hi) % hi)) 25 rfl (by kernel_rfl) rfl rfl (fun w' e' => y_rem rfl rfl (by omega) (by omega) rfl) ?_
  have hm9 := mul_rem (a := wd) (x := y + hi) (m := hi) (by omega) (by omega) (by omega) (by omega)
  refine m_y (v := .int .i64 (wd * ((y + hi) % hi))) 26 rfl (by kernel_rfl) rfl rfl (fun w' e' => y_mul rfl rfl rfl (by omega)) ?_
  refine m_y (v := .int .i64 (((x + wd) % wd) + (wd * ((y + hi) % hi)))) 27 rfl (by kernel_rfl) rfl rfl (fun w' e' => y_add rfl rfl rfl (by omega)) ?_
  refine m_y (v := .int .i64 (((x + wd) % wd) + (wd * ((y + hi) % hi)))) 28 rfl (by kernel_rfl) rfl rfl (fun w' e' => y_assign rfl) ?_
  refine m_done (by kernel_rfl) (fun w10 e11 => ?_)
  replace B := B.ext0 e11
  clear e11
  clear B0_5 R6
  refine W_ret ?_
  refine ret1 (v := .int .i64 (((x + wd) % wd) + (wd * ((y + hi) % hi)))) rfl rfl rfl ⟨_, rfl, ?_⟩
  exact ⟨rfl, B.ext⟩
end Go.Proofs.Ytgohmocjjmkepaa
