/- Walks: what the functions do that many laws of this seat reach (part 2). Printed by a program of this claim's author. -/
import Derived.Test.YtgohmocjjmkepaaBw0
set_option linter.unusedSimpArgs false
set_option linter.unusedVariables false
open Go.Wv
namespace Go.Proofs.Ytgohmocjjmkepaa
open Go.Proofs
namespace T135
theorem mx : Try.prog.follows .mixedOrders = true := by kernel_rfl
theorem fld_26_0_0 : fldB Try.prog 26 0 0 = true := by kernel_rfl
theorem fld_26_1_1 : fldB Try.prog 26 1 1 = true := by kernel_rfl
theorem fld_26_2_2 : fldB Try.prog 26 2 2 = true := by kernel_rfl
theorem fld_30_0_0 : fldB Try.prog 30 0 0 = true := by kernel_rfl
theorem fld_30_1_1 : fldB Try.prog 30 1 1 = true := by kernel_rfl
theorem fld_30_2_2 : fldB Try.prog 30 2 2 = true := by kernel_rfl
theorem fn_93 : fnB Try.prog 93 = true := by kernel_rfl
theorem one_2 : oneB Try.prog 2 = true := by kernel_rfl
theorem one_24 : oneB Try.prog 24 = true := by kernel_rfl
theorem one_34 : oneB Try.prog 34 = true := by kernel_rfl
theorem one_4 : oneB Try.prog 4 = true := by kernel_rfl
theorem sl_24_34_1 : slB Try.prog 24 34 1 = true := by kernel_rfl
end T135
set_option maxRecDepth 100000 in
set_option maxHeartbeats 4000000 in
theorem c_s_l02Fits {b : Nat} {o : Nat} {wd : Int} {hi : Int} {wr : Bool} {asp : Option Addr} {nsp : Nat} {csp : Nat} {als : Option Addr} {nls : Nat} {cls : Nat} {b2 : Nat} {o2 : Nat} {afe : Option Addr} {nfe : Nat} {cfe : Nat} {Xfe : List Nat} {afx : Option Addr} {nfx : Nat} {cfx : Nat} {Xfx : List Nat} {afy : Option Addr} {nfy : Nat} {cfy : Nat} {Xfy : List Nat} {w : World} (Pb : Sl w (some ⟨b, o, none⟩) [.int .i64 wd, .int .i64 hi, .bool wr, .slice asp nsp csp, .slice als nls cls]) (qfe : Rd w kF afe nfe Xfe) (qfx : Rd w kF afx nfx Xfx) (qfy : Rd w kF afy nfy Xfy) (Pb2 : Sl w (some ⟨b2, o2, none⟩) [.slice afe nfe cfe, .slice afx nfx cfx, .slice afy nfy cfy]) (h1 : 3 ≤ wd) (h2 : wd ≤ 16) (h3 : 3 ≤ hi) (h4 : hi ≤ 16) (hbfe : nfe ≤ 9223372036854775806) (hbfx : nfx ≤ 9223372036854775806) (hbfy : nfy ≤ 9223372036854775806) :
    Calls Try.prog 135 #[.pointer (some ⟨b, o, none⟩), .pointer (some ⟨b2, o2, none⟩)] w (Rt fun v w' => v = .bool (fitsB wd hi wr Xfe Xfx Xfy) ∧ Ext0 w w') := by
  have hlfe := qfe.len
  have hlfx := qfx.len
  have hlfy := qfy.len
  have B : Bu w no w [.sl (some ⟨b, o, none⟩) [.int .i64 wd, .int .i64 hi, .bool wr, .slice asp nsp csp, .slice als nls cls], .rd kF afe nfe Xfe, .rd kF afx nfx Xfx, .rd kF afy nfy Xfy, .sl (some ⟨b2, o2, none⟩) [.slice afe nfe cfe, .slice afx nfx cfx, .slice afy nfy cfy]] := Bu.ro (All.cons Pb (All.cons qfe (All.cons qfx (All.cons qfy (All.cons Pb2 All.nil))))) rfl
  refine calls_W (n := 126) Try.func135 rfl rfl (Nat.le_of_ble_eq_true rfl) ?_
  refine W_seq ?_
  refine W_region (by kernel_rfl) ?_
  refine s_y (v := .bool false) rfl (y_assign rfl) ?_
  refine s_nil ?_
  refine W_seq ?_
  have B0_5 := B
  refine W_draw (no) T135.mx (by kernel_rfl) (fun w3 e4 => ?_)
  have R6 := Ext.refl (no) w
  replace R6 := R6.trans (Ext0.any e4)
  replace B := B.ext0 e4
  clear e4
  refine m_y (v := .pointer (some ⟨b, o, none⟩)) 0 rfl (by kernel_rfl) rfl rfl (fun w' e' => y_move rfl) ?_
  refine m_y (v := .pointer (some ⟨b, o, none⟩)) 1 rfl (by kernel_rfl) rfl rfl (fun w' e' => y_nil rfl) ?_
  refine m_y (v := .pointer (some ⟨b, o, none⟩)) 2 rfl (by kernel_rfl) rfl rfl (fun w' e' => y_fld (o := o + 0) T135.fld_26_0_0 rfl) ?_
  refine m_y (v := .int .i64 wd) 3 rfl (by kernel_rfl) rfl rfl (fun w' e' => y_load T135.one_2 rfl (((B0_5.s 0 rfl).ext0 e').cell (j := 0) rfl)) ?_
  refine m_y (v := .pointer (some ⟨b, o, none⟩)) 4 rfl (by kernel_rfl) rfl rfl (fun w' e' => y_move rfl) ?_
  refine m_y (v := .pointer (some ⟨b, o, none⟩)) 5 rfl (by kernel_rfl) rfl rfl (fun w' e' => y_nil rfl) ?_
  refine m_y (v := .pointer (some ⟨b, o + 1, none⟩)) 6 rfl (by kernel_rfl) rfl rfl (fun w' e' => y_fld (o := o + 0) T135.fld_26_1_1 rfl) ?_
  refine m_y (v := .int .i64 hi) 7 rfl (by kernel_rfl) rfl rfl (fun w' e' => y_load T135.one_2 rfl (((B0_5.s 0 rfl).ext0 e').cell (j := 1) rfl)) ?_
  have hm7 := mulb (a := wd) (b := hi) (by omega) (by omega) (by omega) (by omega)
  refine m_y (v := .int .i64 (wd * hi)) 8 rfl (by kernel_rfl) rfl rfl (fun w' e' => y_mul rfl rfl rfl (by omega)) ?_
  refine m_y (v := .int .i64 (wd * hi)) 9 rfl (by kernel_rfl) rfl rfl (fun w' e' => y_assign rfl) ?_
  refine m_done (by kernel_rfl) (fun w8 e9 => ?_)
  replace B := B.ext0 e9
  clear e9
  clear B0_5 R6
  refine W_seq ?_
  refine W_seq ?_
  refine W_region (by kernel_rfl) ?_
  refine s_y (v := .pointer (some ⟨b2, o2, none⟩)) rfl (y_move rfl) ?_
  refine s_y (v := .pointer (some ⟨b2, o2, none⟩)) rfl (y_nil rfl) ?_
  refine s_y (v := .pointer (some ⟨b2, o2, none⟩)) rfl (y_fld (o := o2 + 0) T135.fld_30_0_0 rfl) ?_
  refine s_y (v := .slice afe nfe cfe) rfl (y_load T135.one_24 rfl ((B.s 4 rfl).cell (j := 0) rfl)) ?_
  refine s_y (v := .int .i64 ((nfe : Nat) : Int)) rfl (y_len T135.sl_24_34_1 rfl rfl) ?_
  refine s_y (v := .int .i64 (wd * hi)) rfl (y_move rfl) ?_
  by_cases c10 : ((nfe : Nat) : Int) ≠ (wd * hi)
  · refine s_y (v := .bool true) rfl (y_neq rfl rfl (decide_eq_true c10)) ?_
    refine s_y (v := .bool true) rfl (y_move rfl) ?_
    refine s_skip rfl ?_
    refine s_skip rfl ?_
    refine s_skip rfl ?_
    refine s_skip rfl ?_
    refine s_skip rfl ?_
    refine s_skip rfl ?_
    refine s_skip rfl ?_
    refine s_y (v := .bool true) rfl (y_pick_t rfl rfl) ?_
    refine s_y (v := .bool true) rfl (y_move rfl) ?_
    refine s_skip rfl ?_
    refine s_skip rfl ?_
    refine s_skip rfl ?_
    refine s_skip rfl ?_
    refine s_skip rfl ?_
    refine s_skip rfl ?_
    refine s_skip rfl ?_
    refine s_y (v := .bool true) rfl (y_pick_t rfl rfl) ?_
    refine s_nil ?_
    refine W_if_t (by decide) rfl ?_
    refine W_seq ?_
    refine W_region (by kernel_rfl) ?_
    refine s_y (v := .bool false) rfl (y_assign rfl) ?_
    refine s_nil ?_
    refine W_ret ?_
    refine ret1 (v := .bool false) rfl rfl rfl ⟨_, rfl, ?_⟩
    exact ⟨congrArg Value.bool (by first | exact (fits_n1 (by omega)).symm | exact (fits_n2 (by omega)).symm | exact (fits_n3 (by omega)).symm), B.ext⟩
  · refine s_y (v := .bool false) rfl (y_neq rfl rfl (decide_eq_false c10)) ?_
    refine s_y (v := .bool false) rfl (y_move rfl) ?_
    refine s_y (v := .pointer (some ⟨b2, o2, none⟩)) rfl (y_move rfl) ?_
    refine s_y (v := .pointer (some ⟨b2, o2, none⟩)) rfl (y_nil rfl) ?_
    refine s_y (v := .pointer (some ⟨b2, o2 + 1, none⟩)) rfl (y_fld (o := o2 + 0) T135.fld_30_1_1 rfl) ?_
    refine s_y (v := .slice afx nfx cfx) rfl (y_load T135.one_24 rfl ((B.s 4 rfl).cell (j := 1) rfl)) ?_
    refine s_y (v := .int .i64 ((nfx : Nat) : Int)) rfl (y_len T135.sl_24_34_1 rfl rfl) ?_
    refine s_y (v := .int .i64 (wd * hi)) rfl (y_move rfl) ?_
    by_cases c11 : ((nfx : Nat) : Int) ≠ (wd * hi)
    · refine s_y (v := .bool true) rfl (y_neq rfl rfl (decide_eq_true c11)) ?_
      refine s_y (v := .bool true) rfl (y_pick_f rfl rfl) ?_
      refine s_y (v := .bool true) rfl (y_move rfl) ?_
      refine s_skip rfl ?_
      refine s_skip rfl ?_
      refine s_skip rfl ?_
      refine s_skip rfl ?_
      refine s_skip rfl ?_
      refine s_skip rfl ?_
      refine s_skip rfl ?_
      refine s_y (v := .bool true) rfl (y_pick_t rfl rfl) ?_
      refine s_nil ?_
      refine W_if_t (by decide) rfl ?_
      refine W_seq ?_
      refine W_region (by kernel_rfl) ?_
      refine s_y (v := .bool false) rfl (y_assign rfl) ?_
      refine s_nil ?_
      refine W_ret ?_
      refine ret1 (v := .bool false) rfl rfl rfl ⟨_, rfl, ?_⟩
      exact ⟨congrArg Value.bool (by first | exact (fits_n1 (by omega)).symm | exact (fits_n2 (by omega)).symm | exact (fits_n3 (by omega)).symm), B.ext⟩
    · refine s_y (v := .bool false) rfl (y_neq rfl rfl (decide_eq_false c11)) ?_
      refine s_y (v := .bool false) rfl (y_pick_f rfl rfl) ?_
      refine s_y (v := .bool false) rfl (y_move rfl) ?_
      refine s_y (v := .pointer (some ⟨b2, o2, none⟩)) rfl (y_move rfl) ?_
      refine s_y (v := .pointer (some ⟨b2, o2, none⟩)) rfl (y_nil rfl) ?_
      refine s_y (v := .pointer (some ⟨b2, o2 + 2, none⟩)) rfl (y_fld (o := o2 + 0) T135.fld_30_2_2 rfl) ?_
      refine s_y (v := .slice afy nfy cfy) rfl (y_load T135.one_24 rfl ((B.s 4 rfl).cell (j := 2) rfl)) ?_
      refine s_y (v := .int .i64 ((nfy : Nat) : Int)) rfl (y_len T135.sl_24_34_1 rfl rfl) ?_
      refine s_y (v := .int .i64 (wd * hi)) rfl (y_move rfl) ?_
      by_cases c12 : ((nfy : Nat) : Int) ≠ (wd * hi)
      · refine s_y (v := .bool true) rfl (y_neq rfl rfl (decide_eq_true c12)) ?_
        refine s_y (v := .bool true) rfl (y_pick_f rfl rfl) ?_
        refine s_nil ?_
        refine W_if_t (by decide) rfl ?_
        refine W_seq ?_
        refine W_region (by kernel_rfl) ?_
        refine s_y (v := .bool false) rfl (y_assign rfl) ?_
        refine s_nil ?_
        refine W_ret ?_
        refine ret1 (v := .bool false) rfl rfl rfl ⟨_, rfl, ?_⟩
        exact ⟨congrArg Value.bool (by first | exact (fits_n1 (by omega)).symm | exact (fits_n2 (by omega)).symm | exact (fits_n3 (by omega)).symm), B.ext⟩
      · refine s_y (v := .bool false) rfl (y_neq rfl rfl (decide_eq_false c12)) ?_
        refine s_y (v := .bool false) rfl (y_pick_f rfl rfl) ?_
        refine s_nil ?_
        refine W_if_f (by decide) rfl ?_
        refine W_skip ?_
        refine W_seq ?_
        refine W_seq ?_
        refine W_region (by kernel_rfl) ?_
        refine s_y (v := .int .i64 0) rfl (y_assign rfl) ?_
        refine s_nil ?_
        refine W_block ?_
        refine W_loop (fun ρ' w' => ∃ (ρ1 : Env) (py : Int), ρ' = updL ρ1 [(0, .pointer (some ⟨b, o, none⟩)), (1, .pointer (some ⟨b2, o2, none⟩)), (6, .int .i64 py)] ∧ Bu w no w' [.sl (some ⟨b, o, none⟩) [.int .i64 wd, .int .i64 hi, .bool wr, .slice asp nsp csp, .slice als nls cls], .rd kF afe nfe Xfe, .rd kF afx nfx Xfx, .rd kF afy nfy Xfy, .sl (some ⟨b2, o2, none⟩) [.slice afe nfe cfe, .slice afx nfx cfx, .slice afy nfy cfy]] ∧ (0 ≤ py) ∧ (py ≤ hi) ∧ (wr = true → py = 0) ∧ (∀ j, 0 ≤ j → j < wd * py → edgeB wd hi Xfe Xfx Xfy (j % wd) (j / wd) j = false)) (fun ρ' _ => (hi - iv (ρ' 6)).toNat) ?_ ?_
        · exact ⟨_, 0, Fits.eq ⟨rfl, rfl, rfl, trivial⟩, B, (Int.le_refl _), (by omega), (fun _ => rfl), (by intro j h0 h1; rw [Int.mul_zero] at h1; omega)⟩
        · clear B; rintro _ w13 ⟨ρ14, py, rfl, B, h0py, h1py, hwr, hq0⟩
          have hwy := mulb (a := wd) (b := py) (by omega) (by omega) (by omega) (by omega)
          refine W_seq ?_
          refine W_seq ?_
          refine W_region (by kernel_rfl) ?_
          refine s_y (v := .int .i64 py) rfl (y_move rfl) ?_
          refine s_y (v := .pointer (some ⟨b, o, none⟩)) rfl (y_move rfl) ?_
          refine s_y (v := .pointer (some ⟨b, o, none⟩)) rfl (y_nil rfl) ?_
          refine s_y (v := .pointer (some ⟨b, o + 1, none⟩)) rfl (y_fld (o := o + 0) T135.fld_26_1_1 rfl) ?_
          refine s_y (v := .int .i64 hi) rfl (y_load T135.one_2 rfl ((B.s 0 rfl).cell (j := 1) rfl)) ?_
          by_cases c15 : py < hi
          · refine s_y (v := .bool true) rfl (y_lss rfl rfl (decide_eq_true c15)) ?_
            refine s_y (v := .bool true) rfl (y_move rfl) ?_
            refine s_y (v := .pointer (some ⟨b, o, none⟩)) rfl (y_move rfl) ?_
            refine s_y (v := .pointer (some ⟨b, o, none⟩)) rfl (y_nil rfl) ?_
            refine s_y (v := .pointer (some ⟨b, o + 2, none⟩)) rfl (y_fld (o := o + 0) T135.fld_26_2_2 rfl) ?_
            refine s_y (v := .bool wr) rfl (y_load T135.one_4 rfl ((B.s 0 rfl).cell (j := 2) rfl)) ?_
            refine s_y (v := .bool (!wr)) rfl (y_not rfl rfl) ?_
            refine s_y (v := .bool (!wr)) rfl (y_pick_t rfl rfl) ?_
            refine s_nil ?_
            cases wr
            · refine W_if_t (by decide) rfl ?_
              refine W_skip ?_
              refine W_seq ?_
              refine W_block ?_
              refine W_seq ?_
              refine W_region (by kernel_rfl) ?_
              refine s_y (v := .int .i64 0) rfl (y_assign rfl) ?_
              refine s_nil ?_
              refine W_block ?_
              refine W_loop (fun ρ' w' => ∃ (ρ1 : Env) (px : Int), ρ' = updL ρ1 [(0, .pointer (some ⟨b, o, none⟩)), (1, .pointer (some ⟨b2, o2, none⟩)), (6, .int .i64 py), (7, .int .i64 px), (43, .int .i64 py), (44, .pointer (some ⟨b, o, none⟩)), (45, .pointer (some ⟨b, o, none⟩)), (46, .pointer (some ⟨b, o + 1, none⟩)), (47, .int .i64 hi), (48, .bool true), (49, .bool true), (50, .pointer (some ⟨b, o, none⟩)), (51, .pointer (some ⟨b, o, none⟩)), (52, .pointer (some ⟨b, o + 2, none⟩)), (53, .bool false), (54, .bool true), (55, .bool true)] ∧ Bu w no w' [.sl (some ⟨b, o, none⟩) [.int .i64 wd, .int .i64 hi, .bool false, .slice asp nsp csp, .slice als nls cls], .rd kF afe nfe Xfe, .rd kF afx nfx Xfx, .rd kF afy nfy Xfy, .sl (some ⟨b2, o2, none⟩) [.slice afe nfe cfe, .slice afx nfx cfx, .slice afy nfy cfy]] ∧ (0 ≤ px) ∧ (px ≤ wd) ∧ (∀ j, 0 ≤ j → j < wd * py + px → edgeB wd hi Xfe Xfx Xfy (j % wd) (j / wd) j = false)) (fun ρ' _ => (wd - iv (ρ' 7)).toNat) ?_ ?_
              · exact ⟨_, 0, Fits.eq ⟨rfl, rfl, rfl, rfl, rfl, rfl, rfl, rfl, rfl, rfl, rfl, rfl, rfl, rfl, rfl, rfl, rfl, trivial⟩, B, (Int.le_refl _), (by omega), (by intro j h0 h1; exact hq0 j h0 (by omega))⟩
              · clear B; rintro _ w16 ⟨ρ17, px, rfl, B, h0px, h1px, hq1⟩
                have hrw := row_lt (wd := wd) (hi := hi) (a := if px < wd then px else 0) (b := py) (by split <;> omega) (by split <;> omega) (by omega) (by omega)
                refine W_seq ?_
                refine W_seq ?_
                refine W_region (by kernel_rfl) ?_
                refine s_y (v := .int .i64 px) rfl (y_move rfl) ?_
                refine s_y (v := .pointer (some ⟨b, o, none⟩)) rfl (y_move rfl) ?_
                refine s_y (v := .pointer (some ⟨b, o, none⟩)) rfl (y_nil rfl) ?_
                refine s_y (v := .pointer (some ⟨b, o, none⟩)) rfl (y_fld (o := o + 0) T135.fld_26_0_0 rfl) ?_
                refine s_y (v := .int .i64 wd) rfl (y_load T135.one_2 rfl ((B.s 0 rfl).cell (j := 0) rfl)) ?_
                by_cases c18 : px < wd
                · refine s_y (v := .bool true) rfl (y_lss rfl rfl (decide_eq_true c18)) ?_
                  refine s_nil ?_
                  refine W_if_t (by decide) rfl ?_
                  refine W_skip ?_
                  refine W_seq ?_
                  refine W_block ?_
                  refine W_seq ?_
                  refine W_region (by kernel_rfl) ?_
                  refine s_y (v := .int .i64 px) rfl (y_move rfl) ?_
                  refine s_y (v := .pointer (some ⟨b, o, none⟩)) rfl (y_move rfl) ?_
                  refine s_y (v := .pointer (some ⟨b, o, none⟩)) rfl (y_nil rfl) ?_
                  refine s_y (v := .pointer (some ⟨b, o, none⟩)) rfl (y_fld (o := o + 0) T135.fld_26_0_0 rfl) ?_
                  refine s_y (v := .int .i64 wd) rfl (y_load T135.one_2 rfl ((B.s 0 rfl).cell (j := 0) rfl)) ?_
                  refine s_y (v := .int .i64 py) rfl (y_move rfl) ?_
                  have hm19 := mulb (a := wd) (b := py) (by omega) (by omega) (by omega) (by omega)
                  refine s_y (v := .int .i64 (wd * py)) rfl (y_mul rfl rfl rfl (by omega)) ?_
                  refine s_y (v := .int .i64 (px + (wd * py))) rfl (y_add rfl rfl rfl (by omega)) ?_
                  refine s_y (v := .int .i64 (px + (wd * py))) rfl (y_assign rfl) ?_
                  refine s_nil ?_
                  refine W_seq ?_
                  refine W_region (by kernel_rfl) ?_
                  refine s_y (v := .pointer (some ⟨b, o, none⟩)) rfl (y_move rfl) ?_
                  refine s_y (v := .int .i64 px) rfl (y_move rfl) ?_
                  refine s_y (v := .int .i64 py) rfl (y_move rfl) ?_
                  refine s_k rfl (k_call T135.fn_93 (c_s_l02Border (B.s 0 rfl) (by omega) (by omega) (by omega) (by omega)) rfl ?_)
                  rintro v22 w20 ⟨hv23, e21⟩
                  replace B := B.ext0 e21
                  clear e21
                  by_cases c24 : bordB wd hi false px py = true
                  · obtain rfl : v22 = .bool true := hv23.trans (congrArg Value.bool c24)
                    refine s_y (v := .bool true) rfl (y_move rfl) ?_
                    refine s_y (v := .pointer (some ⟨b2, o2, none⟩)) rfl (y_move rfl) ?_
                    refine s_y (v := .pointer (some ⟨b2, o2, none⟩)) rfl (y_nil rfl) ?_
                    refine s_y (v := .pointer (some ⟨b2, o2, none⟩)) rfl (y_fld (o := o2 + 0) T135.fld_30_0_0 rfl) ?_
                    refine s_y (v := .slice afe nfe cfe) rfl (y_load T135.one_24 rfl ((B.s 4 rfl).cell (j := 0) rfl)) ?_
                    refine s_y (v := .int .i64 (px + (wd * py))) rfl (y_move rfl) ?_
                    have hx25 := row_lt (wd := wd) (hi := hi) (a := px) (b := py) (by omega) (by omega) (by omega) (by omega)
                    refine s_y (v := .pointer (some (sat afe ((px + (wd * py)).toNat * 1)))) rfl (y_idx T135.sl_24_34_1 rfl rfl ((B.r 1 rfl).addr (by omega)) (by omega) (by omega)) ?_
                    obtain ⟨r27, hr28, hR26⟩ := Rd.atF (B.r 1 rfl) (px + (wd * py)) (by omega) (by omega)
                    refine s_y (v := .float .f32 r27) rfl (y_load T135.one_34 rfl (hR26.cell (i := 0) rfl)) ?_
                    by_cases c29 : fne .f32 (el Xfe (px + (wd * py))) 0 = true
                    · refine s_y (v := .bool true) rfl (y_fneq rfl rfl (fneC hr28 (cnLit (k := .f32) (t := 0) (by kernel_rfl) (by kernel_rfl)) c29)) ?_
                      refine s_y (v := .bool true) rfl (y_pick_t rfl rfl) ?_
                      refine s_y (v := .bool true) rfl (y_move rfl) ?_
                      refine s_skip rfl ?_
                      refine s_skip rfl ?_
                      refine s_skip rfl ?_
                      refine s_skip rfl ?_
                      refine s_skip rfl ?_
                      refine s_skip rfl ?_
                      refine s_skip rfl ?_
                      refine s_skip rfl ?_
                      refine s_skip rfl ?_
                      refine s_skip rfl ?_
                      refine s_skip rfl ?_
                      refine s_skip rfl ?_
                      refine s_skip rfl ?_
                      refine s_skip rfl ?_
                      refine s_skip rfl ?_
                      refine s_skip rfl ?_
                      refine s_skip rfl ?_
                      refine s_y (v := .bool true) rfl (y_pick_t rfl rfl) ?_
                      refine s_y (v := .bool true) rfl (y_move rfl) ?_
                      refine s_skip rfl ?_
                      refine s_skip rfl ?_
                      refine s_skip rfl ?_
                      refine s_skip rfl ?_
                      refine s_skip rfl ?_
                      refine s_skip rfl ?_
                      refine s_skip rfl ?_
                      refine s_skip rfl ?_
                      refine s_skip rfl ?_
                      refine s_skip rfl ?_
                      refine s_skip rfl ?_
                      refine s_skip rfl ?_
                      refine s_skip rfl ?_
                      refine s_skip rfl ?_
                      refine s_skip rfl ?_
                      refine s_skip rfl ?_
                      refine s_skip rfl ?_
                      refine s_y (v := .bool true) rfl (y_pick_t rfl rfl) ?_
                      refine s_nil ?_
                      refine W_if_t (by decide) rfl ?_
                      refine W_seq ?_
                      refine W_region (by kernel_rfl) ?_
                      refine s_y (v := .bool false) rfl (y_assign rfl) ?_
                      refine s_nil ?_
                      refine W_ret ?_
                      refine ret1 (v := .bool false) rfl rfl rfl ⟨_, rfl, ?_⟩
                      exact ⟨congrArg Value.bool ((fits_no (x := px) (y := py) (by omega) (by omega) (by omega) (by omega) (by simp only [edgeB, (decide_eq_false c10), (decide_eq_false c11), (decide_eq_false c12), (decide_eq_true c15), (decide_eq_true c18), c24, c29, Bool.and_true, Bool.true_and, Bool.and_false, Bool.false_and, Bool.not_true, Bool.not_false, Bool.or_true, Bool.true_or, Bool.or_false, Bool.false_or])).symm), B.ext⟩
                    · refine s_y (v := .bool false) rfl (y_fneq rfl rfl (fneC hr28 (cnLit (k := .f32) (t := 0) (by kernel_rfl) (by kernel_rfl)) (Bool.eq_false_iff.2 c29))) ?_
                      refine s_y (v := .bool false) rfl (y_pick_t rfl rfl) ?_
                      refine s_y (v := .bool false) rfl (y_move rfl) ?_
                      refine s_y (v := .int .i64 py) rfl (y_move rfl) ?_
                      refine s_y (v := .pointer (some ⟨b, o, none⟩)) rfl (y_move rfl) ?_
                      refine s_y (v := .pointer (some ⟨b, o, none⟩)) rfl (y_nil rfl) ?_
                      refine s_y (v := .pointer (some ⟨b, o + 1, none⟩)) rfl (y_fld (o := o + 0) T135.fld_26_1_1 rfl) ?_
                      refine s_y (v := .int .i64 hi) rfl (y_load T135.one_2 rfl ((B.s 0 rfl).cell (j := 1) rfl)) ?_
                      refine s_y (v := .int .i64 (hi - 1)) rfl (y_sub rfl rfl rfl (by omega)) ?_
                      by_cases c30 : py = (hi - 1)
                      · refine s_y (v := .bool true) rfl (y_eql rfl rfl (decide_eq_true c30)) ?_
                        refine s_y (v := .bool true) rfl (y_move rfl) ?_
                        refine s_y (v := .pointer (some ⟨b2, o2, none⟩)) rfl (y_move rfl) ?_
                        refine s_y (v := .pointer (some ⟨b2, o2, none⟩)) rfl (y_nil rfl) ?_
                        refine s_y (v := .pointer (some ⟨b2, o2 + 1, none⟩)) rfl (y_fld (o := o2 + 0) T135.fld_30_1_1 rfl) ?_
                        refine s_y (v := .slice afx nfx cfx) rfl (y_load T135.one_24 rfl ((B.s 4 rfl).cell (j := 1) rfl)) ?_
                        refine s_y (v := .int .i64 (px + (wd * py))) rfl (y_move rfl) ?_
                        have hx31 := row_lt (wd := wd) (hi := hi) (a := px) (b := py) (by omega) (by omega) (by omega) (by omega)
                        refine s_y (v := .pointer (some (sat afx ((px + (wd * py)).toNat * 1)))) rfl (y_idx T135.sl_24_34_1 rfl rfl ((B.r 2 rfl).addr (by omega)) (by omega) (by omega)) ?_
                        obtain ⟨r33, hr34, hR32⟩ := Rd.atF (B.r 2 rfl) (px + (wd * py)) (by omega) (by omega)
                        refine s_y (v := .float .f32 r33) rfl (y_load T135.one_34 rfl (hR32.cell (i := 0) rfl)) ?_
                        by_cases c35 : fne .f32 (el Xfx (px + (wd * py))) 0 = true
                        · refine s_y (v := .bool true) rfl (y_fneq rfl rfl (fneC hr34 (cnLit (k := .f32) (t := 0) (by kernel_rfl) (by kernel_rfl)) c35)) ?_
                          refine s_y (v := .bool true) rfl (y_pick_t rfl rfl) ?_
                          refine s_y (v := .bool true) rfl (y_pick_f rfl rfl) ?_
                          refine s_y (v := .bool true) rfl (y_move rfl) ?_
                          refine s_skip rfl ?_
                          refine s_skip rfl ?_
                          refine s_skip rfl ?_
                          refine s_skip rfl ?_
                          refine s_skip rfl ?_
                          refine s_skip rfl ?_
                          refine s_skip rfl ?_
                          refine s_skip rfl ?_
                          refine s_skip rfl ?_
                          refine s_skip rfl ?_
                          refine s_skip rfl ?_
                          refine s_skip rfl ?_
                          refine s_skip rfl ?_
                          refine s_skip rfl ?_
                          refine s_skip rfl ?_
                          refine s_skip rfl ?_
                          refine s_skip rfl ?_
                          refine s_y (v := .bool true) rfl (y_pick_t rfl rfl) ?_
                          refine s_nil ?_
                          refine W_if_t (by decide) rfl ?_
                          refine W_seq ?_
                          refine W_region (by kernel_rfl) ?_
                          refine s_y (v := .bool false) rfl (y_assign rfl) ?_
                          refine s_nil ?_
                          refine W_ret ?_
                          refine ret1 (v := .bool false) rfl rfl rfl ⟨_, rfl, ?_⟩
                          exact ⟨congrArg Value.bool ((fits_no (x := px) (y := py) (by omega) (by omega) (by omega) (by omega) (by simp only [edgeB, (decide_eq_false c10), (decide_eq_false c11), (decide_eq_false c12), (decide_eq_true c15), (decide_eq_true c18), c24, (Bool.eq_false_iff.2 c29), (decide_eq_true c30), c35, Bool.and_true, Bool.true_and, Bool.and_false, Bool.false_and, Bool.not_true, Bool.not_false, Bool.or_true, Bool.true_or, Bool.or_false, Bool.false_or])).symm), B.ext⟩
                        · refine s_y (v := .bool false) rfl (y_fneq rfl rfl (fneC hr34 (cnLit (k := .f32) (t := 0) (by kernel_rfl) (by kernel_rfl)) (Bool.eq_false_iff.2 c35))) ?_
                          refine s_y (v := .bool false) rfl (y_pick_t rfl rfl) ?_
                          refine s_y (v := .bool false) rfl (y_pick_f rfl rfl) ?_
                          refine s_y (v := .bool false) rfl (y_move rfl) ?_
                          refine s_y (v := .int .i64 px) rfl (y_move rfl) ?_
                          refine s_y (v := .pointer (some ⟨b, o, none⟩)) rfl (y_move rfl) ?_
                          refine s_y (v := .pointer (some ⟨b, o, none⟩)) rfl (y_nil rfl) ?_
                          refine s_y (v := .pointer (some ⟨b, o, none⟩)) rfl (y_fld (o := o + 0) T135.fld_26_0_0 rfl) ?_
                          refine s_y (v := .int .i64 wd) rfl (y_load T135.one_2 rfl ((B.s 0 rfl).cell (j := 0) rfl)) ?_
                          refine s_y (v := .int .i64 (wd - 1)) rfl (y_sub rfl rfl rfl (by omega)) ?_
                          by_cases c36 : px = (wd - 1)
                          · refine s_y (v := .bool true) rfl (y_eql rfl rfl (decide_eq_true c36)) ?_
                            refine s_y (v := .bool true) rfl (y_move rfl) ?_
                            refine s_y (v := .pointer (some ⟨b2, o2, none⟩)) rfl (y_move rfl) ?_
                            refine s_y (v := .pointer (some ⟨b2, o2, none⟩)) rfl (y_nil rfl) ?_
                            refine s_y (v := .pointer (some ⟨b2, o2 + 2, none⟩)) rfl (y_fld (o := o2 + 0) T135.fld_30_2_2 rfl) ?_
                            refine s_y (v := .slice afy nfy cfy) rfl (y_load T135.one_24 rfl ((B.s 4 rfl).cell (j := 2) rfl)) ?_
                            refine s_y (v := .int .i64 (px + (wd * py))) rfl (y_move rfl) ?_
                            have hx37 := row_lt (wd := wd) (hi := hi) (a := px) (b := py) (by omega) (by omega) (by omega) (by omega)
                            refine s_y (v := .pointer (some (sat afy ((px + (wd * py)).toNat * 1)))) rfl (y_idx T135.sl_24_34_1 rfl rfl ((B.r 3 rfl).addr (by omega)) (by omega) (by omega)) ?_
                            obtain ⟨r39, hr40, hR38⟩ := Rd.atF (B.r 3 rfl) (px + (wd * py)) (by omega) (by omega)
                            refine s_y (v := .float .f32 r39) rfl (y_load T135.one_34 rfl (hR38.cell (i := 0) rfl)) ?_
                            by_cases c41 : fne .f32 (el Xfy (px + (wd * py))) 0 = true
                            · refine s_y (v := .bool true) rfl (y_fneq rfl rfl (fneC hr40 (cnLit (k := .f32) (t := 0) (by kernel_rfl) (by kernel_rfl)) c41)) ?_
                              refine s_y (v := .bool true) rfl (y_pick_t rfl rfl) ?_
                              refine s_y (v := .bool true) rfl (y_pick_f rfl rfl) ?_
                              refine s_nil ?_
                              refine W_if_t (by decide) rfl ?_
                              refine W_seq ?_
                              refine W_region (by kernel_rfl) ?_
                              refine s_y (v := .bool false) rfl (y_assign rfl) ?_
                              refine s_nil ?_
                              refine W_ret ?_
                              refine ret1 (v := .bool false) rfl rfl rfl ⟨_, rfl, ?_⟩
                              exact ⟨congrArg Value.bool ((fits_no (x := px) (y := py) (by omega) (by omega) (by omega) (by omega) (by simp only [edgeB, (decide_eq_false c10), (decide_eq_false c11), (decide_eq_false c12), (decide_eq_true c15), (decide_eq_true c18), c24, (Bool.eq_false_iff.2 c29), (decide_eq_true c30), (Bool.eq_false_iff.2 c35), (decide_eq_true c36), c41, Bool.and_true, Bool.true_and, Bool.and_false, Bool.false_and, Bool.not_true, Bool.not_false, Bool.or_true, Bool.true_or, Bool.or_false, Bool.false_or])).symm), B.ext⟩
                            · refine s_y (v := .bool false) rfl (y_fneq rfl rfl (fneC hr40 (cnLit (k := .f32) (t := 0) (by kernel_rfl) (by kernel_rfl)) (Bool.eq_false_iff.2 c41))) ?_
                              refine s_y (v := .bool false) rfl (y_pick_t rfl rfl) ?_
                              refine s_y (v := .bool false) rfl (y_pick_f rfl rfl) ?_
                              refine s_nil ?_
                              refine W_if_f (by decide) rfl ?_
                              refine W_skip ?_
                              refine W_region (by kernel_rfl) ?_
                              refine s_y (v := .int .i64 px) rfl (y_move rfl) ?_
                              refine s_y (v := .int .i64 (px + 1)) rfl (y_add rfl rfl rfl (by omega)) ?_
                              refine s_y (v := .int .i64 (px + 1)) rfl (y_assign rfl) ?_
                              refine s_nil ?_
                              refine ⟨⟨_, px + 1, Fits.eq ⟨rfl, rfl, rfl, rfl, rfl, rfl, rfl, rfl, rfl, rfl, rfl, rfl, rfl, rfl, rfl, rfl, rfl, trivial⟩, B, (by omega), (by omega), (edge_row hq1 (by simp only [edgeB, (decide_eq_false c10), (decide_eq_false c11), (decide_eq_false c12), (decide_eq_true c15), (decide_eq_true c18), c24, (Bool.eq_false_iff.2 c29), (decide_eq_true c30), (Bool.eq_false_iff.2 c35), (decide_eq_true c36), (Bool.eq_false_iff.2 c41), Bool.and_true, Bool.true_and, Bool.and_false, Bool.false_and, Bool.not_true, Bool.not_false, Bool.or_true, Bool.true_or, Bool.or_false, Bool.false_or]) (by omega) (by omega) (by omega))⟩, ?_⟩
                              show (wd - (px + 1)).toNat < (wd - px).toNat
                              omega
                          · refine s_y (v := .bool false) rfl (y_eql rfl rfl (decide_eq_false c36)) ?_
                            refine s_y (v := .bool false) rfl (y_move rfl) ?_
                            refine s_skip rfl ?_
                            refine s_skip rfl ?_
                            refine s_skip rfl ?_
                            refine s_skip rfl ?_
                            refine s_skip rfl ?_
                            refine s_skip rfl ?_
                            refine s_skip rfl ?_
                            refine s_skip rfl ?_
                            refine s_y (v := .bool false) rfl (y_pick_f rfl rfl) ?_
                            refine s_y (v := .bool false) rfl (y_pick_f rfl rfl) ?_
                            refine s_nil ?_
                            refine W_if_f (by decide) rfl ?_
                            refine W_skip ?_
                            refine W_region (by kernel_rfl) ?_
                            refine s_y (v := .int .i64 px) rfl (y_move rfl) ?_
                            refine s_y (v := .int .i64 (px + 1)) rfl (y_add rfl rfl rfl (by omega)) ?_
                            refine s_y (v := .int .i64 (px + 1)) rfl (y_assign rfl) ?_
                            refine s_nil ?_
                            refine ⟨⟨_, px + 1, Fits.eq ⟨rfl, rfl, rfl, rfl, rfl, rfl, rfl, rfl, rfl, rfl, rfl, rfl, rfl, rfl, rfl, rfl, rfl, trivial⟩, B, (by omega), (by omega), (edge_row hq1 (by simp only [edgeB, (decide_eq_false c10), (decide_eq_false c11), (decide_eq_false c12), (decide_eq_true c15), (decide_eq_true c18), c24, (Bool.eq_false_iff.2 c29), (decide_eq_true c30), (Bool.eq_false_iff.2 c35), (decide_eq_false c36), Bool.and_true, Bool.true_and, Bool.and_false, Bool.false_and, Bool.not_true, Bool.not_false, Bool.or_true, Bool.true_or, Bool.or_false, Bool.false_or]) (by omega) (by omega) (by omega))⟩, ?_⟩
                            show (wd - (px + 1)).toNat < (wd - px).toNat
                            omega
                      · refine s_y (v := .bool false) rfl (y_eql rfl rfl (decide_eq_false c30)) ?_
                        refine s_y (v := .bool false) rfl (y_move rfl) ?_
                        refine s_skip rfl ?_
                        refine s_skip rfl ?_
                        refine s_skip rfl ?_
                        refine s_skip rfl ?_
                        refine s_skip rfl ?_
                        refine s_skip rfl ?_
                        refine s_skip rfl ?_
                        refine s_skip rfl ?_
                        refine s_y (v := .bool false) rfl (y_pick_f rfl rfl) ?_
                        refine s_y (v := .bool false) rfl (y_pick_f rfl rfl) ?_
                        refine s_y (v := .bool false) rfl (y_move rfl) ?_
                        refine s_y (v := .int .i64 px) rfl (y_move rfl) ?_
                        refine s_y (v := .pointer (some ⟨b, o, none⟩)) rfl (y_move rfl) ?_
                        refine s_y (v := .pointer (some ⟨b, o, none⟩)) rfl (y_nil rfl) ?_
                        refine s_y (v := .pointer (some ⟨b, o, none⟩)) rfl (y_fld (o := o + 0) T135.fld_26_0_0 rfl) ?_
                        refine s_y (v := .int .i64 wd) rfl (y_load T135.one_2 rfl ((B.s 0 rfl).cell (j := 0) rfl)) ?_
                        refine s_y (v := .int .i64 (wd - 1)) rfl (y_sub rfl rfl rfl (by omega)) ?_
                        by_cases c42 : px = (wd - 1)
                        · refine s_y (v := .bool true) rfl (y_eql rfl rfl (decide_eq_true c42)) ?_
                          refine s_y (v := .bool true) rfl (y_move rfl) ?_
                          refine s_y (v := .pointer (some ⟨b2, o2, none⟩)) rfl (y_move rfl) ?_
                          refine s_y (v := .pointer (some ⟨b2, o2, none⟩)) rfl (y_nil rfl) ?_
                          refine s_y (v := .pointer (some ⟨b2, o2 + 2, none⟩)) rfl (y_fld (o := o2 + 0) T135.fld_30_2_2 rfl) ?_
                          refine s_y (v := .slice afy nfy cfy) rfl (y_load T135.one_24 rfl ((B.s 4 rfl).cell (j := 2) rfl)) ?_
                          refine s_y (v := .int .i64 (px + (wd * py))) rfl (y_move rfl) ?_
                          have hx43 := row_lt (wd := wd) (hi := hi) (a := px) (b := py) (by omega) (by omega) (by omega) (by omega)
                          refine s_y (v := .pointer (some (sat afy ((px + (wd * py)).toNat * 1)))) rfl (y_idx T135.sl_24_34_1 rfl rfl ((B.r 3 rfl).addr (by omega)) (by omega) (by omega)) ?_
                          obtain ⟨r45, hr46, hR44⟩ := Rd.atF (B.r 3 rfl) (px + (wd * py)) (by omega) (by omega)
                          refine s_y (v := .float .f32 r45) rfl (y_load T135.one_34 rfl (hR44.cell (i := 0) rfl)) ?_
                          by_cases c47 : fne .f32 (el Xfy (px + (wd * py))) 0 = true
                          · refine s_y (v := .bool true) rfl (y_fneq rfl rfl (fneC hr46 (cnLit (k := .f32) (t := 0) (by kernel_rfl) (by kernel_rfl)) c47)) ?_
                            refine s_y (v := .bool true) rfl (y_pick_t rfl rfl) ?_
                            refine s_y (v := .bool true) rfl (y_pick_f rfl rfl) ?_
                            refine s_nil ?_
                            refine W_if_t (by decide) rfl ?_
                            refine W_seq ?_
                            refine W_region (by kernel_rfl) ?_
                            refine s_y (v := .bool false) rfl (y_assign rfl) ?_
                            refine s_nil ?_
                            refine W_ret ?_
                            refine ret1 (v := .bool false) rfl rfl rfl ⟨_, rfl, ?_⟩
                            exact ⟨congrArg Value.bool ((fits_no (x := px) (y := py) (by omega) (by omega) (by omega) (by omega) (by simp only [edgeB, (decide_eq_false c10), (decide_eq_false c11), (decide_eq_false c12), (decide_eq_true c15), (decide_eq_true c18), c24, (Bool.eq_false_iff.2 c29), (decide_eq_false c30), (decide_eq_true c42), c47, Bool.and_true, Bool.true_and, Bool.and_false, Bool.false_and, Bool.not_true, Bool.not_false, Bool.or_true, Bool.true_or, Bool.or_false, Bool.false_or])).symm), B.ext⟩
                          · refine s_y (v := .bool false) rfl (y_fneq rfl rfl (fneC hr46 (cnLit (k := .f32) (t := 0) (by kernel_rfl) (by kernel_rfl)) (Bool.eq_false_iff.2 c47))) ?_
                            refine s_y (v := .bool false) rfl (y_pick_t rfl rfl) ?_
                            refine s_y (v := .bool false) rfl (y_pick_f rfl rfl) ?_
                            refine s_nil ?_
                            refine W_if_f (by decide) rfl ?_
                            refine W_skip ?_
                            refine W_region (by kernel_rfl) ?_
                            refine s_y (v := .int .i64 px) rfl (y_move rfl) ?_
                            refine s_y (v := .int .i64 (px + 1)) rfl (y_add rfl rfl rfl (by omega)) ?_
                            refine s_y (v := .int .i64 (px + 1)) rfl (y_assign rfl) ?_
                            refine s_nil ?_
                            refine ⟨⟨_, px + 1, Fits.eq ⟨rfl, rfl, rfl, rfl, rfl, rfl, rfl, rfl, rfl, rfl, rfl, rfl, rfl, rfl, rfl, rfl, rfl, trivial⟩, B, (by omega), (by omega), (edge_row hq1 (by simp only [edgeB, (decide_eq_false c10), (decide_eq_false c11), (decide_eq_false c12), (decide_eq_true c15), (decide_eq_true c18), c24, (Bool.eq_false_iff.2 c29), (decide_eq_false c30), (decide_eq_true c42), (Bool.eq_false_iff.2 c47), Bool.and_true, Bool.true_and, Bool.and_false, Bool.false_and, Bool.not_true, Bool.not_false, Bool.or_true, Bool.true_or, Bool.or_false, Bool.false_or]) (by omega) (by omega) (by omega))⟩, ?_⟩
                            show (wd - (px + 1)).toNat < (wd - px).toNat
                            omega
                        · refine s_y (v := .bool false) rfl (y_eql rfl rfl (decide_eq_false c42)) ?_
                          refine s_y (v := .bool false) rfl (y_move rfl) ?_
                          refine s_skip rfl ?_
                          refine s_skip rfl ?_
                          refine s_skip rfl ?_
                          refine s_skip rfl ?_
                          refine s_skip rfl ?_
                          refine s_skip rfl ?_
                          refine s_skip rfl ?_
                          refine s_skip rfl ?_
                          refine s_y (v := .bool false) rfl (y_pick_f rfl rfl) ?_
                          refine s_y (v := .bool false) rfl (y_pick_f rfl rfl) ?_
                          refine s_nil ?_
                          refine W_if_f (by decide) rfl ?_
                          refine W_skip ?_
                          refine W_region (by kernel_rfl) ?_
                          refine s_y (v := .int .i64 px) rfl (y_move rfl) ?_
                          refine s_y (v := .int .i64 (px + 1)) rfl (y_add rfl rfl rfl (by omega)) ?_
                          refine s_y (v := .int .i64 (px + 1)) rfl (y_assign rfl) ?_
                          refine s_nil ?_
                          refine ⟨⟨_, px + 1, Fits.eq ⟨rfl, rfl, rfl, rfl, rfl, rfl, rfl, rfl, rfl, rfl, rfl, rfl, rfl, rfl, rfl, rfl, rfl, trivial⟩, B, (by omega), (by omega), (edge_row hq1 (by simp only [edgeB, (decide_eq_false c10), (decide_eq_false c11), (decide_eq_false c12), (decide_eq_true c15), (decide_eq_true c18), c24, (Bool.eq_false_iff.2 c29), (decide_eq_false c30), (decide_eq_false c42), Bool.and_true, Bool.true_and, Bool.and_false, Bool.false_and, Bool.not_true, Bool.not_false, Bool.or_true, Bool.true_or, Bool.or_false, Bool.false_or]) (by omega) (by omega) (by omega))⟩, ?_⟩
                          show (wd - (px + 1)).toNat < (wd - px).toNat
                          omega
                  · obtain rfl : v22 = .bool false := hv23.trans (congrArg Value.bool (Bool.eq_false_iff.2 c24))
                    refine s_y (v := .bool false) rfl (y_move rfl) ?_
                    refine s_skip rfl ?_
                    refine s_skip rfl ?_
                    refine s_skip rfl ?_
                    refine s_skip rfl ?_
                    refine s_skip rfl ?_
                    refine s_skip rfl ?_
                    refine s_skip rfl ?_
                    refine s_skip rfl ?_
                    refine s_y (v := .bool false) rfl (y_pick_f rfl rfl) ?_
                    refine s_y (v := .bool false) rfl (y_move rfl) ?_
                    refine s_y (v := .int .i64 py) rfl (y_move rfl) ?_
                    refine s_y (v := .pointer (some ⟨b, o, none⟩)) rfl (y_move rfl) ?_
                    refine s_y (v := .pointer (some ⟨b, o, none⟩)) rfl (y_nil rfl) ?_
                    refine s_y (v := .pointer (some ⟨b, o + 1, none⟩)) rfl (y_fld (o := o + 0) T135.fld_26_1_1 rfl) ?_
                    refine s_y (v := .int .i64 hi) rfl (y_load T135.one_2 rfl ((B.s 0 rfl).cell (j := 1) rfl)) ?_
                    refine s_y (v := .int .i64 (hi - 1)) rfl (y_sub rfl rfl rfl (by omega)) ?_
                    by_cases c48 : py = (hi - 1)
                    · refine s_y (v := .bool true) rfl (y_eql rfl rfl (decide_eq_true c48)) ?_
                      refine s_y (v := .bool true) rfl (y_move rfl) ?_
                      refine s_y (v := .pointer (some ⟨b2, o2, none⟩)) rfl (y_move rfl) ?_
                      refine s_y (v := .pointer (some ⟨b2, o2, none⟩)) rfl (y_nil rfl) ?_
                      refine s_y (v := .pointer (some ⟨b2, o2 + 1, none⟩)) rfl (y_fld (o := o2 + 0) T135.fld_30_1_1 rfl) ?_
                      refine s_y (v := .slice afx nfx cfx) rfl (y_load T135.one_24 rfl ((B.s 4 rfl).cell (j := 1) rfl)) ?_
                      refine s_y (v := .int .i64 (px + (wd * py))) rfl (y_move rfl) ?_
                      have hx49 := row_lt (wd := wd) (hi := hi) (a := px) (b := py) (by omega) (by omega) (by omega) (by omega)
                      refine s_y (v := .pointer (some (sat afx ((px + (wd * py)).toNat * 1)))) rfl (y_idx T135.sl_24_34_1 rfl rfl ((B.r 2 rfl).addr (by omega)) (by omega) (by omega)) ?_
                      obtain ⟨r51, hr52, hR50⟩ := Rd.atF (B.r 2 rfl) (px + (wd * py)) (by omega) (by omega)
                      refine s_y (v := .float .f32 r51) rfl (y_load T135.one_34 rfl (hR50.cell (i := 0) rfl)) ?_
                      by_cases c53 : fne .f32 (el Xfx (px + (wd * py))) 0 = true
                      · refine s_y (v := .bool true) rfl (y_fneq rfl rfl (fneC hr52 (cnLit (k := .f32) (t := 0) (by kernel_rfl) (by kernel_rfl)) c53)) ?_
                        refine s_y (v := .bool true) rfl (y_pick_t rfl rfl) ?_
                        refine s_y (v := .bool true) rfl (y_pick_f rfl rfl) ?_
                        refine s_y (v := .bool true) rfl (y_move rfl) ?_
                        refine s_skip rfl ?_
                        refine s_skip rfl ?_
                        refine s_skip rfl ?_
                        refine s_skip rfl ?_
                        refine s_skip rfl ?_
                        refine s_skip rfl ?_
                        refine s_skip rfl ?_
                        refine s_skip rfl ?_
                        refine s_skip rfl ?_
                        refine s_skip rfl ?_
                        refine s_skip rfl ?_
                        refine s_skip rfl ?_
                        refine s_skip rfl ?_
                        refine s_skip rfl ?_
                        refine s_skip rfl ?_
                        refine s_skip rfl ?_
                        refine s_skip rfl ?_
                        refine s_y (v := .bool true) rfl (y_pick_t rfl rfl) ?_
                        refine s_nil ?_
                        refine W_if_t (by decide) rfl ?_
                        refine W_seq ?_
                        refine W_region (by kernel_rfl) ?_
                        refine s_y (v := .bool false) rfl (y_assign rfl) ?_
                        refine s_nil ?_
                        refine W_ret ?_
                        refine ret1 (v := .bool false) rfl rfl rfl ⟨_, rfl, ?_⟩
                        exact ⟨congrArg Value.bool ((fits_no (x := px) (y := py) (by omega) (by omega) (by omega) (by omega) (by simp only [edgeB, (decide_eq_false c10), (decide_eq_false c11), (decide_eq_false c12), (decide_eq_true c15), (decide_eq_true c18), (Bool.eq_false_iff.2 c24), (decide_eq_true c48), c53, Bool.and_true, Bool.true_and, Bool.and_false, Bool.false_and, Bool.not_true, Bool.not_false, Bool.or_true, Bool.true_or, Bool.or_false, Bool.false_or])).symm), B.ext⟩
                      · refine s_y (v := .bool false) rfl (y_fneq rfl rfl (fneC hr52 (cnLit (k := .f32) (t := 0) (by kernel_rfl) (by kernel_rfl)) (Bool.eq_false_iff.2 c53))) ?_
                        refine s_y (v := .bool false) rfl (y_pick_t rfl rfl) ?_
                        refine s_y (v := .bool false) rfl (y_pick_f rfl rfl) ?_
                        refine s_y (v := .bool false) rfl (y_move rfl) ?_
                        refine s_y (v := .int .i64 px) rfl (y_move rfl) ?_
                        refine s_y (v := .pointer (some ⟨b, o, none⟩)) rfl (y_move rfl) ?_
                        refine s_y (v := .pointer (some ⟨b, o, none⟩)) rfl (y_nil rfl) ?_
                        refine s_y (v := .pointer (some ⟨b, o, none⟩)) rfl (y_fld (o := o + 0) T135.fld_26_0_0 rfl) ?_
                        refine s_y (v := .int .i64 wd) rfl (y_load T135.one_2 rfl ((B.s 0 rfl).cell (j := 0) rfl)) ?_
                        refine s_y (v := .int .i64 (wd - 1)) rfl (y_sub rfl rfl rfl (by omega)) ?_
                        by_cases c54 : px = (wd - 1)
                        · refine s_y (v := .bool true) rfl (y_eql rfl rfl (decide_eq_true c54)) ?_
                          refine s_y (v := .bool true) rfl (y_move rfl) ?_
                          refine s_y (v := .pointer (some ⟨b2, o2, none⟩)) rfl (y_move rfl) ?_
                          refine s_y (v := .pointer (some ⟨b2, o2, none⟩)) rfl (y_nil rfl) ?_
                          refine s_y (v := .pointer (some ⟨b2, o2 + 2, none⟩)) rfl (y_fld (o := o2 + 0) T135.fld_30_2_2 rfl) ?_
                          refine s_y (v := .slice afy nfy cfy) rfl (y_load T135.one_24 rfl ((B.s 4 rfl).cell (j := 2) rfl)) ?_
                          refine s_y (v := .int .i64 (px + (wd * py))) rfl (y_move rfl) ?_
                          have hx55 := row_lt (wd := wd) (hi := hi) (a := px) (b := py) (by omega) (by omega) (by omega) (by omega)
                          refine s_y (v := .pointer (some (sat afy ((px + (wd * py)).toNat * 1)))) rfl (y_idx T135.sl_24_34_1 rfl rfl ((B.r 3 rfl).addr (by omega)) (by omega) (by omega)) ?_
                          obtain ⟨r57, hr58, hR56⟩ := Rd.atF (B.r 3 rfl) (px + (wd * py)) (by omega) (by omega)
                          refine s_y (v := .float .f32 r57) rfl (y_load T135.one_34 rfl (hR56.cell (i := 0) rfl)) ?_
                          by_cases c59 : fne .f32 (el Xfy (px + (wd * py))) 0 = true
                          · refine s_y (v := .bool true) rfl (y_fneq rfl rfl (fneC hr58 (cnLit (k := .f32) (t := 0) (by kernel_rfl) (by kernel_rfl)) c59)) ?_
                            refine s_y (v := .bool true) rfl (y_pick_t rfl rfl) ?_
                            refine s_y (v := .bool true) rfl (y_pick_f rfl rfl) ?_
                            refine s_nil ?_
                            refine W_if_t (by decide) rfl ?_
                            refine W_seq ?_
                            refine W_region (by kernel_rfl) ?_
                            refine s_y (v := .bool false) rfl (y_assign rfl) ?_
                            refine s_nil ?_
                            refine W_ret ?_
                            refine ret1 (v := .bool false) rfl rfl rfl ⟨_, rfl, ?_⟩
                            exact ⟨congrArg Value.bool ((fits_no (x := px) (y := py) (by omega) (by omega) (by omega) (by omega) (by simp only [edgeB, (decide_eq_false c10), (decide_eq_false c11), (decide_eq_false c12), (decide_eq_true c15), (decide_eq_true c18), (Bool.eq_false_iff.2 c24), (decide_eq_true c48), (Bool.eq_false_iff.2 c53), (decide_eq_true c54), c59, Bool.and_true, Bool.true_and, Bool.and_false, Bool.false_and, Bool.not_true, Bool.not_false, Bool.or_true, Bool.true_or, Bool.or_false, Bool.false_or])).symm), B.ext⟩
                          · refine s_y (v := .bool false) rfl (y_fneq rfl rfl (fneC hr58 (cnLit (k := .f32) (t := 0) (by kernel_rfl) (by kernel_rfl)) (Bool.eq_false_iff.2 c59))) ?_
                            refine s_y (v := .bool false) rfl (y_pick_t rfl rfl) ?_
                            refine s_y (v := .bool false) rfl (y_pick_f rfl rfl) ?_
                            refine s_nil ?_
                            refine W_if_f (by decide) rfl ?_
                            refine W_skip ?_
                            refine W_region (by kernel_rfl) ?_
                            refine s_y (v := .int .i64 px) rfl (y_move rfl) ?_
                            refine s_y (v := .int .i64 (px + 1)) rfl (y_add rfl rfl rfl (by omega)) ?_
                            refine s_y (v := .int .i64 (px + 1)) rfl (y_assign rfl) ?_
                            refine s_nil ?_
                            refine ⟨⟨_, px + 1, Fits.eq ⟨rfl, rfl, rfl, rfl, rfl, rfl, rfl, rfl, rfl, rfl, rfl, rfl, rfl, rfl, rfl, rfl, rfl, trivial⟩, B, (by omega), (by omega), (edge_row hq1 (by simp only [edgeB, (decide_eq_false c10), (decide_eq_false c11), (decide_eq_false c12), (decide_eq_true c15), (decide_eq_true c18), (Bool.eq_false_iff.2 c24), (decide_eq_true c48), (Bool.eq_false_iff.2 c53), (decide_eq_true c54), (Bool.eq_false_iff.2 c59), Bool.and_true, Bool.true_and, Bool.and_false, Bool.false_and, Bool.not_true, Bool.not_false, Bool.or_true, Bool.true_or, Bool.or_false, Bool.false_or]) (by omega) (by omega) (by omega))⟩, ?_⟩
                            show (wd - (px + 1)).toNat < (wd - px).toNat
                            omega
                        · refine s_y (v := .bool false) rfl (y_eql rfl rfl (decide_eq_false c54)) ?_
                          refine s_y (v := .bool false) rfl (y_move rfl) ?_
                          refine s_skip rfl ?_
                          refine s_skip rfl ?_
                          refine s_skip rfl ?_
                          refine s_skip rfl ?_
                          refine s_skip rfl ?_
                          refine s_skip rfl ?_
                          refine s_skip rfl ?_
                          refine s_skip rfl ?_
                          refine s_y (v := .bool false) rfl (y_pick_f rfl rfl) ?_
                          refine s_y (v := .bool false) rfl (y_pick_f rfl rfl) ?_
                          refine s_nil ?_
                          refine W_if_f (by decide) rfl ?_
                          refine W_skip ?_
                          refine W_region (by kernel_rfl) ?_
                          refine s_y (v := .int .i64 px) rfl (y_move rfl) ?_
                          refine s_y (v := .int .i64 (px + 1)) rfl (y_add rfl rfl rfl (by omega)) ?_
                          refine s_y (v := .int .i64 (px + 1)) rfl (y_assign rfl) ?_
                          refine s_nil ?_
                          refine ⟨⟨_, px + 1, Fits.eq ⟨rfl, rfl, rfl, rfl, rfl, rfl, rfl, rfl, rfl, rfl, rfl, rfl, rfl, rfl, rfl, rfl, rfl, trivial⟩, B, (by omega), (by omega), (edge_row hq1 (by simp only [edgeB, (decide_eq_false c10), (decide_eq_false c11), (decide_eq_false c12), (decide_eq_true c15), (decide_eq_true c18), (Bool.eq_false_iff.2 c24), (decide_eq_true c48), (Bool.eq_false_iff.2 c53), (decide_eq_false c54), Bool.and_true, Bool.true_and, Bool.and_false, Bool.false_and, Bool.not_true, Bool.not_false, Bool.or_true, Bool.true_or, Bool.or_false, Bool.false_or]) (by omega) (by omega) (by omega))⟩, ?_⟩
                          show (wd - (px + 1)).toNat < (wd - px).toNat
                          omega
                    · refine s_y (v := .bool false) rfl (y_eql rfl rfl (decide_eq_false c48)) ?_
                      refine s_y (v := .bool false) rfl (y_move rfl) ?_
                      refine s_skip rfl ?_
                      refine s_skip rfl ?_
                      refine s_skip rfl ?_
                      refine s_skip rfl ?_
                      refine s_skip rfl ?_
                      refine s_skip rfl ?_
                      refine s_skip rfl ?_
                      refine s_skip rfl ?_
                      refine s_y (v := .bool false) rfl (y_pick_f rfl rfl) ?_
                      refine s_y (v := .bool false) rfl (y_pick_f rfl rfl) ?_
                      refine s_y (v := .bool false) rfl (y_move rfl) ?_
                      refine s_y (v := .int .i64 px) rfl (y_move rfl) ?_
                      refine s_y (v := .pointer (some ⟨b, o, none⟩)) rfl (y_move rfl) ?_
                      refine s_y (v := .pointer (some ⟨b, o, none⟩)) rfl (y_nil rfl) ?_
                      refine s_y (v := .pointer (some ⟨b, o, none⟩)) rfl (y_fld (o := o + 0) T135.fld_26_0_0 rfl) ?_
                      refine s_y (v := .int .i64 wd) rfl (y_load T135.one_2 rfl ((B.s 0 rfl).cell (j := 0) rfl)) ?_
                      refine s_y (v := .int .i64 (wd - 1)) rfl (y_sub rfl rfl rfl (by omega)) ?_
                      by_cases c60 : px = (wd - 1)
                      · refine s_y (v := .bool true) rfl (y_eql rfl rfl (decide_eq_true c60)) ?_
                        refine s_y (v := .bool true) rfl (y_move rfl) ?_
                        refine s_y (v := .pointer (some ⟨b2, o2, none⟩)) rfl (y_move rfl) ?_
                        refine s_y (v := .pointer (some ⟨b2, o2, none⟩)) rfl (y_nil rfl) ?_
                        refine s_y (v := .pointer (some ⟨b2, o2 + 2, none⟩)) rfl (y_fld (o := o2 + 0) T135.fld_30_2_2 rfl) ?_
                        refine s_y (v := .slice afy nfy cfy) rfl (y_load T135.one_24 rfl ((B.s 4 rfl).cell (j := 2) rfl)) ?_
                        refine s_y (v := .int .i64 (px + (wd * py))) rfl (y_move rfl) ?_
                        have hx61 := row_lt (wd := wd) (hi := hi) (a := px) (b := py) (by omega) (by omega) (by omega) (by omega)
                        refine s_y (v := .pointer (some (sat afy ((px + (wd * py)).toNat * 1)))) rfl (y_idx T135.sl_24_34_1 rfl rfl ((B.r 3 rfl).addr (by omega)) (by omega) (by omega)) ?_
                        obtain ⟨r63, hr64, hR62⟩ := Rd.atF (B.r 3 rfl) (px + (wd * py)) (by omega) (by omega)
                        refine s_y (v := .float .f32 r63) rfl (y_load T135.one_34 rfl (hR62.cell (i := 0) rfl)) ?_
                        by_cases c65 : fne .f32 (el Xfy (px + (wd * py))) 0 = true
                        · refine s_y (v := .bool true) rfl (y_fneq rfl rfl (fneC hr64 (cnLit (k := .f32) (t := 0) (by kernel_rfl) (by kernel_rfl)) c65)) ?_
                          refine s_y (v := .bool true) rfl (y_pick_t rfl rfl) ?_
                          refine s_y (v := .bool true) rfl (y_pick_f rfl rfl) ?_
                          refine s_nil ?_
                          refine W_if_t (by decide) rfl ?_
                          refine W_seq ?_
                          refine W_region (by kernel_rfl) ?_
                          refine s_y (v := .bool false) rfl (y_assign rfl) ?_
                          refine s_nil ?_
                          refine W_ret ?_
                          refine ret1 (v := .bool false) rfl rfl rfl ⟨_, rfl, ?_⟩
                          exact ⟨congrArg Value.bool ((fits_no (x := px) (y := py) (by omega) (by omega) (by omega) (by omega) (by simp only [edgeB, (decide_eq_false c10), (decide_eq_false c11), (decide_eq_false c12), (decide_eq_true c15), (decide_eq_true c18), (Bool.eq_false_iff.2 c24), (decide_eq_false c48), (decide_eq_true c60), c65, Bool.and_true, Bool.true_and, Bool.and_false, Bool.false_and, Bool.not_true, Bool.not_false, Bool.or_true, Bool.true_or, Bool.or_false, Bool.false_or])).symm), B.ext⟩
                        · refine s_y (v := .bool false) rfl (y_fneq rfl rfl (fneC hr64 (cnLit (k := .f32) (t := 0) (by kernel_rfl) (by kernel_rfl)) (Bool.eq_false_iff.2 c65))) ?_
                          refine s_y (v := .bool false) rfl (y_pick_t rfl rfl) ?_
                          refine s_y (v := .bool false) rfl (y_pick_f rfl rfl) ?_
                          refine s_nil ?_
                          refine W_if_f (by decide) rfl ?_
                          refine W_skip ?_
                          refine W_region (by kernel_rfl) ?_
                          refine s_y (v := .int .i64 px) rfl (y_move rfl) ?_
                          refine s_y (v := .int .i64 (px + 1)) rfl (y_add rfl rfl rfl (by omega)) ?_
                          refine s_y (v := .int .i64 (px + 1)) rfl (y_assign rfl) ?_
                          refine s_nil ?_
                          refine ⟨⟨_, px + 1, Fits.eq ⟨rfl, rfl, rfl, rfl, rfl, rfl, rfl, rfl, rfl, rfl, rfl, rfl, rfl, rfl, rfl, rfl, rfl, trivial⟩, B, (by omega), (by omega), (edge_row hq1 (by simp only [edgeB, (decide_eq_false c10), (decide_eq_false c11), (decide_eq_false c12), (decide_eq_true c15), (decide_eq_true c18), (Bool.eq_false_iff.2 c24), (decide_eq_false c48), (decide_eq_true c60), (Bool.eq_false_iff.2 c65), Bool.and_true, Bool.true_and, Bool.and_false, Bool.false_and, Bool.not_true, Bool.not_false, Bool.or_true, Bool.true_or, Bool.or_false, Bool.false_or]) (by omega) (by omega) (by omega))⟩, ?_⟩
                          show (wd - (px + 1)).toNat < (wd - px).toNat
                          omega
                      · refine s_y (v := .bool false) rfl (y_eql rfl rfl (decide_eq_false c60)) ?_
                        refine s_y (v := .bool false) rfl (y_move rfl) ?_
                        refine s_skip rfl ?_
                        refine s_skip rfl ?_
                        refine s_skip rfl ?_
                        refine s_skip rfl ?_
                        refine s_skip rfl ?_
                        refine s_skip rfl ?_
                        refine s_skip rfl ?_
                        refine s_skip rfl ?_
                        refine s_y (v := .bool false) rfl (y_pick_f rfl rfl) ?_
                        refine s_y (v := .bool false) rfl (y_pick_f rfl rfl) ?_
                        refine s_nil ?_
                        refine W_if_f (by decide) rfl ?_
                        refine W_skip ?_
                        refine W_region (by kernel_rfl) ?_
                        refine s_y (v := .int .i64 px) rfl (y_move rfl) ?_
                        refine s_y (v := .int .i64 (px + 1)) rfl (y_add rfl rfl rfl (by omega)) ?_
                        refine s_y (v := .int .i64 (px + 1)) rfl (y_assign rfl) ?_
                        refine s_nil ?_
                        refine ⟨⟨_, px + 1, Fits.eq ⟨rfl, rfl, rfl, rfl, rfl, rfl, rfl, rfl, rfl, rfl, rfl, rfl, rfl, rfl, rfl, rfl, rfl, trivial⟩, B, (by omega), (by omega), (edge_row hq1 (by simp only [edgeB, (decide_eq_false c10), (decide_eq_false c11), (decide_eq_false c12), (decide_eq_true c15), (decide_eq_true c18), (Bool.eq_false_iff.2 c24), (decide_eq_false c48), (decide_eq_false c60), Bool.and_true, Bool.true_and, Bool.and_false, Bool.false_and, Bool.not_true, Bool.not_false, Bool.or_true, Bool.true_or, Bool.or_false, Bool.false_or]) (by omega) (by omega) (by omega))⟩, ?_⟩
                        show (wd - (px + 1)).toNat < (wd - px).toNat
                        omega
                · refine s_y (v := .bool false) rfl (y_lss rfl rfl (decide_eq_false c18)) ?_
                  refine s_nil ?_
                  refine W_if_f (by decide) rfl ?_
                  refine W_exit ?_
                  refine W_region (by kernel_rfl) ?_
                  refine s_y (v := .int .i64 py) rfl (y_move rfl) ?_
                  refine s_y (v := .int .i64 (py + 1)) rfl (y_add rfl rfl rfl (by omega)) ?_
                  refine s_y (v := .int .i64 (py + 1)) rfl (y_assign rfl) ?_
                  refine s_nil ?_
                  refine ⟨⟨_, py + 1, Fits.eq ⟨rfl, rfl, rfl, trivial⟩, B, (by omega), (by omega), (fun h => by cases h), (by intro j h0 h1; refine hq1 j h0 ?_; rw [Int.mul_add, Int.mul_one] at h1; omega)⟩, ?_⟩
                  show (hi - (py + 1)).toNat < (hi - py).toNat
                  omega
            · refine W_if_f (by decide) rfl ?_
              refine W_exit ?_
              refine W_seq ?_
              refine W_region (by kernel_rfl) ?_
              refine s_y (v := .bool true) rfl (y_assign rfl) ?_
              refine s_nil ?_
              refine W_ret ?_
              refine ret1 (v := .bool true) rfl rfl rfl ⟨_, rfl, ?_⟩
              exact ⟨congrArg Value.bool ((fits_wrap (by omega) (by omega) (by omega)).symm), B.ext⟩
          · refine s_y (v := .bool false) rfl (y_lss rfl rfl (decide_eq_false c15)) ?_
            refine s_y (v := .bool false) rfl (y_move rfl) ?_
            refine s_skip rfl ?_
            refine s_skip rfl ?_
            refine s_skip rfl ?_
            refine s_skip rfl ?_
            refine s_skip rfl ?_
            refine s_y (v := .bool false) rfl (y_pick_f rfl rfl) ?_
            refine s_nil ?_
            refine W_if_f (by decide) rfl ?_
            refine W_exit ?_
            refine W_seq ?_
            refine W_region (by kernel_rfl) ?_
            refine s_y (v := .bool true) rfl (y_assign rfl) ?_
            refine s_nil ?_
            refine W_ret ?_
            refine ret1 (v := .bool true) rfl rfl rfl ⟨_, rfl, ?_⟩
            exact ⟨congrArg Value.bool ((fits_yes (by omega) (by omega) (by omega) (fun j h0 h1 => hq0 j h0 (by rw [show py = hi by omega]; exact h1))).symm), B.ext⟩
end Go.Proofs.Ytgohmocjjmkepaa
