/- Walks: what the functions under FnExactFarCells do (part 1). Printed by a program of this claim's author. -/
import Derived.Test.YtmcldploldaceaaBw1
set_option linter.unusedSimpArgs false
set_option linter.unusedVariables false
open Go.Wv
namespace Go.Proofs.Ytmcldploldaceaa
open Go.Proofs
namespace T94
theorem mx : Try.prog.follows .mixedOrders = true := by kernel_rfl
theorem fn_104 : fnB Try.prog 104 = true := by kernel_rfl
theorem fn_105 : fnB Try.prog 105 = true := by kernel_rfl
end T94
set_option maxRecDepth 100000 in
set_option maxHeartbeats 4000000 in
theorem c_s_l03Both {b : Nat} {o : Nat} {wd : Int} {hi : Int} {wr : Bool} {asp : Option Addr} {nsp : Nat} {csp : Nat} {Xsp : List Nat} {als : Option Addr} {nls : Nat} {cls : Nat} {Xls : List Nat} {b2 : Nat} {o2 : Nat} {afe : Option Addr} {nfe : Nat} {cfe : Nat} {Xfe : List Nat} {afx : Option Addr} {nfx : Nat} {cfx : Nat} {Xfx : List Nat} {afy : Option Addr} {nfy : Nat} {cfy : Nat} {Xfy : List Nat} {w : World} (qsp : Rd w kF asp nsp Xsp) (qls : Rd w kF als nls Xls) (Pb : Sl w (some ⟨b, o, none⟩) [.int .i64 wd, .int .i64 hi, .bool wr, .slice asp nsp csp, .slice als nls cls]) (qfe : Rd w kF afe nfe Xfe) (qfx : Rd w kF afx nfx Xfx) (qfy : Rd w kF afy nfy Xfy) (Pb2 : Sl w (some ⟨b2, o2, none⟩) [.slice afe nfe cfe, .slice afx nfx cfx, .slice afy nfy cfy]) (hbsp : nsp ≤ 9223372036854775806) (hbls : nls ≤ 9223372036854775806) (hbfe : nfe ≤ 9223372036854775806) (hbfx : nfx ≤ 9223372036854775806) (hbfy : nfy ≤ 9223372036854775806) :
    Calls Try.prog 94 #[.pointer (some ⟨b, o, none⟩), .pointer (some ⟨b2, o2, none⟩)] w (Rt fun v w' => v = .bool (fieldB wd hi wr Xsp Xls Xfe Xfx Xfy) ∧ Ext0 w w') := by
  have hlsp := qsp.len
  have hlls := qls.len
  have hlfe := qfe.len
  have hlfx := qfx.len
  have hlfy := qfy.len
  have B : Bu w no w [.rd kF asp nsp Xsp, .rd kF als nls Xls, .sl (some ⟨b, o, none⟩) [.int .i64 wd, .int .i64 hi, .bool wr, .slice asp nsp csp, .slice als nls cls], .rd kF afe nfe Xfe, .rd kF afx nfx Xfx, .rd kF afy nfy Xfy, .sl (some ⟨b2, o2, none⟩) [.slice afe nfe cfe, .slice afx nfx cfx, .slice afy nfy cfy]] := Bu.ro (All.cons qsp (All.cons qls (All.cons Pb (All.cons qfe (All.cons qfx (All.cons qfy (All.cons Pb2 All.nil))))))) rfl
  refine calls_W (n := 12) Try.func94 rfl rfl (Nat.le_of_ble_eq_true rfl) ?_
  refine W_seq ?_
  refine W_region (by kernel_rfl) ?_
  refine s_y (v := .bool false) rfl (y_assign rfl) ?_
  refine s_nil ?_
  refine W_seq ?_
  refine W_region (by kernel_rfl) ?_
  refine s_y (v := .pointer (some ⟨b, o, none⟩)) rfl (y_move rfl) ?_
  refine s_k rfl (k_call T94.fn_104 (c_s_l02Is (B.r 0 rfl) (B.r 1 rfl) (B.s 2 rfl) (by omega) (by omega)) rfl ?_)
  rintro v3 w1 ⟨hv4, e2⟩
  replace B := B.ext0 e2
  clear e2
  by_cases c5 : validS wd hi Xsp Xls = true
  · have hb6 := validS_b c5
    obtain rfl : v3 = .bool true := hv4.trans (congrArg Value.bool c5)
    refine s_y (v := .bool true) rfl (y_move rfl) ?_
    refine s_y (v := .pointer (some ⟨b, o, none⟩)) rfl (y_move rfl) ?_
    refine s_y (v := .pointer (some ⟨b2, o2, none⟩)) rfl (y_move rfl) ?_
    refine s_k rfl (k_call T94.fn_105 (c_s_l02Fits (B.s 2 rfl) (B.r 3 rfl) (B.r 4 rfl) (B.r 5 rfl) (B.s 6 rfl) (by omega) (by omega) (by omega) (by omega) (by omega) (by omega) (by omega)) rfl ?_)
    rintro v9 w7 ⟨hv10, e8⟩
    replace B := B.ext0 e8
    clear e8
    by_cases c11 : fitsB wd hi wr Xfe Xfx Xfy = true
    · have hb12 := fitsB_b c11
      obtain rfl : v9 = .bool true := hv10.trans (congrArg Value.bool c11)
      refine s_y (v := .bool true) rfl (y_pick_t rfl rfl) ?_
      refine s_y (v := .bool true) rfl (y_assign rfl) ?_
      refine s_nil ?_
      refine W_ret ?_
      refine ret1 (v := .bool true) rfl rfl rfl ⟨_, rfl, ?_⟩
      exact ⟨congrArg Value.bool (by simp only [fieldB, c5, c11, Bool.and_true, Bool.true_and, Bool.and_false, Bool.false_and, Bool.not_true, Bool.not_false, Bool.or_true, Bool.true_or, Bool.or_false, Bool.false_or]), B.ext⟩
    · obtain rfl : v9 = .bool false := hv10.trans (congrArg Value.bool (Bool.eq_false_iff.2 c11))
      refine s_y (v := .bool false) rfl (y_pick_t rfl rfl) ?_
      refine s_y (v := .bool false) rfl (y_assign rfl) ?_
      refine s_nil ?_
      refine W_ret ?_
      refine ret1 (v := .bool false) rfl rfl rfl ⟨_, rfl, ?_⟩
      exact ⟨congrArg Value.bool (by simp only [fieldB, c5, (Bool.eq_false_iff.2 c11), Bool.and_true, Bool.true_and, Bool.and_false, Bool.false_and, Bool.not_true, Bool.not_false, Bool.or_true, Bool.true_or, Bool.or_false, Bool.false_or]), B.ext⟩
  · obtain rfl : v3 = .bool false := hv4.trans (congrArg Value.bool (Bool.eq_false_iff.2 c5))
    refine s_y (v := .bool false) rfl (y_move rfl) ?_
    refine s_skip rfl ?_
    refine s_skip rfl ?_
    refine s_skip rfl ?_
    refine s_y (v := .bool false) rfl (y_pick_f rfl rfl) ?_
    refine s_y (v := .bool false) rfl (y_assign rfl) ?_
    refine s_nil ?_
    refine W_ret ?_
    refine ret1 (v := .bool false) rfl rfl rfl ⟨_, rfl, ?_⟩
    exact ⟨congrArg Value.bool (by simp only [fieldB, (Bool.eq_false_iff.2 c5), Bool.and_true, Bool.true_and, Bool.and_false, Bool.false_and, Bool.not_true, Bool.not_false, Bool.or_true, Bool.true_or, Bool.or_false, Bool.false_or]), B.ext⟩
namespace T33
theorem mx : Try.prog.follows .mixedOrders = true := by kernel_rfl
theorem fld_29_0_0 : fldB Try.prog 29 0 0 = true := by kernel_rfl
theorem fld_29_1_1 : fldB Try.prog 29 1 1 = true := by kernel_rfl
theorem fld_29_2_2 : fldB Try.prog 29 2 2 = true := by kernel_rfl
theorem fn_94 : fnB Try.prog 94 = true := by kernel_rfl
theorem one_24 : oneB Try.prog 24 = true := by kernel_rfl
theorem one_35 : oneB Try.prog 35 = true := by kernel_rfl
theorem sl_24_35_1 : slB Try.prog 24 35 1 = true := by kernel_rfl
theorem slt_49 : SlT Try.prog 49 2 1 8 (.int .i64 0) := ⟨by kernel_rfl, by kernel_rfl, rfl, by decide⟩
end T33
set_option maxRecDepth 100000 in
set_option maxHeartbeats 4000000 in
theorem c_s_FarCells {wd : Int} {hi : Int} {wr : Bool} {asp : Option Addr} {nsp : Nat} {csp : Nat} {Xsp : List Nat} {als : Option Addr} {nls : Nat} {cls : Nat} {Xls : List Nat} {afe : Option Addr} {nfe : Nat} {cfe : Nat} {Xfe : List Nat} {afx : Option Addr} {nfx : Nat} {cfx : Nat} {Xfx : List Nat} {afy : Option Addr} {nfy : Nat} {cfy : Nat} {Xfy : List Nat} {w : World} (qsp : Rd w kF asp nsp Xsp) (qls : Rd w kF als nls Xls) (qfe : Rd w kF afe nfe Xfe) (qfx : Rd w kF afx nfx Xfx) (qfy : Rd w kF afy nfy Xfy) (hbsp : nsp ≤ 9223372036854775806) (hbls : nls ≤ 9223372036854775806) (hbfe : nfe ≤ 9223372036854775806) (hbfx : nfx ≤ 9223372036854775806) (hbfy : nfy ≤ 9223372036854775806) :
    Calls Try.prog 33 #[.agg #[.int .i64 wd, .int .i64 hi, .bool wr, .slice asp nsp csp, .slice als nls cls], .agg #[.slice afe nfe cfe, .slice afx nfx cfx, .slice afy nfy cfy]] w (Rt fun v w' => (fieldB wd hi wr Xsp Xls Xfe Xfx Xfy = true ∧ ∃ (a1 : Option Addr) (c1 : Nat), v = .tuple #[.slice a1 (List.length (sel (wd * hi) (farP Xfe Xfx Xfy))) c1, .bool true] ∧ New w w' [.ow kI a1 (List.length (sel (wd * hi) (farP Xfe Xfx Xfy))) c1 2 (sel (wd * hi) (farP Xfe Xfx Xfy))]) ∨ (fieldB wd hi wr Xsp Xls Xfe Xfx Xfy = false ∧ v = .tuple #[.slice none 0 0, .bool false] ∧ Ext0 w w')) := by
  have hlsp := qsp.len
  have hlls := qls.len
  have hlfe := qfe.len
  have hlfx := qfx.len
  have hlfy := qfy.len
  have B : Bu w no w [.rd kF asp nsp Xsp, .rd kF als nls Xls, .rd kF afe nfe Xfe, .rd kF afx nfx Xfx, .rd kF afy nfy Xfy] := Bu.ro (All.cons qsp (All.cons qls (All.cons qfe (All.cons qfx (All.cons qfy All.nil))))) rfl
  refine calls_W (n := 45) Try.func33 rfl rfl (Nat.le_of_ble_eq_true rfl) ?_
  refine W_seq ?_
  refine W_region (by kernel_rfl) ?_
  refine s_k rfl (k_boxN (v := .agg #[.int .i64 wd, .int .i64 hi, .bool wr, .slice asp nsp csp, .slice als nls cls]) (cs := [.int .i64 wd, .int .i64 hi, .bool wr, .slice asp nsp csp, .slice als nls cls]) rfl rfl (fun b1 w2 hN3 => ?_))
  replace B := B.new1 hN3
  clear hN3
  refine s_k rfl (k_boxN (v := .agg #[.slice afe nfe cfe, .slice afx nfx cfx, .slice afy nfy cfy]) (cs := [.slice afe nfe cfe, .slice afx nfx cfx, .slice afy nfy cfy]) rfl rfl (fun b4 w5 hN6 => ?_))
  replace B := B.new1 hN6
  clear hN6
  refine s_y (v := .slice none 0 0) rfl (y_assign rfl) ?_
  refine s_y (v := .bool false) rfl (y_assign rfl) ?_
  refine s_nil ?_
  refine W_seq ?_
  refine W_seq ?_
  refine W_region (by kernel_rfl) ?_
  refine s_k rfl (k_call T33.fn_94 (c_s_l03Both (B.r 2 rfl) (B.r 3 rfl) ((B.b 1 rfl).sl) (B.r 4 rfl) (B.r 5 rfl) (B.r 6 rfl) ((B.b 0 rfl).sl) (by omega) (by omega) (by omega) (by omega) (by omega)) rfl ?_)
  rintro v9 w7 ⟨hv10, e8⟩
  replace B := B.ext0 e8
  clear e8
  by_cases c11 : fieldB wd hi wr Xsp Xls Xfe Xfx Xfy = true
  · have hb12 := fieldB_b c11
    obtain rfl : v9 = .bool true := hv10.trans (congrArg Value.bool c11)
    refine s_y (v := .bool false) rfl (y_not rfl rfl) ?_
    refine s_nil ?_
    refine W_if_f (by decide) rfl ?_
    refine W_skip ?_
    refine W_seq ?_
    refine W_region (by kernel_rfl) ?_
    refine s_k rfl (k_bsliceO (k := kI) (n := 0) (cells := #[]) (X := []) T33.slt_49 (by decide) (by first | rfl | kernel_rfl) (rfl : Reps kI [] []) rfl (fun b13 w14 hN15 => ?_))
    replace B := B.new1 hN15
    clear hN15
    refine s_y (v := .slice (some ⟨b13, 0, none⟩) 0 0) rfl (y_assign rfl) ?_
    refine s_nil ?_
    refine W_seq ?_
    refine W_seq ?_
    refine W_region (by kernel_rfl) ?_
    refine s_y (v := .pointer (some ⟨b4, 0, none⟩)) rfl (y_fld (o := 0) T33.fld_29_0_0 rfl) ?_
    refine s_y (v := .slice afe nfe cfe) rfl (y_load T33.one_24 rfl ((B.b 1 rfl).cell (j := 0) rfl)) ?_
    refine s_y (v := .int .i64 ((nfe : Nat) : Int)) rfl (y_len T33.sl_24_35_1 rfl rfl) ?_
    refine s_y (v := .int .i64 0) rfl (y_move rfl) ?_
    refine s_nil ?_
    refine W_block ?_
    refine W_loop (fun ρ' w' => ∃ (ρ1 : Env) (pi : Int) (a0 : Option Addr) (cc0 : Nat) (nn0 : Nat), ρ' = updL ρ1 [(3, .pointer (some ⟨b4, 0, none⟩)), (4, .slice none 0 0), (5, .bool false), (6, .slice a0 nn0 cc0), (13, .int .i64 ((nfe : Nat) : Int)), (14, .int .i64 pi)] ∧ Bu w no w' [.ow kI a0 nn0 cc0 2 (sel (pi) (farP Xfe Xfx Xfy)), .blk b4 [.slice afe nfe cfe, .slice afx nfx cfx, .slice afy nfy cfy] 29, .blk b1 [.int .i64 wd, .int .i64 hi, .bool wr, .slice asp nsp csp, .slice als nls cls] 26, .rd kF asp nsp Xsp, .rd kF als nls Xls, .rd kF afe nfe Xfe, .rd kF afx nfx Xfx, .rd kF afy nfy Xfy] ∧ (0 ≤ pi) ∧ (pi ≤ (nfe : Int))) (fun ρ' _ => ((nfe : Int) - iv (ρ' 14)).toNat) ?_ ?_
    · replace B : Bu w no w14 [.ow kI (some ⟨b13, 0, none⟩) 0 0 2 (sel (0) (farP Xfe Xfx Xfy)), .blk b4 [.slice afe nfe cfe, .slice afx nfx cfx, .slice afy nfy cfy] 29, .blk b1 [.int .i64 wd, .int .i64 hi, .bool wr, .slice asp nsp csp, .slice als nls cls] 26, .rd kF asp nsp Xsp, .rd kF als nls Xls, .rd kF afe nfe Xfe, .rd kF afx nfx Xfx, .rd kF afy nfy Xfy] := B.castX 0 rfl rfl rfl
      exact ⟨_, 0, (some ⟨b13, 0, none⟩), 0, 0, Fits.eq ⟨rfl, rfl, rfl, rfl, rfl, rfl, trivial⟩, B, (Int.le_refl _), (by omega)⟩
    · clear B; rintro _ w16 ⟨ρ17, pi, a0, cc0, nn0, rfl, B, h0pi, h1pi⟩
      have hnn0 := (B.o 0 rfl).len
      have hsnn0 := sel_len (pi) (farP Xfe Xfx Xfy)
      refine W_seq ?_
      refine W_region (by kernel_rfl) ?_
      by_cases c18 : pi < ((nfe : Nat) : Int)
      · refine s_y (v := .bool true) rfl (y_lss rfl rfl (decide_eq_true c18)) ?_
        refine s_nil ?_
        refine W_seq ?_
        refine W_if_t (by decide) rfl ?_
        refine W_skip ?_
        refine W_seq ?_
        refine W_block ?_
        refine W_seq ?_
        refine W_region (by kernel_rfl) ?_
        refine s_y (v := .int .i64 pi) rfl (y_move rfl) ?_
        refine s_y (v := .int .i64 pi) rfl (y_assign rfl) ?_
        refine s_nil ?_
        refine W_seq ?_
        refine W_region (by kernel_rfl) ?_
        refine s_y (v := .pointer (some ⟨b4, 0, none⟩)) rfl (y_fld (o := 0) T33.fld_29_0_0 rfl) ?_
        refine s_y (v := .slice afe nfe cfe) rfl (y_load T33.one_24 rfl ((B.b 1 rfl).cell (j := 0) rfl)) ?_
        refine s_y (v := .int .i64 pi) rfl (y_move rfl) ?_
        refine s_y (v := .pointer (some (sat afe ((pi).toNat * 1)))) rfl (y_idx T33.sl_24_35_1 rfl rfl ((B.r 5 rfl).addr (by omega)) (by omega) (by omega)) ?_
        obtain ⟨r20, hr21, hR19⟩ := Rd.atF (B.r 5 rfl) pi (by omega) (by omega)
        refine s_y (v := .float .f32 r20) rfl (y_load T33.one_35 rfl (hR19.cell (i := 0) rfl)) ?_
        by_cases c22 : feq .f32 (el Xfe pi) 0 = true
        · refine s_y (v := .bool true) rfl (y_feql rfl rfl (feqC hr21 (show can .f32 0 = 0 by kernel_rfl) c22)) ?_
          refine s_y (v := .bool true) rfl (y_move rfl) ?_
          refine s_y (v := .pointer (some ⟨b4, 1, none⟩)) rfl (y_fld (o := 0) T33.fld_29_1_1 rfl) ?_
          refine s_y (v := .slice afx nfx cfx) rfl (y_load T33.one_24 rfl ((B.b 1 rfl).cell (j := 1) rfl)) ?_
          refine s_y (v := .int .i64 pi) rfl (y_move rfl) ?_
          refine s_y (v := .pointer (some (sat afx ((pi).toNat * 1)))) rfl (y_idx T33.sl_24_35_1 rfl rfl ((B.r 6 rfl).addr (by omega)) (by omega) (by omega)) ?_
          obtain ⟨r24, hr25, hR23⟩ := Rd.atF (B.r 6 rfl) pi (by omega) (by omega)
          refine s_y (v := .float .f32 r24) rfl (y_load T33.one_35 rfl (hR23.cell (i := 0) rfl)) ?_
          by_cases c26 : feq .f32 (el Xfx pi) 0 = true
          · refine s_y (v := .bool true) rfl (y_feql rfl rfl (feqC hr25 (show can .f32 0 = 0 by kernel_rfl) c26)) ?_
            refine s_y (v := .bool true) rfl (y_pick_t rfl rfl) ?_
            refine s_y (v := .bool true) rfl (y_move rfl) ?_
            refine s_y (v := .pointer (some ⟨b4, 2, none⟩)) rfl (y_fld (o := 0) T33.fld_29_2_2 rfl) ?_
            refine s_y (v := .slice afy nfy cfy) rfl (y_load T33.one_24 rfl ((B.b 1 rfl).cell (j := 2) rfl)) ?_
            refine s_y (v := .int .i64 pi) rfl (y_move rfl) ?_
            refine s_y (v := .pointer (some (sat afy ((pi).toNat * 1)))) rfl (y_idx T33.sl_24_35_1 rfl rfl ((B.r 7 rfl).addr (by omega)) (by omega) (by omega)) ?_
            obtain ⟨r28, hr29, hR27⟩ := Rd.atF (B.r 7 rfl) pi (by omega) (by omega)
            refine s_y (v := .float .f32 r28) rfl (y_load T33.one_35 rfl (hR27.cell (i := 0) rfl)) ?_
            by_cases c30 : feq .f32 (el Xfy pi) 0 = true
            · refine s_y (v := .bool true) rfl (y_feql rfl rfl (feqC hr29 (show can .f32 0 = 0 by kernel_rfl) c30)) ?_
              refine s_y (v := .bool true) rfl (y_pick_t rfl rfl) ?_
              refine s_nil ?_
              refine W_if_t (by decide) rfl ?_
              refine W_region (by kernel_rfl) ?_
              refine s_y (v := .slice a0 nn0 cc0) rfl (y_move rfl) ?_
              refine s_y (v := .int .i64 pi) rfl (y_move rfl) ?_
              refine s_k rfl (k_bsliceO (k := kI) (n := 1) (cells := #[.int .i64 pi]) (X := [pi]) T33.slt_49 (by decide) (by first | rfl | kernel_rfl) (reps_cons (c := [.int .i64 pi]) rfl (rfl : Reps kI [] [])) rfl (fun b31 w32 hN33 => ?_))
              replace B := B.new1 hN33
              clear hN33
              refine s_k rfl (k_appO (k := kI) T33.slt_49 rfl rfl rfl (B.o 1 rfl) (B.o 0 rfl).rd (by omega) (by unfold maxLen; omega) (fun a34 c35 w36 hU37 => ?_))
              replace B : Bu w no w36 [.ow kI a34 (nn0 + 1) c35 2 ((sel (pi) (farP Xfe Xfx Xfy)) ++ ([pi])), .ow kI (some ⟨b31, 0, none⟩) 1 1 2 ([pi]), .blk b4 [.slice afe nfe cfe, .slice afx nfx cfx, .slice afy nfy cfy] 29, .blk b1 [.int .i64 wd, .int .i64 hi, .bool wr, .slice asp nsp csp, .slice als nls cls] 26, .rd kF asp nsp Xsp, .rd kF als nls Xls, .rd kF afe nfe Xfe, .rd kF afx nfx Xfx, .rd kF afy nfy Xfy] := B.upd [1] rfl hU37
              clear hU37
              refine s_y (v := .slice a34 (nn0 + 1) c35) rfl (y_assign rfl) ?_
              refine s_nil ?_
              refine W_region (by kernel_rfl) ?_
              refine s_y (v := .int .i64 (pi + 1)) rfl (y_add rfl rfl rfl (by omega)) ?_
              refine s_y (v := .int .i64 (pi + 1)) rfl (y_move rfl) ?_
              refine s_nil ?_
              replace B : Bu w no w36 [.ow kI a34 (nn0 + 1) c35 2 (sel (pi + 1) (farP Xfe Xfx Xfy)), .ow kI (some ⟨b31, 0, none⟩) 1 1 2 ([pi]), .blk b4 [.slice afe nfe cfe, .slice afx nfx cfx, .slice afy nfy cfy] 29, .blk b1 [.int .i64 wd, .int .i64 hi, .bool wr, .slice asp nsp csp, .slice als nls cls] 26, .rd kF asp nsp Xsp, .rd kF als nls Xls, .rd kF afe nfe Xfe, .rd kF afx nfx Xfx, .rd kF afy nfy Xfy] := B.castX 0 rfl rfl (sel_yes (p := (farP Xfe Xfx Xfy)) (n := pi) (by omega) (by omega) rfl (by simp only [farP, c11, (decide_eq_true c18), c22, c26, c30, Bool.and_true, Bool.true_and, Bool.and_false, Bool.false_and, Bool.not_true, Bool.not_false, Bool.or_true, Bool.true_or, Bool.or_false, Bool.false_or]))
              refine ⟨⟨_, pi + 1, a34, c35, nn0 + 1, Fits.eq ⟨rfl, rfl, rfl, rfl, rfl, rfl, trivial⟩, (B.pick [0, 2, 3, 4, 5, 6, 7, 8] rfl rfl), (by omega), (by omega)⟩, ?_⟩
              show ((nfe : Int) - (pi + 1)).toNat < ((nfe : Int) - pi).toNat
              omega
            · refine s_y (v := .bool false) rfl (y_feql rfl rfl (feqC hr29 (show can .f32 0 = 0 by kernel_rfl) (Bool.eq_false_iff.2 c30))) ?_
              refine s_y (v := .bool false) rfl (y_pick_t rfl rfl) ?_
              refine s_nil ?_
              refine W_if_f (by decide) rfl ?_
              refine W_skip ?_
              refine W_region (by kernel_rfl) ?_
              refine s_y (v := .int .i64 (pi + 1)) rfl (y_add rfl rfl rfl (by omega)) ?_
              refine s_y (v := .int .i64 (pi + 1)) rfl (y_move rfl) ?_
              refine s_nil ?_
              replace B : Bu w no w16 [.ow kI a0 nn0 cc0 2 (sel (pi + 1) (farP Xfe Xfx Xfy)), .blk b4 [.slice afe nfe cfe, .slice afx nfx cfx, .slice afy nfy cfy] 29, .blk b1 [.int .i64 wd, .int .i64 hi, .bool wr, .slice asp nsp csp, .slice als nls cls] 26, .rd kF asp nsp Xsp, .rd kF als nls Xls, .rd kF afe nfe Xfe, .rd kF afx nfx Xfx, .rd kF afy nfy Xfy] := B.castX 0 rfl rfl (sel_no (p := (farP Xfe Xfx Xfy)) (n := pi) (by omega) (by omega) (Bool.eq_false_iff.1 (by simp only [farP, c11, (decide_eq_true c18), c22, c26, (Bool.eq_false_iff.2 c30), Bool.and_true, Bool.true_and, Bool.and_false, Bool.false_and, Bool.not_true, Bool.not_false, Bool.or_true, Bool.true_or, Bool.or_false, Bool.false_or])))
              refine ⟨⟨_, pi + 1, a0, cc0, nn0, Fits.eq ⟨rfl, rfl, rfl, rfl, rfl, rfl, trivial⟩, B, (by omega), (by omega)⟩, ?_⟩
              show ((nfe : Int) - (pi + 1)).toNat < ((nfe : Int) - pi).toNat
              omega
          · refine s_y (v := .bool false) rfl (y_feql rfl rfl (feqC hr25 (show can .f32 0 = 0 by kernel_rfl) (Bool.eq_false_iff.2 c26))) ?_
            refine s_y (v := .bool false) rfl (y_pick_t rfl rfl) ?_
            refine s_y (v := .bool false) rfl (y_move rfl) ?_
            refine s_skip rfl ?_
            refine s_skip rfl ?_
            refine s_skip rfl ?_
            refine s_skip rfl ?_
            refine s_skip rfl ?_
            refine s_skip rfl ?_
            refine s_y (v := .bool false) rfl (y_pick_f rfl rfl) ?_
            refine s_nil ?_
            refine W_if_f (by decide) rfl ?_
            refine W_skip ?_
            refine W_region (by kernel_rfl) ?_
            refine s_y (v := .int .i64 (pi + 1)) rfl (y_add rfl rfl rfl (by omega)) ?_
            refine s_y (v := .int .i64 (pi + 1)) rfl (y_move rfl) ?_
            refine s_nil ?_
            replace B : Bu w no w16 [.ow kI a0 nn0 cc0 2 (sel (pi + 1) (farP Xfe Xfx Xfy)), .blk b4 [.slice afe nfe cfe, .slice afx nfx cfx, .slice afy nfy cfy] 29, .blk b1 [.int .i64 wd, .int .i64 hi, .bool wr, .slice asp nsp csp, .slice als nls cls] 26, .rd kF asp nsp Xsp, .rd kF als nls Xls, .rd kF afe nfe Xfe, .rd kF afx nfx Xfx, .rd kF afy nfy Xfy] := B.castX 0 rfl rfl (sel_no (p := (farP Xfe Xfx Xfy)) (n := pi) (by omega) (by omega) (Bool.eq_false_iff.1 (by simp only [farP, c11, (decide_eq_true c18), c22, (Bool.eq_false_iff.2 c26), Bool.and_true, Bool.true_and, Bool.and_false, Bool.false_and, Bool.not_true, Bool.not_false, Bool.or_true, Bool.true_or, Bool.or_false, Bool.false_or])))
            refine ⟨⟨_, pi + 1, a0, cc0, nn0, Fits.eq ⟨rfl, rfl, rfl, rfl, rfl, rfl, trivial⟩, B, (by omega), (by omega)⟩, ?_⟩
            show ((nfe : Int) - (pi + 1)).toNat < ((nfe : Int) - pi).toNat
            omega
        · refine s_y (v := .bool false) rfl (y_feql rfl rfl (feqC hr21 (show can .f32 0 = 0 by kernel_rfl) (Bool.eq_false_iff.2 c22))) ?_
          refine s_y (v := .bool false) rfl (y_move rfl) ?_
          refine s_skip rfl ?_
          refine s_skip rfl ?_
          refine s_skip rfl ?_
          refine s_skip rfl ?_
          refine s_skip rfl ?_
          refine s_skip rfl ?_
          refine s_y (v := .bool false) rfl (y_pick_f rfl rfl) ?_
          refine s_y (v := .bool false) rfl (y_move rfl) ?_
          refine s_skip rfl ?_
          refine s_skip rfl ?_
          refine s_skip rfl ?_
          refine s_skip rfl ?_
          refine s_skip rfl ?_
          refine s_skip rfl ?_
          refine s_y (v := .bool false) rfl (y_pick_f rfl rfl) ?_
          refine s_nil ?_
          refine W_if_f (by decide) rfl ?_
          refine W_skip ?_
          refine W_region (by kernel_rfl) ?_
          refine s_y (v := .int .i64 (pi + 1)) rfl (y_add rfl rfl rfl (by omega)) ?_
          refine s_y (v := .int .i64 (pi + 1)) rfl (y_move rfl) ?_
          refine s_nil ?_
          replace B : Bu w no w16 [.ow kI a0 nn0 cc0 2 (sel (pi + 1) (farP Xfe Xfx Xfy)), .blk b4 [.slice afe nfe cfe, .slice afx nfx cfx, .slice afy nfy cfy] 29, .blk b1 [.int .i64 wd, .int .i64 hi, .bool wr, .slice asp nsp csp, .slice als nls cls] 26, .rd kF asp nsp Xsp, .rd kF als nls Xls, .rd kF afe nfe Xfe, .rd kF afx nfx Xfx, .rd kF afy nfy Xfy] := B.castX 0 rfl rfl (sel_no (p := (farP Xfe Xfx Xfy)) (n := pi) (by omega) (by omega) (Bool.eq_false_iff.1 (by simp only [farP, c11, (decide_eq_true c18), (Bool.eq_false_iff.2 c22), Bool.and_true, Bool.true_and, Bool.and_false, Bool.false_and, Bool.not_true, Bool.not_false, Bool.or_true, Bool.true_or, Bool.or_false, Bool.false_or])))
          refine ⟨⟨_, pi + 1, a0, cc0, nn0, Fits.eq ⟨rfl, rfl, rfl, rfl, rfl, rfl, trivial⟩, B, (by omega), (by omega)⟩, ?_⟩
          show ((nfe : Int) - (pi + 1)).toNat < ((nfe : Int) - pi).toNat
          omega
      · refine s_y (v := .bool false) rfl (y_lss rfl rfl (decide_eq_false c18)) ?_
        refine s_nil ?_
        refine W_seq ?_
        refine W_if_f (by decide) rfl ?_
        refine W_exit ?_
        refine W_seq ?_
        refine W_region (by kernel_rfl) ?_
        refine s_y (v := .slice a0 nn0 cc0) rfl (y_move rfl) ?_
        refine s_y (v := .slice a0 nn0 cc0) rfl (y_assign rfl) ?_
        refine s_y (v := .bool true) rfl (y_assign rfl) ?_
        refine s_nil ?_
        refine W_ret ?_
        refine ret2 (v1 := .slice a0 nn0 cc0) (v2 := .bool true) rfl rfl rfl rfl rfl ⟨_, rfl, ?_⟩
        have hcond : fieldB wd hi wr Xsp Xls Xfe Xfx Xfy = true := by simp only [c11, (decide_eq_false c18), Bool.and_true, Bool.true_and, Bool.and_false, Bool.false_and, Bool.not_true, Bool.not_false, Bool.or_true, Bool.true_or, Bool.or_false, Bool.false_or]
        obtain rfl : pi = wd * hi := by omega
        replace B : Bu w no w16 [.ow kI a0 (List.length (sel (wd * hi) (farP Xfe Xfx Xfy))) cc0 2 (sel (wd * hi) (farP Xfe Xfx Xfy)), .blk b4 [.slice afe nfe cfe, .slice afx nfx cfx, .slice afy nfy cfy] 29, .blk b1 [.int .i64 wd, .int .i64 hi, .bool wr, .slice asp nsp csp, .slice als nls cls] 26, .rd kF asp nsp Xsp, .rd kF als nls Xls, .rd kF afe nfe Xfe, .rd kF afx nfx Xfx, .rd kF afy nfy Xfy] := B.castX 0 rfl hnn0.symm rfl
        exact .inl ⟨hcond, ⟨_, _, (by rw [(show nn0 = List.length (sel (wd * hi) (farP Xfe Xfx Xfy)) from hnn0.symm)]), B.give [0] rfl rfl rfl⟩⟩
  · obtain rfl : v9 = .bool false := hv10.trans (congrArg Value.bool (Bool.eq_false_iff.2 c11))
    refine s_y (v := .bool true) rfl (y_not rfl rfl) ?_
    refine s_nil ?_
    refine W_if_t (by decide) rfl ?_
    refine W_seq ?_
    refine W_region (by kernel_rfl) ?_
    refine s_y (v := .slice none 0 0) rfl (y_assign rfl) ?_
    refine s_y (v := .bool false) rfl (y_assign rfl) ?_
    refine s_nil ?_
    refine W_ret ?_
    refine ret2 (v1 := .slice none 0 0) (v2 := .bool false) rfl rfl rfl rfl rfl ⟨_, rfl, ?_⟩
    exact .inr ⟨by simp only [(Bool.eq_false_iff.2 c11), Bool.and_true, Bool.true_and, Bool.and_false, Bool.false_and, Bool.not_true, Bool.not_false, Bool.or_true, Bool.true_or, Bool.or_false, Bool.false_or], rfl, B.ext⟩
namespace T97
theorem mx : Try.prog.follows .mixedOrders = true := by kernel_rfl
theorem agg_26_5 : aggB Try.prog 26 5 = true := by kernel_rfl
theorem fld_29_0_0 : fldB Try.prog 29 0 0 = true := by kernel_rfl
theorem fld_29_1_1 : fldB Try.prog 29 1 1 = true := by kernel_rfl
theorem fld_29_2_2 : fldB Try.prog 29 2 2 = true := by kernel_rfl
theorem fn_98 : fnB Try.prog 98 = true := by kernel_rfl
theorem one_24 : oneB Try.prog 24 = true := by kernel_rfl
theorem one_35 : oneB Try.prog 35 = true := by kernel_rfl
theorem sl_24_35_1 : slB Try.prog 24 35 1 = true := by kernel_rfl
end T97
set_option maxRecDepth 100000 in
set_option maxHeartbeats 4000000 in
theorem c_i_FarCells_1 {x : Int} {y : Int} {b1 : Nat} {wd : Int} {hi : Int} {wr : Bool} {asp : Option Addr} {nsp : Nat} {csp : Nat} {als : Option Addr} {nls : Nat} {cls : Nat} {b2 : Nat} {afe : Option Addr} {nfe : Nat} {cfe : Nat} {Xfe : List Nat} {afx : Option Addr} {nfx : Nat} {cfx : Nat} {Xfx : List Nat} {afy : Option Addr} {nfy : Nat} {cfy : Nat} {Xfy : List Nat} {w : World} (Pb1 : Sl w (some ⟨b1, 0, none⟩) [.int .i64 wd, .int .i64 hi, .bool wr, .slice asp nsp csp, .slice als nls cls]) (qfe : Rd w kF afe nfe Xfe) (qfx : Rd w kF afx nfx Xfx) (qfy : Rd w kF afy nfy Xfy) (Pb2 : Sl w (some ⟨b2, 0, none⟩) [.slice afe nfe cfe, .slice afx nfx cfx, .slice afy nfy cfy]) (h1 : 3 ≤ wd) (h2 : wd ≤ 16) (h3 : 3 ≤ hi) (h4 : hi ≤ 16) (gfe : (nfe : Int) = wd * hi) (gfx : (nfx : Int) = wd * hi) (gfy : (nfy : Int) = wd * hi) (p1 : 0 ≤ x) (p2 : x < wd) (p3 : 0 ≤ y) (p4 : y < hi) :
    Calls Try.prog 97 #[.int .i64 x, .int .i64 y, .pointer (some ⟨b1, 0, none⟩), .pointer (some ⟨b2, 0, none⟩)] w (Rt fun v w' => v = .bool (farP Xfe Xfx Xfy (atI wd hi x y)) ∧ Ext0 w w') := by
  have hlfe := qfe.len
  have hlfx := qfx.len
  have hlfy := qfy.len
  have B : Bu w no w [.sl (some ⟨b1, 0, none⟩) [.int .i64 wd, .int .i64 hi, .bool wr, .slice asp nsp csp, .slice als nls cls], .rd kF afe nfe Xfe, .rd kF afx nfx Xfx, .rd kF afy nfy Xfy, .sl (some ⟨b2, 0, none⟩) [.slice afe nfe cfe, .slice afx nfx cfx, .slice afy nfy cfy]] := Bu.ro (All.cons Pb1 (All.cons qfe (All.cons qfx (All.cons qfy (All.cons Pb2 All.nil))))) rfl
  refine calls_W (n := 34) Try.func97 rfl rfl (Nat.le_of_ble_eq_true rfl) ?_
  refine W_seq ?_
  refine W_region (by kernel_rfl) ?_
  refine s_y (v := .bool false) rfl (y_assign rfl) ?_
  refine s_nil ?_
  refine W_seq ?_
  refine W_region (by kernel_rfl) ?_
  refine s_y (v := .agg #[.int .i64 wd, .int .i64 hi, .bool wr, .slice asp nsp csp, .slice als nls cls]) rfl (y_loadO (o := 0) (k := 0) (vs := [.int .i64 wd, .int .i64 hi, .bool wr, .slice asp nsp csp, .slice als nls cls]) T97.agg_26_5 rfl rfl (B.s 0 rfl) rfl) ?_
  refine s_y (v := .int .i64 x) rfl (y_move rfl) ?_
  refine s_y (v := .int .i64 y) rfl (y_move rfl) ?_
  refine s_k rfl (k_call T97.fn_98 (c_i_at (by omega) (by omega) (by omega) (by omega) (by omega) (by omega) (by omega) (by omega)) rfl ?_)
  rintro _ w1 ⟨rfl, e2⟩
  replace B := B.ext0 e2
  clear e2
  have hat3 := atI_b (wd := wd) (hi := hi) (x := x) (y := y) (by omega) (by omega)
  refine s_y (v := .int .i64 (atI wd hi x y)) rfl (y_assign rfl) ?_
  refine s_nil ?_
  refine W_seq ?_
  refine W_region (by kernel_rfl) ?_
  refine s_y (v := .pointer (some ⟨b2, 0, none⟩)) rfl (y_fld (o := 0 + 0) T97.fld_29_0_0 rfl) ?_
  refine s_y (v := .slice afe nfe cfe) rfl (y_load T97.one_24 rfl ((B.s 4 rfl).cell (j := 0) rfl)) ?_
  refine s_y (v := .int .i64 (atI wd hi x y)) rfl (y_move rfl) ?_
  refine s_y (v := .pointer (some (sat afe ((atI wd hi x y).toNat * 1)))) rfl (y_idx T97.sl_24_35_1 rfl rfl ((B.r 1 rfl).addr (by omega)) (by omega) (by omega)) ?_
  obtain ⟨r5, hr6, hR4⟩ := Rd.atF (B.r 1 rfl) (atI wd hi x y) (by omega) (by omega)
  refine s_y (v := .float .f32 r5) rfl (y_load T97.one_35 rfl (hR4.cell (i := 0) rfl)) ?_
  by_cases c7 : feq .f32 (el Xfe (atI wd hi x y)) 0 = true
  · refine s_y (v := .bool true) rfl (y_feql rfl rfl (feqC hr6 (show can .f32 0 = 0 by kernel_rfl) c7)) ?_
    refine s_y (v := .bool true) rfl (y_move rfl) ?_
    refine s_y (v := .pointer (some ⟨b2, 0 + 1, none⟩)) rfl (y_fld (o := 0 + 0) T97.fld_29_1_1 rfl) ?_
    refine s_y (v := .slice afx nfx cfx) rfl (y_load T97.one_24 rfl ((B.s 4 rfl).cell (j := 1) rfl)) ?_
    refine s_y (v := .int .i64 (atI wd hi x y)) rfl (y_move rfl) ?_
    refine s_y (v := .pointer (some (sat afx ((atI wd hi x y).toNat * 1)))) rfl (y_idx T97.sl_24_35_1 rfl rfl ((B.r 2 rfl).addr (by omega)) (by omega) (by omega)) ?_
    obtain ⟨r9, hr10, hR8⟩ := Rd.atF (B.r 2 rfl) (atI wd hi x y) (by omega) (by omega)
    refine s_y (v := .float .f32 r9) rfl (y_load T97.one_35 rfl (hR8.cell (i := 0) rfl)) ?_
    by_cases c11 : feq .f32 (el Xfx (atI wd hi x y)) 0 = true
    · refine s_y (v := .bool true) rfl (y_feql rfl rfl (feqC hr10 (show can .f32 0 = 0 by kernel_rfl) c11)) ?_
      refine s_y (v := .bool true) rfl (y_pick_t rfl rfl) ?_
      refine s_y (v := .bool true) rfl (y_move rfl) ?_
      refine s_y (v := .pointer (some ⟨b2, 0 + 2, none⟩)) rfl (y_fld (o := 0 + 0) T97.fld_29_2_2 rfl) ?_
      refine s_y (v := .slice afy nfy cfy) rfl (y_load T97.one_24 rfl ((B.s 4 rfl).cell (j := 2) rfl)) ?_
      refine s_y (v := .int .i64 (atI wd hi x y)) rfl (y_move rfl) ?_
      refine s_y (v := .pointer (some (sat afy ((atI wd hi x y).toNat * 1)))) rfl (y_idx T97.sl_24_35_1 rfl rfl ((B.r 3 rfl).addr (by omega)) (by omega) (by omega)) ?_
      obtain ⟨r13, hr14, hR12⟩ := Rd.atF (B.r 3 rfl) (atI wd hi x y) (by omega) (by omega)
      refine s_y (v := .float .f32 r13) rfl (y_load T97.one_35 rfl (hR12.cell (i := 0) rfl)) ?_
      by_cases c15 : feq .f32 (el Xfy (atI wd hi x y)) 0 = true
      · refine s_y (v := .bool true) rfl (y_feql rfl rfl (feqC hr14 (show can .f32 0 = 0 by kernel_rfl) c15)) ?_
        refine s_y (v := .bool true) rfl (y_pick_t rfl rfl) ?_
        refine s_y (v := .bool true) rfl (y_assign rfl) ?_
        refine s_nil ?_
        refine W_ret ?_
        refine ret1 (v := .bool true) rfl rfl rfl ⟨_, rfl, ?_⟩
        exact ⟨congrArg Value.bool (by simp only [farP, c7, c11, c15, Bool.and_true, Bool.true_and, Bool.and_false, Bool.false_and, Bool.not_true, Bool.not_false, Bool.or_true, Bool.true_or, Bool.or_false, Bool.false_or]), B.ext⟩
      · refine s_y (v := .bool false) rfl (y_feql rfl rfl (feqC hr14 (show can .f32 0 = 0 by kernel_rfl) (Bool.eq_false_iff.2 c15))) ?_
        refine s_y (v := .bool false) rfl (y_pick_t rfl rfl) ?_
        refine s_y (v := .bool false) rfl (y_assign rfl) ?_
        refine s_nil ?_
        refine W_ret ?_
        refine ret1 (v := .bool false) rfl rfl rfl ⟨_, rfl, ?_⟩
        exact ⟨congrArg Value.bool (by simp only [farP, c7, c11, (Bool.eq_false_iff.2 c15), Bool.and_true, Bool.true_and, Bool.and_false, Bool.false_and, Bool.not_true, Bool.not_false, Bool.or_true, Bool.true_or, Bool.or_false, Bool.false_or]), B.ext⟩
    · refine s_y (v := .bool false) rfl (y_feql rfl rfl (feqC hr10 (show can .f32 0 = 0 by kernel_rfl) (Bool.eq_false_iff.2 c11))) ?_
      refine s_y (v := .bool false) rfl (y_pick_t rfl rfl) ?_
      refine s_y (v := .bool false) rfl (y_move rfl) ?_
      refine s_skip rfl ?_
      refine s_skip rfl ?_
      refine s_skip rfl ?_
      refine s_skip rfl ?_
      refine s_skip rfl ?_
      refine s_skip rfl ?_
      refine s_y (v := .bool false) rfl (y_pick_f rfl rfl) ?_
      refine s_y (v := .bool false) rfl (y_assign rfl) ?_
      refine s_nil ?_
      refine W_ret ?_
      refine ret1 (v := .bool false) rfl rfl rfl ⟨_, rfl, ?_⟩
      exact ⟨congrArg Value.bool (by simp only [farP, c7, (Bool.eq_false_iff.2 c11), Bool.and_true, Bool.true_and, Bool.and_false, Bool.false_and, Bool.not_true, Bool.not_false, Bool.or_true, Bool.true_or, Bool.or_false, Bool.false_or]), B.ext⟩
  · refine s_y (v := .bool false) rfl (y_feql rfl rfl (feqC hr6 (show can .f32 0 = 0 by kernel_rfl) (Bool.eq_false_iff.2 c7))) ?_
    refine s_y (v := .bool false) rfl (y_move rfl) ?_
    refine s_skip rfl ?_
    refine s_skip rfl ?_
    refine s_skip rfl ?_
    refine s_skip rfl ?_
    refine s_skip rfl ?_
    refine s_skip rfl ?_
    refine s_y (v := .bool false) rfl (y_pick_f rfl rfl) ?_
    refine s_y (v := .bool false) rfl (y_move rfl) ?_
    refine s_skip rfl ?_
    refine s_skip rfl ?_
    refine s_skip rfl ?_
    refine s_skip rfl ?_
    refine s_skip rfl ?_
    refine s_skip rfl ?_
    refine s_y (v := .bool false) rfl (y_pick_f rfl rfl) ?_
    refine s_y (v := .bool false) rfl (y_assign rfl) ?_
    refine s_nil ?_
    refine W_ret ?_
    refine ret1 (v := .bool false) rfl rfl rfl ⟨_, rfl, ?_⟩
    exact ⟨congrArg Value.bool (by simp only [farP, (Bool.eq_false_iff.2 c7), Bool.and_true, Bool.true_and, Bool.and_false, Bool.false_and, Bool.not_true, Bool.not_false, Bool.or_true, Bool.true_or, Bool.or_false, Bool.false_or]), B.ext⟩
namespace T96
theorem mx : Try.prog.follows .mixedOrders = true := by kernel_rfl
theorem agg_26_5 : aggB Try.prog 26 5 = true := by kernel_rfl
theorem fld_26_0_0 : fldB Try.prog 26 0 0 = true := by kernel_rfl
theorem fld_26_1_1 : fldB Try.prog 26 1 1 = true := by kernel_rfl
theorem fn_98 : fnB Try.prog 98 = true := by kernel_rfl
theorem one_2 : oneB Try.prog 2 = true := by kernel_rfl
theorem slt_49 : SlT Try.prog 49 2 1 8 (.int .i64 0) := ⟨by kernel_rfl, by kernel_rfl, rfl, by decide⟩
end T96
set_option maxRecDepth 100000 in
set_option maxHeartbeats 4000000 in
theorem c_i_cellsBy {wd : Int} {hi : Int} {wr : Bool} {asp : Option Addr} {nsp : Nat} {csp : Nat} {als : Option Addr} {nls : Nat} {cls : Nat} {f : Nat} {us xs : List Value} {FP : Int → Int → Bool} {w : World} (hfB : fnB Try.prog f = true) (hF : ∀ x y {w1}, Ext0 w w1 → 0 ≤ x → x < wd → 0 ≤ y → y < hi → Calls Try.prog f (us ++ ([.int .i64 x, .int .i64 y] : List Value) ++ xs).toArray w1 (Rt fun v w2 => v = .bool (FP x y) ∧ Ext0 w1 w2)) (h1 : 3 ≤ wd) (h2 : wd ≤ 16) (h3 : 3 ≤ hi) (h4 : hi ≤ 16) :
    Calls Try.prog 96 #[.agg #[.int .i64 wd, .int .i64 hi, .bool wr, .slice asp nsp csp, .slice als nls cls], .func (.func f) us.toArray xs.toArray] w (Rt fun v w' => ∃ (a1 : Option Addr) (c1 : Nat), v = .slice a1 (List.length (sel (wd * hi) (fun i => FP (i % wd) (i / wd)))) c1 ∧ New w w' [.ow kI a1 (List.length (sel (wd * hi) (fun i => FP (i % wd) (i / wd)))) c1 2 (sel (wd * hi) (fun i => FP (i % wd) (i / wd)))]) := by
  have B : Bu w no w [] := Bu.ro All.nil rfl
  have hwh := mul16 (And.intro (And.intro h1 h2) (And.intro h3 h4))
  refine calls_W (n := 33) Try.func96 rfl rfl (Nat.le_of_ble_eq_true rfl) ?_
  refine W_seq ?_
  refine W_region (by kernel_rfl) ?_
  refine s_k rfl (k_boxN (v := .agg #[.int .i64 wd, .int .i64 hi, .bool wr, .slice asp nsp csp, .slice als nls cls]) (cs := [.int .i64 wd, .int .i64 hi, .bool wr, .slice asp nsp csp, .slice als nls cls]) rfl rfl (fun b1 w2 hN3 => ?_))
  replace B := B.new1 hN3
  clear hN3
  refine s_y (v := .slice none 0 0) rfl (y_assign rfl) ?_
  refine s_nil ?_
  refine W_seq ?_
  refine W_region (by kernel_rfl) ?_
  refine s_k rfl (k_bsliceO (k := kI) (n := 0) (cells := #[]) (X := []) T96.slt_49 (by decide) (by first | rfl | kernel_rfl) (rfl : Reps kI [] []) rfl (fun b4 w5 hN6 => ?_))
  replace B := B.new1 hN6
  clear hN6
  refine s_y (v := .slice (some ⟨b4, 0, none⟩) 0 0) rfl (y_assign rfl) ?_
  refine s_nil ?_
  refine W_seq ?_
  refine W_seq ?_
  refine W_region (by kernel_rfl) ?_
  refine s_y (v := .pointer (some ⟨b1, 1, none⟩)) rfl (y_fld (o := 0) T96.fld_26_1_1 rfl) ?_
  refine s_y (v := .int .i64 hi) rfl (y_load T96.one_2 rfl ((B.b 1 rfl).cell (j := 1) rfl)) ?_
  refine s_y (v := .int .i64 0) rfl (y_move rfl) ?_
  refine s_nil ?_
  refine W_block ?_
  refine W_loop (fun ρ' w' => ∃ (ρ1 : Env) (py : Int) (a0 : Option Addr) (cc0 : Nat) (nn0 : Nat), ρ' = updL ρ1 [(1, .func (.func f) us.toArray xs.toArray), (2, .pointer (some ⟨b1, 0, none⟩)), (4, .slice none 0 0), (5, .slice a0 nn0 cc0), (10, .int .i64 hi), (11, .int .i64 py)] ∧ Bu w no w' [.ow kI a0 nn0 cc0 2 (sel (wd * py) (fun i => FP (i % wd) (i / wd))), .blk b1 [.int .i64 wd, .int .i64 hi, .bool wr, .slice asp nsp csp, .slice als nls cls] 26] ∧ (0 ≤ py) ∧ (py ≤ hi)) (fun ρ' _ => (hi - iv (ρ' 11)).toNat) ?_ ?_
  · replace B : Bu w no w5 [.ow kI (some ⟨b4, 0, none⟩) 0 0 2 (sel (wd * 0) (fun i => FP (i % wd) (i / wd))), .blk b1 [.int .i64 wd, .int .i64 hi, .bool wr, .slice asp nsp csp, .slice als nls cls] 26] := B.castX 0 rfl rfl (by rw [Int.mul_zero]; rfl)
    exact ⟨_, 0, (some ⟨b4, 0, none⟩), 0, 0, Fits.eq ⟨rfl, rfl, rfl, rfl, rfl, rfl, trivial⟩, B, (Int.le_refl _), (by omega)⟩
  · clear B; rintro _ w7 ⟨ρ8, py, a0, cc0, nn0, rfl, B, h0py, h1py⟩
    have hwy := mulb (a := wd) (b := py) (by omega) (by omega) (by omega) (by omega)
    have hnn0 := (B.o 0 rfl).len
    have hsnn0 := sel_len (wd * py) (fun i => FP (i % wd) (i / wd))
    refine W_seq ?_
    refine W_region (by kernel_rfl) ?_
    by_cases c9 : py < hi
    · refine s_y (v := .bool true) rfl (y_lss rfl rfl (decide_eq_true c9)) ?_
      refine s_nil ?_
      refine W_seq ?_
      refine W_if_t (by decide) rfl ?_
      refine W_skip ?_
      refine W_seq ?_
      refine W_block ?_
      refine W_seq ?_
      refine W_region (by kernel_rfl) ?_
      refine s_y (v := .int .i64 py) rfl (y_move rfl) ?_
      refine s_y (v := .int .i64 py) rfl (y_assign rfl) ?_
      refine s_nil ?_
      refine W_seq ?_
      refine W_region (by kernel_rfl) ?_
      refine s_y (v := .pointer (some ⟨b1, 0, none⟩)) rfl (y_fld (o := 0) T96.fld_26_0_0 rfl) ?_
      refine s_y (v := .int .i64 wd) rfl (y_load T96.one_2 rfl ((B.b 1 rfl).cell (j := 0) rfl)) ?_
      refine s_y (v := .int .i64 0) rfl (y_move rfl) ?_
      refine s_nil ?_
      refine W_block ?_
      refine W_loop (fun ρ' w' => ∃ (ρ1 : Env) (px : Int) (a9 : Option Addr) (cc9 : Nat) (nn9 : Nat), ρ' = updL ρ1 [(1, .func (.func f) us.toArray xs.toArray), (2, .pointer (some ⟨b1, 0, none⟩)), (4, .slice none 0 0), (5, .slice a9 nn9 cc9), (6, .int .i64 py), (10, .int .i64 hi), (11, .int .i64 py), (12, .bool true), (13, .int .i64 py), (14, .pointer (some ⟨b1, 0, none⟩)), (15, .int .i64 wd), (16, .int .i64 px)] ∧ Bu w no w' [.ow kI a9 nn9 cc9 2 (sel (wd * py + px) (fun i => FP (i % wd) (i / wd))), .blk b1 [.int .i64 wd, .int .i64 hi, .bool wr, .slice asp nsp csp, .slice als nls cls] 26] ∧ (0 ≤ px) ∧ (px ≤ wd)) (fun ρ' _ => (wd - iv (ρ' 16)).toNat) ?_ ?_
      · replace B : Bu w no w7 [.ow kI a0 nn0 cc0 2 (sel (wd * py + 0) (fun i => FP (i % wd) (i / wd))), .blk b1 [.int .i64 wd, .int .i64 hi, .bool wr, .slice asp nsp csp, .slice als nls cls] 26] := B.castX 0 rfl rfl (by rw [Int.add_zero])
        exact ⟨_, 0, a0, cc0, nn0, Fits.eq ⟨rfl, rfl, rfl, rfl, rfl, rfl, rfl, rfl, rfl, rfl, rfl, rfl, trivial⟩, B, (Int.le_refl _), (by omega)⟩
      · clear B; rintro _ w10 ⟨ρ11, px, a9, cc9, nn9, rfl, B, h0px, h1px⟩
        have hnn9 := (B.o 0 rfl).len
        have hsnn9 := sel_len (wd * py + px) (fun i => FP (i % wd) (i / wd))
        refine W_seq ?_
        refine W_region (by kernel_rfl) ?_
        by_cases c12 : px < wd
        · refine s_y (v := .bool true) rfl (y_lss rfl rfl (decide_eq_true c12)) ?_
          refine s_nil ?_
          refine W_seq ?_
          refine W_if_t (by decide) rfl ?_
          refine W_skip ?_
          refine W_seq ?_
          refine W_block ?_
          refine W_seq ?_
          refine W_region (by kernel_rfl) ?_
          refine s_y (v := .int .i64 px) rfl (y_move rfl) ?_
          refine s_y (v := .int .i64 px) rfl (y_assign rfl) ?_
          refine s_nil ?_
          refine W_seq ?_
          refine W_region (by kernel_rfl) ?_
          refine s_y (v := .func (.func f) us.toArray xs.toArray) rfl (y_move rfl) ?_
          refine s_y (v := .int .i64 px) rfl (y_move rfl) ?_
          refine s_y (v := .int .i64 py) rfl (y_move rfl) ?_
          refine s_k rfl (k_callv hfB rfl (hF px py B.ext (by omega) (by omega) (by omega) (by omega)) rfl ?_)
          rintro v15 w13 ⟨hv16, e14⟩
          replace B := B.ext0 e14
          clear e14
          by_cases c17 : FP px py = true
          · obtain rfl : v15 = .bool true := hv16.trans (congrArg Value.bool c17)
            refine s_nil ?_
            refine W_if_t (by decide) rfl ?_
            refine W_region (by kernel_rfl) ?_
            refine s_y (v := .slice a9 nn9 cc9) rfl (y_move rfl) ?_
            refine s_y (v := .agg #[.int .i64 wd, .int .i64 hi, .bool wr, .slice asp nsp csp, .slice als nls cls]) rfl (y_loadn (b := b1) (o := 0) (vs := [.int .i64 wd, .int .i64 hi, .bool wr, .slice asp nsp csp, .slice als nls cls]) T96.agg_26_5 rfl rfl ((B.b 1 rfl).cells (o := 0) rfl)) ?_
            refine s_y (v := .int .i64 px) rfl (y_move rfl) ?_
            refine s_y (v := .int .i64 py) rfl (y_move rfl) ?_
            refine s_k rfl (k_call T96.fn_98 (c_i_at (by omega) (by omega) (by omega) (by omega) (by omega) (by omega) (by omega) (by omega)) rfl ?_)
            rintro _ w18 ⟨rfl, e19⟩
            replace B := B.ext0 e19
            clear e19
            have hat20 := atI_b (wd := wd) (hi := hi) (x := px) (y := py) (by omega) (by omega)
            refine s_k rfl (k_bsliceO (k := kI) (n := 1) (cells := #[.int .i64 (atI wd hi px py)]) (X := [atI wd hi px py]) T96.slt_49 (by decide) (by first | rfl | kernel_rfl) (reps_cons (c := [.int .i64 (atI wd hi px py)]) rfl (rfl : Reps kI [] [])) rfl (fun b21 w22 hN23 => ?_))
            replace B := B.new1 hN23
            clear hN23
            refine s_k rfl (k_appO (k := kI) T96.slt_49 rfl rfl rfl (B.o 1 rfl) (B.o 0 rfl).rd (by omega) (by unfold maxLen; omega) (fun a24 c25 w26 hU27 => ?_))
            replace B : Bu w no w26 [.ow kI a24 (nn9 + 1) c25 2 ((sel (wd * py + px) (fun i => FP (i % wd) (i / wd))) ++ ([atI wd hi px py])), .ow kI (some ⟨b21, 0, none⟩) 1 1 2 ([atI wd hi px py]), .blk b1 [.int .i64 wd, .int .i64 hi, .bool wr, .slice asp nsp csp, .slice als nls cls] 26] := B.upd [1] rfl hU27
            clear hU27
            refine s_y (v := .slice a24 (nn9 + 1) c25) rfl (y_assign rfl) ?_
            refine s_nil ?_
            refine W_region (by kernel_rfl) ?_
            refine s_y (v := .int .i64 (px + 1)) rfl (y_add rfl rfl rfl (by omega)) ?_
            refine s_y (v := .int .i64 (px + 1)) rfl (y_move rfl) ?_
            refine s_nil ?_
            replace B : Bu w no w26 [.ow kI a24 (nn9 + 1) c25 2 (sel (wd * py + (px + 1)) (fun i => FP (i % wd) (i / wd))), .ow kI (some ⟨b21, 0, none⟩) 1 1 2 ([atI wd hi px py]), .blk b1 [.int .i64 wd, .int .i64 hi, .bool wr, .slice asp nsp csp, .slice als nls cls] 26] := B.castX 0 rfl rfl (sel_yes (p := (fun i => FP (i % wd) (i / wd))) (n := wd * py + px) (by omega) (by omega) ((atI_in (by omega) (by omega) (by omega) (by omega)).trans (Int.add_comm ..)) ((selrow (p := FP) (wd := wd) (x := px) (y := py) (by omega) (by omega)).trans c17))
            refine ⟨⟨_, px + 1, a24, c25, nn9 + 1, Fits.eq ⟨rfl, rfl, rfl, rfl, rfl, rfl, rfl, rfl, rfl, rfl, rfl, rfl, trivial⟩, (B.pick [0, 2] rfl rfl), (by omega), (by omega)⟩, ?_⟩
            show (wd - (px + 1)).toNat < (wd - px).toNat
            omega
          · obtain rfl : v15 = .bool false := hv16.trans (congrArg Value.bool (Bool.eq_false_iff.2 c17))
            refine s_nil ?_
            refine W_if_f (by decide) rfl ?_
            refine W_skip ?_
            refine W_region (by kernel_rfl) ?_
            refine s_y (v := .int .i64 (px + 1)) rfl (y_add rfl rfl rfl (by omega)) ?_
            refine s_y (v := .int .i64 (px + 1)) rfl (y_move rfl) ?_
            refine s_nil ?_
            replace B : Bu w no w13 [.ow kI a9 nn9 cc9 2 (sel (wd * py + (px + 1)) (fun i => FP (i % wd) (i / wd))), .blk b1 [.int .i64 wd, .int .i64 hi, .bool wr, .slice asp nsp csp, .slice als nls cls] 26] := B.castX 0 rfl rfl (sel_no (p := (fun i => FP (i % wd) (i / wd))) (n := wd * py + px) (by omega) (by omega) (fun hq => absurd ((selrow (p := FP) (wd := wd) (x := px) (y := py) (by omega) (by omega)).symm.trans hq) c17))
            refine ⟨⟨_, px + 1, a9, cc9, nn9, Fits.eq ⟨rfl, rfl, rfl, rfl, rfl, rfl, rfl, rfl, rfl, rfl, rfl, rfl, trivial⟩, B, (by omega), (by omega)⟩, ?_⟩
            show (wd - (px + 1)).toNat < (wd - px).toNat
            omega
        · refine s_y (v := .bool false) rfl (y_lss rfl rfl (decide_eq_false c12)) ?_
          refine s_nil ?_
          refine W_seq ?_
          refine W_if_f (by decide) rfl ?_
          refine W_exit ?_
          refine W_region (by kernel_rfl) ?_
          refine s_y (v := .int .i64 (py + 1)) rfl (y_add rfl rfl rfl (by omega)) ?_
          refine s_y (v := .int .i64 (py + 1)) rfl (y_move rfl) ?_
          refine s_nil ?_
          replace B : Bu w no w10 [.ow kI a9 nn9 cc9 2 (sel (wd * (py + 1)) (fun i => FP (i % wd) (i / wd))), .blk b1 [.int .i64 wd, .int .i64 hi, .bool wr, .slice asp nsp csp, .slice als nls cls] 26] := B.castX 0 rfl rfl (congrArg (fun q => sel q (fun i => FP (i % wd) (i / wd))) (show wd * py + px = wd * (py + 1) by rw [Int.mul_add, Int.mul_one]; omega))
          refine ⟨⟨_, py + 1, a9, cc9, nn9, Fits.eq ⟨rfl, rfl, rfl, rfl, rfl, rfl, trivial⟩, B, (by omega), (by omega)⟩, ?_⟩
          show (hi - (py + 1)).toNat < (hi - py).toNat
          omega
    · refine s_y (v := .bool false) rfl (y_lss rfl rfl (decide_eq_false c9)) ?_
      refine s_nil ?_
      refine W_seq ?_
      refine W_if_f (by decide) rfl ?_
      refine W_exit ?_
      refine W_seq ?_
      refine W_region (by kernel_rfl) ?_
      refine s_y (v := .slice a0 nn0 cc0) rfl (y_move rfl) ?_
      refine s_y (v := .slice a0 nn0 cc0) rfl (y_assign rfl) ?_
      refine s_nil ?_
      refine W_ret ?_
      refine ret1 (v := .slice a0 nn0 cc0) rfl rfl rfl ⟨_, rfl, ?_⟩
      obtain rfl : hi = py := by omega
      replace B : Bu w no w7 [.ow kI a0 (List.length (sel (wd * hi) (fun i => FP (i % wd) (i / wd)))) cc0 2 (sel (wd * hi) (fun i => FP (i % wd) (i / wd))), .blk b1 [.int .i64 wd, .int .i64 hi, .bool wr, .slice asp nsp csp, .slice als nls cls] 26] := B.castX 0 rfl hnn0.symm rfl
      exact ⟨_, _, (by rw [(show nn0 = List.length (sel (wd * hi) (fun i => FP (i % wd) (i / wd))) from hnn0.symm)]), B.give [0] rfl rfl rfl⟩
namespace T36
theorem mx : Try.prog.follows .mixedOrders = true := by kernel_rfl
theorem agg_26_5 : aggB Try.prog 26 5 = true := by kernel_rfl
theorem agg_29_3 : aggB Try.prog 29 3 = true := by kernel_rfl
theorem fn_28 : fnB Try.prog 28 = true := by kernel_rfl
theorem fn_96 : fnB Try.prog 96 = true := by kernel_rfl
theorem fn_97 : fnB Try.prog 97 = true := by kernel_rfl
end T36
set_option maxRecDepth 100000 in
set_option maxHeartbeats 4000000 in
theorem c_i_FarCells {wd : Int} {hi : Int} {wr : Bool} {asp : Option Addr} {nsp : Nat} {csp : Nat} {Xsp : List Nat} {als : Option Addr} {nls : Nat} {cls : Nat} {Xls : List Nat} {afe : Option Addr} {nfe : Nat} {cfe : Nat} {Xfe : List Nat} {afx : Option Addr} {nfx : Nat} {cfx : Nat} {Xfx : List Nat} {afy : Option Addr} {nfy : Nat} {cfy : Nat} {Xfy : List Nat} {w : World} (qsp : Rd w kF asp nsp Xsp) (qls : Rd w kF als nls Xls) (qfe : Rd w kF afe nfe Xfe) (qfx : Rd w kF afx nfx Xfx) (qfy : Rd w kF afy nfy Xfy) (hbsp : nsp ≤ 9223372036854775806) (hbls : nls ≤ 9223372036854775806) (hbfe : nfe ≤ 9223372036854775806) (hbfx : nfx ≤ 9223372036854775806) (hbfy : nfy ≤ 9223372036854775806) :
    Calls Try.prog 36 #[.agg #[.int .i64 wd, .int .i64 hi, .bool wr, .slice asp nsp csp, .slice als nls cls], .agg #[.slice afe nfe cfe, .slice afx nfx cfx, .slice afy nfy cfy]] w (Rt fun v w' => (fieldB wd hi wr Xsp Xls Xfe Xfx Xfy = true ∧ ∃ (a1 : Option Addr) (c1 : Nat), v = .tuple #[.slice a1 (List.length (sel (wd * hi) (farP Xfe Xfx Xfy))) c1, .bool true] ∧ New w w' [.ow kI a1 (List.length (sel (wd * hi) (farP Xfe Xfx Xfy))) c1 2 (sel (wd * hi) (farP Xfe Xfx Xfy))]) ∨ (fieldB wd hi wr Xsp Xls Xfe Xfx Xfy = false ∧ v = .tuple #[.slice none 0 0, .bool false] ∧ Ext0 w w')) := by
  have hlsp := qsp.len
  have hlls := qls.len
  have hlfe := qfe.len
  have hlfx := qfx.len
  have hlfy := qfy.len
  have B : Bu w no w [.rd kF asp nsp Xsp, .rd kF als nls Xls, .rd kF afe nfe Xfe, .rd kF afx nfx Xfx, .rd kF afy nfy Xfy] := Bu.ro (All.cons qsp (All.cons qls (All.cons qfe (All.cons qfx (All.cons qfy All.nil))))) rfl
  refine calls_W (n := 13) Try.func36 rfl rfl (Nat.le_of_ble_eq_true rfl) ?_
  refine W_seq ?_
  refine W_region (by kernel_rfl) ?_
  refine s_k rfl (k_boxN (v := .agg #[.int .i64 wd, .int .i64 hi, .bool wr, .slice asp nsp csp, .slice als nls cls]) (cs := [.int .i64 wd, .int .i64 hi, .bool wr, .slice asp nsp csp, .slice als nls cls]) rfl rfl (fun b1 w2 hN3 => ?_))
  replace B := B.new1 hN3
  clear hN3
  refine s_k rfl (k_boxN (v := .agg #[.slice afe nfe cfe, .slice afx nfx cfx, .slice afy nfy cfy]) (cs := [.slice afe nfe cfe, .slice afx nfx cfx, .slice afy nfy cfy]) rfl rfl (fun b4 w5 hN6 => ?_))
  replace B := B.new1 hN6
  clear hN6
  refine s_y (v := .slice none 0 0) rfl (y_assign rfl) ?_
  refine s_y (v := .bool false) rfl (y_assign rfl) ?_
  refine s_nil ?_
  refine W_seq ?_
  refine W_seq ?_
  refine W_region (by kernel_rfl) ?_
  refine s_y (v := .agg #[.int .i64 wd, .int .i64 hi, .bool wr, .slice asp nsp csp, .slice als nls cls]) rfl (y_loadn (b := b1) (o := 0) (vs := [.int .i64 wd, .int .i64 hi, .bool wr, .slice asp nsp csp, .slice als nls cls]) T36.agg_26_5 rfl rfl ((B.b 1 rfl).cells (o := 0) rfl)) ?_
  refine s_y (v := .agg #[.slice afe nfe cfe, .slice afx nfx cfx, .slice afy nfy cfy]) rfl (y_loadn (b := b4) (o := 0) (vs := [.slice afe nfe cfe, .slice afx nfx cfx, .slice afy nfy cfy]) T36.agg_29_3 rfl rfl ((B.b 0 rfl).cells (o := 0) rfl)) ?_
  refine s_k rfl (k_call T36.fn_28 (c_i_IsField (B.r 2 rfl) (B.r 3 rfl) (B.r 4 rfl) (B.r 5 rfl) (B.r 6 rfl) (by omega) (by omega) (by omega) (by omega) (by omega)) rfl ?_)
  rintro v9 w7 ⟨hv10, e8⟩
  replace B := B.ext0 e8
  clear e8
  by_cases c11 : fieldB wd hi wr Xsp Xls Xfe Xfx Xfy = true
  · have hb12 := fieldB_b c11
    obtain rfl : v9 = .bool true := hv10.trans (congrArg Value.bool c11)
    refine s_y (v := .bool false) rfl (y_not rfl rfl) ?_
    refine s_nil ?_
    refine W_if_f (by decide) rfl ?_
    refine W_skip ?_
    refine W_seq ?_
    refine W_region (by kernel_rfl) ?_
    refine s_y (v := .agg #[.int .i64 wd, .int .i64 hi, .bool wr, .slice asp nsp csp, .slice als nls cls]) rfl (y_loadn (b := b1) (o := 0) (vs := [.int .i64 wd, .int .i64 hi, .bool wr, .slice asp nsp csp, .slice als nls cls]) T36.agg_26_5 rfl rfl ((B.b 1 rfl).cells (o := 0) rfl)) ?_
    refine s_y (v := .func (.func 97) #[] #[.pointer (some ⟨b1, 0, none⟩), .pointer (some ⟨b4, 0, none⟩)]) rfl (y_func rfl rfl) ?_
    refine s_k rfl (k_call T36.fn_96 (c_i_cellsBy (f := 97) (us := []) (xs := [.pointer (some ⟨b1, 0, none⟩), .pointer (some ⟨b4, 0, none⟩)]) (FP := (fun xq yq => farP Xfe Xfx Xfy (atI wd hi xq yq))) T36.fn_97 (fun xq yq w1 he h0 h1 h2 h3 => c_i_FarCells_1  ((B.b 1 rfl).sl.ext0 he) ((B.r 4 rfl).ext0 he) ((B.r 5 rfl).ext0 he) ((B.r 6 rfl).ext0 he) ((B.b 0 rfl).sl.ext0 he) (by omega) (by omega) (by omega) (by omega) (by omega) (by omega) (by omega) (by omega) (by omega) (by omega) (by omega)) (by omega) (by omega) (by omega) (by omega)) rfl ?_)
    rintro _ w13 ⟨a14, c15, rfl, hN16⟩
    replace B := B.new1 hN16
    clear hN16
    have hsl17 := sel_len (wd * hi) (fun i => (fun xq yq => farP Xfe Xfx Xfy (atI wd hi xq yq)) (i % wd) (i / wd))
    refine s_y (v := .slice a14 (List.length (sel (wd * hi) (fun i => (fun xq yq => farP Xfe Xfx Xfy (atI wd hi xq yq)) (i % wd) (i / wd)))) c15) rfl (y_assign rfl) ?_
    refine s_y (v := .bool true) rfl (y_assign rfl) ?_
    refine s_nil ?_
    refine W_ret ?_
    refine ret2 (v1 := .slice a14 (List.length (sel (wd * hi) (fun i => (fun xq yq => farP Xfe Xfx Xfy (atI wd hi xq yq)) (i % wd) (i / wd)))) c15) (v2 := .bool true) rfl rfl rfl rfl rfl ⟨_, rfl, ?_⟩
    have hcond : fieldB wd hi wr Xsp Xls Xfe Xfx Xfy = true := by simp only [c11, Bool.and_true, Bool.true_and, Bool.and_false, Bool.false_and, Bool.not_true, Bool.not_false, Bool.or_true, Bool.true_or, Bool.or_false, Bool.false_or]
    have hsel : sel (wd * hi) (fun i => (fun xq yq => farP Xfe Xfx Xfy (atI wd hi xq yq)) (i % wd) (i / wd)) = sel (wd * hi) (farP Xfe Xfx Xfy) := sel_ext fun i h0 h1 => by have hz := row_of (wd := wd) (hi := hi) (i := i) h0 h1 (by omega); simp only [atI_in (wd := wd) (hi := hi) hz.1.1 hz.1.2 hz.2.1.1 hz.2.1.2, hz.2.2]
    replace B : Bu w no w13 [.ow kI a14 (List.length (sel (wd * hi) (farP Xfe Xfx Xfy))) c15 2 (sel (wd * hi) (farP Xfe Xfx Xfy)), .blk b4 [.slice afe nfe cfe, .slice afx nfx cfx, .slice afy nfy cfy] 29, .blk b1 [.int .i64 wd, .int .i64 hi, .bool wr, .slice asp nsp csp, .slice als nls cls] 26, .rd kF asp nsp Xsp, .rd kF als nls Xls, .rd kF afe nfe Xfe, .rd kF afx nfx Xfx, .rd kF afy nfy Xfy] := B.castX 0 rfl (congrArg List.length hsel) hsel
    exact .inl ⟨hcond, ⟨_, _, (by rw [(show List.length (sel (wd * hi) (fun i => (fun xq yq => farP Xfe Xfx Xfy (atI wd hi xq yq)) (i % wd) (i / wd))) = List.length (sel (wd * hi) (farP Xfe Xfx Xfy)) from (congrArg List.length hsel))]), B.give [0] rfl rfl rfl⟩⟩
  · obtain rfl : v9 = .bool false := hv10.trans (congrArg Value.bool (Bool.eq_false_iff.2 c11))
    refine s_y (v := .bool true) rfl (y_not rfl rfl) ?_
    refine s_nil ?_
    refine W_if_t (by decide) rfl ?_
    refine W_seq ?_
    refine W_region (by kernel_rfl) ?_
    refine s_y (v := .slice none 0 0) rfl (y_assign rfl) ?_
    refine s_y (v := .bool false) rfl (y_assign rfl) ?_
    refine s_nil ?_
    refine W_ret ?_
    refine ret2 (v1 := .slice none 0 0) (v2 := .bool false) rfl rfl rfl rfl rfl ⟨_, rfl, ?_⟩
    exact .inr ⟨by simp only [(Bool.eq_false_iff.2 c11), Bool.and_true, Bool.true_and, Bool.and_false, Bool.false_and, Bool.not_true, Bool.not_false, Bool.or_true, Bool.true_or, Bool.or_false, Bool.false_or], rfl, B.ext⟩
namespace T37
theorem mx : Try.prog.follows .mixedOrders = true := by kernel_rfl
theorem one_2 : oneB Try.prog 2 = true := by kernel_rfl
theorem sl_49_2_1 : slB Try.prog 49 2 1 = true := by kernel_rfl
end T37
set_option maxRecDepth 100000 in
set_option maxHeartbeats 4000000 in
theorem c_l_eqInt64S {a : Option Addr} {n : Nat} {c : Nat} {X : List Int} {a2 : Option Addr} {n2 : Nat} {c2 : Nat} {w : World} (q : Rd w kI a n X) (q2 : Rd w kI a2 n2 X) (hb : n ≤ 9223372036854775806) :
    Calls Try.prog 37 #[.slice a n c, .slice a2 n2 c2] w (Rt fun v w' => v = .bool true ∧ Ext0 w w') := by
  have hl := q.len
  have hl2 := q2.len
  have B : Bu w no w [.rd kI a n X, .rd kI a2 n2 X] := Bu.ro (All.cons q (All.cons q2 All.nil)) rfl
  refine calls_W (n := 26) Try.func37 rfl rfl (Nat.le_of_ble_eq_true rfl) ?_
  refine W_seq ?_
  refine W_region (by kernel_rfl) ?_
  refine s_y (v := .bool false) rfl (y_assign rfl) ?_
  refine s_nil ?_
  refine W_seq ?_
  refine W_seq ?_
  refine W_region (by kernel_rfl) ?_
  refine s_y (v := .slice a n c) rfl (y_move rfl) ?_
  refine s_y (v := .int .i64 ((n : Nat) : Int)) rfl (y_len T37.sl_49_2_1 rfl rfl) ?_
  refine s_y (v := .slice a2 n2 c2) rfl (y_move rfl) ?_
  refine s_y (v := .int .i64 ((n2 : Nat) : Int)) rfl (y_len T37.sl_49_2_1 rfl rfl) ?_
  by_cases c1 : ((n : Nat) : Int) ≠ ((n2 : Nat) : Int)
  · refine s_y (v := .bool true) rfl (y_neq rfl rfl (decide_eq_true c1)) ?_
    refine s_nil ?_
    refine W_if_t (by decide) rfl ?_
    refine W_seq ?_
    refine W_region (by kernel_rfl) ?_
    refine s_y (v := .bool false) rfl (y_assign rfl) ?_
    refine s_nil ?_
    refine W_ret ?_
    refine ret1 (v := .bool false) rfl rfl rfl ⟨_, rfl, ?_⟩
    exfalso; omega
  · refine s_y (v := .bool false) rfl (y_neq rfl rfl (decide_eq_false c1)) ?_
    refine s_nil ?_
    refine W_if_f (by decide) rfl ?_
    refine W_skip ?_
    refine W_seq ?_
    refine W_seq ?_
    refine W_region (by kernel_rfl) ?_
    refine s_y (v := .int .i64 0) rfl (y_assign rfl) ?_
    refine s_nil ?_
    refine W_block ?_
    refine W_loop (fun ρ' w' => ∃ (ρ1 : Env) (k : Int), ρ' = updL ρ1 [(0, .slice a n c), (1, .slice a2 n2 c2), (5, .int .i64 k)] ∧ Bu w no w' [.rd kI a n X, .rd kI a2 n2 X] ∧ (0 ≤ k) ∧ (k ≤ (n : Int))) (fun ρ' _ => ((n : Int) - iv (ρ' 5)).toNat) ?_ ?_
    · exact ⟨_, 0, Fits.eq ⟨rfl, rfl, rfl, trivial⟩, B, (Int.le_refl _), (by omega)⟩
    · clear B; rintro _ w2 ⟨ρ3, k, rfl, B, h0k, h1k⟩
      refine W_seq ?_
      refine W_seq ?_
      refine W_region (by kernel_rfl) ?_
      refine s_y (v := .int .i64 k) rfl (y_move rfl) ?_
      refine s_y (v := .slice a n c) rfl (y_move rfl) ?_
      refine s_y (v := .int .i64 ((n : Nat) : Int)) rfl (y_len T37.sl_49_2_1 rfl rfl) ?_
      by_cases c4 : k < ((n : Nat) : Int)
      · refine s_y (v := .bool true) rfl (y_lss rfl rfl (decide_eq_true c4)) ?_
        refine s_nil ?_
        refine W_if_t (by decide) rfl ?_
        refine W_skip ?_
        refine W_seq ?_
        refine W_block ?_
        refine W_seq ?_
        have B0_9 := B
        refine W_draw (no) T37.mx (by kernel_rfl) (fun w7 e8 => ?_)
        have R10 := Ext.refl (no) w2
        replace R10 := R10.trans (Ext0.any e8)
        replace B := B.ext0 e8
        clear e8
        refine m_y (v := .slice a n c) 0 rfl (by kernel_rfl) rfl rfl (fun w' e' => y_move rfl) ?_
        refine m_y (v := .int .i64 k) 1 rfl (by kernel_rfl) rfl rfl (fun w' e' => y_move rfl) ?_
        refine m_y (v := .pointer (some (sat a ((k).toNat * 1)))) 2 rfl (by kernel_rfl) rfl rfl (fun w' e' => y_idx T37.sl_49_2_1 rfl rfl ((B.r 0 rfl).addr (by omega)) (by omega) (by omega)) ?_
        have hR11 := Rd.atI (B0_9.r 0 rfl) k (by omega) (by omega)
        refine m_y (v := .int .i64 (gl X k)) 3 rfl (by kernel_rfl) rfl rfl (fun w' e' => y_load T37.one_2 rfl ((hR11.ext0 e').cell (i := 0) rfl)) ?_
        refine m_y (v := .slice a2 n2 c2) 4 rfl (by kernel_rfl) rfl rfl (fun w' e' => y_move rfl) ?_
        refine m_y (v := .int .i64 k) 5 rfl (by kernel_rfl) rfl rfl (fun w' e' => y_move rfl) ?_
        refine m_y (v := .pointer (some (sat a2 ((k).toNat * 1)))) 6 rfl (by kernel_rfl) rfl rfl (fun w' e' => y_idx T37.sl_49_2_1 rfl rfl ((B.r 1 rfl).addr (by omega)) (by omega) (by omega)) ?_
        have hR12 := Rd.atI (B0_9.r 1 rfl) k (by omega) (by omega)
        refine m_y (v := .int .i64 (gl X k)) 7 rfl (by kernel_rfl) rfl rfl (fun w' e' => y_load T37.one_2 rfl ((hR12.ext0 e').cell (i := 0) rfl)) ?_
        refine m_y (v := .bool false) 8 rfl (by kernel_rfl) rfl rfl (fun w' e' => y_neq rfl rfl (decide_eq_false (fun hq => hq rfl))) ?_
        refine m_done (by kernel_rfl) (fun w13 e14 => ?_)
        replace B := B.ext0 e14
        clear e14
        clear B0_9 R10
        refine W_if_f (by decide) rfl ?_
        refine W_skip ?_
        refine W_region (by kernel_rfl) ?_
        refine s_y (v := .int .i64 k) rfl (y_move rfl) ?_
        refine s_y (v := .int .i64 (k + 1)) rfl (y_add rfl rfl rfl (by omega)) ?_
        refine s_y (v := .int .i64 (k + 1)) rfl (y_assign rfl) ?_
        refine s_nil ?_
        refine ⟨⟨_, k + 1, Fits.eq ⟨rfl, rfl, rfl, trivial⟩, B, (by omega), (by omega)⟩, ?_⟩
        show ((n : Int) - (k + 1)).toNat < ((n : Int) - k).toNat
        omega
      · refine s_y (v := .bool false) rfl (y_lss rfl rfl (decide_eq_false c4)) ?_
        refine s_nil ?_
        refine W_if_f (by decide) rfl ?_
        refine W_exit ?_
        refine W_seq ?_
        refine W_region (by kernel_rfl) ?_
        refine s_y (v := .bool true) rfl (y_assign rfl) ?_
        refine s_nil ?_
        refine W_ret ?_
        refine ret1 (v := .bool true) rfl rfl rfl ⟨_, rfl, ?_⟩
        exact ⟨rfl, B.ext⟩
namespace T42
theorem mx : Try.prog.follows .mixedOrders = true := by kernel_rfl
theorem sl_49_2_1 : slB Try.prog 49 2 1 = true := by kernel_rfl
theorem sz_2_1 : szB Try.prog 2 1 = true := by kernel_rfl
end T42
set_option maxRecDepth 100000 in
set_option maxHeartbeats 4000000 in
theorem c_l_markInt64S {a : Option Addr} {n : Nat} {c : Nat} {k : Int} {X : List Int} {w : World} (hbn : n ≤ 1048576) (hk0 : 0 ≤ k) (hk1 : k ≤ 4294967296) (HA : All w [.ow kI a n c 2 X]) (HP : Pw [.ow kI a n c 2 X]) :
    Calls Try.prog 42 #[.slice a n c, .int .i64 k] w (Rt fun v w' => v = .int .i64 (k + ((n : Nat) : Int)) ∧ Upd w w' [.ow kI a n c 2 X] [.ow kI a n c 2 (imarks k n)]) := by
  have B : Bu w (hasW [.ow kI a n c 2 X]) w [.ow kI a n c 2 X] := Bu.initW (W := [.ow kI a n c 2 X]) (R := []) HA HP rfl
  have hl := (B.o 0 rfl).len
  refine calls_W (n := 19) Try.func42 rfl rfl (Nat.le_of_ble_eq_true rfl) ?_
  refine W_seq ?_
  refine W_region (by kernel_rfl) ?_
  refine s_y (v := .int .i64 0) rfl (y_assign rfl) ?_
  refine s_nil ?_
  refine W_seq ?_
  refine W_seq ?_
  refine W_region (by kernel_rfl) ?_
  refine s_y (v := .int .i64 0) rfl (y_assign rfl) ?_
  refine s_nil ?_
  refine W_block ?_
  refine W_loop (fun ρ' w' => ∃ (ρ1 : Env) (j : Int) (zs : List Int), ρ' = updL ρ1 [(0, .slice a n c), (1, .int .i64 (k + j)), (4, .int .i64 0), (5, .int .i64 j)] ∧ Bu w (hasW [.ow kI a n c 2 X]) w' [.ow kI a n c 2 zs] ∧ (0 ≤ j) ∧ (j ≤ (n : Int)) ∧ (zs.length = n) ∧ (∀ i, 0 ≤ i → i < j → gl zs i = k + i)) (fun ρ' _ => ((n : Int) - iv (ρ' 5)).toNat) ?_ ?_
  · exact ⟨_, 0, _, Fits.eq ⟨rfl, (by first | rfl | exact congrArg (Value.int .i64) (by omega)), rfl, rfl, trivial⟩, B, (Int.le_refl _), (by omega), hl, (by intro i h0 h1; omega)⟩
  · clear B; rintro _ w1 ⟨ρ2, j, zs, rfl, B, h0j, h1j, hz, hq⟩
    refine W_seq ?_
    refine W_seq ?_
    refine W_region (by kernel_rfl) ?_
    refine s_y (v := .int .i64 j) rfl (y_move rfl) ?_
    refine s_y (v := .slice a n c) rfl (y_move rfl) ?_
    refine s_y (v := .int .i64 ((n : Nat) : Int)) rfl (y_len T42.sl_49_2_1 rfl rfl) ?_
    by_cases c3 : j < ((n : Nat) : Int)
    · refine s_y (v := .bool true) rfl (y_lss rfl rfl (decide_eq_true c3)) ?_
      refine s_nil ?_
      refine W_if_t (by decide) rfl ?_
      refine W_skip ?_
      refine W_seq ?_
      refine W_block ?_
      refine W_seq ?_
      refine W_region (by kernel_rfl) ?_
      refine s_y (v := .slice a n c) rfl (y_move rfl) ?_
      refine s_y (v := .int .i64 j) rfl (y_move rfl) ?_
      refine s_y (v := .int .i64 (k + j)) rfl (y_move rfl) ?_
      refine s_y (v := .pointer (some (sat a ((j).toNat * 1)))) rfl (y_idx T42.sl_49_2_1 rfl rfl ((B.o 0 rfl).rd.addr (by omega)) (by omega) (by omega)) ?_
      refine s_k0 rfl (k_stO (k := kI) (i := j) (j := 0) (x' := k + j) (new := [.int .i64 (k + j)]) T42.sz_2_1 rfl rfl rfl rfl rfl (by simp [Value.oneCell']) (by decide) (B.o 0 rfl) (by omega) (by omega) (by decide) (by rintro q rfl; rfl) (fun w4 hU5 => ?_))
      replace B : Bu w (hasW [.ow kI a n c 2 X]) w4 [.ow kI a n c 2 (pl zs j (k + j))] := B.upd [0] rfl hU5
      clear hU5
      refine s_nil ?_
      refine W_region (by kernel_rfl) ?_
      refine s_y (v := .int .i64 (k + j)) rfl (y_move rfl) ?_
      refine s_y (v := .int .i64 ((k + j) + 1)) rfl (y_add rfl rfl rfl (by omega)) ?_
      refine s_y (v := .int .i64 ((k + j) + 1)) rfl (y_assign rfl) ?_
      refine s_nil ?_
      refine W_region (by kernel_rfl) ?_
      refine s_y (v := .int .i64 j) rfl (y_move rfl) ?_
      refine s_y (v := .int .i64 (j + 1)) rfl (y_add rfl rfl rfl (by omega)) ?_
      refine s_y (v := .int .i64 (j + 1)) rfl (y_assign rfl) ?_
      refine s_nil ?_
      refine ⟨⟨_, j + 1, _, Fits.eq ⟨rfl, (by first | rfl | exact congrArg (Value.int .i64) (by omega)), rfl, rfl, trivial⟩, B, (by omega), (by omega), (by simp only [put_length, pl_length]; exact hz), (gl_put (g := fun i => k + i) (by omega) (by omega) (by omega) rfl hq)⟩, ?_⟩
      show ((n : Int) - (j + 1)).toNat < ((n : Int) - j).toNat
      omega
    · refine s_y (v := .bool false) rfl (y_lss rfl rfl (decide_eq_false c3)) ?_
      refine s_nil ?_
      refine W_if_f (by decide) rfl ?_
      refine W_exit ?_
      refine W_seq ?_
      refine W_region (by kernel_rfl) ?_
      refine s_y (v := .int .i64 (k + j)) rfl (y_move rfl) ?_
      refine s_y (v := .int .i64 (k + j)) rfl (y_assign rfl) ?_
      refine s_nil ?_
      refine W_ret ?_
      refine ret1 (v := .int .i64 (k + j)) rfl rfl rfl ⟨_, rfl, ?_⟩
      obtain rfl : zs = imarks k n := imarks_done (by omega) (fun i h0 h1 => hq i h0 (by omega))
      exact ⟨congrArg (Value.int .i64) (by omega), B.wrote [0] rfl rfl rfl⟩
namespace T43
theorem mx : Try.prog.follows .mixedOrders = true := by kernel_rfl
theorem one_2 : oneB Try.prog 2 = true := by kernel_rfl
theorem sl_49_2_1 : slB Try.prog 49 2 1 = true := by kernel_rfl
end T43
set_option maxRecDepth 100000 in
set_option maxHeartbeats 4000000 in
theorem c_l_heldInt64S {a : Option Addr} {n : Nat} {c : Nat} {k : Int} {w : World} (q : Rd w kI a n (imarks k n)) (hbn : n ≤ 1048576) (hk0 : 0 ≤ k) (hk1 : k ≤ 4294967296) :
    Calls Try.prog 43 #[.slice a n c, .int .i64 k] w (Rt fun v w' => v = .int .i64 (k + ((n : Nat) : Int)) ∧ Ext0 w w') := by
  have hl := q.len
  have B : Bu w no w [.rd kI a n (imarks k n)] := Bu.ro (All.cons q All.nil) rfl
  refine calls_W (n := 21) Try.func43 rfl rfl (Nat.le_of_ble_eq_true rfl) ?_
  refine W_seq ?_
  refine W_region (by kernel_rfl) ?_
  refine s_y (v := .int .i64 0) rfl (y_assign rfl) ?_
  refine s_nil ?_
  refine W_seq ?_
  refine W_seq ?_
  refine W_region (by kernel_rfl) ?_
  refine s_y (v := .int .i64 0) rfl (y_assign rfl) ?_
  refine s_nil ?_
  refine W_block ?_
  refine W_loop (fun ρ' w' => ∃ (ρ1 : Env) (j : Int), ρ' = updL ρ1 [(0, .slice a n c), (1, .int .i64 (k + j)), (5, .int .i64 j)] ∧ Bu w no w' [.rd kI a n (imarks k n)] ∧ (0 ≤ j) ∧ (j ≤ (n : Int))) (fun ρ' _ => ((n : Int) - iv (ρ' 5)).toNat) ?_ ?_
  · exact ⟨_, 0, Fits.eq ⟨rfl, (by first | rfl | exact congrArg (Value.int .i64) (by omega)), rfl, trivial⟩, B, (Int.le_refl _), (by omega)⟩
  · clear B; rintro _ w1 ⟨ρ2, j, rfl, B, h0j, h1j⟩
    refine W_seq ?_
    refine W_seq ?_
    refine W_region (by kernel_rfl) ?_
    refine s_y (v := .int .i64 j) rfl (y_move rfl) ?_
    refine s_y (v := .slice a n c) rfl (y_move rfl) ?_
    refine s_y (v := .int .i64 ((n : Nat) : Int)) rfl (y_len T43.sl_49_2_1 rfl rfl) ?_
    by_cases c3 : j < ((n : Nat) : Int)
    · refine s_y (v := .bool true) rfl (y_lss rfl rfl (decide_eq_true c3)) ?_
      refine s_nil ?_
      refine W_if_t (by decide) rfl ?_
      refine W_skip ?_
      refine W_seq ?_
      refine W_block ?_
      refine W_seq ?_
      refine W_seq ?_
      refine W_region (by kernel_rfl) ?_
      refine s_y (v := .slice a n c) rfl (y_move rfl) ?_
      refine s_y (v := .int .i64 j) rfl (y_move rfl) ?_
      refine s_y (v := .pointer (some (sat a ((j).toNat * 1)))) rfl (y_idx T43.sl_49_2_1 rfl rfl ((B.r 0 rfl).addr (by omega)) (by omega) (by omega)) ?_
      have hR4 := Rd.atI (B.r 0 rfl) j (by omega) (by omega)
      refine s_y (v := .int .i64 (gl (imarks k n) j)) rfl (y_load T43.one_2 rfl (hR4.cell (i := 0) rfl)) ?_
      refine s_y (v := .int .i64 (k + j)) rfl (y_move rfl) ?_
      have hk5 : ¬ ((gl (imarks k n) j) ≠ (k + j)) := (by rw [not_ne_imarks (by omega) (by omega)]; omega)
      refine s_y (v := .bool false) rfl (y_neq rfl rfl (decide_eq_false hk5)) ?_
      refine s_nil ?_
      refine W_if_f (by decide) rfl ?_
      refine W_skip ?_
      refine W_region (by kernel_rfl) ?_
      refine s_y (v := .int .i64 (k + j)) rfl (y_move rfl) ?_
      refine s_y (v := .int .i64 ((k + j) + 1)) rfl (y_add rfl rfl rfl (by omega)) ?_
      refine s_y (v := .int .i64 ((k + j) + 1)) rfl (y_assign rfl) ?_
      refine s_nil ?_
      refine W_region (by kernel_rfl) ?_
      refine s_y (v := .int .i64 j) rfl (y_move rfl) ?_
      refine s_y (v := .int .i64 (j + 1)) rfl (y_add rfl rfl rfl (by omega)) ?_
      refine s_y (v := .int .i64 (j + 1)) rfl (y_assign rfl) ?_
      refine s_nil ?_
      refine ⟨⟨_, j + 1, Fits.eq ⟨rfl, (by first | rfl | exact congrArg (Value.int .i64) (by omega)), rfl, trivial⟩, B, (by omega), (by omega)⟩, ?_⟩
      show ((n : Int) - (j + 1)).toNat < ((n : Int) - j).toNat
      omega
    · refine s_y (v := .bool false) rfl (y_lss rfl rfl (decide_eq_false c3)) ?_
      refine s_nil ?_
      refine W_if_f (by decide) rfl ?_
      refine W_exit ?_
      refine W_seq ?_
      refine W_region (by kernel_rfl) ?_
      refine s_y (v := .int .i64 (k + j)) rfl (y_move rfl) ?_
      refine s_y (v := .int .i64 (k + j)) rfl (y_assign rfl) ?_
      refine s_nil ?_
      refine W_ret ?_
      refine ret1 (v := .int .i64 (k + j)) rfl rfl rfl ⟨_, rfl, ?_⟩
      exact ⟨congrArg (Value.int .i64) (by omega), B.ext⟩
namespace T5
theorem mx : Try.prog.follows .mixedOrders = true := by kernel_rfl
theorem agg_26_5 : aggB Try.prog 26 5 = true := by kernel_rfl
theorem agg_29_3 : aggB Try.prog 29 3 = true := by kernel_rfl
theorem agg_45_5 : aggB Try.prog 45 5 = true := by kernel_rfl
theorem agg_46_3 : aggB Try.prog 46 3 = true := by kernel_rfl
theorem bool_4 : Try.prog.underlying 4 = some .bool := by kernel_rfl
theorem fn_31 : fnB Try.prog 31 = true := by kernel_rfl
theorem fn_32 : fnB Try.prog 32 = true := by kernel_rfl
theorem fn_33 : fnB Try.prog 33 = true := by kernel_rfl
theorem fn_34 : fnB Try.prog 34 = true := by kernel_rfl
theorem fn_35 : fnB Try.prog 35 = true := by kernel_rfl
theorem fn_36 : fnB Try.prog 36 = true := by kernel_rfl
theorem fn_37 : fnB Try.prog 37 = true := by kernel_rfl
theorem fn_38 : fnB Try.prog 38 = true := by kernel_rfl
theorem fn_39 : fnB Try.prog 39 = true := by kernel_rfl
theorem fn_40 : fnB Try.prog 40 = true := by kernel_rfl
theorem fn_41 : fnB Try.prog 41 = true := by kernel_rfl
theorem fn_42 : fnB Try.prog 42 = true := by kernel_rfl
theorem fn_43 : fnB Try.prog 43 = true := by kernel_rfl
theorem sz_26_5 : szB Try.prog 26 5 = true := by kernel_rfl
theorem sz_29_3 : szB Try.prog 29 3 = true := by kernel_rfl
theorem zero_26 : zeroB Try.prog 26 (.agg #[.int .i64 0, .int .i64 0, .bool false, .slice none 0 0, .slice none 0 0]) := by unfold zeroB; kernel_rfl
theorem zero_29 : zeroB Try.prog 29 (.agg #[.slice none 0 0, .slice none 0 0, .slice none 0 0]) := by unfold zeroB; kernel_rfl
end T5
set_option maxRecDepth 100000 in
set_option maxHeartbeats 20000000 in
theorem c_FnExactFarCells {wd0 : Int} {hi0 : Int} {wr0 : Bool} {asp0 : Option Addr} {nsp0 : Nat} {csp0 : Nat} {Xsp0 : List Nat} {als0 : Option Addr} {nls0 : Nat} {cls0 : Nat} {Xls0 : List Nat} {afe1 : Option Addr} {nfe1 : Nat} {cfe1 : Nat} {Xfe1 : List Nat} {afx1 : Option Addr} {nfx1 : Nat} {cfx1 : Nat} {Xfx1 : List Nat} {afy1 : Option Addr} {nfy1 : Nat} {cfy1 : Nat} {Xfy1 : List Nat} {w : World} (qsp0 : Rd w kF asp0 nsp0 Xsp0) (qls0 : Rd w kF als0 nls0 Xls0) (qfe1 : Rd w kF afe1 nfe1 Xfe1) (qfx1 : Rd w kF afx1 nfx1 Xfx1) (qfy1 : Rd w kF afy1 nfy1 Xfy1) (gsp0 : nsp0 ≤ 9223372036854775807) (gls0 : nls0 ≤ 9223372036854775807) (gfe1 : nfe1 ≤ 9223372036854775807) (gfx1 : nfx1 ≤ 9223372036854775807) (gfy1 : nfy1 ≤ 9223372036854775807) :
    Calls Try.prog 5 #[.agg #[.int .i64 wd0, .int .i64 hi0, .bool wr0, .slice asp0 nsp0 csp0, .slice als0 nls0 cls0], .agg #[.slice afe1 nfe1 cfe1, .slice afx1 nfx1 cfx1, .slice afy1 nfy1 cfy1]] w (Rt fun v w' => v = .bool true ∧ Ext0 w w') := by
  have hlsp0 := qsp0.len
  have hlls0 := qls0.len
  have hlfe1 := qfe1.len
  have hlfx1 := qfx1.len
  have hlfy1 := qfy1.len
  have B : Bu w no w [.rd kF asp0 nsp0 Xsp0, .rd kF als0 nls0 Xls0, .rd kF afe1 nfe1 Xfe1, .rd kF afx1 nfx1 Xfx1, .rd kF afy1 nfy1 Xfy1] := Bu.ro (All.cons qsp0 (All.cons qls0 (All.cons qfe1 (All.cons qfx1 (All.cons qfy1 All.nil))))) rfl
  refine calls_W (n := 119) Try.func5 rfl rfl (Nat.le_of_ble_eq_true rfl) ?_
  refine W_seq ?_
  refine W_region (by kernel_rfl) ?_
  refine s_k rfl (k_boxN (v := .agg #[.int .i64 wd0, .int .i64 hi0, .bool wr0, .slice asp0 nsp0 csp0, .slice als0 nls0 cls0]) (cs := [.int .i64 wd0, .int .i64 hi0, .bool wr0, .slice asp0 nsp0 csp0, .slice als0 nls0 cls0]) rfl rfl (fun b1 w2 hN3 => ?_))
  replace B := B.new1 hN3
  clear hN3
  refine s_k rfl (k_boxN (v := .agg #[.slice afe1 nfe1 cfe1, .slice afx1 nfx1 cfx1, .slice afy1 nfy1 cfy1]) (cs := [.slice afe1 nfe1 cfe1, .slice afx1 nfx1 cfx1, .slice afy1 nfy1 cfy1]) rfl rfl (fun b4 w5 hN6 => ?_))
  replace B := B.new1 hN6
  clear hN6
  refine s_y (v := .bool false) rfl (y_assign rfl) ?_
  refine s_nil ?_
  refine W_seq ?_
  refine W_region (by kernel_rfl) ?_
  refine s_y (v := .int .i64 1048576) rfl (y_assign rfl) ?_
  refine s_nil ?_
  refine W_seq ?_
  refine W_region (by kernel_rfl) ?_
  refine s_y (v := .agg #[.int .i64 wd0, .int .i64 hi0, .bool wr0, .slice asp0 nsp0 csp0, .slice als0 nls0 cls0]) rfl (y_loadn (b := b1) (o := 0) (vs := [.int .i64 wd0, .int .i64 hi0, .bool wr0, .slice asp0 nsp0 csp0, .slice als0 nls0 cls0]) T5.agg_45_5 rfl rfl ((B.b 1 rfl).cells (o := 0) rfl)) ?_
  refine s_y (v := .int .i64 1048576) rfl (y_move rfl) ?_
  refine s_k rfl (k_call T5.fn_31 (c_l_szSheet (by omega) (by omega) (by omega) (by omega)) rfl ?_)
  rintro v9 w7 ⟨hv10, e8⟩
  replace B := B.ext0 e8
  clear e8
  by_cases c11 : ((nsp0 : Nat) : Int) + ((nls0 : Nat) : Int) ≤ 1048576
  · obtain rfl : v9 = .int .i64 (1048576 - ((nsp0 : Nat) : Int) - ((nls0 : Nat) : Int)) := hv10.trans (congrArg _ (if_pos c11))
    have hk12 : ¬ (1048576 - ((nsp0 : Nat) : Int) - ((nls0 : Nat) : Int)) < 0 := by omega
    refine s_y (v := .int .i64 (1048576 - ((nsp0 : Nat) : Int) - ((nls0 : Nat) : Int))) rfl (y_assign rfl) ?_
    refine s_nil ?_
    refine W_seq ?_
    refine W_seq ?_
    refine W_region (by kernel_rfl) ?_
    refine s_y (v := .int .i64 (1048576 - ((nsp0 : Nat) : Int) - ((nls0 : Nat) : Int))) rfl (y_move rfl) ?_
    refine s_y (v := .bool false) rfl (y_lss rfl rfl (decide_eq_false hk12)) ?_
    refine s_nil ?_
    refine W_if_f (by decide) rfl ?_
    refine W_skip ?_
    refine W_seq ?_
    refine W_region (by kernel_rfl) ?_
    refine s_y (v := .agg #[.slice afe1 nfe1 cfe1, .slice afx1 nfx1 cfx1, .slice afy1 nfy1 cfy1]) rfl (y_loadn (b := b4) (o := 0) (vs := [.slice afe1 nfe1 cfe1, .slice afx1 nfx1 cfx1, .slice afy1 nfy1 cfy1]) T5.agg_46_3 rfl rfl ((B.b 0 rfl).cells (o := 0) rfl)) ?_
    refine s_y (v := .int .i64 (1048576 - ((nsp0 : Nat) : Int) - ((nls0 : Nat) : Int))) rfl (y_move rfl) ?_
    refine s_k rfl (k_call T5.fn_32 (c_l_szField (by omega) (by omega) (by omega) (by omega) (by omega)) rfl ?_)
    rintro v15 w13 ⟨hv16, e14⟩
    replace B := B.ext0 e14
    clear e14
    by_cases c17 : ((nfe1 : Nat) : Int) + ((nfx1 : Nat) : Int) + ((nfy1 : Nat) : Int) ≤ (1048576 - ((nsp0 : Nat) : Int) - ((nls0 : Nat) : Int))
    · obtain rfl : v15 = .int .i64 ((1048576 - ((nsp0 : Nat) : Int) - ((nls0 : Nat) : Int)) - ((nfe1 : Nat) : Int) - ((nfx1 : Nat) : Int) - ((nfy1 : Nat) : Int)) := hv16.trans (congrArg _ (if_pos c17))
      have hk18 : ¬ ((1048576 - ((nsp0 : Nat) : Int) - ((nls0 : Nat) : Int)) - ((nfe1 : Nat) : Int) - ((nfx1 : Nat) : Int) - ((nfy1 : Nat) : Int)) < 0 := by omega
      refine s_y (v := .int .i64 ((1048576 - ((nsp0 : Nat) : Int) - ((nls0 : Nat) : Int)) - ((nfe1 : Nat) : Int) - ((nfx1 : Nat) : Int) - ((nfy1 : Nat) : Int))) rfl (y_assign rfl) ?_
      refine s_nil ?_
      refine W_seq ?_
      refine W_seq ?_
      refine W_region (by kernel_rfl) ?_
      refine s_y (v := .int .i64 ((1048576 - ((nsp0 : Nat) : Int) - ((nls0 : Nat) : Int)) - ((nfe1 : Nat) : Int) - ((nfx1 : Nat) : Int) - ((nfy1 : Nat) : Int))) rfl (y_move rfl) ?_
      refine s_y (v := .bool false) rfl (y_lss rfl rfl (decide_eq_false hk18)) ?_
      refine s_nil ?_
      refine W_if_f (by decide) rfl ?_
      refine W_skip ?_
      refine W_seq ?_
      have B0_23 := B
      refine W_draw (no) T5.mx (by kernel_rfl) (fun w21 e22 => ?_)
      have R24 := Ext.refl (no) w13
      replace R24 := R24.trans (Ext0.any e22)
      replace B := B.ext0 e22
      clear e22
      refine m_y (v := .agg #[.int .i64 wd0, .int .i64 hi0, .bool wr0, .slice asp0 nsp0 csp0, .slice als0 nls0 cls0]) 0 rfl (by kernel_rfl) rfl rfl (fun w' e' => y_loadn (b := b1) (o := 0) (vs := [.int .i64 wd0, .int .i64 hi0, .bool wr0, .slice asp0 nsp0 csp0, .slice als0 nls0 cls0]) T5.agg_45_5 rfl rfl (((B0_23.b 1 rfl).ext0 e').cells (o := 0) rfl)) ?_
      refine m_y (v := .agg #[.slice afe1 nfe1 cfe1, .slice afx1 nfx1 cfx1, .slice afy1 nfy1 cfy1]) 2 rfl (by kernel_rfl) rfl rfl (fun w' e' => y_loadn (b := b4) (o := 0) (vs := [.slice afe1 nfe1 cfe1, .slice afx1 nfx1 cfx1, .slice afy1 nfy1 cfy1]) T5.agg_46_3 rfl rfl (((B0_23.b 0 rfl).ext0 e').cells (o := 0) rfl)) ?_
      refine m_k 1 [3, 4, 5, 6, 7, 8, 9] rfl (by kernel_rfl) rfl rfl (fun w25 e26 => ?_)
      replace R24 := R24.trans (Ext0.any e26)
      replace B := B.ext0 e26
      clear e26
      refine k_call T5.fn_34 (c_l_toSheet (B.r 2 rfl) (B.r 3 rfl) (by omega) (by omega)) rfl ?_
      rintro _ w27 ⟨a28, c29, a30, c31, rfl, hN32⟩
      replace R24 := R24.trans (Ext0.any hN32.ext)
      replace B := B.new2 hN32
      clear hN32
      refine ⟨fun _ => R24, ?_⟩
      refine m_k 3 [4, 5, 6, 7, 8, 9] rfl (by kernel_rfl) rfl rfl (fun w33 e34 => ?_)
      replace R24 := R24.trans (Ext0.any e34)
      replace B := B.ext0 e34
      clear e34
      refine k_call T5.fn_35 (c_l_toField (B.r 6 rfl) (B.r 7 rfl) (B.r 8 rfl) (by omega) (by omega) (by omega)) rfl ?_
      rintro _ w35 ⟨a36, c37, a38, c39, a40, c41, rfl, hN42⟩
      replace R24 := R24.trans (Ext0.any hN42.ext)
      replace B := B.new3 hN42
      clear hN42
      refine ⟨fun _ => R24, ?_⟩
      refine m_k 4 [5, 6, 7, 8, 9] rfl (by kernel_rfl) rfl rfl (fun w43 e44 => ?_)
      replace R24 := R24.trans (Ext0.any e44)
      replace B := B.ext0 e44
      clear e44
      refine k_call T5.fn_33 (c_s_FarCells ((B.o 3 rfl).rd) ((B.o 4 rfl).rd) ((B.o 0 rfl).rd) ((B.o 1 rfl).rd) ((B.o 2 rfl).rd) (by omega) (by omega) (by omega) (by omega) (by omega)) rfl ?_
      rintro v47 w45 hx46
      by_cases c48 : fieldB wd0 hi0 wr0 Xsp0 Xls0 Xfe1 Xfx1 Xfy1 = true
      · have hb49 := fieldB_b c48
        obtain ⟨a50, c51, rfl, hN52⟩ := (hx46.resolve_right (fun hz => by rw [c48] at hz; cases hz.1)).2
        clear hx46
        replace R24 := R24.trans (Ext0.any hN52.ext)
        replace B := B.new1 hN52
        clear hN52
        refine ⟨fun _ => R24, ?_⟩
        have hsl53 := sel_len (wd0 * hi0) (farP Xfe1 Xfx1 Xfy1)
        refine m_y (v := .tuple #[.slice a50 (List.length (sel (wd0 * hi0) (farP Xfe1 Xfx1 Xfy1))) c51, .bool true]) 5 rfl (by kernel_rfl) rfl rfl (fun w' e' => y_move rfl) ?_
        refine m_y (v := .slice a50 (List.length (sel (wd0 * hi0) (farP Xfe1 Xfx1 Xfy1))) c51) 6 rfl (by kernel_rfl) rfl rfl (fun w' e' => y_extract rfl rfl) ?_
        refine m_y (v := .bool true) 7 rfl (by kernel_rfl) rfl rfl (fun w' e' => y_extract rfl rfl) ?_
        refine m_y (v := .slice a50 (List.length (sel (wd0 * hi0) (farP Xfe1 Xfx1 Xfy1))) c51) 8 rfl (by kernel_rfl) rfl rfl (fun w' e' => y_assign rfl) ?_
        refine m_y (v := .bool true) 9 rfl (by kernel_rfl) rfl rfl (fun w' e' => y_assign rfl) ?_
        refine m_done (by kernel_rfl) (fun w54 e55 => ?_)
        replace B := B.ext0 e55
        clear e55
        clear B0_23 R24
        refine W_seq ?_
        refine W_region (by kernel_rfl) ?_
        refine s_y (v := .agg #[.int .i64 wd0, .int .i64 hi0, .bool wr0, .slice asp0 nsp0 csp0, .slice als0 nls0 cls0]) rfl (y_loadn (b := b1) (o := 0) (vs := [.int .i64 wd0, .int .i64 hi0, .bool wr0, .slice asp0 nsp0 csp0, .slice als0 nls0 cls0]) T5.agg_45_5 rfl rfl ((B.b 7 rfl).cells (o := 0) rfl)) ?_
        refine s_k rfl (k_call T5.fn_34 (c_l_toSheet (B.r 8 rfl) (B.r 9 rfl) (by omega) (by omega)) rfl ?_)
        rintro _ w56 ⟨a57, c58, a59, c60, rfl, hN61⟩
        replace B := B.new2 hN61
        clear hN61
        refine s_k rfl (k_allocN (z := (.agg #[.int .i64 0, .int .i64 0, .bool false, .slice none 0 0, .slice none 0 0])) (cs := [.int .i64 0, .int .i64 0, .bool false, .slice none 0 0, .slice none 0 0]) T5.zero_26 rfl (fun b62 w63 hN64 => ?_))
        replace B := B.new1 hN64
        clear hN64
        refine s_k0 rfl (k_stB (v := .agg #[.int .i64 wd0, .int .i64 hi0, .bool wr0, .slice a57 nsp0 c58, .slice a59 nls0 c60]) (n := 5) (cs' := [.int .i64 wd0, .int .i64 hi0, .bool wr0, .slice a57 nsp0 c58, .slice a59 nls0 c60]) T5.sz_26_5 rfl rfl rfl (B.b 0 rfl) (by simp [Value.cells, Value.oneCell']) (Nat.le_of_ble_eq_true rfl) rfl (fun w65 hU66 => ?_))
        replace B : Bu w no w65 [.blk b62 [.int .i64 wd0, .int .i64 hi0, .bool wr0, .slice a57 nsp0 c58, .slice a59 nls0 c60] 26, .ow kF a57 nsp0 c58 35 Xsp0, .ow kF a59 nls0 c60 35 Xls0, .ow kI a50 (List.length (sel (wd0 * hi0) (farP Xfe1 Xfx1 Xfy1))) c51 2 (sel (wd0 * hi0) (farP Xfe1 Xfx1 Xfy1)), .ow kF a36 nfe1 c37 35 Xfe1, .ow kF a38 nfx1 c39 35 Xfx1, .ow kF a40 nfy1 c41 35 Xfy1, .ow kF a28 nsp0 c29 35 Xsp0, .ow kF a30 nls0 c31 35 Xls0, .blk b4 [.slice afe1 nfe1 cfe1, .slice afx1 nfx1 cfx1, .slice afy1 nfy1 cfy1] 46, .blk b1 [.int .i64 wd0, .int .i64 hi0, .bool wr0, .slice asp0 nsp0 csp0, .slice als0 nls0 cls0] 45, .rd kF asp0 nsp0 Xsp0, .rd kF als0 nls0 Xls0, .rd kF afe1 nfe1 Xfe1, .rd kF afx1 nfx1 Xfx1, .rd kF afy1 nfy1 Xfy1] := B.upd [0] rfl hU66
        clear hU66
        refine s_nil ?_
        refine W_seq ?_
        refine W_region (by kernel_rfl) ?_
        refine s_y (v := .agg #[.slice afe1 nfe1 cfe1, .slice afx1 nfx1 cfx1, .slice afy1 nfy1 cfy1]) rfl (y_loadn (b := b4) (o := 0) (vs := [.slice afe1 nfe1 cfe1, .slice afx1 nfx1 cfx1, .slice afy1 nfy1 cfy1]) T5.agg_46_3 rfl rfl ((B.b 9 rfl).cells (o := 0) rfl)) ?_
        refine s_k rfl (k_call T5.fn_35 (c_l_toField (B.r 13 rfl) (B.r 14 rfl) (B.r 15 rfl) (by omega) (by omega) (by omega)) rfl ?_)
        rintro _ w67 ⟨a68, c69, a70, c71, a72, c73, rfl, hN74⟩
        replace B := B.new3 hN74
        clear hN74
        refine s_k rfl (k_allocN (z := (.agg #[.slice none 0 0, .slice none 0 0, .slice none 0 0])) (cs := [.slice none 0 0, .slice none 0 0, .slice none 0 0]) T5.zero_29 rfl (fun b75 w76 hN77 => ?_))
        replace B := B.new1 hN77
        clear hN77
        refine s_k0 rfl (k_stB (v := .agg #[.slice a68 nfe1 c69, .slice a70 nfx1 c71, .slice a72 nfy1 c73]) (n := 3) (cs' := [.slice a68 nfe1 c69, .slice a70 nfx1 c71, .slice a72 nfy1 c73]) T5.sz_29_3 rfl rfl rfl (B.b 0 rfl) (by simp [Value.cells, Value.oneCell']) (Nat.le_of_ble_eq_true rfl) rfl (fun w78 hU79 => ?_))
        replace B : Bu w no w78 [.blk b75 [.slice a68 nfe1 c69, .slice a70 nfx1 c71, .slice a72 nfy1 c73] 29, .ow kF a68 nfe1 c69 35 Xfe1, .ow kF a70 nfx1 c71 35 Xfx1, .ow kF a72 nfy1 c73 35 Xfy1, .blk b62 [.int .i64 wd0, .int .i64 hi0, .bool wr0, .slice a57 nsp0 c58, .slice a59 nls0 c60] 26, .ow kF a57 nsp0 c58 35 Xsp0, .ow kF a59 nls0 c60 35 Xls0, .ow kI a50 (List.length (sel (wd0 * hi0) (farP Xfe1 Xfx1 Xfy1))) c51 2 (sel (wd0 * hi0) (farP Xfe1 Xfx1 Xfy1)), .ow kF a36 nfe1 c37 35 Xfe1, .ow kF a38 nfx1 c39 35 Xfx1, .ow kF a40 nfy1 c41 35 Xfy1, .ow kF a28 nsp0 c29 35 Xsp0, .ow kF a30 nls0 c31 35 Xls0, .blk b4 [.slice afe1 nfe1 cfe1, .slice afx1 nfx1 cfx1, .slice afy1 nfy1 cfy1] 46, .blk b1 [.int .i64 wd0, .int .i64 hi0, .bool wr0, .slice asp0 nsp0 csp0, .slice als0 nls0 cls0] 45, .rd kF asp0 nsp0 Xsp0, .rd kF als0 nls0 Xls0, .rd kF afe1 nfe1 Xfe1, .rd kF afx1 nfx1 Xfx1, .rd kF afy1 nfy1 Xfy1] := B.upd [0] rfl hU79
        clear hU79
        refine s_nil ?_
        refine W_seq ?_
        refine W_region (by kernel_rfl) ?_
        refine s_y (v := .agg #[.int .i64 wd0, .int .i64 hi0, .bool wr0, .slice a57 nsp0 c58, .slice a59 nls0 c60]) rfl (y_loadn (b := b62) (o := 0) (vs := [.int .i64 wd0, .int .i64 hi0, .bool wr0, .slice a57 nsp0 c58, .slice a59 nls0 c60]) T5.agg_26_5 rfl rfl ((B.b 4 rfl).cells (o := 0) rfl)) ?_
        refine s_y (v := .agg #[.slice a68 nfe1 c69, .slice a70 nfx1 c71, .slice a72 nfy1 c73]) rfl (y_loadn (b := b75) (o := 0) (vs := [.slice a68 nfe1 c69, .slice a70 nfx1 c71, .slice a72 nfy1 c73]) T5.agg_29_3 rfl rfl ((B.b 0 rfl).cells (o := 0) rfl)) ?_
        refine s_k rfl (k_call T5.fn_36 (c_i_FarCells ((B.o 5 rfl).rd) ((B.o 6 rfl).rd) ((B.o 1 rfl).rd) ((B.o 2 rfl).rd) ((B.o 3 rfl).rd) (by omega) (by omega) (by omega) (by omega) (by omega)) rfl ?_)
        rintro v82 w80 hx81
        obtain ⟨a83, c84, rfl, hN85⟩ := (hx81.resolve_right (fun hz => by rw [c48] at hz; cases hz.1)).2
        clear hx81
        replace B := B.new1 hN85
        clear hN85
        have hsl86 := sel_len (wd0 * hi0) (farP Xfe1 Xfx1 Xfy1)
        refine s_y (v := .tuple #[.slice a83 (List.length (sel (wd0 * hi0) (farP Xfe1 Xfx1 Xfy1))) c84, .bool true]) rfl (y_move rfl) ?_
        refine s_y (v := .slice a83 (List.length (sel (wd0 * hi0) (farP Xfe1 Xfx1 Xfy1))) c84) rfl (y_extract rfl rfl) ?_
        refine s_y (v := .bool true) rfl (y_extract rfl rfl) ?_
        refine s_y (v := .slice a83 (List.length (sel (wd0 * hi0) (farP Xfe1 Xfx1 Xfy1))) c84) rfl (y_assign rfl) ?_
        refine s_y (v := .bool true) rfl (y_assign rfl) ?_
        refine s_nil ?_
        refine W_seq ?_
        refine W_seq ?_
        refine W_region (by kernel_rfl) ?_
        refine s_y (v := .slice a83 (List.length (sel (wd0 * hi0) (farP Xfe1 Xfx1 Xfy1))) c84) rfl (y_move rfl) ?_
        refine s_y (v := .slice a50 (List.length (sel (wd0 * hi0) (farP Xfe1 Xfx1 Xfy1))) c51) rfl (y_move rfl) ?_
        refine s_k rfl (k_call T5.fn_37 (c_l_eqInt64S ((B.o 0 rfl).rd) ((B.o 8 rfl).rd) (by omega)) rfl ?_)
        rintro _ w87 ⟨rfl, e88⟩
        replace B := B.ext0 e88
        clear e88
        refine s_y (v := .bool false) rfl (y_not rfl rfl) ?_
        refine s_y (v := .bool false) rfl (y_move rfl) ?_
        refine s_y (v := .bool true) rfl (y_move rfl) ?_
        refine s_y (v := .bool true) rfl (y_move rfl) ?_
        refine s_y (v := .bool false) rfl (y_bneq T5.bool_4 rfl rfl rfl) ?_
        refine s_y (v := .bool false) rfl (y_pick_f rfl rfl) ?_
        refine s_nil ?_
        refine W_if_f (by decide) rfl ?_
        refine W_skip ?_
        refine W_seq ?_
        refine W_seq ?_
        have B0_93 := B
        refine W_draw (no) T5.mx (by kernel_rfl) (fun w91 e92 => ?_)
        have R94 := Ext.refl (no) w87
        replace R94 := R94.trans (Ext0.any e92)
        replace B := B.ext0 e92
        clear e92
        refine m_y (v := .agg #[.int .i64 wd0, .int .i64 hi0, .bool wr0, .slice a57 nsp0 c58, .slice a59 nls0 c60]) 0 rfl (by kernel_rfl) rfl rfl (fun w' e' => y_loadn (b := b62) (o := 0) (vs := [.int .i64 wd0, .int .i64 hi0, .bool wr0, .slice a57 nsp0 c58, .slice a59 nls0 c60]) T5.agg_26_5 rfl rfl (((B0_93.b 5 rfl).ext0 e').cells (o := 0) rfl)) ?_
        refine m_y (v := .agg #[.int .i64 wd0, .int .i64 hi0, .bool wr0, .slice asp0 nsp0 csp0, .slice als0 nls0 cls0]) 1 rfl (by kernel_rfl) rfl rfl (fun w' e' => y_loadn (b := b1) (o := 0) (vs := [.int .i64 wd0, .int .i64 hi0, .bool wr0, .slice asp0 nsp0 csp0, .slice als0 nls0 cls0]) T5.agg_45_5 rfl rfl (((B0_93.b 15 rfl).ext0 e').cells (o := 0) rfl)) ?_
        refine m_k 2 [3, 4] rfl (by kernel_rfl) rfl rfl (fun w95 e96 => ?_)
        replace R94 := R94.trans (Ext0.any e96)
        replace B := B.ext0 e96
        clear e96
        refine k_call T5.fn_34 (c_l_toSheet (B.r 16 rfl) (B.r 17 rfl) (by omega) (by omega)) rfl ?_
        rintro _ w97 ⟨a98, c99, a100, c101, rfl, hN102⟩
        replace R94 := R94.trans (Ext0.any hN102.ext)
        replace B := B.new2 hN102
        clear hN102
        refine ⟨fun _ => R94, ?_⟩
        refine m_k 3 [4] rfl (by kernel_rfl) rfl rfl (fun w103 e104 => ?_)
        replace R94 := R94.trans (Ext0.any e104)
        replace B := B.ext0 e104
        clear e104
        refine k_call T5.fn_38 (c_l_eqSheet ((B.o 8 rfl).rd) ((B.o 9 rfl).rd) ((B.o 0 rfl).rd) ((B.o 1 rfl).rd) (by omega) (by omega)) rfl ?_
        rintro _ w105 ⟨rfl, e106⟩
        replace R94 := R94.trans (Ext0.any e106)
        replace B := B.ext0 e106
        clear e106
        refine ⟨fun _ => R94, ?_⟩
        refine m_y (v := .bool false) 4 rfl (by kernel_rfl) rfl rfl (fun w' e' => y_not rfl rfl) ?_
        refine m_done (by kernel_rfl) (fun w107 e108 => ?_)
        replace B := B.ext0 e108
        clear e108
        clear B0_93 R94
        refine W_if_f (by decide) rfl ?_
        refine W_skip ?_
        refine W_seq ?_
        refine W_seq ?_
        have B0_113 := B
        refine W_draw (no) T5.mx (by kernel_rfl) (fun w111 e112 => ?_)
        have R114 := Ext.refl (no) w107
        replace R114 := R114.trans (Ext0.any e112)
        replace B := B.ext0 e112
        clear e112
        refine m_y (v := .agg #[.slice a68 nfe1 c69, .slice a70 nfx1 c71, .slice a72 nfy1 c73]) 0 rfl (by kernel_rfl) rfl rfl (fun w' e' => y_loadn (b := b75) (o := 0) (vs := [.slice a68 nfe1 c69, .slice a70 nfx1 c71, .slice a72 nfy1 c73]) T5.agg_29_3 rfl rfl (((B0_113.b 3 rfl).ext0 e').cells (o := 0) rfl)) ?_
        refine m_y (v := .agg #[.slice afe1 nfe1 cfe1, .slice afx1 nfx1 cfx1, .slice afy1 nfy1 cfy1]) 1 rfl (by kernel_rfl) rfl rfl (fun w' e' => y_loadn (b := b4) (o := 0) (vs := [.slice afe1 nfe1 cfe1, .slice afx1 nfx1 cfx1, .slice afy1 nfy1 cfy1]) T5.agg_46_3 rfl rfl (((B0_113.b 16 rfl).ext0 e').cells (o := 0) rfl)) ?_
        refine m_k 2 [3, 4] rfl (by kernel_rfl) rfl rfl (fun w115 e116 => ?_)
        replace R114 := R114.trans (Ext0.any e116)
        replace B := B.ext0 e116
        clear e116
        refine k_call T5.fn_35 (c_l_toField (B.r 20 rfl) (B.r 21 rfl) (B.r 22 rfl) (by omega) (by omega) (by omega)) rfl ?_
        rintro _ w117 ⟨a118, c119, a120, c121, a122, c123, rfl, hN124⟩
        replace R114 := R114.trans (Ext0.any hN124.ext)
        replace B := B.new3 hN124
        clear hN124
        refine ⟨fun _ => R114, ?_⟩
        refine m_k 3 [4] rfl (by kernel_rfl) rfl rfl (fun w125 e126 => ?_)
        replace R114 := R114.trans (Ext0.any e126)
        replace B := B.ext0 e126
        clear e126
        refine k_call T5.fn_39 (c_l_eqField ((B.o 7 rfl).rd) ((B.o 8 rfl).rd) ((B.o 9 rfl).rd) ((B.o 0 rfl).rd) ((B.o 1 rfl).rd) ((B.o 2 rfl).rd) (by omega) (by omega) (by omega)) rfl ?_
        rintro _ w127 ⟨rfl, e128⟩
        replace R114 := R114.trans (Ext0.any e128)
        replace B := B.ext0 e128
        clear e128
        refine ⟨fun _ => R114, ?_⟩
        refine m_y (v := .bool false) 4 rfl (by kernel_rfl) rfl rfl (fun w' e' => y_not rfl rfl) ?_
        refine m_done (by kernel_rfl) (fun w129 e130 => ?_)
        replace B := B.ext0 e130
        clear e130
        clear B0_113 R114
        refine W_if_f (by decide) rfl ?_
        refine W_skip ?_
        refine W_seq ?_
        refine W_region (by kernel_rfl) ?_
        refine s_y (v := .int .i64 1) rfl (y_assign rfl) ?_
        refine s_nil ?_
        refine W_seq ?_
        refine W_region (by kernel_rfl) ?_
        refine s_y (v := .agg #[.int .i64 wd0, .int .i64 hi0, .bool wr0, .slice a57 nsp0 c58, .slice a59 nls0 c60]) rfl (y_loadn (b := b62) (o := 0) (vs := [.int .i64 wd0, .int .i64 hi0, .bool wr0, .slice a57 nsp0 c58, .slice a59 nls0 c60]) T5.agg_26_5 rfl rfl ((B.b 10 rfl).cells (o := 0) rfl)) ?_
        refine s_y (v := .int .i64 1) rfl (y_move rfl) ?_
        refine s_k rfl (k_call T5.fn_40 (c_l_markSheet (by omega) (by omega) (by omega) (by omega) (B.all.pick [11, 12] rfl) (B.pw.pick [11, 12] rfl rfl)) rfl ?_)
        rintro _ w131 ⟨rfl, hU132⟩
        replace B : Bu w no w131 [.ow kF a57 nsp0 c58 35 (marks 1 nsp0), .ow kF a59 nls0 c60 35 (marks (1 + ((nsp0 : Nat) : Int)) nls0), .ow kF a118 nfe1 c119 35 Xfe1, .ow kF a120 nfx1 c121 35 Xfx1, .ow kF a122 nfy1 c123 35 Xfy1, .ow kF a98 nsp0 c99 35 Xsp0, .ow kF a100 nls0 c101 35 Xls0, .ow kI a83 (List.length (sel (wd0 * hi0) (farP Xfe1 Xfx1 Xfy1))) c84 2 (sel (wd0 * hi0) (farP Xfe1 Xfx1 Xfy1)), .blk b75 [.slice a68 nfe1 c69, .slice a70 nfx1 c71, .slice a72 nfy1 c73] 29, .ow kF a68 nfe1 c69 35 Xfe1, .ow kF a70 nfx1 c71 35 Xfx1, .ow kF a72 nfy1 c73 35 Xfy1, .blk b62 [.int .i64 wd0, .int .i64 hi0, .bool wr0, .slice a57 nsp0 c58, .slice a59 nls0 c60] 26, .ow kI a50 (List.length (sel (wd0 * hi0) (farP Xfe1 Xfx1 Xfy1))) c51 2 (sel (wd0 * hi0) (farP Xfe1 Xfx1 Xfy1)), .ow kF a36 nfe1 c37 35 Xfe1, .ow kF a38 nfx1 c39 35 Xfx1, .ow kF a40 nfy1 c41 35 Xfy1, .ow kF a28 nsp0 c29 35 Xsp0, .ow kF a30 nls0 c31 35 Xls0, .blk b4 [.slice afe1 nfe1 cfe1, .slice afx1 nfx1 cfx1, .slice afy1 nfy1 cfy1] 46, .blk b1 [.int .i64 wd0, .int .i64 hi0, .bool wr0, .slice asp0 nsp0 csp0, .slice als0 nls0 cls0] 45, .rd kF asp0 nsp0 Xsp0, .rd kF als0 nls0 Xls0, .rd kF afe1 nfe1 Xfe1, .rd kF afx1 nfx1 Xfx1, .rd kF afy1 nfy1 Xfy1] := B.upd [11, 12] rfl hU132
        clear hU132
        refine s_y (v := .int .i64 (1 + ((nsp0 : Nat) : Int) + ((nls0 : Nat) : Int))) rfl (y_assign rfl) ?_
        refine s_nil ?_
        refine W_seq ?_
        refine W_region (by kernel_rfl) ?_
        refine s_y (v := .agg #[.slice a68 nfe1 c69, .slice a70 nfx1 c71, .slice a72 nfy1 c73]) rfl (y_loadn (b := b75) (o := 0) (vs := [.slice a68 nfe1 c69, .slice a70 nfx1 c71, .slice a72 nfy1 c73]) T5.agg_29_3 rfl rfl ((B.b 8 rfl).cells (o := 0) rfl)) ?_
        refine s_y (v := .int .i64 (1 + ((nsp0 : Nat) : Int) + ((nls0 : Nat) : Int))) rfl (y_move rfl) ?_
        refine s_k rfl (k_call T5.fn_41 (c_l_markField (by omega) (by omega) (by omega) (by omega) (by omega) (B.all.pick [9, 10, 11] rfl) (B.pw.pick [9, 10, 11] rfl rfl)) rfl ?_)
        rintro _ w133 ⟨rfl, hU134⟩
        replace B : Bu w no w133 [.ow kF a68 nfe1 c69 35 (marks (1 + ((nsp0 : Nat) : Int) + ((nls0 : Nat) : Int)) nfe1), .ow kF a70 nfx1 c71 35 (marks ((1 + ((nsp0 : Nat) : Int) + ((nls0 : Nat) : Int)) + ((nfe1 : Nat) : Int)) nfx1), .ow kF a72 nfy1 c73 35 (marks ((1 + ((nsp0 : Nat) : Int) + ((nls0 : Nat) : Int)) + ((nfe1 : Nat) : Int) + ((nfx1 : Nat) : Int)) nfy1), .ow kF a57 nsp0 c58 35 (marks 1 nsp0), .ow kF a59 nls0 c60 35 (marks (1 + ((nsp0 : Nat) : Int)) nls0), .ow kF a118 nfe1 c119 35 Xfe1, .ow kF a120 nfx1 c121 35 Xfx1, .ow kF a122 nfy1 c123 35 Xfy1, .ow kF a98 nsp0 c99 35 Xsp0, .ow kF a100 nls0 c101 35 Xls0, .ow kI a83 (List.length (sel (wd0 * hi0) (farP Xfe1 Xfx1 Xfy1))) c84 2 (sel (wd0 * hi0) (farP Xfe1 Xfx1 Xfy1)), .blk b75 [.slice a68 nfe1 c69, .slice a70 nfx1 c71, .slice a72 nfy1 c73] 29, .blk b62 [.int .i64 wd0, .int .i64 hi0, .bool wr0, .slice a57 nsp0 c58, .slice a59 nls0 c60] 26, .ow kI a50 (List.length (sel (wd0 * hi0) (farP Xfe1 Xfx1 Xfy1))) c51 2 (sel (wd0 * hi0) (farP Xfe1 Xfx1 Xfy1)), .ow kF a36 nfe1 c37 35 Xfe1, .ow kF a38 nfx1 c39 35 Xfx1, .ow kF a40 nfy1 c41 35 Xfy1, .ow kF a28 nsp0 c29 35 Xsp0, .ow kF a30 nls0 c31 35 Xls0, .blk b4 [.slice afe1 nfe1 cfe1, .slice afx1 nfx1 cfx1, .slice afy1 nfy1 cfy1] 46, .blk b1 [.int .i64 wd0, .int .i64 hi0, .bool wr0, .slice asp0 nsp0 csp0, .slice als0 nls0 cls0] 45, .rd kF asp0 nsp0 Xsp0, .rd kF als0 nls0 Xls0, .rd kF afe1 nfe1 Xfe1, .rd kF afx1 nfx1 Xfx1, .rd kF afy1 nfy1 Xfy1] := B.upd [9, 10, 11] rfl hU134
        clear hU134
        refine s_y (v := .int .i64 ((1 + ((nsp0 : Nat) : Int) + ((nls0 : Nat) : Int)) + ((nfe1 : Nat) : Int) + ((nfx1 : Nat) : Int) + ((nfy1 : Nat) : Int))) rfl (y_assign rfl) ?_
        refine s_nil ?_
        refine W_seq ?_
        refine W_seq ?_
        refine W_region (by kernel_rfl) ?_
        refine s_y (v := .int .i64 ((1 + ((nsp0 : Nat) : Int) + ((nls0 : Nat) : Int)) + ((nfe1 : Nat) : Int) + ((nfx1 : Nat) : Int) + ((nfy1 : Nat) : Int))) rfl (y_move rfl) ?_
        have hk135 : ¬ (((1 + ((nsp0 : Nat) : Int) + ((nls0 : Nat) : Int)) + ((nfe1 : Nat) : Int) + ((nfx1 : Nat) : Int) + ((nfy1 : Nat) : Int)) < 0) := (by omega)
        refine s_y (v := .bool false) rfl (y_lss rfl rfl (decide_eq_false hk135)) ?_
        refine s_y (v := .bool false) rfl (y_move rfl) ?_
        refine s_y (v := .slice a83 (List.length (sel (wd0 * hi0) (farP Xfe1 Xfx1 Xfy1))) c84) rfl (y_move rfl) ?_
        refine s_y (v := .slice a50 (List.length (sel (wd0 * hi0) (farP Xfe1 Xfx1 Xfy1))) c51) rfl (y_move rfl) ?_
        refine s_k rfl (k_call T5.fn_37 (c_l_eqInt64S ((B.o 10 rfl).rd) ((B.o 13 rfl).rd) (by omega)) rfl ?_)
        rintro _ w136 ⟨rfl, e137⟩
        replace B := B.ext0 e137
        clear e137
        refine s_y (v := .bool false) rfl (y_not rfl rfl) ?_
        refine s_y (v := .bool false) rfl (y_pick_f rfl rfl) ?_
        refine s_y (v := .bool false) rfl (y_move rfl) ?_
        refine s_y (v := .bool true) rfl (y_move rfl) ?_
        refine s_y (v := .bool true) rfl (y_move rfl) ?_
        refine s_y (v := .bool false) rfl (y_bneq T5.bool_4 rfl rfl rfl) ?_
        refine s_y (v := .bool false) rfl (y_pick_f rfl rfl) ?_
        refine s_nil ?_
        refine W_if_f (by decide) rfl ?_
        refine W_skip ?_
        refine W_seq ?_
        refine W_region (by kernel_rfl) ?_
        refine s_y (v := .int .i64 1) rfl (y_assign rfl) ?_
        refine s_nil ?_
        refine W_seq ?_
        refine W_region (by kernel_rfl) ?_
        refine s_y (v := .slice a83 (List.length (sel (wd0 * hi0) (farP Xfe1 Xfx1 Xfy1))) c84) rfl (y_move rfl) ?_
        refine s_y (v := .int .i64 1) rfl (y_move rfl) ?_
        refine s_k rfl (k_call T5.fn_42 (c_l_markInt64S (by omega) (by omega) (by omega) (B.all.pick [10] rfl) (B.pw.pick [10] rfl rfl)) rfl ?_)
        rintro _ w138 ⟨rfl, hU139⟩
        replace B : Bu w no w138 [.ow kI a83 (List.length (sel (wd0 * hi0) (farP Xfe1 Xfx1 Xfy1))) c84 2 (imarks 1 (List.length (sel (wd0 * hi0) (farP Xfe1 Xfx1 Xfy1)))), .ow kF a68 nfe1 c69 35 (marks (1 + ((nsp0 : Nat) : Int) + ((nls0 : Nat) : Int)) nfe1), .ow kF a70 nfx1 c71 35 (marks ((1 + ((nsp0 : Nat) : Int) + ((nls0 : Nat) : Int)) + ((nfe1 : Nat) : Int)) nfx1), .ow kF a72 nfy1 c73 35 (marks ((1 + ((nsp0 : Nat) : Int) + ((nls0 : Nat) : Int)) + ((nfe1 : Nat) : Int) + ((nfx1 : Nat) : Int)) nfy1), .ow kF a57 nsp0 c58 35 (marks 1 nsp0), .ow kF a59 nls0 c60 35 (marks (1 + ((nsp0 : Nat) : Int)) nls0), .ow kF a118 nfe1 c119 35 Xfe1, .ow kF a120 nfx1 c121 35 Xfx1, .ow kF a122 nfy1 c123 35 Xfy1, .ow kF a98 nsp0 c99 35 Xsp0, .ow kF a100 nls0 c101 35 Xls0, .blk b75 [.slice a68 nfe1 c69, .slice a70 nfx1 c71, .slice a72 nfy1 c73] 29, .blk b62 [.int .i64 wd0, .int .i64 hi0, .bool wr0, .slice a57 nsp0 c58, .slice a59 nls0 c60] 26, .ow kI a50 (List.length (sel (wd0 * hi0) (farP Xfe1 Xfx1 Xfy1))) c51 2 (sel (wd0 * hi0) (farP Xfe1 Xfx1 Xfy1)), .ow kF a36 nfe1 c37 35 Xfe1, .ow kF a38 nfx1 c39 35 Xfx1, .ow kF a40 nfy1 c41 35 Xfy1, .ow kF a28 nsp0 c29 35 Xsp0, .ow kF a30 nls0 c31 35 Xls0, .blk b4 [.slice afe1 nfe1 cfe1, .slice afx1 nfx1 cfx1, .slice afy1 nfy1 cfy1] 46, .blk b1 [.int .i64 wd0, .int .i64 hi0, .bool wr0, .slice asp0 nsp0 csp0, .slice als0 nls0 cls0] 45, .rd kF asp0 nsp0 Xsp0, .rd kF als0 nls0 Xls0, .rd kF afe1 nfe1 Xfe1, .rd kF afx1 nfx1 Xfx1, .rd kF afy1 nfy1 Xfy1] := B.upd [10] rfl hU139
        clear hU139
        refine s_y (v := .int .i64 (1 + ((List.length (sel (wd0 * hi0) (farP Xfe1 Xfx1 Xfy1)) : Nat) : Int))) rfl (y_assign rfl) ?_
        refine s_nil ?_
        refine W_seq ?_
        refine W_region (by kernel_rfl) ?_
        refine s_y (v := .int .i64 1) rfl (y_assign rfl) ?_
        refine s_nil ?_
        refine W_seq ?_
        refine W_region (by kernel_rfl) ?_
        refine s_y (v := .slice a83 (List.length (sel (wd0 * hi0) (farP Xfe1 Xfx1 Xfy1))) c84) rfl (y_move rfl) ?_
        refine s_y (v := .int .i64 1) rfl (y_move rfl) ?_
        refine s_k rfl (k_call T5.fn_43 (c_l_heldInt64S ((B.o 0 rfl).rd) (by omega) (by omega) (by omega)) rfl ?_)
        rintro _ w140 ⟨rfl, e141⟩
        replace B := B.ext0 e141
        clear e141
        refine s_y (v := .int .i64 (1 + ((List.length (sel (wd0 * hi0) (farP Xfe1 Xfx1 Xfy1)) : Nat) : Int))) rfl (y_assign rfl) ?_
        refine s_nil ?_
        refine W_seq ?_
        refine W_seq ?_
        refine W_region (by kernel_rfl) ?_
        refine s_y (v := .int .i64 (1 + ((List.length (sel (wd0 * hi0) (farP Xfe1 Xfx1 Xfy1)) : Nat) : Int))) rfl (y_move rfl) ?_
        have hk142 : ¬ ((1 + ((List.length (sel (wd0 * hi0) (farP Xfe1 Xfx1 Xfy1)) : Nat) : Int)) < 0) := (by omega)
        refine s_y (v := .bool false) rfl (y_lss rfl rfl (decide_eq_false hk142)) ?_
        refine s_nil ?_
        refine W_if_f (by decide) rfl ?_
        refine W_skip ?_
        refine W_seq ?_
        refine W_seq ?_
        refine W_region (by kernel_rfl) ?_
        refine s_y (v := .int .i64 (1 + ((List.length (sel (wd0 * hi0) (farP Xfe1 Xfx1 Xfy1)) : Nat) : Int))) rfl (y_move rfl) ?_
        refine s_y (v := .int .i64 (1 + ((List.length (sel (wd0 * hi0) (farP Xfe1 Xfx1 Xfy1)) : Nat) : Int))) rfl (y_move rfl) ?_
        refine s_y (v := .bool false) rfl (y_neq rfl rfl (decide_eq_false (fun hq => hq rfl))) ?_
        refine s_nil ?_
        refine W_if_f (by decide) rfl ?_
        refine W_skip ?_
        refine W_seq ?_
        have B0_147 := B
        refine W_draw (no) T5.mx (by kernel_rfl) (fun w145 e146 => ?_)
        have R148 := Ext.refl (no) w140
        replace R148 := R148.trans (Ext0.any e146)
        replace B := B.ext0 e146
        clear e146
        refine m_y (v := .agg #[.int .i64 wd0, .int .i64 hi0, .bool wr0, .slice asp0 nsp0 csp0, .slice als0 nls0 cls0]) 0 rfl (by kernel_rfl) rfl rfl (fun w' e' => y_loadn (b := b1) (o := 0) (vs := [.int .i64 wd0, .int .i64 hi0, .bool wr0, .slice asp0 nsp0 csp0, .slice als0 nls0 cls0]) T5.agg_45_5 rfl rfl (((B0_147.b 20 rfl).ext0 e').cells (o := 0) rfl)) ?_
        refine m_y (v := .agg #[.slice afe1 nfe1 cfe1, .slice afx1 nfx1 cfx1, .slice afy1 nfy1 cfy1]) 2 rfl (by kernel_rfl) rfl rfl (fun w' e' => y_loadn (b := b4) (o := 0) (vs := [.slice afe1 nfe1 cfe1, .slice afx1 nfx1 cfx1, .slice afy1 nfy1 cfy1]) T5.agg_46_3 rfl rfl (((B0_147.b 19 rfl).ext0 e').cells (o := 0) rfl)) ?_
        refine m_k 1 [3, 4, 5, 6, 7, 8, 9] rfl (by kernel_rfl) rfl rfl (fun w149 e150 => ?_)
        replace R148 := R148.trans (Ext0.any e150)
        replace B := B.ext0 e150
        clear e150
        refine k_call T5.fn_34 (c_l_toSheet (B.r 21 rfl) (B.r 22 rfl) (by omega) (by omega)) rfl ?_
        rintro _ w151 ⟨a152, c153, a154, c155, rfl, hN156⟩
        replace R148 := R148.trans (Ext0.any hN156.ext)
        replace B := B.new2 hN156
        clear hN156
        refine ⟨fun _ => R148, ?_⟩
        refine m_k 3 [4, 5, 6, 7, 8, 9] rfl (by kernel_rfl) rfl rfl (fun w157 e158 => ?_)
        replace R148 := R148.trans (Ext0.any e158)
        replace B := B.ext0 e158
        clear e158
        refine k_call T5.fn_35 (c_l_toField (B.r 25 rfl) (B.r 26 rfl) (B.r 27 rfl) (by omega) (by omega) (by omega)) rfl ?_
        rintro _ w159 ⟨a160, c161, a162, c163, a164, c165, rfl, hN166⟩
        replace R148 := R148.trans (Ext0.any hN166.ext)
        replace B := B.new3 hN166
        clear hN166
        refine ⟨fun _ => R148, ?_⟩
        refine m_k 4 [5, 6, 7, 8, 9] rfl (by kernel_rfl) rfl rfl (fun w167 e168 => ?_)
        replace R148 := R148.trans (Ext0.any e168)
        replace B := B.ext0 e168
        clear e168
        refine k_call T5.fn_36 (c_i_FarCells ((B.o 3 rfl).rd) ((B.o 4 rfl).rd) ((B.o 0 rfl).rd) ((B.o 1 rfl).rd) ((B.o 2 rfl).rd) (by omega) (by omega) (by omega) (by omega) (by omega)) rfl ?_
        rintro v171 w169 hx170
        obtain ⟨a172, c173, rfl, hN174⟩ := (hx170.resolve_right (fun hz => by rw [c48] at hz; cases hz.1)).2
        clear hx170
        replace R148 := R148.trans (Ext0.any hN174.ext)
        replace B := B.new1 hN174
        clear hN174
        refine ⟨fun _ => R148, ?_⟩
        have hsl175 := sel_len (wd0 * hi0) (farP Xfe1 Xfx1 Xfy1)
        refine m_y (v := .tuple #[.slice a172 (List.length (sel (wd0 * hi0) (farP Xfe1 Xfx1 Xfy1))) c173, .bool true]) 5 rfl (by kernel_rfl) rfl rfl (fun w' e' => y_move rfl) ?_
        refine m_y (v := .slice a172 (List.length (sel (wd0 * hi0) (farP Xfe1 Xfx1 Xfy1))) c173) 6 rfl (by kernel_rfl) rfl rfl (fun w' e' => y_extract rfl rfl) ?_
        refine m_y (v := .bool true) 7 rfl (by kernel_rfl) rfl rfl (fun w' e' => y_extract rfl rfl) ?_
        refine m_y (v := .slice a172 (List.length (sel (wd0 * hi0) (farP Xfe1 Xfx1 Xfy1))) c173) 8 rfl (by kernel_rfl) rfl rfl (fun w' e' => y_assign rfl) ?_
        refine m_y (v := .bool true) 9 rfl (by kernel_rfl) rfl rfl (fun w' e' => y_assign rfl) ?_
        refine m_done (by kernel_rfl) (fun w176 e177 => ?_)
        replace B := B.ext0 e177
        clear e177
        clear B0_147 R148
        refine W_seq ?_
        refine W_seq ?_
        refine W_region (by kernel_rfl) ?_
        refine s_y (v := .slice a172 (List.length (sel (wd0 * hi0) (farP Xfe1 Xfx1 Xfy1))) c173) rfl (y_move rfl) ?_
        refine s_y (v := .slice a50 (List.length (sel (wd0 * hi0) (farP Xfe1 Xfx1 Xfy1))) c51) rfl (y_move rfl) ?_
        refine s_k rfl (k_call T5.fn_37 (c_l_eqInt64S ((B.o 0 rfl).rd) ((B.o 19 rfl).rd) (by omega)) rfl ?_)
        rintro _ w178 ⟨rfl, e179⟩
        replace B := B.ext0 e179
        clear e179
        refine s_y (v := .bool false) rfl (y_not rfl rfl) ?_
        refine s_y (v := .bool false) rfl (y_move rfl) ?_
        refine s_y (v := .bool true) rfl (y_move rfl) ?_
        refine s_y (v := .bool true) rfl (y_move rfl) ?_
        refine s_y (v := .bool false) rfl (y_bneq T5.bool_4 rfl rfl rfl) ?_
        refine s_y (v := .bool false) rfl (y_pick_f rfl rfl) ?_
        refine s_nil ?_
        refine W_if_f (by decide) rfl ?_
        refine W_skip ?_
        refine W_seq ?_
        refine W_region (by kernel_rfl) ?_
        refine s_y (v := .int .i64 1) rfl (y_assign rfl) ?_
        refine s_nil ?_
        refine W_seq ?_
        refine W_region (by kernel_rfl) ?_
        refine s_y (v := .slice a83 (List.length (sel (wd0 * hi0) (farP Xfe1 Xfx1 Xfy1))) c84) rfl (y_move rfl) ?_
        refine s_y (v := .int .i64 1) rfl (y_move rfl) ?_
        refine s_k rfl (k_call T5.fn_43 (c_l_heldInt64S ((B.o 6 rfl).rd) (by omega) (by omega) (by omega)) rfl ?_)
        rintro _ w180 ⟨rfl, e181⟩
        replace B := B.ext0 e181
        clear e181
        refine s_y (v := .int .i64 (1 + ((List.length (sel (wd0 * hi0) (farP Xfe1 Xfx1 Xfy1)) : Nat) : Int))) rfl (y_assign rfl) ?_
        refine s_nil ?_
        refine W_seq ?_
        refine W_seq ?_
        refine W_region (by kernel_rfl) ?_
        refine s_y (v := .int .i64 (1 + ((List.length (sel (wd0 * hi0) (farP Xfe1 Xfx1 Xfy1)) : Nat) : Int))) rfl (y_move rfl) ?_
        refine s_y (v := .bool false) rfl (y_lss rfl rfl (decide_eq_false hk142)) ?_
        refine s_nil ?_
        refine W_if_f (by decide) rfl ?_
        refine W_skip ?_
        refine W_seq ?_
        refine W_seq ?_
        refine W_region (by kernel_rfl) ?_
        refine s_y (v := .int .i64 (1 + ((List.length (sel (wd0 * hi0) (farP Xfe1 Xfx1 Xfy1)) : Nat) : Int))) rfl (y_move rfl) ?_
        refine s_y (v := .int .i64 (1 + ((List.length (sel (wd0 * hi0) (farP Xfe1 Xfx1 Xfy1)) : Nat) : Int))) rfl (y_move rfl) ?_
        refine s_y (v := .bool false) rfl (y_neq rfl rfl (decide_eq_false (fun hq => hq rfl))) ?_
        refine s_nil ?_
        refine W_if_f (by decide) rfl ?_
        refine W_skip ?_
        refine W_seq ?_
        refine W_region (by kernel_rfl) ?_
        refine s_y (v := .bool true) rfl (y_assign rfl) ?_
        refine s_nil ?_
        refine W_ret ?_
        refine ret1 (v := .bool true) rfl rfl rfl ⟨_, rfl, ?_⟩
        exact ⟨rfl, B.ext⟩
      · obtain ⟨_, rfl, e182⟩ := hx46.resolve_left (fun hz => c48 hz.1)
        clear hx46
        replace R24 := R24.trans (Ext0.any e182)
        replace B := B.ext0 e182
        clear e182
        refine ⟨fun _ => R24, ?_⟩
        refine m_y (v := .tuple #[.slice none 0 0, .bool false]) 5 rfl (by kernel_rfl) rfl rfl (fun w' e' => y_move rfl) ?_
        refine m_y (v := .slice none 0 0) 6 rfl (by kernel_rfl) rfl rfl (fun w' e' => y_extract rfl rfl) ?_
        refine m_y (v := .bool false) 7 rfl (by kernel_rfl) rfl rfl (fun w' e' => y_extract rfl rfl) ?_
        refine m_y (v := .slice none 0 0) 8 rfl (by kernel_rfl) rfl rfl (fun w' e' => y_assign rfl) ?_
        refine m_y (v := .bool false) 9 rfl (by kernel_rfl) rfl rfl (fun w' e' => y_assign rfl) ?_
        refine m_done (by kernel_rfl) (fun w183 e184 => ?_)
        replace B := B.ext0 e184
        clear e184
        clear B0_23 R24
        refine W_seq ?_
        refine W_region (by kernel_rfl) ?_
        refine s_y (v := .agg #[.int .i64 wd0, .int .i64 hi0, .bool wr0, .slice asp0 nsp0 csp0, .slice als0 nls0 cls0]) rfl (y_loadn (b := b1) (o := 0) (vs := [.int .i64 wd0, .int .i64 hi0, .bool wr0, .slice asp0 nsp0 csp0, .slice als0 nls0 cls0]) T5.agg_45_5 rfl rfl ((B.b 6 rfl).cells (o := 0) rfl)) ?_
        refine s_k rfl (k_call T5.fn_34 (c_l_toSheet (B.r 7 rfl) (B.r 8 rfl) (by omega) (by omega)) rfl ?_)
        rintro _ w185 ⟨a186, c187, a188, c189, rfl, hN190⟩
        replace B := B.new2 hN190
        clear hN190
        refine s_k rfl (k_allocN (z := (.agg #[.int .i64 0, .int .i64 0, .bool false, .slice none 0 0, .slice none 0 0])) (cs := [.int .i64 0, .int .i64 0, .bool false, .slice none 0 0, .slice none 0 0]) T5.zero_26 rfl (fun b191 w192 hN193 => ?_))
        replace B := B.new1 hN193
        clear hN193
        refine s_k0 rfl (k_stB (v := .agg #[.int .i64 wd0, .int .i64 hi0, .bool wr0, .slice a186 nsp0 c187, .slice a188 nls0 c189]) (n := 5) (cs' := [.int .i64 wd0, .int .i64 hi0, .bool wr0, .slice a186 nsp0 c187, .slice a188 nls0 c189]) T5.sz_26_5 rfl rfl rfl (B.b 0 rfl) (by simp [Value.cells, Value.oneCell']) (Nat.le_of_ble_eq_true rfl) rfl (fun w194 hU195 => ?_))
        replace B : Bu w no w194 [.blk b191 [.int .i64 wd0, .int .i64 hi0, .bool wr0, .slice a186 nsp0 c187, .slice a188 nls0 c189] 26, .ow kF a186 nsp0 c187 35 Xsp0, .ow kF a188 nls0 c189 35 Xls0, .ow kF a36 nfe1 c37 35 Xfe1, .ow kF a38 nfx1 c39 35 Xfx1, .ow kF a40 nfy1 c41 35 Xfy1, .ow kF a28 nsp0 c29 35 Xsp0, .ow kF a30 nls0 c31 35 Xls0, .blk b4 [.slice afe1 nfe1 cfe1, .slice afx1 nfx1 cfx1, .slice afy1 nfy1 cfy1] 46, .blk b1 [.int .i64 wd0, .int .i64 hi0, .bool wr0, .slice asp0 nsp0 csp0, .slice als0 nls0 cls0] 45, .rd kF asp0 nsp0 Xsp0, .rd kF als0 nls0 Xls0, .rd kF afe1 nfe1 Xfe1, .rd kF afx1 nfx1 Xfx1, .rd kF afy1 nfy1 Xfy1] := B.upd [0] rfl hU195
        clear hU195
        refine s_nil ?_
        refine W_seq ?_
        refine W_region (by kernel_rfl) ?_
        refine s_y (v := .agg #[.slice afe1 nfe1 cfe1, .slice afx1 nfx1 cfx1, .slice afy1 nfy1 cfy1]) rfl (y_loadn (b := b4) (o := 0) (vs := [.slice afe1 nfe1 cfe1, .slice afx1 nfx1 cfx1, .slice afy1 nfy1 cfy1]) T5.agg_46_3 rfl rfl ((B.b 8 rfl).cells (o := 0) rfl)) ?_
        refine s_k rfl (k_call T5.fn_35 (c_l_toField (B.r 12 rfl) (B.r 13 rfl) (B.r 14 rfl) (by omega) (by omega) (by omega)) rfl ?_)
        rintro _ w196 ⟨a197, c198, a199, c200, a201, c202, rfl, hN203⟩
        replace B := B.new3 hN203
        clear hN203
        refine s_k rfl (k_allocN (z := (.agg #[.slice none 0 0, .slice none 0 0, .slice none 0 0])) (cs := [.slice none 0 0, .slice none 0 0, .slice none 0 0]) T5.zero_29 rfl (fun b204 w205 hN206 => ?_))
        replace B := B.new1 hN206
        clear hN206
        refine s_k0 rfl (k_stB (v := .agg #[.slice a197 nfe1 c198, .slice a199 nfx1 c200, .slice a201 nfy1 c202]) (n := 3) (cs' := [.slice a197 nfe1 c198, .slice a199 nfx1 c200, .slice a201 nfy1 c202]) T5.sz_29_3 rfl rfl rfl (B.b 0 rfl) (by simp [Value.cells, Value.oneCell']) (Nat.le_of_ble_eq_true rfl) rfl (fun w207 hU208 => ?_))
        replace B : Bu w no w207 [.blk b204 [.slice a197 nfe1 c198, .slice a199 nfx1 c200, .slice a201 nfy1 c202] 29, .ow kF a197 nfe1 c198 35 Xfe1, .ow kF a199 nfx1 c200 35 Xfx1, .ow kF a201 nfy1 c202 35 Xfy1, .blk b191 [.int .i64 wd0, .int .i64 hi0, .bool wr0, .slice a186 nsp0 c187, .slice a188 nls0 c189] 26, .ow kF a186 nsp0 c187 35 Xsp0, .ow kF a188 nls0 c189 35 Xls0, .ow kF a36 nfe1 c37 35 Xfe1, .ow kF a38 nfx1 c39 35 Xfx1, .ow kF a40 nfy1 c41 35 Xfy1, .ow kF a28 nsp0 c29 35 Xsp0, .ow kF a30 nls0 c31 35 Xls0, .blk b4 [.slice afe1 nfe1 cfe1, .slice afx1 nfx1 cfx1, .slice afy1 nfy1 cfy1] 46, .blk b1 [.int .i64 wd0, .int .i64 hi0, .bool wr0, .slice asp0 nsp0 csp0, .slice als0 nls0 cls0] 45, .rd kF asp0 nsp0 Xsp0, .rd kF als0 nls0 Xls0, .rd kF afe1 nfe1 Xfe1, .rd kF afx1 nfx1 Xfx1, .rd kF afy1 nfy1 Xfy1] := B.upd [0] rfl hU208
        clear hU208
        refine s_nil ?_
        refine W_seq ?_
        refine W_region (by kernel_rfl) ?_
        refine s_y (v := .agg #[.int .i64 wd0, .int .i64 hi0, .bool wr0, .slice a186 nsp0 c187, .slice a188 nls0 c189]) rfl (y_loadn (b := b191) (o := 0) (vs := [.int .i64 wd0, .int .i64 hi0, .bool wr0, .slice a186 nsp0 c187, .slice a188 nls0 c189]) T5.agg_26_5 rfl rfl ((B.b 4 rfl).cells (o := 0) rfl)) ?_
        refine s_y (v := .agg #[.slice a197 nfe1 c198, .slice a199 nfx1 c200, .slice a201 nfy1 c202]) rfl (y_loadn (b := b204) (o := 0) (vs := [.slice a197 nfe1 c198, .slice a199 nfx1 c200, .slice a201 nfy1 c202]) T5.agg_29_3 rfl rfl ((B.b 0 rfl).cells (o := 0) rfl)) ?_
        refine s_k rfl (k_call T5.fn_36 (c_i_FarCells ((B.o 5 rfl).rd) ((B.o 6 rfl).rd) ((B.o 1 rfl).rd) ((B.o 2 rfl).rd) ((B.o 3 rfl).rd) (by omega) (by omega) (by omega) (by omega) (by omega)) rfl ?_)
        rintro v211 w209 hx210
        obtain ⟨_, rfl, e212⟩ := hx210.resolve_left (fun hz => c48 hz.1)
        clear hx210
        replace B := B.ext0 e212
        clear e212
        refine s_y (v := .tuple #[.slice none 0 0, .bool false]) rfl (y_move rfl) ?_
        refine s_y (v := .slice none 0 0) rfl (y_extract rfl rfl) ?_
        refine s_y (v := .bool false) rfl (y_extract rfl rfl) ?_
        refine s_y (v := .slice none 0 0) rfl (y_assign rfl) ?_
        refine s_y (v := .bool false) rfl (y_assign rfl) ?_
        refine s_nil ?_
        refine W_seq ?_
        refine W_seq ?_
        refine W_region (by kernel_rfl) ?_
        refine s_y (v := .slice none 0 0) rfl (y_move rfl) ?_
        refine s_y (v := .slice none 0 0) rfl (y_move rfl) ?_
        refine s_k rfl (k_call T5.fn_37 (c_l_eqInt64S (Rd.nil _ kI none) (Rd.nil _ kI none) (by omega)) rfl ?_)
        rintro _ w213 ⟨rfl, e214⟩
        replace B := B.ext0 e214
        clear e214
        refine s_y (v := .bool false) rfl (y_not rfl rfl) ?_
        refine s_y (v := .bool false) rfl (y_move rfl) ?_
        refine s_y (v := .bool false) rfl (y_move rfl) ?_
        refine s_y (v := .bool false) rfl (y_move rfl) ?_
        refine s_y (v := .bool false) rfl (y_bneq T5.bool_4 rfl rfl rfl) ?_
        refine s_y (v := .bool false) rfl (y_pick_f rfl rfl) ?_
        refine s_nil ?_
        refine W_if_f (by decide) rfl ?_
        refine W_skip ?_
        refine W_seq ?_
        refine W_seq ?_
        have B0_219 := B
        refine W_draw (no) T5.mx (by kernel_rfl) (fun w217 e218 => ?_)
        have R220 := Ext.refl (no) w213
        replace R220 := R220.trans (Ext0.any e218)
        replace B := B.ext0 e218
        clear e218
        refine m_y (v := .agg #[.int .i64 wd0, .int .i64 hi0, .bool wr0, .slice a186 nsp0 c187, .slice a188 nls0 c189]) 0 rfl (by kernel_rfl) rfl rfl (fun w' e' => y_loadn (b := b191) (o := 0) (vs := [.int .i64 wd0, .int .i64 hi0, .bool wr0, .slice a186 nsp0 c187, .slice a188 nls0 c189]) T5.agg_26_5 rfl rfl (((B0_219.b 4 rfl).ext0 e').cells (o := 0) rfl)) ?_
        refine m_y (v := .agg #[.int .i64 wd0, .int .i64 hi0, .bool wr0, .slice asp0 nsp0 csp0, .slice als0 nls0 cls0]) 1 rfl (by kernel_rfl) rfl rfl (fun w' e' => y_loadn (b := b1) (o := 0) (vs := [.int .i64 wd0, .int .i64 hi0, .bool wr0, .slice asp0 nsp0 csp0, .slice als0 nls0 cls0]) T5.agg_45_5 rfl rfl (((B0_219.b 13 rfl).ext0 e').cells (o := 0) rfl)) ?_
        refine m_k 2 [3, 4] rfl (by kernel_rfl) rfl rfl (fun w221 e222 => ?_)
        replace R220 := R220.trans (Ext0.any e222)
        replace B := B.ext0 e222
        clear e222
        refine k_call T5.fn_34 (c_l_toSheet (B.r 14 rfl) (B.r 15 rfl) (by omega) (by omega)) rfl ?_
        rintro _ w223 ⟨a224, c225, a226, c227, rfl, hN228⟩
        replace R220 := R220.trans (Ext0.any hN228.ext)
        replace B := B.new2 hN228
        clear hN228
        refine ⟨fun _ => R220, ?_⟩
        refine m_k 3 [4] rfl (by kernel_rfl) rfl rfl (fun w229 e230 => ?_)
        replace R220 := R220.trans (Ext0.any e230)
        replace B := B.ext0 e230
        clear e230
        refine k_call T5.fn_38 (c_l_eqSheet ((B.o 7 rfl).rd) ((B.o 8 rfl).rd) ((B.o 0 rfl).rd) ((B.o 1 rfl).rd) (by omega) (by omega)) rfl ?_
        rintro _ w231 ⟨rfl, e232⟩
        replace R220 := R220.trans (Ext0.any e232)
        replace B := B.ext0 e232
        clear e232
        refine ⟨fun _ => R220, ?_⟩
        refine m_y (v := .bool false) 4 rfl (by kernel_rfl) rfl rfl (fun w' e' => y_not rfl rfl) ?_
        refine m_done (by kernel_rfl) (fun w233 e234 => ?_)
        replace B := B.ext0 e234
        clear e234
        clear B0_219 R220
        refine W_if_f (by decide) rfl ?_
        refine W_skip ?_
        refine W_seq ?_
        refine W_seq ?_
        have B0_239 := B
        refine W_draw (no) T5.mx (by kernel_rfl) (fun w237 e238 => ?_)
        have R240 := Ext.refl (no) w233
        replace R240 := R240.trans (Ext0.any e238)
        replace B := B.ext0 e238
        clear e238
        refine m_y (v := .agg #[.slice a197 nfe1 c198, .slice a199 nfx1 c200, .slice a201 nfy1 c202]) 0 rfl (by kernel_rfl) rfl rfl (fun w' e' => y_loadn (b := b204) (o := 0) (vs := [.slice a197 nfe1 c198, .slice a199 nfx1 c200, .slice a201 nfy1 c202]) T5.agg_29_3 rfl rfl (((B0_239.b 2 rfl).ext0 e').cells (o := 0) rfl)) ?_
        refine m_y (v := .agg #[.slice afe1 nfe1 cfe1, .slice afx1 nfx1 cfx1, .slice afy1 nfy1 cfy1]) 1 rfl (by kernel_rfl) rfl rfl (fun w' e' => y_loadn (b := b4) (o := 0) (vs := [.slice afe1 nfe1 cfe1, .slice afx1 nfx1 cfx1, .slice afy1 nfy1 cfy1]) T5.agg_46_3 rfl rfl (((B0_239.b 14 rfl).ext0 e').cells (o := 0) rfl)) ?_
        refine m_k 2 [3, 4] rfl (by kernel_rfl) rfl rfl (fun w241 e242 => ?_)
        replace R240 := R240.trans (Ext0.any e242)
        replace B := B.ext0 e242
        clear e242
        refine k_call T5.fn_35 (c_l_toField (B.r 18 rfl) (B.r 19 rfl) (B.r 20 rfl) (by omega) (by omega) (by omega)) rfl ?_
        rintro _ w243 ⟨a244, c245, a246, c247, a248, c249, rfl, hN250⟩
        replace R240 := R240.trans (Ext0.any hN250.ext)
        replace B := B.new3 hN250
        clear hN250
        refine ⟨fun _ => R240, ?_⟩
        refine m_k 3 [4] rfl (by kernel_rfl) rfl rfl (fun w251 e252 => ?_)
        replace R240 := R240.trans (Ext0.any e252)
        replace B := B.ext0 e252
        clear e252
        refine k_call T5.fn_39 (c_l_eqField ((B.o 6 rfl).rd) ((B.o 7 rfl).rd) ((B.o 8 rfl).rd) ((B.o 0 rfl).rd) ((B.o 1 rfl).rd) ((B.o 2 rfl).rd) (by omega) (by omega) (by omega)) rfl ?_
        rintro _ w253 ⟨rfl, e254⟩
        replace R240 := R240.trans (Ext0.any e254)
        replace B := B.ext0 e254
        clear e254
        refine ⟨fun _ => R240, ?_⟩
        refine m_y (v := .bool false) 4 rfl (by kernel_rfl) rfl rfl (fun w' e' => y_not rfl rfl) ?_
        refine m_done (by kernel_rfl) (fun w255 e256 => ?_)
        replace B := B.ext0 e256
        clear e256
        clear B0_239 R240
        refine W_if_f (by decide) rfl ?_
        refine W_skip ?_
        refine W_seq ?_
        refine W_region (by kernel_rfl) ?_
        refine s_y (v := .int .i64 1) rfl (y_assign rfl) ?_
        refine s_nil ?_
        refine W_seq ?_
        refine W_region (by kernel_rfl) ?_
        refine s_y (v := .agg #[.int .i64 wd0, .int .i64 hi0, .bool wr0, .slice a186 nsp0 c187, .slice a188 nls0 c189]) rfl (y_loadn (b := b191) (o := 0) (vs := [.int .i64 wd0, .int .i64 hi0, .bool wr0, .slice a186 nsp0 c187, .slice a188 nls0 c189]) T5.agg_26_5 rfl rfl ((B.b 9 rfl).cells (o := 0) rfl)) ?_
        refine s_y (v := .int .i64 1) rfl (y_move rfl) ?_
        refine s_k rfl (k_call T5.fn_40 (c_l_markSheet (by omega) (by omega) (by omega) (by omega) (B.all.pick [10, 11] rfl) (B.pw.pick [10, 11] rfl rfl)) rfl ?_)
        rintro _ w257 ⟨rfl, hU258⟩
        replace B : Bu w no w257 [.ow kF a186 nsp0 c187 35 (marks 1 nsp0), .ow kF a188 nls0 c189 35 (marks (1 + ((nsp0 : Nat) : Int)) nls0), .ow kF a244 nfe1 c245 35 Xfe1, .ow kF a246 nfx1 c247 35 Xfx1, .ow kF a248 nfy1 c249 35 Xfy1, .ow kF a224 nsp0 c225 35 Xsp0, .ow kF a226 nls0 c227 35 Xls0, .blk b204 [.slice a197 nfe1 c198, .slice a199 nfx1 c200, .slice a201 nfy1 c202] 29, .ow kF a197 nfe1 c198 35 Xfe1, .ow kF a199 nfx1 c200 35 Xfx1, .ow kF a201 nfy1 c202 35 Xfy1, .blk b191 [.int .i64 wd0, .int .i64 hi0, .bool wr0, .slice a186 nsp0 c187, .slice a188 nls0 c189] 26, .ow kF a36 nfe1 c37 35 Xfe1, .ow kF a38 nfx1 c39 35 Xfx1, .ow kF a40 nfy1 c41 35 Xfy1, .ow kF a28 nsp0 c29 35 Xsp0, .ow kF a30 nls0 c31 35 Xls0, .blk b4 [.slice afe1 nfe1 cfe1, .slice afx1 nfx1 cfx1, .slice afy1 nfy1 cfy1] 46, .blk b1 [.int .i64 wd0, .int .i64 hi0, .bool wr0, .slice asp0 nsp0 csp0, .slice als0 nls0 cls0] 45, .rd kF asp0 nsp0 Xsp0, .rd kF als0 nls0 Xls0, .rd kF afe1 nfe1 Xfe1, .rd kF afx1 nfx1 Xfx1, .rd kF afy1 nfy1 Xfy1] := B.upd [10, 11] rfl hU258
        clear hU258
        refine s_y (v := .int .i64 (1 + ((nsp0 : Nat) : Int) + ((nls0 : Nat) : Int))) rfl (y_assign rfl) ?_
        refine s_nil ?_
        refine W_seq ?_
        refine W_region (by kernel_rfl) ?_
        refine s_y (v := .agg #[.slice a197 nfe1 c198, .slice a199 nfx1 c200, .slice a201 nfy1 c202]) rfl (y_loadn (b := b204) (o := 0) (vs := [.slice a197 nfe1 c198, .slice a199 nfx1 c200, .slice a201 nfy1 c202]) T5.agg_29_3 rfl rfl ((B.b 7 rfl).cells (o := 0) rfl)) ?_
        refine s_y (v := .int .i64 (1 + ((nsp0 : Nat) : Int) + ((nls0 : Nat) : Int))) rfl (y_move rfl) ?_
        refine s_k rfl (k_call T5.fn_41 (c_l_markField (by omega) (by omega) (by omega) (by omega) (by omega) (B.all.pick [8, 9, 10] rfl) (B.pw.pick [8, 9, 10] rfl rfl)) rfl ?_)
        rintro _ w259 ⟨rfl, hU260⟩
        replace B : Bu w no w259 [.ow kF a197 nfe1 c198 35 (marks (1 + ((nsp0 : Nat) : Int) + ((nls0 : Nat) : Int)) nfe1), .ow kF a199 nfx1 c200 35 (marks ((1 + ((nsp0 : Nat) : Int) + ((nls0 : Nat) : Int)) + ((nfe1 : Nat) : Int)) nfx1), .ow kF a201 nfy1 c202 35 (marks ((1 + ((nsp0 : Nat) : Int) + ((nls0 : Nat) : Int)) + ((nfe1 : Nat) : Int) + ((nfx1 : Nat) : Int)) nfy1), .ow kF a186 nsp0 c187 35 (marks 1 nsp0), .ow kF a188 nls0 c189 35 (marks (1 + ((nsp0 : Nat) : Int)) nls0), .ow kF a244 nfe1 c245 35 Xfe1, .ow kF a246 nfx1 c247 35 Xfx1, .ow kF a248 nfy1 c249 35 Xfy1, .ow kF a224 nsp0 c225 35 Xsp0, .ow kF a226 nls0 c227 35 Xls0, .blk b204 [.slice a197 nfe1 c198, .slice a199 nfx1 c200, .slice a201 nfy1 c202] 29, .blk b191 [.int .i64 wd0, .int .i64 hi0, .bool wr0, .slice a186 nsp0 c187, .slice a188 nls0 c189] 26, .ow kF a36 nfe1 c37 35 Xfe1, .ow kF a38 nfx1 c39 35 Xfx1, .ow kF a40 nfy1 c41 35 Xfy1, .ow kF a28 nsp0 c29 35 Xsp0, .ow kF a30 nls0 c31 35 Xls0, .blk b4 [.slice afe1 nfe1 cfe1, .slice afx1 nfx1 cfx1, .slice afy1 nfy1 cfy1] 46, .blk b1 [.int .i64 wd0, .int .i64 hi0, .bool wr0, .slice asp0 nsp0 csp0, .slice als0 nls0 cls0] 45, .rd kF asp0 nsp0 Xsp0, .rd kF als0 nls0 Xls0, .rd kF afe1 nfe1 Xfe1, .rd kF afx1 nfx1 Xfx1, .rd kF afy1 nfy1 Xfy1] := B.upd [8, 9, 10] rfl hU260
        clear hU260
        refine s_y (v := .int .i64 ((1 + ((nsp0 : Nat) : Int) + ((nls0 : Nat) : Int)) + ((nfe1 : Nat) : Int) + ((nfx1 : Nat) : Int) + ((nfy1 : Nat) : Int))) rfl (y_assign rfl) ?_
        refine s_nil ?_
        refine W_seq ?_
        refine W_seq ?_
        refine W_region (by kernel_rfl) ?_
        refine s_y (v := .int .i64 ((1 + ((nsp0 : Nat) : Int) + ((nls0 : Nat) : Int)) + ((nfe1 : Nat) : Int) + ((nfx1 : Nat) : Int) + ((nfy1 : Nat) : Int))) rfl (y_move rfl) ?_
        have hk261 : ¬ (((1 + ((nsp0 : Nat) : Int) + ((nls0 : Nat) : Int)) + ((nfe1 : Nat) : Int) + ((nfx1 : Nat) : Int) + ((nfy1 : Nat) : Int)) < 0) := (by omega)
        refine s_y (v := .bool false) rfl (y_lss rfl rfl (decide_eq_false hk261)) ?_
        refine s_y (v := .bool false) rfl (y_move rfl) ?_
        refine s_y (v := .slice none 0 0) rfl (y_move rfl) ?_
        refine s_y (v := .slice none 0 0) rfl (y_move rfl) ?_
        refine s_k rfl (k_call T5.fn_37 (c_l_eqInt64S (Rd.nil _ kI none) (Rd.nil _ kI none) (by omega)) rfl ?_)
        rintro _ w262 ⟨rfl, e263⟩
        replace B := B.ext0 e263
        clear e263
        refine s_y (v := .bool false) rfl (y_not rfl rfl) ?_
        refine s_y (v := .bool false) rfl (y_pick_f rfl rfl) ?_
        refine s_y (v := .bool false) rfl (y_move rfl) ?_
        refine s_y (v := .bool false) rfl (y_move rfl) ?_
        refine s_y (v := .bool false) rfl (y_move rfl) ?_
        refine s_y (v := .bool false) rfl (y_bneq T5.bool_4 rfl rfl rfl) ?_
        refine s_y (v := .bool false) rfl (y_pick_f rfl rfl) ?_
        refine s_nil ?_
        refine W_if_f (by decide) rfl ?_
        refine W_skip ?_
        refine W_seq ?_
        refine W_region (by kernel_rfl) ?_
        refine s_y (v := .int .i64 1) rfl (y_assign rfl) ?_
        refine s_nil ?_
        refine W_seq ?_
        refine W_region (by kernel_rfl) ?_
        refine s_y (v := .slice none 0 0) rfl (y_move rfl) ?_
        refine s_y (v := .int .i64 1) rfl (y_move rfl) ?_
        refine s_k rfl (k_call T5.fn_42 (c_l_markInt64S (by decide) (by omega) (by omega) (All.cons (Ow.nil _ kI 2 : Fact.holds _ (.ow kI none 0 0 2 [])) <| All.nil) (Pw.nils (by intro f hf; simp only [List.mem_cons, List.not_mem_nil, or_false] at hf; rcases hf with rfl <;> exact no_none))) rfl ?_)
        rintro _ w264 ⟨rfl, hU265⟩
        replace hU265 := Upd.nils hU265 (by intro f hf; simp only [List.mem_cons, List.not_mem_nil, or_false] at hf; rcases hf with rfl <;> exact no_none)
        replace B := B.ext0 hU265
        clear hU265
        refine s_y (v := .int .i64 (1 + ((0 : Nat) : Int))) rfl (y_assign rfl) ?_
        refine s_nil ?_
        refine W_seq ?_
        refine W_region (by kernel_rfl) ?_
        refine s_y (v := .int .i64 1) rfl (y_assign rfl) ?_
        refine s_nil ?_
        refine W_seq ?_
        refine W_region (by kernel_rfl) ?_
        refine s_y (v := .slice none 0 0) rfl (y_move rfl) ?_
        refine s_y (v := .int .i64 1) rfl (y_move rfl) ?_
        refine s_k rfl (k_call T5.fn_43 (c_l_heldInt64S (k := 1) (Rd.nil _ kI none : Rd _ kI none 0 (imarks 1 0)) (by decide) (by omega) (by omega)) rfl ?_)
        rintro _ w266 ⟨rfl, e267⟩
        replace B := B.ext0 e267
        clear e267
        refine s_y (v := .int .i64 (1 + ((0 : Nat) : Int))) rfl (y_assign rfl) ?_
        refine s_nil ?_
        refine W_seq ?_
        refine W_seq ?_
        refine W_region (by kernel_rfl) ?_
        refine s_y (v := .int .i64 (1 + ((0 : Nat) : Int))) rfl (y_move rfl) ?_
        have hk268 : ¬ ((1 + ((0 : Nat) : Int)) < 0) := (by omega)
        refine s_y (v := .bool false) rfl (y_lss rfl rfl (decide_eq_false hk268)) ?_
        refine s_nil ?_
        refine W_if_f (by decide) rfl ?_
        refine W_skip ?_
        refine W_seq ?_
        refine W_seq ?_
        refine W_region (by kernel_rfl) ?_
        refine s_y (v := .int .i64 (1 + ((0 : Nat) : Int))) rfl (y_move rfl) ?_
        refine s_y (v := .int .i64 (1 + ((0 : Nat) : Int))) rfl (y_move rfl) ?_
        refine s_y (v := .bool false) rfl (y_neq rfl rfl (decide_eq_false (fun hq => hq rfl))) ?_
        refine s_nil ?_
        refine W_if_f (by decide) rfl ?_
        refine W_skip ?_
        refine W_seq ?_
        have B0_273 := B
        refine W_draw (no) T5.mx (by kernel_rfl) (fun w271 e272 => ?_)
        have R274 := Ext.refl (no) w266
        replace R274 := R274.trans (Ext0.any e272)
        replace B := B.ext0 e272
        clear e272
        refine m_y (v := .agg #[.int .i64 wd0, .int .i64 hi0, .bool wr0, .slice asp0 nsp0 csp0, .slice als0 nls0 cls0]) 0 rfl (by kernel_rfl) rfl rfl (fun w' e' => y_loadn (b := b1) (o := 0) (vs := [.int .i64 wd0, .int .i64 hi0, .bool wr0, .slice asp0 nsp0 csp0, .slice als0 nls0 cls0]) T5.agg_45_5 rfl rfl (((B0_273.b 18 rfl).ext0 e').cells (o := 0) rfl)) ?_
        refine m_y (v := .agg #[.slice afe1 nfe1 cfe1, .slice afx1 nfx1 cfx1, .slice afy1 nfy1 cfy1]) 2 rfl (by kernel_rfl) rfl rfl (fun w' e' => y_loadn (b := b4) (o := 0) (vs := [.slice afe1 nfe1 cfe1, .slice afx1 nfx1 cfx1, .slice afy1 nfy1 cfy1]) T5.agg_46_3 rfl rfl (((B0_273.b 17 rfl).ext0 e').cells (o := 0) rfl)) ?_
        refine m_k 1 [3, 4, 5, 6, 7, 8, 9] rfl (by kernel_rfl) rfl rfl (fun w275 e276 => ?_)
        replace R274 := R274.trans (Ext0.any e276)
        replace B := B.ext0 e276
        clear e276
        refine k_call T5.fn_34 (c_l_toSheet (B.r 19 rfl) (B.r 20 rfl) (by omega) (by omega)) rfl ?_
        rintro _ w277 ⟨a278, c279, a280, c281, rfl, hN282⟩
        replace R274 := R274.trans (Ext0.any hN282.ext)
        replace B := B.new2 hN282
        clear hN282
        refine ⟨fun _ => R274, ?_⟩
        refine m_k 3 [4, 5, 6, 7, 8, 9] rfl (by kernel_rfl) rfl rfl (fun w283 e284 => ?_)
        replace R274 := R274.trans (Ext0.any e284)
        replace B := B.ext0 e284
        clear e284
        refine k_call T5.fn_35 (c_l_toField (B.r 23 rfl) (B.r 24 rfl) (B.r 25 rfl) (by omega) (by omega) (by omega)) rfl ?_
        rintro _ w285 ⟨a286, c287, a288, c289, a290, c291, rfl, hN292⟩
        replace R274 := R274.trans (Ext0.any hN292.ext)
        replace B := B.new3 hN292
        clear hN292
        refine ⟨fun _ => R274, ?_⟩
        refine m_k 4 [5, 6, 7, 8, 9] rfl (by kernel_rfl) rfl rfl (fun w293 e294 => ?_)
        replace R274 := R274.trans (Ext0.any e294)
        replace B := B.ext0 e294
        clear e294
        refine k_call T5.fn_36 (c_i_FarCells ((B.o 3 rfl).rd) ((B.o 4 rfl).rd) ((B.o 0 rfl).rd) ((B.o 1 rfl).rd) ((B.o 2 rfl).rd) (by omega) (by omega) (by omega) (by omega) (by omega)) rfl ?_
        rintro v297 w295 hx296
        obtain ⟨_, rfl, e298⟩ := hx296.resolve_left (fun hz => c48 hz.1)
        clear hx296
        replace R274 := R274.trans (Ext0.any e298)
        replace B := B.ext0 e298
        clear e298
        refine ⟨fun _ => R274, ?_⟩
        refine m_y (v := .tuple #[.slice none 0 0, .bool false]) 5 rfl (by kernel_rfl) rfl rfl (fun w' e' => y_move rfl) ?_
        refine m_y (v := .slice none 0 0) 6 rfl (by kernel_rfl) rfl rfl (fun w' e' => y_extract rfl rfl) ?_
        refine m_y (v := .bool false) 7 rfl (by kernel_rfl) rfl rfl (fun w' e' => y_extract rfl rfl) ?_
        refine m_y (v := .slice none 0 0) 8 rfl (by kernel_rfl) rfl rfl (fun w' e' => y_assign rfl) ?_
        refine m_y (v := .bool false) 9 rfl (by kernel_rfl) rfl rfl (fun w' e' => y_assign rfl) ?_
        refine m_done (by kernel_rfl) (fun w299 e300 => ?_)
        replace B := B.ext0 e300
        clear e300
        clear B0_273 R274
        refine W_seq ?_
        refine W_seq ?_
        refine W_region (by kernel_rfl) ?_
        refine s_y (v := .slice none 0 0) rfl (y_move rfl) ?_
        refine s_y (v := .slice none 0 0) rfl (y_move rfl) ?_
        refine s_k rfl (k_call T5.fn_37 (c_l_eqInt64S (Rd.nil _ kI none) (Rd.nil _ kI none) (by omega)) rfl ?_)
        rintro _ w301 ⟨rfl, e302⟩
        replace B := B.ext0 e302
        clear e302
        refine s_y (v := .bool false) rfl (y_not rfl rfl) ?_
        refine s_y (v := .bool false) rfl (y_move rfl) ?_
        refine s_y (v := .bool false) rfl (y_move rfl) ?_
        refine s_y (v := .bool false) rfl (y_move rfl) ?_
        refine s_y (v := .bool false) rfl (y_bneq T5.bool_4 rfl rfl rfl) ?_
        refine s_y (v := .bool false) rfl (y_pick_f rfl rfl) ?_
        refine s_nil ?_
        refine W_if_f (by decide) rfl ?_
        refine W_skip ?_
        refine W_seq ?_
        refine W_region (by kernel_rfl) ?_
        refine s_y (v := .int .i64 1) rfl (y_assign rfl) ?_
        refine s_nil ?_
        refine W_seq ?_
        refine W_region (by kernel_rfl) ?_
        refine s_y (v := .slice none 0 0) rfl (y_move rfl) ?_
        refine s_y (v := .int .i64 1) rfl (y_move rfl) ?_
        refine s_k rfl (k_call T5.fn_43 (c_l_heldInt64S (k := 1) (Rd.nil _ kI none : Rd _ kI none 0 (imarks 1 0)) (by decide) (by omega) (by omega)) rfl ?_)
        rintro _ w303 ⟨rfl, e304⟩
        replace B := B.ext0 e304
        clear e304
        refine s_y (v := .int .i64 (1 + ((0 : Nat) : Int))) rfl (y_assign rfl) ?_
        refine s_nil ?_
        refine W_seq ?_
        refine W_seq ?_
        refine W_region (by kernel_rfl) ?_
        refine s_y (v := .int .i64 (1 + ((0 : Nat) : Int))) rfl (y_move rfl) ?_
        refine s_y (v := .bool false) rfl (y_lss rfl rfl (decide_eq_false hk268)) ?_
        refine s_nil ?_
        refine W_if_f (by decide) rfl ?_
        refine W_skip ?_
        refine W_seq ?_
        refine W_seq ?_
        refine W_region (by kernel_rfl) ?_
        refine s_y (v := .int .i64 (1 + ((0 : Nat) : Int))) rfl (y_move rfl) ?_
        refine s_y (v := .int .i64 (1 + ((0 : Nat) : Int))) rfl (y_move rfl) ?_
        refine s_y (v := .bool false) rfl (y_neq rfl rfl (decide_eq_false (fun hq => hq rfl))) ?_
        refine s_nil ?_
        refine W_if_f (by decide) rfl ?_
        refine W_skip ?_
        refine W_seq ?_
        refine W_region (by kernel_rfl) ?_
        refine s_y (v := .bool true) rfl (y_assign rfl) ?_
        refine s_nil ?_
        refine W_ret ?_
        refine ret1 (v := .bool true) rfl rfl rfl ⟨_, rfl, ?_⟩
        exact ⟨rfl, B.ext⟩
    · obtain rfl : v15 = .int .i64 (-1) := hv16.trans (congrArg _ (if_neg c17))
      refine s_y (v := .int .i64 (-1)) rfl (y_assign rfl) ?_
      refine s_nil ?_
      refine W_seq ?_
      refine W_seq ?_
      refine W_region (by kernel_rfl) ?_
      refine s_y (v := .int .i64 (-1)) rfl (y_move rfl) ?_
      have hk305 : (-1 : Int) < 0 := (by decide)
      refine s_y (v := .bool true) rfl (y_lss rfl rfl (decide_eq_true hk305)) ?_
      refine s_nil ?_
      refine W_if_t (by decide) rfl ?_
      refine W_seq ?_
      refine W_region (by kernel_rfl) ?_
      refine s_y (v := .bool true) rfl (y_assign rfl) ?_
      refine s_nil ?_
      refine W_ret ?_
      refine ret1 (v := .bool true) rfl rfl rfl ⟨_, rfl, ?_⟩
      exact ⟨rfl, B.ext⟩
  · obtain rfl : v9 = .int .i64 (-1) := hv10.trans (congrArg _ (if_neg c11))
    refine s_y (v := .int .i64 (-1)) rfl (y_assign rfl) ?_
    refine s_nil ?_
    refine W_seq ?_
    refine W_seq ?_
    refine W_region (by kernel_rfl) ?_
    refine s_y (v := .int .i64 (-1)) rfl (y_move rfl) ?_
    have hk306 : (-1 : Int) < 0 := (by decide)
    refine s_y (v := .bool true) rfl (y_lss rfl rfl (decide_eq_true hk306)) ?_
    refine s_nil ?_
    refine W_if_t (by decide) rfl ?_
    refine W_seq ?_
    refine W_region (by kernel_rfl) ?_
    refine s_y (v := .bool true) rfl (y_assign rfl) ?_
    refine s_nil ?_
    refine W_ret ?_
    refine ret1 (v := .bool true) rfl rfl rfl ⟨_, rfl, ?_⟩
    exact ⟨rfl, B.ext⟩
end Go.Proofs.Ytmcldploldaceaa
