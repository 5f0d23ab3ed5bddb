/- Walks: what the functions under FnExactColumnOf do (part 1). Printed by a program of this claim's author. -/
import Derived.Test.YtalkhbnlphefdaaBw1
set_option linter.unusedSimpArgs false
set_option linter.unusedVariables false
open Go.Wv
namespace Go.Proofs.Ytalkhbnlphefdaa
open Go.Proofs
namespace T73
theorem mx : Try.prog.follows .mixedOrders = true := by kernel_rfl
theorem fn_68 : fnB Try.prog 68 = true := by kernel_rfl
theorem fn_76 : fnB Try.prog 76 = true := by kernel_rfl
end T73
set_option maxRecDepth 100000 in
set_option maxHeartbeats 4000000 in
theorem c_s_l03Both {b : Nat} {o : Nat} {wd : Int} {hi : Int} {wr : Bool} {asp : Option Addr} {nsp : Nat} {csp : Nat} {Xsp : List Nat} {als : Option Addr} {nls : Nat} {cls : Nat} {Xls : List Nat} {b2 : Nat} {o2 : Nat} {afe : Option Addr} {nfe : Nat} {cfe : Nat} {Xfe : List Nat} {afx : Option Addr} {nfx : Nat} {cfx : Nat} {Xfx : List Nat} {afy : Option Addr} {nfy : Nat} {cfy : Nat} {Xfy : List Nat} {w : World} (qsp : Rd w kF asp nsp Xsp) (qls : Rd w kF als nls Xls) (Pb : Sl w (some ⟨b, o, none⟩) [.int .i64 wd, .int .i64 hi, .bool wr, .slice asp nsp csp, .slice als nls cls]) (qfe : Rd w kF afe nfe Xfe) (qfx : Rd w kF afx nfx Xfx) (qfy : Rd w kF afy nfy Xfy) (Pb2 : Sl w (some ⟨b2, o2, none⟩) [.slice afe nfe cfe, .slice afx nfx cfx, .slice afy nfy cfy]) (hbsp : nsp ≤ 9223372036854775806) (hbls : nls ≤ 9223372036854775806) (hbfe : nfe ≤ 9223372036854775806) (hbfx : nfx ≤ 9223372036854775806) (hbfy : nfy ≤ 9223372036854775806) :
    Calls Try.prog 73 #[.pointer (some ⟨b, o, none⟩), .pointer (some ⟨b2, o2, none⟩)] w (Rt fun v w' => v = .bool (fieldB wd hi wr Xsp Xls Xfe Xfx Xfy) ∧ Ext0 w w') := by
  have hlsp := qsp.len
  have hlls := qls.len
  have hlfe := qfe.len
  have hlfx := qfx.len
  have hlfy := qfy.len
  have B : Bu w no w [.rd kF asp nsp Xsp, .rd kF als nls Xls, .sl (some ⟨b, o, none⟩) [.int .i64 wd, .int .i64 hi, .bool wr, .slice asp nsp csp, .slice als nls cls], .rd kF afe nfe Xfe, .rd kF afx nfx Xfx, .rd kF afy nfy Xfy, .sl (some ⟨b2, o2, none⟩) [.slice afe nfe cfe, .slice afx nfx cfx, .slice afy nfy cfy]] := Bu.ro (All.cons qsp (All.cons qls (All.cons Pb (All.cons qfe (All.cons qfx (All.cons qfy (All.cons Pb2 All.nil))))))) rfl
  refine calls_W (n := 12) Try.func73 rfl rfl (Nat.le_of_ble_eq_true rfl) ?_
  refine W_seq ?_
  refine W_region (by kernel_rfl) ?_
  refine s_y (v := .bool false) rfl (y_assign rfl) ?_
  refine s_nil ?_
  refine W_seq ?_
  refine W_region (by kernel_rfl) ?_
  refine s_y (v := .pointer (some ⟨b, o, none⟩)) rfl (y_move rfl) ?_
  refine s_k rfl (k_call T73.fn_68 (c_s_l02Is (B.r 0 rfl) (B.r 1 rfl) (B.s 2 rfl) (by omega) (by omega)) rfl ?_)
  rintro v3 w1 ⟨hv4, e2⟩
  replace B := B.ext0 e2
  clear e2
  by_cases c5 : validS wd hi Xsp Xls = true
  · have hb6 := validS_b c5
    obtain rfl : v3 = .bool true := hv4.trans (congrArg Value.bool c5)
    refine s_y (v := .bool true) rfl (y_move rfl) ?_
    refine s_y (v := .pointer (some ⟨b, o, none⟩)) rfl (y_move rfl) ?_
    refine s_y (v := .pointer (some ⟨b2, o2, none⟩)) rfl (y_move rfl) ?_
    refine s_k rfl (k_call T73.fn_76 (c_s_l02Fits (B.s 2 rfl) (B.r 3 rfl) (B.r 4 rfl) (B.r 5 rfl) (B.s 6 rfl) (by omega) (by omega) (by omega) (by omega) (by omega) (by omega) (by omega)) rfl ?_)
    rintro v9 w7 ⟨hv10, e8⟩
    replace B := B.ext0 e8
    clear e8
    by_cases c11 : fitsB wd hi wr Xfe Xfx Xfy = true
    · have hb12 := fitsB_b c11
      obtain rfl : v9 = .bool true := hv10.trans (congrArg Value.bool c11)
      refine s_y (v := .bool true) rfl (y_pick_t rfl rfl) ?_
      refine s_y (v := .bool true) rfl (y_assign rfl) ?_
      refine s_nil ?_
      refine W_ret ?_
      refine ret1 (v := .bool true) rfl rfl rfl ⟨_, rfl, ?_⟩
      exact ⟨congrArg Value.bool (by simp only [fieldB, c5, c11, Bool.and_true, Bool.true_and, Bool.and_false, Bool.false_and, Bool.not_true, Bool.not_false, Bool.or_true, Bool.true_or, Bool.or_false, Bool.false_or]), B.ext⟩
    · obtain rfl : v9 = .bool false := hv10.trans (congrArg Value.bool (Bool.eq_false_iff.2 c11))
      refine s_y (v := .bool false) rfl (y_pick_t rfl rfl) ?_
      refine s_y (v := .bool false) rfl (y_assign rfl) ?_
      refine s_nil ?_
      refine W_ret ?_
      refine ret1 (v := .bool false) rfl rfl rfl ⟨_, rfl, ?_⟩
      exact ⟨congrArg Value.bool (by simp only [fieldB, c5, (Bool.eq_false_iff.2 c11), Bool.and_true, Bool.true_and, Bool.and_false, Bool.false_and, Bool.not_true, Bool.not_false, Bool.or_true, Bool.true_or, Bool.or_false, Bool.false_or]), B.ext⟩
  · obtain rfl : v3 = .bool false := hv4.trans (congrArg Value.bool (Bool.eq_false_iff.2 c5))
    refine s_y (v := .bool false) rfl (y_move rfl) ?_
    refine s_skip rfl ?_
    refine s_skip rfl ?_
    refine s_skip rfl ?_
    refine s_y (v := .bool false) rfl (y_pick_f rfl rfl) ?_
    refine s_y (v := .bool false) rfl (y_assign rfl) ?_
    refine s_nil ?_
    refine W_ret ?_
    refine ret1 (v := .bool false) rfl rfl rfl ⟨_, rfl, ?_⟩
    exact ⟨congrArg Value.bool (by simp only [fieldB, (Bool.eq_false_iff.2 c5), Bool.and_true, Bool.true_and, Bool.and_false, Bool.false_and, Bool.not_true, Bool.not_false, Bool.or_true, Bool.true_or, Bool.or_false, Bool.false_or]), B.ext⟩
namespace T41
theorem mx : Try.prog.follows .mixedOrders = true := by kernel_rfl
theorem fld_26_0_0 : fldB Try.prog 26 0 0 = true := by kernel_rfl
theorem fld_26_1_1 : fldB Try.prog 26 1 1 = true := by kernel_rfl
theorem fld_49_0_0 : fldB Try.prog 49 0 0 = true := by kernel_rfl
theorem fn_70 : fnB Try.prog 70 = true := by kernel_rfl
theorem fn_73 : fnB Try.prog 73 = true := by kernel_rfl
theorem one_2 : oneB Try.prog 2 = true := by kernel_rfl
theorem one_24 : oneB Try.prog 24 = true := by kernel_rfl
theorem one_56 : oneB Try.prog 56 = true := by kernel_rfl
theorem sl_24_56_1 : slB Try.prog 24 56 1 = true := by kernel_rfl
theorem slt_24 : SlT Try.prog 24 56 1 4 (.float .f32 0) := ⟨by kernel_rfl, by kernel_rfl, rfl, by decide⟩
end T41
set_option maxRecDepth 100000 in
set_option maxHeartbeats 4000000 in
theorem c_s_ColumnOf {wd : Int} {hi : Int} {wr : Bool} {asp : Option Addr} {nsp : Nat} {csp : Nat} {Xsp : List Nat} {als : Option Addr} {nls : Nat} {cls : Nat} {Xls : List Nat} {afe : Option Addr} {nfe : Nat} {cfe : Nat} {Xfe : List Nat} {afx : Option Addr} {nfx : Nat} {cfx : Nat} {Xfx : List Nat} {afy : Option Addr} {nfy : Nat} {cfy : Nat} {Xfy : List Nat} {x : Int} {w : World} (qsp : Rd w kF asp nsp Xsp) (qls : Rd w kF als nls Xls) (qfe : Rd w kF afe nfe Xfe) (qfx : Rd w kF afx nfx Xfx) (qfy : Rd w kF afy nfy Xfy) (hbsp : nsp ≤ 9223372036854775806) (hbls : nls ≤ 9223372036854775806) (hbfe : nfe ≤ 9223372036854775806) (hbfx : nfx ≤ 9223372036854775806) (hbfy : nfy ≤ 9223372036854775806) :
    Calls Try.prog 41 #[.agg #[.int .i64 wd, .int .i64 hi, .bool wr, .slice asp nsp csp, .slice als nls cls], .agg #[.slice afe nfe cfe, .slice afx nfx cfx, .slice afy nfy cfy], .int .i64 x] w (Rt fun v w' => (colB wd hi wr Xsp Xls Xfe Xfx Xfy x = true ∧ ∃ (a1 : Option Addr) (c1 : Nat), v = .tuple #[.slice a1 hi.toNat c1, .bool true] ∧ New w w' [.ow kF a1 hi.toNat c1 56 (colS wd hi Xfe x)]) ∨ (colB wd hi wr Xsp Xls Xfe Xfx Xfy x = false ∧ v = .tuple #[.slice none 0 0, .bool false] ∧ Ext0 w w')) := by
  have hlsp := qsp.len
  have hlls := qls.len
  have hlfe := qfe.len
  have hlfx := qfx.len
  have hlfy := qfy.len
  have B : Bu w no w [.rd kF asp nsp Xsp, .rd kF als nls Xls, .rd kF afe nfe Xfe, .rd kF afx nfx Xfx, .rd kF afy nfy Xfy] := Bu.ro (All.cons qsp (All.cons qls (All.cons qfe (All.cons qfx (All.cons qfy All.nil))))) rfl
  refine calls_W (n := 41) Try.func41 rfl rfl (Nat.le_of_ble_eq_true rfl) ?_
  refine W_seq ?_
  refine W_region (by kernel_rfl) ?_
  refine s_k rfl (k_boxN (v := .agg #[.int .i64 wd, .int .i64 hi, .bool wr, .slice asp nsp csp, .slice als nls cls]) (cs := [.int .i64 wd, .int .i64 hi, .bool wr, .slice asp nsp csp, .slice als nls cls]) rfl rfl (fun b1 w2 hN3 => ?_))
  replace B := B.new1 hN3
  clear hN3
  refine s_k rfl (k_boxN (v := .agg #[.slice afe nfe cfe, .slice afx nfx cfx, .slice afy nfy cfy]) (cs := [.slice afe nfe cfe, .slice afx nfx cfx, .slice afy nfy cfy]) rfl rfl (fun b4 w5 hN6 => ?_))
  replace B := B.new1 hN6
  clear hN6
  refine s_y (v := .slice none 0 0) rfl (y_assign rfl) ?_
  refine s_y (v := .bool false) rfl (y_assign rfl) ?_
  refine s_nil ?_
  refine W_seq ?_
  refine W_seq ?_
  refine W_region (by kernel_rfl) ?_
  refine s_k rfl (k_call T41.fn_73 (c_s_l03Both (B.r 2 rfl) (B.r 3 rfl) ((B.b 1 rfl).sl) (B.r 4 rfl) (B.r 5 rfl) (B.r 6 rfl) ((B.b 0 rfl).sl) (by omega) (by omega) (by omega) (by omega) (by omega)) rfl ?_)
  rintro v9 w7 ⟨hv10, e8⟩
  replace B := B.ext0 e8
  clear e8
  by_cases c11 : fieldB wd hi wr Xsp Xls Xfe Xfx Xfy = true
  · have hb12 := fieldB_b c11
    obtain rfl : v9 = .bool true := hv10.trans (congrArg Value.bool c11)
    refine s_y (v := .bool false) rfl (y_not rfl rfl) ?_
    refine s_y (v := .bool false) rfl (y_move rfl) ?_
    refine s_y (v := .int .i64 x) rfl (y_move rfl) ?_
    refine s_y (v := .pointer (some ⟨b1, 0, none⟩)) rfl (y_fld (o := 0) T41.fld_26_0_0 rfl) ?_
    refine s_y (v := .int .i64 wd) rfl (y_load T41.one_2 rfl ((B.b 1 rfl).cell (j := 0) rfl)) ?_
    refine s_y (v := .int .i64 (wd - 1)) rfl (y_sub rfl rfl rfl (by omega)) ?_
    refine s_k rfl (k_call T41.fn_70 (c_s_l00In) rfl ?_)
    rintro v15 w13 ⟨hv16, e14⟩
    replace B := B.ext0 e14
    clear e14
    by_cases c17 : within x 0 (wd - 1) = true
    · have hb18 := within_b c17
      obtain rfl : v15 = .bool true := hv16.trans (congrArg Value.bool c17)
      refine s_y (v := .bool false) rfl (y_not rfl rfl) ?_
      refine s_y (v := .bool false) rfl (y_pick_f rfl rfl) ?_
      refine s_nil ?_
      refine W_if_f (by decide) rfl ?_
      refine W_skip ?_
      refine W_seq ?_
      refine W_region (by kernel_rfl) ?_
      refine s_k rfl (k_bsliceO (k := kF) (n := 0) (cells := #[]) (X := []) T41.slt_24 (by decide) (by first | rfl | kernel_rfl) (rfl : Reps kF [] []) rfl (fun b19 w20 hN21 => ?_))
      replace B := B.new1 hN21
      clear hN21
      refine s_y (v := .slice (some ⟨b19, 0, none⟩) 0 0) rfl (y_assign rfl) ?_
      refine s_nil ?_
      refine W_seq ?_
      refine W_seq ?_
      refine W_region (by kernel_rfl) ?_
      refine s_y (v := .int .i64 0) rfl (y_assign rfl) ?_
      refine s_nil ?_
      refine W_block ?_
      refine W_loop (fun ρ' w' => ∃ (ρ1 : Env) (k : Int) (a0 : Option Addr) (cc0 : Nat) (nn0 : Nat), ρ' = updL ρ1 [(2, .int .i64 x), (3, .pointer (some ⟨b1, 0, none⟩)), (4, .pointer (some ⟨b4, 0, none⟩)), (6, .slice none 0 0), (7, .bool false), (8, .slice a0 nn0 cc0), (9, .int .i64 k)] ∧ Bu w no w' [.ow kF a0 nn0 cc0 56 (tab k (fun yq => el Xfe (x + wd * yq))), .blk b4 [.slice afe nfe cfe, .slice afx nfx cfx, .slice afy nfy cfy] 49, .blk b1 [.int .i64 wd, .int .i64 hi, .bool wr, .slice asp nsp csp, .slice als nls cls] 26, .rd kF asp nsp Xsp, .rd kF als nls Xls, .rd kF afe nfe Xfe, .rd kF afx nfx Xfx, .rd kF afy nfy Xfy] ∧ (0 ≤ k) ∧ (k ≤ hi)) (fun ρ' _ => (hi - iv (ρ' 9)).toNat) ?_ ?_
      · replace B : Bu w no w20 [.ow kF (some ⟨b19, 0, none⟩) 0 0 56 (tab 0 (fun yq => el Xfe (x + wd * yq))), .blk b4 [.slice afe nfe cfe, .slice afx nfx cfx, .slice afy nfy cfy] 49, .blk b1 [.int .i64 wd, .int .i64 hi, .bool wr, .slice asp nsp csp, .slice als nls cls] 26, .rd kF asp nsp Xsp, .rd kF als nls Xls, .rd kF afe nfe Xfe, .rd kF afx nfx Xfx, .rd kF afy nfy Xfy] := B.castX 0 rfl rfl rfl
        exact ⟨_, 0, (some ⟨b19, 0, none⟩), 0, 0, Fits.eq ⟨rfl, rfl, rfl, rfl, rfl, rfl, rfl, trivial⟩, B, (Int.le_refl _), (by omega)⟩
      · clear B; rintro _ w22 ⟨ρ23, k, a0, cc0, nn0, rfl, B, h0k, h1k⟩
        have hnn0 := (B.o 0 rfl).len
        rw [tab_length] at hnn0
        refine W_seq ?_
        refine W_seq ?_
        refine W_region (by kernel_rfl) ?_
        refine s_y (v := .int .i64 k) rfl (y_move rfl) ?_
        refine s_y (v := .pointer (some ⟨b1, 1, none⟩)) rfl (y_fld (o := 0) T41.fld_26_1_1 rfl) ?_
        refine s_y (v := .int .i64 hi) rfl (y_load T41.one_2 rfl ((B.b 2 rfl).cell (j := 1) rfl)) ?_
        by_cases c24 : k < hi
        · refine s_y (v := .bool true) rfl (y_lss rfl rfl (decide_eq_true c24)) ?_
          refine s_nil ?_
          refine W_if_t (by decide) rfl ?_
          refine W_skip ?_
          refine W_seq ?_
          refine W_block ?_
          refine W_region (by kernel_rfl) ?_
          refine s_y (v := .slice a0 nn0 cc0) rfl (y_move rfl) ?_
          refine s_y (v := .pointer (some ⟨b4, 0, none⟩)) rfl (y_fld (o := 0) T41.fld_49_0_0 rfl) ?_
          refine s_y (v := .slice afe nfe cfe) rfl (y_load T41.one_24 rfl ((B.b 1 rfl).cell (j := 0) rfl)) ?_
          refine s_y (v := .int .i64 x) rfl (y_move rfl) ?_
          refine s_y (v := .pointer (some ⟨b1, 0, none⟩)) rfl (y_fld (o := 0) T41.fld_26_0_0 rfl) ?_
          refine s_y (v := .int .i64 wd) rfl (y_load T41.one_2 rfl ((B.b 2 rfl).cell (j := 0) rfl)) ?_
          refine s_y (v := .int .i64 k) rfl (y_move rfl) ?_
          have hm25 := mulb (a := wd) (b := k) (by omega) (by omega) (by omega) (by omega)
          refine s_y (v := .int .i64 (wd * k)) rfl (y_mul rfl rfl rfl (by omega)) ?_
          refine s_y (v := .int .i64 (x + (wd * k))) rfl (y_add rfl rfl rfl (by omega)) ?_
          have hx26 := row_lt (wd := wd) (hi := hi) (a := x) (b := k) (by omega) (by omega) (by omega) (by omega)
          refine s_y (v := .pointer (some (sat afe ((x + (wd * k)).toNat * 1)))) rfl (y_idx T41.sl_24_56_1 rfl rfl ((B.r 5 rfl).addr (by omega)) (by omega) (by omega)) ?_
          obtain ⟨r28, hr29, hR27⟩ := Rd.atF (B.r 5 rfl) (x + (wd * k)) (by omega) (by omega)
          refine s_y (v := .float .f32 r28) rfl (y_load T41.one_56 rfl (hR27.cell (i := 0) rfl)) ?_
          refine s_k rfl (k_bsliceO (k := kF) (n := 1) (cells := #[.float .f32 r28]) (X := [el Xfe (x + (wd * k))]) T41.slt_24 (by decide) (by first | rfl | kernel_rfl) (reps_cons (c := [.float .f32 r28]) ⟨_, rfl, hr29⟩ (rfl : Reps kF [] [])) rfl (fun b30 w31 hN32 => ?_))
          replace B := B.new1 hN32
          clear hN32
          refine s_k rfl (k_appO (k := kF) T41.slt_24 rfl rfl rfl (B.o 1 rfl) (B.o 0 rfl).rd (by omega) (by unfold maxLen; omega) (fun a33 c34 w35 hU36 => ?_))
          replace B : Bu w no w35 [.ow kF a33 (nn0 + 1) c34 56 ((tab k (fun yq => el Xfe (x + wd * yq))) ++ ([el Xfe (x + (wd * k))])), .ow kF (some ⟨b30, 0, none⟩) 1 1 56 ([el Xfe (x + (wd * k))]), .blk b4 [.slice afe nfe cfe, .slice afx nfx cfx, .slice afy nfy cfy] 49, .blk b1 [.int .i64 wd, .int .i64 hi, .bool wr, .slice asp nsp csp, .slice als nls cls] 26, .rd kF asp nsp Xsp, .rd kF als nls Xls, .rd kF afe nfe Xfe, .rd kF afx nfx Xfx, .rd kF afy nfy Xfy] := B.upd [1] rfl hU36
          clear hU36
          refine s_y (v := .slice a33 (nn0 + 1) c34) rfl (y_assign rfl) ?_
          refine s_nil ?_
          refine W_region (by kernel_rfl) ?_
          refine s_y (v := .int .i64 k) rfl (y_move rfl) ?_
          refine s_y (v := .int .i64 (k + 1)) rfl (y_add rfl rfl rfl (by omega)) ?_
          refine s_y (v := .int .i64 (k + 1)) rfl (y_assign rfl) ?_
          refine s_nil ?_
          replace B : Bu w no w35 [.ow kF a33 (nn0 + 1) c34 56 (tab (k + 1) (fun yq => el Xfe (x + wd * yq))), .ow kF (some ⟨b30, 0, none⟩) 1 1 56 ([el Xfe (x + (wd * k))]), .blk b4 [.slice afe nfe cfe, .slice afx nfx cfx, .slice afy nfy cfy] 49, .blk b1 [.int .i64 wd, .int .i64 hi, .bool wr, .slice asp nsp csp, .slice als nls cls] 26, .rd kF asp nsp Xsp, .rd kF als nls Xls, .rd kF afe nfe Xfe, .rd kF afx nfx Xfx, .rd kF afy nfy Xfy] := B.castX 0 rfl rfl (tab_snoc (g := fun yq => el Xfe (x + wd * yq)) (by omega) rfl)
          refine ⟨⟨_, k + 1, a33, c34, nn0 + 1, Fits.eq ⟨rfl, rfl, rfl, rfl, rfl, rfl, rfl, trivial⟩, (B.pick [0, 2, 3, 4, 5, 6, 7, 8] rfl rfl), (by omega), (by omega)⟩, ?_⟩
          show (hi - (k + 1)).toNat < (hi - k).toNat
          omega
        · refine s_y (v := .bool false) rfl (y_lss rfl rfl (decide_eq_false c24)) ?_
          refine s_nil ?_
          refine W_if_f (by decide) rfl ?_
          refine W_exit ?_
          refine W_seq ?_
          refine W_region (by kernel_rfl) ?_
          refine s_y (v := .slice a0 nn0 cc0) rfl (y_move rfl) ?_
          refine s_y (v := .slice a0 nn0 cc0) rfl (y_assign rfl) ?_
          refine s_y (v := .bool true) rfl (y_assign rfl) ?_
          refine s_nil ?_
          refine W_ret ?_
          refine ret2 (v1 := .slice a0 nn0 cc0) (v2 := .bool true) rfl rfl rfl rfl rfl ⟨_, rfl, ?_⟩
          have hcond : colB wd hi wr Xsp Xls Xfe Xfx Xfy x = true := by simp only [colB, c11, c17, (decide_eq_false c24), Bool.and_true, Bool.true_and, Bool.and_false, Bool.false_and, Bool.not_true, Bool.not_false, Bool.or_true, Bool.true_or, Bool.or_false, Bool.false_or]
          obtain rfl : hi = k := by omega
          replace B : Bu w no w22 [.ow kF a0 hi.toNat cc0 56 (colS wd hi Xfe x), .blk b4 [.slice afe nfe cfe, .slice afx nfx cfx, .slice afy nfy cfy] 49, .blk b1 [.int .i64 wd, .int .i64 hi, .bool wr, .slice asp nsp csp, .slice als nls cls] 26, .rd kF asp nsp Xsp, .rd kF als nls Xls, .rd kF afe nfe Xfe, .rd kF afx nfx Xfx, .rd kF afy nfy Xfy] := B.castX 0 rfl (by omega) rfl
          exact .inl ⟨hcond, ⟨_, _, (by rw [(show nn0 = hi.toNat from (by omega))]), B.give [0] rfl rfl rfl⟩⟩
    · obtain rfl : v15 = .bool false := hv16.trans (congrArg Value.bool (Bool.eq_false_iff.2 c17))
      refine s_y (v := .bool true) rfl (y_not rfl rfl) ?_
      refine s_y (v := .bool true) rfl (y_pick_f rfl rfl) ?_
      refine s_nil ?_
      refine W_if_t (by decide) rfl ?_
      refine W_seq ?_
      refine W_region (by kernel_rfl) ?_
      refine s_y (v := .slice none 0 0) rfl (y_assign rfl) ?_
      refine s_y (v := .bool false) rfl (y_assign rfl) ?_
      refine s_nil ?_
      refine W_ret ?_
      refine ret2 (v1 := .slice none 0 0) (v2 := .bool false) rfl rfl rfl rfl rfl ⟨_, rfl, ?_⟩
      exact .inr ⟨by simp only [colB, c11, (Bool.eq_false_iff.2 c17), Bool.and_true, Bool.true_and, Bool.and_false, Bool.false_and, Bool.not_true, Bool.not_false, Bool.or_true, Bool.true_or, Bool.or_false, Bool.false_or], rfl, B.ext⟩
  · obtain rfl : v9 = .bool false := hv10.trans (congrArg Value.bool (Bool.eq_false_iff.2 c11))
    refine s_y (v := .bool true) rfl (y_not rfl rfl) ?_
    refine s_y (v := .bool true) rfl (y_move rfl) ?_
    refine s_skip rfl ?_
    refine s_skip rfl ?_
    refine s_skip rfl ?_
    refine s_skip rfl ?_
    refine s_skip rfl ?_
    refine s_skip rfl ?_
    refine s_y (v := .bool true) rfl (y_pick_t rfl rfl) ?_
    refine s_nil ?_
    refine W_if_t (by decide) rfl ?_
    refine W_seq ?_
    refine W_region (by kernel_rfl) ?_
    refine s_y (v := .slice none 0 0) rfl (y_assign rfl) ?_
    refine s_y (v := .bool false) rfl (y_assign rfl) ?_
    refine s_nil ?_
    refine W_ret ?_
    refine ret2 (v1 := .slice none 0 0) (v2 := .bool false) rfl rfl rfl rfl rfl ⟨_, rfl, ?_⟩
    exact .inr ⟨by simp only [colB, (Bool.eq_false_iff.2 c11), Bool.and_true, Bool.true_and, Bool.and_false, Bool.false_and, Bool.not_true, Bool.not_false, Bool.or_true, Bool.true_or, Bool.or_false, Bool.false_or], rfl, B.ext⟩
namespace T42
theorem mx : Try.prog.follows .mixedOrders = true := by kernel_rfl
theorem agg_26_5 : aggB Try.prog 26 5 = true := by kernel_rfl
theorem agg_49_3 : aggB Try.prog 49 3 = true := by kernel_rfl
theorem fld_26_0_0 : fldB Try.prog 26 0 0 = true := by kernel_rfl
theorem fld_26_1_1 : fldB Try.prog 26 1 1 = true := by kernel_rfl
theorem fld_49_0_0 : fldB Try.prog 49 0 0 = true := by kernel_rfl
theorem fn_64 : fnB Try.prog 64 = true := by kernel_rfl
theorem fn_74 : fnB Try.prog 74 = true := by kernel_rfl
theorem fn_79 : fnB Try.prog 79 = true := by kernel_rfl
theorem one_2 : oneB Try.prog 2 = true := by kernel_rfl
theorem one_24 : oneB Try.prog 24 = true := by kernel_rfl
theorem one_56 : oneB Try.prog 56 = true := by kernel_rfl
theorem sl_24_56_1 : slB Try.prog 24 56 1 = true := by kernel_rfl
theorem slt_24 : SlT Try.prog 24 56 1 4 (.float .f32 0) := ⟨by kernel_rfl, by kernel_rfl, rfl, by decide⟩
end T42
set_option maxRecDepth 100000 in
set_option maxHeartbeats 4000000 in
theorem c_i_ColumnOf {wd : Int} {hi : Int} {wr : Bool} {asp : Option Addr} {nsp : Nat} {csp : Nat} {Xsp : List Nat} {als : Option Addr} {nls : Nat} {cls : Nat} {Xls : List Nat} {afe : Option Addr} {nfe : Nat} {cfe : Nat} {Xfe : List Nat} {afx : Option Addr} {nfx : Nat} {cfx : Nat} {Xfx : List Nat} {afy : Option Addr} {nfy : Nat} {cfy : Nat} {Xfy : List Nat} {x : Int} {w : World} (qsp : Rd w kF asp nsp Xsp) (qls : Rd w kF als nls Xls) (qfe : Rd w kF afe nfe Xfe) (qfx : Rd w kF afx nfx Xfx) (qfy : Rd w kF afy nfy Xfy) (hbsp : nsp ≤ 9223372036854775806) (hbls : nls ≤ 9223372036854775806) (hbfe : nfe ≤ 9223372036854775806) (hbfx : nfx ≤ 9223372036854775806) (hbfy : nfy ≤ 9223372036854775806) :
    Calls Try.prog 42 #[.agg #[.int .i64 wd, .int .i64 hi, .bool wr, .slice asp nsp csp, .slice als nls cls], .agg #[.slice afe nfe cfe, .slice afx nfx cfx, .slice afy nfy cfy], .int .i64 x] w (Rt fun v w' => (colB wd hi wr Xsp Xls Xfe Xfx Xfy x = true ∧ ∃ (a1 : Option Addr) (c1 : Nat), v = .tuple #[.slice a1 hi.toNat c1, .bool true] ∧ New w w' [.ow kF a1 hi.toNat c1 56 (colS wd hi Xfe x)]) ∨ (colB wd hi wr Xsp Xls Xfe Xfx Xfy x = false ∧ v = .tuple #[.slice none 0 0, .bool false] ∧ Ext0 w w')) := by
  have hlsp := qsp.len
  have hlls := qls.len
  have hlfe := qfe.len
  have hlfx := qfx.len
  have hlfy := qfy.len
  have B : Bu w no w [.rd kF asp nsp Xsp, .rd kF als nls Xls, .rd kF afe nfe Xfe, .rd kF afx nfx Xfx, .rd kF afy nfy Xfy] := Bu.ro (All.cons qsp (All.cons qls (All.cons qfe (All.cons qfx (All.cons qfy All.nil))))) rfl
  refine calls_W (n := 41) Try.func42 rfl rfl (Nat.le_of_ble_eq_true rfl) ?_
  refine W_seq ?_
  refine W_region (by kernel_rfl) ?_
  refine s_k rfl (k_boxN (v := .agg #[.int .i64 wd, .int .i64 hi, .bool wr, .slice asp nsp csp, .slice als nls cls]) (cs := [.int .i64 wd, .int .i64 hi, .bool wr, .slice asp nsp csp, .slice als nls cls]) rfl rfl (fun b1 w2 hN3 => ?_))
  replace B := B.new1 hN3
  clear hN3
  refine s_k rfl (k_boxN (v := .agg #[.slice afe nfe cfe, .slice afx nfx cfx, .slice afy nfy cfy]) (cs := [.slice afe nfe cfe, .slice afx nfx cfx, .slice afy nfy cfy]) rfl rfl (fun b4 w5 hN6 => ?_))
  replace B := B.new1 hN6
  clear hN6
  refine s_y (v := .slice none 0 0) rfl (y_assign rfl) ?_
  refine s_y (v := .bool false) rfl (y_assign rfl) ?_
  refine s_nil ?_
  refine W_seq ?_
  refine W_seq ?_
  refine W_region (by kernel_rfl) ?_
  refine s_y (v := .agg #[.int .i64 wd, .int .i64 hi, .bool wr, .slice asp nsp csp, .slice als nls cls]) rfl (y_loadn (b := b1) (o := 0) (vs := [.int .i64 wd, .int .i64 hi, .bool wr, .slice asp nsp csp, .slice als nls cls]) T42.agg_26_5 rfl rfl ((B.b 1 rfl).cells (o := 0) rfl)) ?_
  refine s_y (v := .agg #[.slice afe nfe cfe, .slice afx nfx cfx, .slice afy nfy cfy]) rfl (y_loadn (b := b4) (o := 0) (vs := [.slice afe nfe cfe, .slice afx nfx cfx, .slice afy nfy cfy]) T42.agg_49_3 rfl rfl ((B.b 0 rfl).cells (o := 0) rfl)) ?_
  refine s_k rfl (k_call T42.fn_74 (c_i_IsField (B.r 2 rfl) (B.r 3 rfl) (B.r 4 rfl) (B.r 5 rfl) (B.r 6 rfl) (by omega) (by omega) (by omega) (by omega) (by omega)) rfl ?_)
  rintro v9 w7 ⟨hv10, e8⟩
  replace B := B.ext0 e8
  clear e8
  by_cases c11 : fieldB wd hi wr Xsp Xls Xfe Xfx Xfy = true
  · have hb12 := fieldB_b c11
    obtain rfl : v9 = .bool true := hv10.trans (congrArg Value.bool c11)
    refine s_y (v := .bool false) rfl (y_not rfl rfl) ?_
    refine s_y (v := .bool false) rfl (y_move rfl) ?_
    refine s_y (v := .int .i64 x) rfl (y_move rfl) ?_
    refine s_y (v := .pointer (some ⟨b1, 0, none⟩)) rfl (y_fld (o := 0) T42.fld_26_0_0 rfl) ?_
    refine s_y (v := .int .i64 wd) rfl (y_load T42.one_2 rfl ((B.b 1 rfl).cell (j := 0) rfl)) ?_
    refine s_y (v := .int .i64 (wd - 1)) rfl (y_sub rfl rfl rfl (by omega)) ?_
    refine s_k rfl (k_call T42.fn_64 (c_i_within) rfl ?_)
    rintro v15 w13 ⟨hv16, e14⟩
    replace B := B.ext0 e14
    clear e14
    by_cases c17 : within x 0 (wd - 1) = true
    · have hb18 := within_b c17
      obtain rfl : v15 = .bool true := hv16.trans (congrArg Value.bool c17)
      refine s_y (v := .bool false) rfl (y_not rfl rfl) ?_
      refine s_y (v := .bool false) rfl (y_pick_f rfl rfl) ?_
      refine s_nil ?_
      refine W_if_f (by decide) rfl ?_
      refine W_skip ?_
      refine W_seq ?_
      refine W_region (by kernel_rfl) ?_
      refine s_k rfl (k_bsliceO (k := kF) (n := 0) (cells := #[]) (X := []) T42.slt_24 (by decide) (by first | rfl | kernel_rfl) (rfl : Reps kF [] []) rfl (fun b19 w20 hN21 => ?_))
      replace B := B.new1 hN21
      clear hN21
      refine s_y (v := .slice (some ⟨b19, 0, none⟩) 0 0) rfl (y_assign rfl) ?_
      refine s_nil ?_
      refine W_seq ?_
      refine W_seq ?_
      refine W_region (by kernel_rfl) ?_
      refine s_y (v := .pointer (some ⟨b1, 1, none⟩)) rfl (y_fld (o := 0) T42.fld_26_1_1 rfl) ?_
      refine s_y (v := .int .i64 hi) rfl (y_load T42.one_2 rfl ((B.b 2 rfl).cell (j := 1) rfl)) ?_
      refine s_y (v := .int .i64 0) rfl (y_move rfl) ?_
      refine s_nil ?_
      refine W_block ?_
      refine W_loop (fun ρ' w' => ∃ (ρ1 : Env) (k : Int) (a0 : Option Addr) (cc0 : Nat) (nn0 : Nat), ρ' = updL ρ1 [(2, .int .i64 x), (3, .pointer (some ⟨b1, 0, none⟩)), (4, .pointer (some ⟨b4, 0, none⟩)), (6, .slice none 0 0), (7, .bool false), (8, .slice a0 nn0 cc0), (24, .int .i64 hi), (25, .int .i64 k)] ∧ Bu w no w' [.ow kF a0 nn0 cc0 56 (tab k (fun yq => el Xfe (x + wd * yq))), .blk b4 [.slice afe nfe cfe, .slice afx nfx cfx, .slice afy nfy cfy] 49, .blk b1 [.int .i64 wd, .int .i64 hi, .bool wr, .slice asp nsp csp, .slice als nls cls] 26, .rd kF asp nsp Xsp, .rd kF als nls Xls, .rd kF afe nfe Xfe, .rd kF afx nfx Xfx, .rd kF afy nfy Xfy] ∧ (0 ≤ k) ∧ (k ≤ hi)) (fun ρ' _ => (hi - iv (ρ' 25)).toNat) ?_ ?_
      · replace B : Bu w no w20 [.ow kF (some ⟨b19, 0, none⟩) 0 0 56 (tab 0 (fun yq => el Xfe (x + wd * yq))), .blk b4 [.slice afe nfe cfe, .slice afx nfx cfx, .slice afy nfy cfy] 49, .blk b1 [.int .i64 wd, .int .i64 hi, .bool wr, .slice asp nsp csp, .slice als nls cls] 26, .rd kF asp nsp Xsp, .rd kF als nls Xls, .rd kF afe nfe Xfe, .rd kF afx nfx Xfx, .rd kF afy nfy Xfy] := B.castX 0 rfl rfl rfl
        exact ⟨_, 0, (some ⟨b19, 0, none⟩), 0, 0, Fits.eq ⟨rfl, rfl, rfl, rfl, rfl, rfl, rfl, rfl, trivial⟩, B, (Int.le_refl _), (by omega)⟩
      · clear B; rintro _ w22 ⟨ρ23, k, a0, cc0, nn0, rfl, B, h0k, h1k⟩
        have hnn0 := (B.o 0 rfl).len
        rw [tab_length] at hnn0
        refine W_seq ?_
        refine W_region (by kernel_rfl) ?_
        by_cases c24 : k < hi
        · refine s_y (v := .bool true) rfl (y_lss rfl rfl (decide_eq_true c24)) ?_
          refine s_nil ?_
          refine W_seq ?_
          refine W_if_t (by decide) rfl ?_
          refine W_skip ?_
          refine W_seq ?_
          refine W_block ?_
          refine W_seq ?_
          refine W_region (by kernel_rfl) ?_
          refine s_y (v := .int .i64 k) rfl (y_move rfl) ?_
          refine s_y (v := .int .i64 k) rfl (y_assign rfl) ?_
          refine s_nil ?_
          have B0_29 := B
          refine W_draw (inA a0) T42.mx (by kernel_rfl) (fun w27 e28 => ?_)
          have R30 := Ext.refl (inA a0) w22
          replace R30 := R30.trans (Ext0.any e28)
          replace B := B.ext0 e28
          clear e28
          refine m_y (v := .slice a0 nn0 cc0) 0 rfl (by kernel_rfl) rfl rfl (fun w' e' => y_move rfl) ?_
          refine m_y (v := .pointer (some ⟨b4, 0, none⟩)) 1 rfl (by kernel_rfl) rfl rfl (fun w' e' => y_fld (o := 0) T42.fld_49_0_0 rfl) ?_
          refine m_y (v := .slice afe nfe cfe) 2 rfl (by kernel_rfl) rfl rfl (fun w' e' => y_load T42.one_24 rfl ((B0_29.bx 1 0 rfl rfl rfl rfl e' (fun _ h => h)).cell (j := 0) rfl)) ?_
          refine m_y (v := .agg #[.int .i64 wd, .int .i64 hi, .bool wr, .slice asp nsp csp, .slice als nls cls]) 3 rfl (by kernel_rfl) rfl rfl (fun w' e' => y_loadn (b := b1) (o := 0) (vs := [.int .i64 wd, .int .i64 hi, .bool wr, .slice asp nsp csp, .slice als nls cls]) T42.agg_26_5 rfl rfl ((B0_29.bx 2 0 rfl rfl rfl rfl e' (fun _ h => h)).cells (o := 0) rfl)) ?_
          refine m_y (v := .int .i64 x) 4 rfl (by kernel_rfl) rfl rfl (fun w' e' => y_move rfl) ?_
          refine m_y (v := .int .i64 k) 5 rfl (by kernel_rfl) rfl rfl (fun w' e' => y_move rfl) ?_
          refine m_k 6 [7, 8, 9, 10, 11] rfl (by kernel_rfl) rfl rfl (fun w31 e32 => ?_)
          replace R30 := R30.trans (Ext0.any e32)
          replace B := B.ext0 e32
          clear e32
          refine k_call T42.fn_79 (c_i_at (by omega) (by omega) (by omega) (by omega) (by omega) (by omega) (by omega) (by omega)) rfl ?_
          rintro _ w33 ⟨rfl, e34⟩
          replace R30 := R30.trans (Ext0.any e34)
          replace B := B.ext0 e34
          clear e34
          refine ⟨fun _ => R30, ?_⟩
          have hat35 := atI_b (wd := wd) (hi := hi) (x := x) (y := k) (by omega) (by omega)
          refine m_y (v := .pointer (some (sat afe ((atI wd hi x k).toNat * 1)))) 7 rfl (by kernel_rfl) rfl rfl (fun w' e' => y_idx T42.sl_24_56_1 rfl rfl ((B.r 5 rfl).addr (by omega)) (by omega) (by omega)) ?_
          obtain ⟨r37, hr38, hR36⟩ := Rd.atF (B0_29.r 5 rfl) (atI wd hi x k) (by omega) (by omega)
          refine m_y (v := .float .f32 r37) 8 rfl (by kernel_rfl) rfl rfl (fun w' e' => y_load T42.one_56 rfl ((B0_29.rowr 5 0 rfl rfl rfl rfl (by omega) hR36 e' (fun _ h => h)).cell (i := 0) rfl)) ?_
          refine m_k 9 [10, 11] rfl (by kernel_rfl) rfl rfl (fun w42 e43 => ?_)
          replace R30 := R30.trans (Ext0.any e43)
          replace B := B.ext0 e43
          clear e43
          refine k_bsliceO (k := kF) (n := 1) (cells := #[.float .f32 r37]) (X := [el Xfe (atI wd hi x k)]) T42.slt_24 (by decide) (by first | rfl | kernel_rfl) (reps_cons (c := [.float .f32 r37]) ⟨_, rfl, hr38⟩ (rfl : Reps kF [] [])) rfl (fun b39 w40 hN41 => ?_)
          replace R30 := R30.trans (Ext0.any hN41.ext)
          replace B := B.new1 hN41
          clear hN41
          refine ⟨fun _ => R30, ?_⟩
          refine m_k 10 [11] rfl (by kernel_rfl) rfl rfl (fun w48 e49 => ?_)
          replace R30 := R30.trans (Ext0.any e49)
          replace B := B.ext0 e49
          clear e49
          refine k_appO (k := kF) T42.slt_24 rfl rfl rfl (B.o 1 rfl) (B.o 0 rfl).rd (by omega) (by unfold maxLen; omega) (fun a44 c45 w46 hU47 => ?_)
          replace R30 := R30.trans hU47.atA
          replace B : Bu w no w46 [.ow kF a44 (nn0 + 1) c45 56 ((tab k (fun yq => el Xfe (x + wd * yq))) ++ ([el Xfe (atI wd hi x k)])), .ow kF (some ⟨b39, 0, none⟩) 1 1 56 ([el Xfe (atI wd hi x k)]), .blk b4 [.slice afe nfe cfe, .slice afx nfx cfx, .slice afy nfy cfy] 49, .blk b1 [.int .i64 wd, .int .i64 hi, .bool wr, .slice asp nsp csp, .slice als nls cls] 26, .rd kF asp nsp Xsp, .rd kF als nls Xls, .rd kF afe nfe Xfe, .rd kF afx nfx Xfx, .rd kF afy nfy Xfy] := B.upd [1] rfl hU47
          clear hU47
          refine ⟨fun _ => R30, ?_⟩
          refine m_y (v := .slice a44 (nn0 + 1) c45) 11 rfl (by kernel_rfl) rfl rfl (fun w' e' => y_assign rfl) ?_
          refine m_done (by kernel_rfl) (fun w50 e51 => ?_)
          replace B := B.ext0 e51
          clear e51
          clear B0_29 R30
          refine W_region (by kernel_rfl) ?_
          refine s_y (v := .int .i64 (k + 1)) rfl (y_add rfl rfl rfl (by omega)) ?_
          refine s_y (v := .int .i64 (k + 1)) rfl (y_move rfl) ?_
          refine s_nil ?_
          replace B : Bu w no w50 [.ow kF a44 (nn0 + 1) c45 56 (tab (k + 1) (fun yq => el Xfe (x + wd * yq))), .ow kF (some ⟨b39, 0, none⟩) 1 1 56 ([el Xfe (atI wd hi x k)]), .blk b4 [.slice afe nfe cfe, .slice afx nfx cfx, .slice afy nfy cfy] 49, .blk b1 [.int .i64 wd, .int .i64 hi, .bool wr, .slice asp nsp csp, .slice als nls cls] 26, .rd kF asp nsp Xsp, .rd kF als nls Xls, .rd kF afe nfe Xfe, .rd kF afx nfx Xfx, .rd kF afy nfy Xfy] := B.castX 0 rfl rfl (tab_snoc (g := fun yq => el Xfe (x + wd * yq)) (by omega) (congrArg (el Xfe) (atI_in (by omega) (by omega) (by omega) (by omega))))
          refine ⟨⟨_, k + 1, a44, c45, nn0 + 1, Fits.eq ⟨rfl, rfl, rfl, rfl, rfl, rfl, rfl, rfl, trivial⟩, (B.pick [0, 2, 3, 4, 5, 6, 7, 8] rfl rfl), (by omega), (by omega)⟩, ?_⟩
          show (hi - (k + 1)).toNat < (hi - k).toNat
          omega
        · refine s_y (v := .bool false) rfl (y_lss rfl rfl (decide_eq_false c24)) ?_
          refine s_nil ?_
          refine W_seq ?_
          refine W_if_f (by decide) rfl ?_
          refine W_exit ?_
          refine W_seq ?_
          refine W_region (by kernel_rfl) ?_
          refine s_y (v := .slice a0 nn0 cc0) rfl (y_move rfl) ?_
          refine s_y (v := .slice a0 nn0 cc0) rfl (y_assign rfl) ?_
          refine s_y (v := .bool true) rfl (y_assign rfl) ?_
          refine s_nil ?_
          refine W_ret ?_
          refine ret2 (v1 := .slice a0 nn0 cc0) (v2 := .bool true) rfl rfl rfl rfl rfl ⟨_, rfl, ?_⟩
          have hcond : colB wd hi wr Xsp Xls Xfe Xfx Xfy x = true := by simp only [colB, c11, c17, (decide_eq_false c24), Bool.and_true, Bool.true_and, Bool.and_false, Bool.false_and, Bool.not_true, Bool.not_false, Bool.or_true, Bool.true_or, Bool.or_false, Bool.false_or]
          obtain rfl : hi = k := by omega
          replace B : Bu w no w22 [.ow kF a0 hi.toNat cc0 56 (colS wd hi Xfe x), .blk b4 [.slice afe nfe cfe, .slice afx nfx cfx, .slice afy nfy cfy] 49, .blk b1 [.int .i64 wd, .int .i64 hi, .bool wr, .slice asp nsp csp, .slice als nls cls] 26, .rd kF asp nsp Xsp, .rd kF als nls Xls, .rd kF afe nfe Xfe, .rd kF afx nfx Xfx, .rd kF afy nfy Xfy] := B.castX 0 rfl (by omega) rfl
          exact .inl ⟨hcond, ⟨_, _, (by rw [(show nn0 = hi.toNat from (by omega))]), B.give [0] rfl rfl rfl⟩⟩
    · obtain rfl : v15 = .bool false := hv16.trans (congrArg Value.bool (Bool.eq_false_iff.2 c17))
      refine s_y (v := .bool true) rfl (y_not rfl rfl) ?_
      refine s_y (v := .bool true) rfl (y_pick_f rfl rfl) ?_
      refine s_nil ?_
      refine W_if_t (by decide) rfl ?_
      refine W_seq ?_
      refine W_region (by kernel_rfl) ?_
      refine s_y (v := .slice none 0 0) rfl (y_assign rfl) ?_
      refine s_y (v := .bool false) rfl (y_assign rfl) ?_
      refine s_nil ?_
      refine W_ret ?_
      refine ret2 (v1 := .slice none 0 0) (v2 := .bool false) rfl rfl rfl rfl rfl ⟨_, rfl, ?_⟩
      exact .inr ⟨by simp only [colB, c11, (Bool.eq_false_iff.2 c17), Bool.and_true, Bool.true_and, Bool.and_false, Bool.false_and, Bool.not_true, Bool.not_false, Bool.or_true, Bool.true_or, Bool.or_false, Bool.false_or], rfl, B.ext⟩
  · obtain rfl : v9 = .bool false := hv10.trans (congrArg Value.bool (Bool.eq_false_iff.2 c11))
    refine s_y (v := .bool true) rfl (y_not rfl rfl) ?_
    refine s_y (v := .bool true) rfl (y_move rfl) ?_
    refine s_skip rfl ?_
    refine s_skip rfl ?_
    refine s_skip rfl ?_
    refine s_skip rfl ?_
    refine s_skip rfl ?_
    refine s_skip rfl ?_
    refine s_y (v := .bool true) rfl (y_pick_t rfl rfl) ?_
    refine s_nil ?_
    refine W_if_t (by decide) rfl ?_
    refine W_seq ?_
    refine W_region (by kernel_rfl) ?_
    refine s_y (v := .slice none 0 0) rfl (y_assign rfl) ?_
    refine s_y (v := .bool false) rfl (y_assign rfl) ?_
    refine s_nil ?_
    refine W_ret ?_
    refine ret2 (v1 := .slice none 0 0) (v2 := .bool false) rfl rfl rfl rfl rfl ⟨_, rfl, ?_⟩
    exact .inr ⟨by simp only [colB, (Bool.eq_false_iff.2 c11), Bool.and_true, Bool.true_and, Bool.and_false, Bool.false_and, Bool.not_true, Bool.not_false, Bool.or_true, Bool.true_or, Bool.or_false, Bool.false_or], rfl, B.ext⟩
namespace T7
theorem mx : Try.prog.follows .mixedOrders = true := by kernel_rfl
theorem agg_26_5 : aggB Try.prog 26 5 = true := by kernel_rfl
theorem agg_36_5 : aggB Try.prog 36 5 = true := by kernel_rfl
theorem agg_45_3 : aggB Try.prog 45 3 = true := by kernel_rfl
theorem agg_49_3 : aggB Try.prog 49 3 = true := by kernel_rfl
theorem bool_4 : Try.prog.underlying 4 = some .bool := by kernel_rfl
theorem fn_21 : fnB Try.prog 21 = true := by kernel_rfl
theorem fn_23 : fnB Try.prog 23 = true := by kernel_rfl
theorem fn_25 : fnB Try.prog 25 = true := by kernel_rfl
theorem fn_26 : fnB Try.prog 26 = true := by kernel_rfl
theorem fn_29 : fnB Try.prog 29 = true := by kernel_rfl
theorem fn_31 : fnB Try.prog 31 = true := by kernel_rfl
theorem fn_33 : fnB Try.prog 33 = true := by kernel_rfl
theorem fn_34 : fnB Try.prog 34 = true := by kernel_rfl
theorem fn_35 : fnB Try.prog 35 = true := by kernel_rfl
theorem fn_36 : fnB Try.prog 36 = true := by kernel_rfl
theorem fn_37 : fnB Try.prog 37 = true := by kernel_rfl
theorem fn_41 : fnB Try.prog 41 = true := by kernel_rfl
theorem fn_42 : fnB Try.prog 42 = true := by kernel_rfl
theorem sz_26_5 : szB Try.prog 26 5 = true := by kernel_rfl
theorem sz_49_3 : szB Try.prog 49 3 = true := by kernel_rfl
theorem zero_26 : zeroB Try.prog 26 (.agg #[.int .i64 0, .int .i64 0, .bool false, .slice none 0 0, .slice none 0 0]) := by unfold zeroB; kernel_rfl
theorem zero_49 : zeroB Try.prog 49 (.agg #[.slice none 0 0, .slice none 0 0, .slice none 0 0]) := by unfold zeroB; kernel_rfl
end T7
set_option maxRecDepth 100000 in
set_option maxHeartbeats 20000000 in
theorem c_FnExactColumnOf {wd0 : Int} {hi0 : Int} {wr0 : Bool} {asp0 : Option Addr} {nsp0 : Nat} {csp0 : Nat} {Xsp0 : List Nat} {als0 : Option Addr} {nls0 : Nat} {cls0 : Nat} {Xls0 : List Nat} {afe1 : Option Addr} {nfe1 : Nat} {cfe1 : Nat} {Xfe1 : List Nat} {afx1 : Option Addr} {nfx1 : Nat} {cfx1 : Nat} {Xfx1 : List Nat} {afy1 : Option Addr} {nfy1 : Nat} {cfy1 : Nat} {Xfy1 : List Nat} {i2 : Int} {w : World} (qsp0 : Rd w kF asp0 nsp0 Xsp0) (qls0 : Rd w kF als0 nls0 Xls0) (qfe1 : Rd w kF afe1 nfe1 Xfe1) (qfx1 : Rd w kF afx1 nfx1 Xfx1) (qfy1 : Rd w kF afy1 nfy1 Xfy1) (gsp0 : nsp0 ≤ 9223372036854775807) (gls0 : nls0 ≤ 9223372036854775807) (gfe1 : nfe1 ≤ 9223372036854775807) (gfx1 : nfx1 ≤ 9223372036854775807) (gfy1 : nfy1 ≤ 9223372036854775807) :
    Calls Try.prog 7 #[.agg #[.int .i64 wd0, .int .i64 hi0, .bool wr0, .slice asp0 nsp0 csp0, .slice als0 nls0 cls0], .agg #[.slice afe1 nfe1 cfe1, .slice afx1 nfx1 cfx1, .slice afy1 nfy1 cfy1], .int .i64 i2] w (Rt fun v w' => v = .bool true ∧ Ext0 w w') := by
  have hlsp0 := qsp0.len
  have hlls0 := qls0.len
  have hlfe1 := qfe1.len
  have hlfx1 := qfx1.len
  have hlfy1 := qfy1.len
  have B : Bu w no w [.rd kF asp0 nsp0 Xsp0, .rd kF als0 nls0 Xls0, .rd kF afe1 nfe1 Xfe1, .rd kF afx1 nfx1 Xfx1, .rd kF afy1 nfy1 Xfy1] := Bu.ro (All.cons qsp0 (All.cons qls0 (All.cons qfe1 (All.cons qfx1 (All.cons qfy1 All.nil))))) rfl
  refine calls_W (n := 124) Try.func7 rfl rfl (Nat.le_of_ble_eq_true rfl) ?_
  refine W_seq ?_
  refine W_region (by kernel_rfl) ?_
  refine s_k rfl (k_boxN (v := .agg #[.int .i64 wd0, .int .i64 hi0, .bool wr0, .slice asp0 nsp0 csp0, .slice als0 nls0 cls0]) (cs := [.int .i64 wd0, .int .i64 hi0, .bool wr0, .slice asp0 nsp0 csp0, .slice als0 nls0 cls0]) rfl rfl (fun b1 w2 hN3 => ?_))
  replace B := B.new1 hN3
  clear hN3
  refine s_k rfl (k_boxN (v := .agg #[.slice afe1 nfe1 cfe1, .slice afx1 nfx1 cfx1, .slice afy1 nfy1 cfy1]) (cs := [.slice afe1 nfe1 cfe1, .slice afx1 nfx1 cfx1, .slice afy1 nfy1 cfy1]) rfl rfl (fun b4 w5 hN6 => ?_))
  replace B := B.new1 hN6
  clear hN6
  refine s_y (v := .bool false) rfl (y_assign rfl) ?_
  refine s_nil ?_
  refine W_seq ?_
  refine W_region (by kernel_rfl) ?_
  refine s_y (v := .int .i64 1048576) rfl (y_assign rfl) ?_
  refine s_nil ?_
  refine W_seq ?_
  refine W_region (by kernel_rfl) ?_
  refine s_y (v := .agg #[.int .i64 wd0, .int .i64 hi0, .bool wr0, .slice asp0 nsp0 csp0, .slice als0 nls0 cls0]) rfl (y_loadn (b := b1) (o := 0) (vs := [.int .i64 wd0, .int .i64 hi0, .bool wr0, .slice asp0 nsp0 csp0, .slice als0 nls0 cls0]) T7.agg_36_5 rfl rfl ((B.b 1 rfl).cells (o := 0) rfl)) ?_
  refine s_y (v := .int .i64 1048576) rfl (y_move rfl) ?_
  refine s_k rfl (k_call T7.fn_21 (c_l_szSheet (by omega) (by omega) (by omega) (by omega)) rfl ?_)
  rintro v9 w7 ⟨hv10, e8⟩
  replace B := B.ext0 e8
  clear e8
  by_cases c11 : ((nsp0 : Nat) : Int) + ((nls0 : Nat) : Int) ≤ 1048576
  · obtain rfl : v9 = .int .i64 (1048576 - ((nsp0 : Nat) : Int) - ((nls0 : Nat) : Int)) := hv10.trans (congrArg _ (if_pos c11))
    have hk12 : ¬ (1048576 - ((nsp0 : Nat) : Int) - ((nls0 : Nat) : Int)) < 0 := by omega
    refine s_y (v := .int .i64 (1048576 - ((nsp0 : Nat) : Int) - ((nls0 : Nat) : Int))) rfl (y_assign rfl) ?_
    refine s_nil ?_
    refine W_seq ?_
    refine W_seq ?_
    refine W_region (by kernel_rfl) ?_
    refine s_y (v := .int .i64 (1048576 - ((nsp0 : Nat) : Int) - ((nls0 : Nat) : Int))) rfl (y_move rfl) ?_
    refine s_y (v := .bool false) rfl (y_lss rfl rfl (decide_eq_false hk12)) ?_
    refine s_nil ?_
    refine W_if_f (by decide) rfl ?_
    refine W_skip ?_
    refine W_seq ?_
    refine W_region (by kernel_rfl) ?_
    refine s_y (v := .agg #[.slice afe1 nfe1 cfe1, .slice afx1 nfx1 cfx1, .slice afy1 nfy1 cfy1]) rfl (y_loadn (b := b4) (o := 0) (vs := [.slice afe1 nfe1 cfe1, .slice afx1 nfx1 cfx1, .slice afy1 nfy1 cfy1]) T7.agg_45_3 rfl rfl ((B.b 0 rfl).cells (o := 0) rfl)) ?_
    refine s_y (v := .int .i64 (1048576 - ((nsp0 : Nat) : Int) - ((nls0 : Nat) : Int))) rfl (y_move rfl) ?_
    refine s_k rfl (k_call T7.fn_29 (c_l_szField (by omega) (by omega) (by omega) (by omega) (by omega)) rfl ?_)
    rintro v15 w13 ⟨hv16, e14⟩
    replace B := B.ext0 e14
    clear e14
    by_cases c17 : ((nfe1 : Nat) : Int) + ((nfx1 : Nat) : Int) + ((nfy1 : Nat) : Int) ≤ (1048576 - ((nsp0 : Nat) : Int) - ((nls0 : Nat) : Int))
    · obtain rfl : v15 = .int .i64 ((1048576 - ((nsp0 : Nat) : Int) - ((nls0 : Nat) : Int)) - ((nfe1 : Nat) : Int) - ((nfx1 : Nat) : Int) - ((nfy1 : Nat) : Int)) := hv16.trans (congrArg _ (if_pos c17))
      have hk18 : ¬ ((1048576 - ((nsp0 : Nat) : Int) - ((nls0 : Nat) : Int)) - ((nfe1 : Nat) : Int) - ((nfx1 : Nat) : Int) - ((nfy1 : Nat) : Int)) < 0 := by omega
      refine s_y (v := .int .i64 ((1048576 - ((nsp0 : Nat) : Int) - ((nls0 : Nat) : Int)) - ((nfe1 : Nat) : Int) - ((nfx1 : Nat) : Int) - ((nfy1 : Nat) : Int))) rfl (y_assign rfl) ?_
      refine s_nil ?_
      refine W_seq ?_
      refine W_seq ?_
      refine W_region (by kernel_rfl) ?_
      refine s_y (v := .int .i64 ((1048576 - ((nsp0 : Nat) : Int) - ((nls0 : Nat) : Int)) - ((nfe1 : Nat) : Int) - ((nfx1 : Nat) : Int) - ((nfy1 : Nat) : Int))) rfl (y_move rfl) ?_
      refine s_y (v := .bool false) rfl (y_lss rfl rfl (decide_eq_false hk18)) ?_
      refine s_nil ?_
      refine W_if_f (by decide) rfl ?_
      refine W_skip ?_
      refine W_seq ?_
      have B0_23 := B
      refine W_draw (no) T7.mx (by kernel_rfl) (fun w21 e22 => ?_)
      have R24 := Ext.refl (no) w13
      replace R24 := R24.trans (Ext0.any e22)
      replace B := B.ext0 e22
      clear e22
      refine m_y (v := .agg #[.int .i64 wd0, .int .i64 hi0, .bool wr0, .slice asp0 nsp0 csp0, .slice als0 nls0 cls0]) 0 rfl (by kernel_rfl) rfl rfl (fun w' e' => y_loadn (b := b1) (o := 0) (vs := [.int .i64 wd0, .int .i64 hi0, .bool wr0, .slice asp0 nsp0 csp0, .slice als0 nls0 cls0]) T7.agg_36_5 rfl rfl (((B0_23.b 1 rfl).ext0 e').cells (o := 0) rfl)) ?_
      refine m_y (v := .agg #[.slice afe1 nfe1 cfe1, .slice afx1 nfx1 cfx1, .slice afy1 nfy1 cfy1]) 2 rfl (by kernel_rfl) rfl rfl (fun w' e' => y_loadn (b := b4) (o := 0) (vs := [.slice afe1 nfe1 cfe1, .slice afx1 nfx1 cfx1, .slice afy1 nfy1 cfy1]) T7.agg_45_3 rfl rfl (((B0_23.b 0 rfl).ext0 e').cells (o := 0) rfl)) ?_
      refine m_y (v := .int .i64 i2) 4 rfl (by kernel_rfl) rfl rfl (fun w' e' => y_move rfl) ?_
      refine m_k 1 [3, 5, 6, 7, 8, 9, 10] rfl (by kernel_rfl) rfl rfl (fun w25 e26 => ?_)
      replace R24 := R24.trans (Ext0.any e26)
      replace B := B.ext0 e26
      clear e26
      refine k_call T7.fn_23 (c_l_toSheet (B.r 2 rfl) (B.r 3 rfl) (by omega) (by omega)) rfl ?_
      rintro _ w27 ⟨a28, c29, a30, c31, rfl, hN32⟩
      replace R24 := R24.trans (Ext0.any hN32.ext)
      replace B := B.new2 hN32
      clear hN32
      refine ⟨fun _ => R24, ?_⟩
      refine m_k 3 [5, 6, 7, 8, 9, 10] rfl (by kernel_rfl) rfl rfl (fun w33 e34 => ?_)
      replace R24 := R24.trans (Ext0.any e34)
      replace B := B.ext0 e34
      clear e34
      refine k_call T7.fn_31 (c_l_toField (B.r 6 rfl) (B.r 7 rfl) (B.r 8 rfl) (by omega) (by omega) (by omega)) rfl ?_
      rintro _ w35 ⟨a36, c37, a38, c39, a40, c41, rfl, hN42⟩
      replace R24 := R24.trans (Ext0.any hN42.ext)
      replace B := B.new3 hN42
      clear hN42
      refine ⟨fun _ => R24, ?_⟩
      refine m_k 5 [6, 7, 8, 9, 10] rfl (by kernel_rfl) rfl rfl (fun w43 e44 => ?_)
      replace R24 := R24.trans (Ext0.any e44)
      replace B := B.ext0 e44
      clear e44
      refine k_call T7.fn_41 (c_s_ColumnOf ((B.o 3 rfl).rd) ((B.o 4 rfl).rd) ((B.o 0 rfl).rd) ((B.o 1 rfl).rd) ((B.o 2 rfl).rd) (by omega) (by omega) (by omega) (by omega) (by omega)) rfl ?_
      rintro v47 w45 hx46
      by_cases c48 : colB wd0 hi0 wr0 Xsp0 Xls0 Xfe1 Xfx1 Xfy1 i2 = true
      · have hb49 := colB_b c48
        obtain ⟨a50, c51, rfl, hN52⟩ := (hx46.resolve_right (fun hz => by rw [c48] at hz; cases hz.1)).2
        clear hx46
        replace R24 := R24.trans (Ext0.any hN52.ext)
        replace B := B.new1 hN52
        clear hN52
        refine ⟨fun _ => R24, ?_⟩
        refine m_y (v := .tuple #[.slice a50 hi0.toNat c51, .bool true]) 6 rfl (by kernel_rfl) rfl rfl (fun w' e' => y_move rfl) ?_
        refine m_y (v := .slice a50 hi0.toNat c51) 7 rfl (by kernel_rfl) rfl rfl (fun w' e' => y_extract rfl rfl) ?_
        refine m_y (v := .bool true) 8 rfl (by kernel_rfl) rfl rfl (fun w' e' => y_extract rfl rfl) ?_
        refine m_y (v := .slice a50 hi0.toNat c51) 9 rfl (by kernel_rfl) rfl rfl (fun w' e' => y_assign rfl) ?_
        refine m_y (v := .bool true) 10 rfl (by kernel_rfl) rfl rfl (fun w' e' => y_assign rfl) ?_
        refine m_done (by kernel_rfl) (fun w53 e54 => ?_)
        replace B := B.ext0 e54
        clear e54
        clear B0_23 R24
        refine W_seq ?_
        refine W_region (by kernel_rfl) ?_
        refine s_y (v := .agg #[.int .i64 wd0, .int .i64 hi0, .bool wr0, .slice asp0 nsp0 csp0, .slice als0 nls0 cls0]) rfl (y_loadn (b := b1) (o := 0) (vs := [.int .i64 wd0, .int .i64 hi0, .bool wr0, .slice asp0 nsp0 csp0, .slice als0 nls0 cls0]) T7.agg_36_5 rfl rfl ((B.b 7 rfl).cells (o := 0) rfl)) ?_
        refine s_k rfl (k_call T7.fn_23 (c_l_toSheet (B.r 8 rfl) (B.r 9 rfl) (by omega) (by omega)) rfl ?_)
        rintro _ w55 ⟨a56, c57, a58, c59, rfl, hN60⟩
        replace B := B.new2 hN60
        clear hN60
        refine s_k rfl (k_allocN (z := (.agg #[.int .i64 0, .int .i64 0, .bool false, .slice none 0 0, .slice none 0 0])) (cs := [.int .i64 0, .int .i64 0, .bool false, .slice none 0 0, .slice none 0 0]) T7.zero_26 rfl (fun b61 w62 hN63 => ?_))
        replace B := B.new1 hN63
        clear hN63
        refine s_k0 rfl (k_stB (v := .agg #[.int .i64 wd0, .int .i64 hi0, .bool wr0, .slice a56 nsp0 c57, .slice a58 nls0 c59]) (n := 5) (cs' := [.int .i64 wd0, .int .i64 hi0, .bool wr0, .slice a56 nsp0 c57, .slice a58 nls0 c59]) T7.sz_26_5 rfl rfl rfl (B.b 0 rfl) (by simp [Value.cells, Value.oneCell']) (Nat.le_of_ble_eq_true rfl) rfl (fun w64 hU65 => ?_))
        replace B : Bu w no w64 [.blk b61 [.int .i64 wd0, .int .i64 hi0, .bool wr0, .slice a56 nsp0 c57, .slice a58 nls0 c59] 26, .ow kF a56 nsp0 c57 56 Xsp0, .ow kF a58 nls0 c59 56 Xls0, .ow kF a50 hi0.toNat c51 56 (colS wd0 hi0 Xfe1 i2), .ow kF a36 nfe1 c37 56 Xfe1, .ow kF a38 nfx1 c39 56 Xfx1, .ow kF a40 nfy1 c41 56 Xfy1, .ow kF a28 nsp0 c29 56 Xsp0, .ow kF a30 nls0 c31 56 Xls0, .blk b4 [.slice afe1 nfe1 cfe1, .slice afx1 nfx1 cfx1, .slice afy1 nfy1 cfy1] 45, .blk b1 [.int .i64 wd0, .int .i64 hi0, .bool wr0, .slice asp0 nsp0 csp0, .slice als0 nls0 cls0] 36, .rd kF asp0 nsp0 Xsp0, .rd kF als0 nls0 Xls0, .rd kF afe1 nfe1 Xfe1, .rd kF afx1 nfx1 Xfx1, .rd kF afy1 nfy1 Xfy1] := B.upd [0] rfl hU65
        clear hU65
        refine s_nil ?_
        refine W_seq ?_
        refine W_region (by kernel_rfl) ?_
        refine s_y (v := .agg #[.slice afe1 nfe1 cfe1, .slice afx1 nfx1 cfx1, .slice afy1 nfy1 cfy1]) rfl (y_loadn (b := b4) (o := 0) (vs := [.slice afe1 nfe1 cfe1, .slice afx1 nfx1 cfx1, .slice afy1 nfy1 cfy1]) T7.agg_45_3 rfl rfl ((B.b 9 rfl).cells (o := 0) rfl)) ?_
        refine s_k rfl (k_call T7.fn_31 (c_l_toField (B.r 13 rfl) (B.r 14 rfl) (B.r 15 rfl) (by omega) (by omega) (by omega)) rfl ?_)
        rintro _ w66 ⟨a67, c68, a69, c70, a71, c72, rfl, hN73⟩
        replace B := B.new3 hN73
        clear hN73
        refine s_k rfl (k_allocN (z := (.agg #[.slice none 0 0, .slice none 0 0, .slice none 0 0])) (cs := [.slice none 0 0, .slice none 0 0, .slice none 0 0]) T7.zero_49 rfl (fun b74 w75 hN76 => ?_))
        replace B := B.new1 hN76
        clear hN76
        refine s_k0 rfl (k_stB (v := .agg #[.slice a67 nfe1 c68, .slice a69 nfx1 c70, .slice a71 nfy1 c72]) (n := 3) (cs' := [.slice a67 nfe1 c68, .slice a69 nfx1 c70, .slice a71 nfy1 c72]) T7.sz_49_3 rfl rfl rfl (B.b 0 rfl) (by simp [Value.cells, Value.oneCell']) (Nat.le_of_ble_eq_true rfl) rfl (fun w77 hU78 => ?_))
        replace B : Bu w no w77 [.blk b74 [.slice a67 nfe1 c68, .slice a69 nfx1 c70, .slice a71 nfy1 c72] 49, .ow kF a67 nfe1 c68 56 Xfe1, .ow kF a69 nfx1 c70 56 Xfx1, .ow kF a71 nfy1 c72 56 Xfy1, .blk b61 [.int .i64 wd0, .int .i64 hi0, .bool wr0, .slice a56 nsp0 c57, .slice a58 nls0 c59] 26, .ow kF a56 nsp0 c57 56 Xsp0, .ow kF a58 nls0 c59 56 Xls0, .ow kF a50 hi0.toNat c51 56 (colS wd0 hi0 Xfe1 i2), .ow kF a36 nfe1 c37 56 Xfe1, .ow kF a38 nfx1 c39 56 Xfx1, .ow kF a40 nfy1 c41 56 Xfy1, .ow kF a28 nsp0 c29 56 Xsp0, .ow kF a30 nls0 c31 56 Xls0, .blk b4 [.slice afe1 nfe1 cfe1, .slice afx1 nfx1 cfx1, .slice afy1 nfy1 cfy1] 45, .blk b1 [.int .i64 wd0, .int .i64 hi0, .bool wr0, .slice asp0 nsp0 csp0, .slice als0 nls0 cls0] 36, .rd kF asp0 nsp0 Xsp0, .rd kF als0 nls0 Xls0, .rd kF afe1 nfe1 Xfe1, .rd kF afx1 nfx1 Xfx1, .rd kF afy1 nfy1 Xfy1] := B.upd [0] rfl hU78
        clear hU78
        refine s_nil ?_
        refine W_seq ?_
        refine W_region (by kernel_rfl) ?_
        refine s_y (v := .agg #[.int .i64 wd0, .int .i64 hi0, .bool wr0, .slice a56 nsp0 c57, .slice a58 nls0 c59]) rfl (y_loadn (b := b61) (o := 0) (vs := [.int .i64 wd0, .int .i64 hi0, .bool wr0, .slice a56 nsp0 c57, .slice a58 nls0 c59]) T7.agg_26_5 rfl rfl ((B.b 4 rfl).cells (o := 0) rfl)) ?_
        refine s_y (v := .agg #[.slice a67 nfe1 c68, .slice a69 nfx1 c70, .slice a71 nfy1 c72]) rfl (y_loadn (b := b74) (o := 0) (vs := [.slice a67 nfe1 c68, .slice a69 nfx1 c70, .slice a71 nfy1 c72]) T7.agg_49_3 rfl rfl ((B.b 0 rfl).cells (o := 0) rfl)) ?_
        refine s_y (v := .int .i64 i2) rfl (y_move rfl) ?_
        refine s_k rfl (k_call T7.fn_42 (c_i_ColumnOf ((B.o 5 rfl).rd) ((B.o 6 rfl).rd) ((B.o 1 rfl).rd) ((B.o 2 rfl).rd) ((B.o 3 rfl).rd) (by omega) (by omega) (by omega) (by omega) (by omega)) rfl ?_)
        rintro v81 w79 hx80
        obtain ⟨a82, c83, rfl, hN84⟩ := (hx80.resolve_right (fun hz => by rw [c48] at hz; cases hz.1)).2
        clear hx80
        replace B := B.new1 hN84
        clear hN84
        refine s_y (v := .tuple #[.slice a82 hi0.toNat c83, .bool true]) rfl (y_move rfl) ?_
        refine s_y (v := .slice a82 hi0.toNat c83) rfl (y_extract rfl rfl) ?_
        refine s_y (v := .bool true) rfl (y_extract rfl rfl) ?_
        refine s_y (v := .slice a82 hi0.toNat c83) rfl (y_assign rfl) ?_
        refine s_y (v := .bool true) rfl (y_assign rfl) ?_
        refine s_nil ?_
        refine W_seq ?_
        refine W_seq ?_
        refine W_region (by kernel_rfl) ?_
        refine s_y (v := .slice a82 hi0.toNat c83) rfl (y_move rfl) ?_
        refine s_y (v := .slice a50 hi0.toNat c51) rfl (y_move rfl) ?_
        refine s_k rfl (k_call T7.fn_33 (c_l_eqFloat32S ((B.o 0 rfl).rd) ((B.o 8 rfl).rd) (by omega)) rfl ?_)
        rintro _ w85 ⟨rfl, e86⟩
        replace B := B.ext0 e86
        clear e86
        refine s_y (v := .bool false) rfl (y_not rfl rfl) ?_
        refine s_y (v := .bool false) rfl (y_move rfl) ?_
        refine s_y (v := .bool true) rfl (y_move rfl) ?_
        refine s_y (v := .bool true) rfl (y_move rfl) ?_
        refine s_y (v := .bool false) rfl (y_bneq T7.bool_4 rfl rfl rfl) ?_
        refine s_y (v := .bool false) rfl (y_pick_f rfl rfl) ?_
        refine s_nil ?_
        refine W_if_f (by decide) rfl ?_
        refine W_skip ?_
        refine W_seq ?_
        refine W_seq ?_
        have B0_91 := B
        refine W_draw (no) T7.mx (by kernel_rfl) (fun w89 e90 => ?_)
        have R92 := Ext.refl (no) w85
        replace R92 := R92.trans (Ext0.any e90)
        replace B := B.ext0 e90
        clear e90
        refine m_y (v := .agg #[.int .i64 wd0, .int .i64 hi0, .bool wr0, .slice a56 nsp0 c57, .slice a58 nls0 c59]) 0 rfl (by kernel_rfl) rfl rfl (fun w' e' => y_loadn (b := b61) (o := 0) (vs := [.int .i64 wd0, .int .i64 hi0, .bool wr0, .slice a56 nsp0 c57, .slice a58 nls0 c59]) T7.agg_26_5 rfl rfl (((B0_91.b 5 rfl).ext0 e').cells (o := 0) rfl)) ?_
        refine m_y (v := .agg #[.int .i64 wd0, .int .i64 hi0, .bool wr0, .slice asp0 nsp0 csp0, .slice als0 nls0 cls0]) 1 rfl (by kernel_rfl) rfl rfl (fun w' e' => y_loadn (b := b1) (o := 0) (vs := [.int .i64 wd0, .int .i64 hi0, .bool wr0, .slice asp0 nsp0 csp0, .slice als0 nls0 cls0]) T7.agg_36_5 rfl rfl (((B0_91.b 15 rfl).ext0 e').cells (o := 0) rfl)) ?_
        refine m_k 2 [3, 4] rfl (by kernel_rfl) rfl rfl (fun w93 e94 => ?_)
        replace R92 := R92.trans (Ext0.any e94)
        replace B := B.ext0 e94
        clear e94
        refine k_call T7.fn_23 (c_l_toSheet (B.r 16 rfl) (B.r 17 rfl) (by omega) (by omega)) rfl ?_
        rintro _ w95 ⟨a96, c97, a98, c99, rfl, hN100⟩
        replace R92 := R92.trans (Ext0.any hN100.ext)
        replace B := B.new2 hN100
        clear hN100
        refine ⟨fun _ => R92, ?_⟩
        refine m_k 3 [4] rfl (by kernel_rfl) rfl rfl (fun w101 e102 => ?_)
        replace R92 := R92.trans (Ext0.any e102)
        replace B := B.ext0 e102
        clear e102
        refine k_call T7.fn_25 (c_l_eqSheet ((B.o 8 rfl).rd) ((B.o 9 rfl).rd) ((B.o 0 rfl).rd) ((B.o 1 rfl).rd) (by omega) (by omega)) rfl ?_
        rintro _ w103 ⟨rfl, e104⟩
        replace R92 := R92.trans (Ext0.any e104)
        replace B := B.ext0 e104
        clear e104
        refine ⟨fun _ => R92, ?_⟩
        refine m_y (v := .bool false) 4 rfl (by kernel_rfl) rfl rfl (fun w' e' => y_not rfl rfl) ?_
        refine m_done (by kernel_rfl) (fun w105 e106 => ?_)
        replace B := B.ext0 e106
        clear e106
        clear B0_91 R92
        refine W_if_f (by decide) rfl ?_
        refine W_skip ?_
        refine W_seq ?_
        refine W_seq ?_
        have B0_111 := B
        refine W_draw (no) T7.mx (by kernel_rfl) (fun w109 e110 => ?_)
        have R112 := Ext.refl (no) w105
        replace R112 := R112.trans (Ext0.any e110)
        replace B := B.ext0 e110
        clear e110
        refine m_y (v := .agg #[.slice a67 nfe1 c68, .slice a69 nfx1 c70, .slice a71 nfy1 c72]) 0 rfl (by kernel_rfl) rfl rfl (fun w' e' => y_loadn (b := b74) (o := 0) (vs := [.slice a67 nfe1 c68, .slice a69 nfx1 c70, .slice a71 nfy1 c72]) T7.agg_49_3 rfl rfl (((B0_111.b 3 rfl).ext0 e').cells (o := 0) rfl)) ?_
        refine m_y (v := .agg #[.slice afe1 nfe1 cfe1, .slice afx1 nfx1 cfx1, .slice afy1 nfy1 cfy1]) 1 rfl (by kernel_rfl) rfl rfl (fun w' e' => y_loadn (b := b4) (o := 0) (vs := [.slice afe1 nfe1 cfe1, .slice afx1 nfx1 cfx1, .slice afy1 nfy1 cfy1]) T7.agg_45_3 rfl rfl (((B0_111.b 16 rfl).ext0 e').cells (o := 0) rfl)) ?_
        refine m_k 2 [3, 4] rfl (by kernel_rfl) rfl rfl (fun w113 e114 => ?_)
        replace R112 := R112.trans (Ext0.any e114)
        replace B := B.ext0 e114
        clear e114
        refine k_call T7.fn_31 (c_l_toField (B.r 20 rfl) (B.r 21 rfl) (B.r 22 rfl) (by omega) (by omega) (by omega)) rfl ?_
        rintro _ w115 ⟨a116, c117, a118, c119, a120, c121, rfl, hN122⟩
        replace R112 := R112.trans (Ext0.any hN122.ext)
        replace B := B.new3 hN122
        clear hN122
        refine ⟨fun _ => R112, ?_⟩
        refine m_k 3 [4] rfl (by kernel_rfl) rfl rfl (fun w123 e124 => ?_)
        replace R112 := R112.trans (Ext0.any e124)
        replace B := B.ext0 e124
        clear e124
        refine k_call T7.fn_34 (c_l_eqField ((B.o 7 rfl).rd) ((B.o 8 rfl).rd) ((B.o 9 rfl).rd) ((B.o 0 rfl).rd) ((B.o 1 rfl).rd) ((B.o 2 rfl).rd) (by omega) (by omega) (by omega)) rfl ?_
        rintro _ w125 ⟨rfl, e126⟩
        replace R112 := R112.trans (Ext0.any e126)
        replace B := B.ext0 e126
        clear e126
        refine ⟨fun _ => R112, ?_⟩
        refine m_y (v := .bool false) 4 rfl (by kernel_rfl) rfl rfl (fun w' e' => y_not rfl rfl) ?_
        refine m_done (by kernel_rfl) (fun w127 e128 => ?_)
        replace B := B.ext0 e128
        clear e128
        clear B0_111 R112
        refine W_if_f (by decide) rfl ?_
        refine W_skip ?_
        refine W_seq ?_
        refine W_region (by kernel_rfl) ?_
        refine s_y (v := .int .i64 1) rfl (y_assign rfl) ?_
        refine s_nil ?_
        refine W_seq ?_
        refine W_region (by kernel_rfl) ?_
        refine s_y (v := .agg #[.int .i64 wd0, .int .i64 hi0, .bool wr0, .slice a56 nsp0 c57, .slice a58 nls0 c59]) rfl (y_loadn (b := b61) (o := 0) (vs := [.int .i64 wd0, .int .i64 hi0, .bool wr0, .slice a56 nsp0 c57, .slice a58 nls0 c59]) T7.agg_26_5 rfl rfl ((B.b 10 rfl).cells (o := 0) rfl)) ?_
        refine s_y (v := .int .i64 1) rfl (y_move rfl) ?_
        refine s_k rfl (k_call T7.fn_26 (c_l_markSheet (by omega) (by omega) (by omega) (by omega) (B.all.pick [11, 12] rfl) (B.pw.pick [11, 12] rfl rfl)) rfl ?_)
        rintro _ w129 ⟨rfl, hU130⟩
        replace B : Bu w no w129 [.ow kF a56 nsp0 c57 56 (marks 1 nsp0), .ow kF a58 nls0 c59 56 (marks (1 + ((nsp0 : Nat) : Int)) nls0), .ow kF a116 nfe1 c117 56 Xfe1, .ow kF a118 nfx1 c119 56 Xfx1, .ow kF a120 nfy1 c121 56 Xfy1, .ow kF a96 nsp0 c97 56 Xsp0, .ow kF a98 nls0 c99 56 Xls0, .ow kF a82 hi0.toNat c83 56 (colS wd0 hi0 Xfe1 i2), .blk b74 [.slice a67 nfe1 c68, .slice a69 nfx1 c70, .slice a71 nfy1 c72] 49, .ow kF a67 nfe1 c68 56 Xfe1, .ow kF a69 nfx1 c70 56 Xfx1, .ow kF a71 nfy1 c72 56 Xfy1, .blk b61 [.int .i64 wd0, .int .i64 hi0, .bool wr0, .slice a56 nsp0 c57, .slice a58 nls0 c59] 26, .ow kF a50 hi0.toNat c51 56 (colS wd0 hi0 Xfe1 i2), .ow kF a36 nfe1 c37 56 Xfe1, .ow kF a38 nfx1 c39 56 Xfx1, .ow kF a40 nfy1 c41 56 Xfy1, .ow kF a28 nsp0 c29 56 Xsp0, .ow kF a30 nls0 c31 56 Xls0, .blk b4 [.slice afe1 nfe1 cfe1, .slice afx1 nfx1 cfx1, .slice afy1 nfy1 cfy1] 45, .blk b1 [.int .i64 wd0, .int .i64 hi0, .bool wr0, .slice asp0 nsp0 csp0, .slice als0 nls0 cls0] 36, .rd kF asp0 nsp0 Xsp0, .rd kF als0 nls0 Xls0, .rd kF afe1 nfe1 Xfe1, .rd kF afx1 nfx1 Xfx1, .rd kF afy1 nfy1 Xfy1] := B.upd [11, 12] rfl hU130
        clear hU130
        refine s_y (v := .int .i64 (1 + ((nsp0 : Nat) : Int) + ((nls0 : Nat) : Int))) rfl (y_assign rfl) ?_
        refine s_nil ?_
        refine W_seq ?_
        refine W_region (by kernel_rfl) ?_
        refine s_y (v := .agg #[.slice a67 nfe1 c68, .slice a69 nfx1 c70, .slice a71 nfy1 c72]) rfl (y_loadn (b := b74) (o := 0) (vs := [.slice a67 nfe1 c68, .slice a69 nfx1 c70, .slice a71 nfy1 c72]) T7.agg_49_3 rfl rfl ((B.b 8 rfl).cells (o := 0) rfl)) ?_
        refine s_y (v := .int .i64 (1 + ((nsp0 : Nat) : Int) + ((nls0 : Nat) : Int))) rfl (y_move rfl) ?_
        refine s_k rfl (k_call T7.fn_35 (c_l_markField (by omega) (by omega) (by omega) (by omega) (by omega) (B.all.pick [9, 10, 11] rfl) (B.pw.pick [9, 10, 11] rfl rfl)) rfl ?_)
        rintro _ w131 ⟨rfl, hU132⟩
        replace B : Bu w no w131 [.ow kF a67 nfe1 c68 56 (marks (1 + ((nsp0 : Nat) : Int) + ((nls0 : Nat) : Int)) nfe1), .ow kF a69 nfx1 c70 56 (marks ((1 + ((nsp0 : Nat) : Int) + ((nls0 : Nat) : Int)) + ((nfe1 : Nat) : Int)) nfx1), .ow kF a71 nfy1 c72 56 (marks ((1 + ((nsp0 : Nat) : Int) + ((nls0 : Nat) : Int)) + ((nfe1 : Nat) : Int) + ((nfx1 : Nat) : Int)) nfy1), .ow kF a56 nsp0 c57 56 (marks 1 nsp0), .ow kF a58 nls0 c59 56 (marks (1 + ((nsp0 : Nat) : Int)) nls0), .ow kF a116 nfe1 c117 56 Xfe1, .ow kF a118 nfx1 c119 56 Xfx1, .ow kF a120 nfy1 c121 56 Xfy1, .ow kF a96 nsp0 c97 56 Xsp0, .ow kF a98 nls0 c99 56 Xls0, .ow kF a82 hi0.toNat c83 56 (colS wd0 hi0 Xfe1 i2), .blk b74 [.slice a67 nfe1 c68, .slice a69 nfx1 c70, .slice a71 nfy1 c72] 49, .blk b61 [.int .i64 wd0, .int .i64 hi0, .bool wr0, .slice a56 nsp0 c57, .slice a58 nls0 c59] 26, .ow kF a50 hi0.toNat c51 56 (colS wd0 hi0 Xfe1 i2), .ow kF a36 nfe1 c37 56 Xfe1, .ow kF a38 nfx1 c39 56 Xfx1, .ow kF a40 nfy1 c41 56 Xfy1, .ow kF a28 nsp0 c29 56 Xsp0, .ow kF a30 nls0 c31 56 Xls0, .blk b4 [.slice afe1 nfe1 cfe1, .slice afx1 nfx1 cfx1, .slice afy1 nfy1 cfy1] 45, .blk b1 [.int .i64 wd0, .int .i64 hi0, .bool wr0, .slice asp0 nsp0 csp0, .slice als0 nls0 cls0] 36, .rd kF asp0 nsp0 Xsp0, .rd kF als0 nls0 Xls0, .rd kF afe1 nfe1 Xfe1, .rd kF afx1 nfx1 Xfx1, .rd kF afy1 nfy1 Xfy1] := B.upd [9, 10, 11] rfl hU132
        clear hU132
        refine s_y (v := .int .i64 ((1 + ((nsp0 : Nat) : Int) + ((nls0 : Nat) : Int)) + ((nfe1 : Nat) : Int) + ((nfx1 : Nat) : Int) + ((nfy1 : Nat) : Int))) rfl (y_assign rfl) ?_
        refine s_nil ?_
        refine W_seq ?_
        refine W_seq ?_
        refine W_region (by kernel_rfl) ?_
        refine s_y (v := .int .i64 ((1 + ((nsp0 : Nat) : Int) + ((nls0 : Nat) : Int)) + ((nfe1 : Nat) : Int) + ((nfx1 : Nat) : Int) + ((nfy1 : Nat) : Int))) rfl (y_move rfl) ?_
        have hk133 : ¬ (((1 + ((nsp0 : Nat) : Int) + ((nls0 : Nat) : Int)) + ((nfe1 : Nat) : Int) + ((nfx1 : Nat) : Int) + ((nfy1 : Nat) : Int)) < 0) := (by omega)
        refine s_y (v := .bool false) rfl (y_lss rfl rfl (decide_eq_false hk133)) ?_
        refine s_y (v := .bool false) rfl (y_move rfl) ?_
        refine s_y (v := .slice a82 hi0.toNat c83) rfl (y_move rfl) ?_
        refine s_y (v := .slice a50 hi0.toNat c51) rfl (y_move rfl) ?_
        refine s_k rfl (k_call T7.fn_33 (c_l_eqFloat32S ((B.o 10 rfl).rd) ((B.o 13 rfl).rd) (by omega)) rfl ?_)
        rintro _ w134 ⟨rfl, e135⟩
        replace B := B.ext0 e135
        clear e135
        refine s_y (v := .bool false) rfl (y_not rfl rfl) ?_
        refine s_y (v := .bool false) rfl (y_pick_f rfl rfl) ?_
        refine s_y (v := .bool false) rfl (y_move rfl) ?_
        refine s_y (v := .bool true) rfl (y_move rfl) ?_
        refine s_y (v := .bool true) rfl (y_move rfl) ?_
        refine s_y (v := .bool false) rfl (y_bneq T7.bool_4 rfl rfl rfl) ?_
        refine s_y (v := .bool false) rfl (y_pick_f rfl rfl) ?_
        refine s_nil ?_
        refine W_if_f (by decide) rfl ?_
        refine W_skip ?_
        refine W_seq ?_
        refine W_region (by kernel_rfl) ?_
        refine s_y (v := .int .i64 1) rfl (y_assign rfl) ?_
        refine s_nil ?_
        refine W_seq ?_
        refine W_region (by kernel_rfl) ?_
        refine s_y (v := .slice a82 hi0.toNat c83) rfl (y_move rfl) ?_
        refine s_y (v := .int .i64 1) rfl (y_move rfl) ?_
        refine s_k rfl (k_call T7.fn_36 (c_l_markFloat32S (by omega) (by omega) (by omega) (B.all.pick [10] rfl) (B.pw.pick [10] rfl rfl)) rfl ?_)
        rintro _ w136 ⟨rfl, hU137⟩
        replace B : Bu w no w136 [.ow kF a82 hi0.toNat c83 56 (marks 1 hi0.toNat), .ow kF a67 nfe1 c68 56 (marks (1 + ((nsp0 : Nat) : Int) + ((nls0 : Nat) : Int)) nfe1), .ow kF a69 nfx1 c70 56 (marks ((1 + ((nsp0 : Nat) : Int) + ((nls0 : Nat) : Int)) + ((nfe1 : Nat) : Int)) nfx1), .ow kF a71 nfy1 c72 56 (marks ((1 + ((nsp0 : Nat) : Int) + ((nls0 : Nat) : Int)) + ((nfe1 : Nat) : Int) + ((nfx1 : Nat) : Int)) nfy1), .ow kF a56 nsp0 c57 56 (marks 1 nsp0), .ow kF a58 nls0 c59 56 (marks (1 + ((nsp0 : Nat) : Int)) nls0), .ow kF a116 nfe1 c117 56 Xfe1, .ow kF a118 nfx1 c119 56 Xfx1, .ow kF a120 nfy1 c121 56 Xfy1, .ow kF a96 nsp0 c97 56 Xsp0, .ow kF a98 nls0 c99 56 Xls0, .blk b74 [.slice a67 nfe1 c68, .slice a69 nfx1 c70, .slice a71 nfy1 c72] 49, .blk b61 [.int .i64 wd0, .int .i64 hi0, .bool wr0, .slice a56 nsp0 c57, .slice a58 nls0 c59] 26, .ow kF a50 hi0.toNat c51 56 (colS wd0 hi0 Xfe1 i2), .ow kF a36 nfe1 c37 56 Xfe1, .ow kF a38 nfx1 c39 56 Xfx1, .ow kF a40 nfy1 c41 56 Xfy1, .ow kF a28 nsp0 c29 56 Xsp0, .ow kF a30 nls0 c31 56 Xls0, .blk b4 [.slice afe1 nfe1 cfe1, .slice afx1 nfx1 cfx1, .slice afy1 nfy1 cfy1] 45, .blk b1 [.int .i64 wd0, .int .i64 hi0, .bool wr0, .slice asp0 nsp0 csp0, .slice als0 nls0 cls0] 36, .rd kF asp0 nsp0 Xsp0, .rd kF als0 nls0 Xls0, .rd kF afe1 nfe1 Xfe1, .rd kF afx1 nfx1 Xfx1, .rd kF afy1 nfy1 Xfy1] := B.upd [10] rfl hU137
        clear hU137
        refine s_y (v := .int .i64 (1 + ((hi0.toNat : Nat) : Int))) rfl (y_assign rfl) ?_
        refine s_nil ?_
        refine W_seq ?_
        refine W_region (by kernel_rfl) ?_
        refine s_y (v := .int .i64 1) rfl (y_assign rfl) ?_
        refine s_nil ?_
        refine W_seq ?_
        refine W_region (by kernel_rfl) ?_
        refine s_y (v := .slice a82 hi0.toNat c83) rfl (y_move rfl) ?_
        refine s_y (v := .int .i64 1) rfl (y_move rfl) ?_
        refine s_k rfl (k_call T7.fn_37 (c_l_heldFloat32S ((B.o 0 rfl).rd) (by omega) (by omega) (by omega)) rfl ?_)
        rintro _ w138 ⟨rfl, e139⟩
        replace B := B.ext0 e139
        clear e139
        refine s_y (v := .int .i64 (1 + ((hi0.toNat : Nat) : Int))) rfl (y_assign rfl) ?_
        refine s_nil ?_
        refine W_seq ?_
        refine W_seq ?_
        refine W_region (by kernel_rfl) ?_
        refine s_y (v := .int .i64 (1 + ((hi0.toNat : Nat) : Int))) rfl (y_move rfl) ?_
        have hk140 : ¬ ((1 + ((hi0.toNat : Nat) : Int)) < 0) := (by omega)
        refine s_y (v := .bool false) rfl (y_lss rfl rfl (decide_eq_false hk140)) ?_
        refine s_nil ?_
        refine W_if_f (by decide) rfl ?_
        refine W_skip ?_
        refine W_seq ?_
        refine W_seq ?_
        refine W_region (by kernel_rfl) ?_
        refine s_y (v := .int .i64 (1 + ((hi0.toNat : Nat) : Int))) rfl (y_move rfl) ?_
        refine s_y (v := .int .i64 (1 + ((hi0.toNat : Nat) : Int))) rfl (y_move rfl) ?_
        refine s_y (v := .bool false) rfl (y_neq rfl rfl (decide_eq_false (fun hq => hq rfl))) ?_
        refine s_nil ?_
        refine W_if_f (by decide) rfl ?_
        refine W_skip ?_
        refine W_seq ?_
        have B0_145 := B
        refine W_draw (no) T7.mx (by kernel_rfl) (fun w143 e144 => ?_)
        have R146 := Ext.refl (no) w138
        replace R146 := R146.trans (Ext0.any e144)
        replace B := B.ext0 e144
        clear e144
        refine m_y (v := .agg #[.int .i64 wd0, .int .i64 hi0, .bool wr0, .slice asp0 nsp0 csp0, .slice als0 nls0 cls0]) 0 rfl (by kernel_rfl) rfl rfl (fun w' e' => y_loadn (b := b1) (o := 0) (vs := [.int .i64 wd0, .int .i64 hi0, .bool wr0, .slice asp0 nsp0 csp0, .slice als0 nls0 cls0]) T7.agg_36_5 rfl rfl (((B0_145.b 20 rfl).ext0 e').cells (o := 0) rfl)) ?_
        refine m_y (v := .agg #[.slice afe1 nfe1 cfe1, .slice afx1 nfx1 cfx1, .slice afy1 nfy1 cfy1]) 2 rfl (by kernel_rfl) rfl rfl (fun w' e' => y_loadn (b := b4) (o := 0) (vs := [.slice afe1 nfe1 cfe1, .slice afx1 nfx1 cfx1, .slice afy1 nfy1 cfy1]) T7.agg_45_3 rfl rfl (((B0_145.b 19 rfl).ext0 e').cells (o := 0) rfl)) ?_
        refine m_y (v := .int .i64 i2) 4 rfl (by kernel_rfl) rfl rfl (fun w' e' => y_move rfl) ?_
        refine m_k 1 [3, 5, 6, 7, 8, 9, 10] rfl (by kernel_rfl) rfl rfl (fun w147 e148 => ?_)
        replace R146 := R146.trans (Ext0.any e148)
        replace B := B.ext0 e148
        clear e148
        refine k_call T7.fn_23 (c_l_toSheet (B.r 21 rfl) (B.r 22 rfl) (by omega) (by omega)) rfl ?_
        rintro _ w149 ⟨a150, c151, a152, c153, rfl, hN154⟩
        replace R146 := R146.trans (Ext0.any hN154.ext)
        replace B := B.new2 hN154
        clear hN154
        refine ⟨fun _ => R146, ?_⟩
        refine m_k 3 [5, 6, 7, 8, 9, 10] rfl (by kernel_rfl) rfl rfl (fun w155 e156 => ?_)
        replace R146 := R146.trans (Ext0.any e156)
        replace B := B.ext0 e156
        clear e156
        refine k_call T7.fn_31 (c_l_toField (B.r 25 rfl) (B.r 26 rfl) (B.r 27 rfl) (by omega) (by omega) (by omega)) rfl ?_
        rintro _ w157 ⟨a158, c159, a160, c161, a162, c163, rfl, hN164⟩
        replace R146 := R146.trans (Ext0.any hN164.ext)
        replace B := B.new3 hN164
        clear hN164
        refine ⟨fun _ => R146, ?_⟩
        refine m_k 5 [6, 7, 8, 9, 10] rfl (by kernel_rfl) rfl rfl (fun w165 e166 => ?_)
        replace R146 := R146.trans (Ext0.any e166)
        replace B := B.ext0 e166
        clear e166
        refine k_call T7.fn_42 (c_i_ColumnOf ((B.o 3 rfl).rd) ((B.o 4 rfl).rd) ((B.o 0 rfl).rd) ((B.o 1 rfl).rd) ((B.o 2 rfl).rd) (by omega) (by omega) (by omega) (by omega) (by omega)) rfl ?_
        rintro v169 w167 hx168
        obtain ⟨a170, c171, rfl, hN172⟩ := (hx168.resolve_right (fun hz => by rw [c48] at hz; cases hz.1)).2
        clear hx168
        replace R146 := R146.trans (Ext0.any hN172.ext)
        replace B := B.new1 hN172
        clear hN172
        refine ⟨fun _ => R146, ?_⟩
        refine m_y (v := .tuple #[.slice a170 hi0.toNat c171, .bool true]) 6 rfl (by kernel_rfl) rfl rfl (fun w' e' => y_move rfl) ?_
        refine m_y (v := .slice a170 hi0.toNat c171) 7 rfl (by kernel_rfl) rfl rfl (fun w' e' => y_extract rfl rfl) ?_
        refine m_y (v := .bool true) 8 rfl (by kernel_rfl) rfl rfl (fun w' e' => y_extract rfl rfl) ?_
        refine m_y (v := .slice a170 hi0.toNat c171) 9 rfl (by kernel_rfl) rfl rfl (fun w' e' => y_assign rfl) ?_
        refine m_y (v := .bool true) 10 rfl (by kernel_rfl) rfl rfl (fun w' e' => y_assign rfl) ?_
        refine m_done (by kernel_rfl) (fun w173 e174 => ?_)
        replace B := B.ext0 e174
        clear e174
        clear B0_145 R146
        refine W_seq ?_
        refine W_seq ?_
        refine W_region (by kernel_rfl) ?_
        refine s_y (v := .slice a170 hi0.toNat c171) rfl (y_move rfl) ?_
        refine s_y (v := .slice a50 hi0.toNat c51) rfl (y_move rfl) ?_
        refine s_k rfl (k_call T7.fn_33 (c_l_eqFloat32S ((B.o 0 rfl).rd) ((B.o 19 rfl).rd) (by omega)) rfl ?_)
        rintro _ w175 ⟨rfl, e176⟩
        replace B := B.ext0 e176
        clear e176
        refine s_y (v := .bool false) rfl (y_not rfl rfl) ?_
        refine s_y (v := .bool false) rfl (y_move rfl) ?_
        refine s_y (v := .bool true) rfl (y_move rfl) ?_
        refine s_y (v := .bool true) rfl (y_move rfl) ?_
        refine s_y (v := .bool false) rfl (y_bneq T7.bool_4 rfl rfl rfl) ?_
        refine s_y (v := .bool false) rfl (y_pick_f rfl rfl) ?_
        refine s_nil ?_
        refine W_if_f (by decide) rfl ?_
        refine W_skip ?_
        refine W_seq ?_
        refine W_region (by kernel_rfl) ?_
        refine s_y (v := .int .i64 1) rfl (y_assign rfl) ?_
        refine s_nil ?_
        refine W_seq ?_
        refine W_region (by kernel_rfl) ?_
        refine s_y (v := .slice a82 hi0.toNat c83) rfl (y_move rfl) ?_
        refine s_y (v := .int .i64 1) rfl (y_move rfl) ?_
        refine s_k rfl (k_call T7.fn_37 (c_l_heldFloat32S ((B.o 6 rfl).rd) (by omega) (by omega) (by omega)) rfl ?_)
        rintro _ w177 ⟨rfl, e178⟩
        replace B := B.ext0 e178
        clear e178
        refine s_y (v := .int .i64 (1 + ((hi0.toNat : Nat) : Int))) rfl (y_assign rfl) ?_
        refine s_nil ?_
        refine W_seq ?_
        refine W_seq ?_
        refine W_region (by kernel_rfl) ?_
        refine s_y (v := .int .i64 (1 + ((hi0.toNat : Nat) : Int))) rfl (y_move rfl) ?_
        refine s_y (v := .bool false) rfl (y_lss rfl rfl (decide_eq_false hk140)) ?_
        refine s_nil ?_
        refine W_if_f (by decide) rfl ?_
        refine W_skip ?_
        refine W_seq ?_
        refine W_seq ?_
        refine W_region (by kernel_rfl) ?_
        refine s_y (v := .int .i64 (1 + ((hi0.toNat : Nat) : Int))) rfl (y_move rfl) ?_
        refine s_y (v := .int .i64 (1 + ((hi0.toNat : Nat) : Int))) rfl (y_move rfl) ?_
        refine s_y (v := .bool false) rfl (y_neq rfl rfl (decide_eq_false (fun hq => hq rfl))) ?_
        refine s_nil ?_
        refine W_if_f (by decide) rfl ?_
        refine W_skip ?_
        refine W_seq ?_
        refine W_region (by kernel_rfl) ?_
        refine s_y (v := .bool true) rfl (y_assign rfl) ?_
        refine s_nil ?_
        refine W_ret ?_
        refine ret1 (v := .bool true) rfl rfl rfl ⟨_, rfl, ?_⟩
        exact ⟨rfl, B.ext⟩
      · obtain ⟨_, rfl, e179⟩ := hx46.resolve_left (fun hz => c48 hz.1)
        clear hx46
        replace R24 := R24.trans (Ext0.any e179)
        replace B := B.ext0 e179
        clear e179
        refine ⟨fun _ => R24, ?_⟩
        refine m_y (v := .tuple #[.slice none 0 0, .bool false]) 6 rfl (by kernel_rfl) rfl rfl (fun w' e' => y_move rfl) ?_
        refine m_y (v := .slice none 0 0) 7 rfl (by kernel_rfl) rfl rfl (fun w' e' => y_extract rfl rfl) ?_
        refine m_y (v := .bool false) 8 rfl (by kernel_rfl) rfl rfl (fun w' e' => y_extract rfl rfl) ?_
        refine m_y (v := .slice none 0 0) 9 rfl (by kernel_rfl) rfl rfl (fun w' e' => y_assign rfl) ?_
        refine m_y (v := .bool false) 10 rfl (by kernel_rfl) rfl rfl (fun w' e' => y_assign rfl) ?_
        refine m_done (by kernel_rfl) (fun w180 e181 => ?_)
        replace B := B.ext0 e181
        clear e181
        clear B0_23 R24
        refine W_seq ?_
        refine W_region (by kernel_rfl) ?_
        refine s_y (v := .agg #[.int .i64 wd0, .int .i64 hi0, .bool wr0, .slice asp0 nsp0 csp0, .slice als0 nls0 cls0]) rfl (y_loadn (b := b1) (o := 0) (vs := [.int .i64 wd0, .int .i64 hi0, .bool wr0, .slice asp0 nsp0 csp0, .slice als0 nls0 cls0]) T7.agg_36_5 rfl rfl ((B.b 6 rfl).cells (o := 0) rfl)) ?_
        refine s_k rfl (k_call T7.fn_23 (c_l_toSheet (B.r 7 rfl) (B.r 8 rfl) (by omega) (by omega)) rfl ?_)
        rintro _ w182 ⟨a183, c184, a185, c186, rfl, hN187⟩
        replace B := B.new2 hN187
        clear hN187
        refine s_k rfl (k_allocN (z := (.agg #[.int .i64 0, .int .i64 0, .bool false, .slice none 0 0, .slice none 0 0])) (cs := [.int .i64 0, .int .i64 0, .bool false, .slice none 0 0, .slice none 0 0]) T7.zero_26 rfl (fun b188 w189 hN190 => ?_))
        replace B := B.new1 hN190
        clear hN190
        refine s_k0 rfl (k_stB (v := .agg #[.int .i64 wd0, .int .i64 hi0, .bool wr0, .slice a183 nsp0 c184, .slice a185 nls0 c186]) (n := 5) (cs' := [.int .i64 wd0, .int .i64 hi0, .bool wr0, .slice a183 nsp0 c184, .slice a185 nls0 c186]) T7.sz_26_5 rfl rfl rfl (B.b 0 rfl) (by simp [Value.cells, Value.oneCell']) (Nat.le_of_ble_eq_true rfl) rfl (fun w191 hU192 => ?_))
        replace B : Bu w no w191 [.blk b188 [.int .i64 wd0, .int .i64 hi0, .bool wr0, .slice a183 nsp0 c184, .slice a185 nls0 c186] 26, .ow kF a183 nsp0 c184 56 Xsp0, .ow kF a185 nls0 c186 56 Xls0, .ow kF a36 nfe1 c37 56 Xfe1, .ow kF a38 nfx1 c39 56 Xfx1, .ow kF a40 nfy1 c41 56 Xfy1, .ow kF a28 nsp0 c29 56 Xsp0, .ow kF a30 nls0 c31 56 Xls0, .blk b4 [.slice afe1 nfe1 cfe1, .slice afx1 nfx1 cfx1, .slice afy1 nfy1 cfy1] 45, .blk b1 [.int .i64 wd0, .int .i64 hi0, .bool wr0, .slice asp0 nsp0 csp0, .slice als0 nls0 cls0] 36, .rd kF asp0 nsp0 Xsp0, .rd kF als0 nls0 Xls0, .rd kF afe1 nfe1 Xfe1, .rd kF afx1 nfx1 Xfx1, .rd kF afy1 nfy1 Xfy1] := B.upd [0] rfl hU192
        clear hU192
        refine s_nil ?_
        refine W_seq ?_
        refine W_region (by kernel_rfl) ?_
        refine s_y (v := .agg #[.slice afe1 nfe1 cfe1, .slice afx1 nfx1 cfx1, .slice afy1 nfy1 cfy1]) rfl (y_loadn (b := b4) (o := 0) (vs := [.slice afe1 nfe1 cfe1, .slice afx1 nfx1 cfx1, .slice afy1 nfy1 cfy1]) T7.agg_45_3 rfl rfl ((B.b 8 rfl).cells (o := 0) rfl)) ?_
        refine s_k rfl (k_call T7.fn_31 (c_l_toField (B.r 12 rfl) (B.r 13 rfl) (B.r 14 rfl) (by omega) (by omega) (by omega)) rfl ?_)
        rintro _ w193 ⟨a194, c195, a196, c197, a198, c199, rfl, hN200⟩
        replace B := B.new3 hN200
        clear hN200
        refine s_k rfl (k_allocN (z := (.agg #[.slice none 0 0, .slice none 0 0, .slice none 0 0])) (cs := [.slice none 0 0, .slice none 0 0, .slice none 0 0]) T7.zero_49 rfl (fun b201 w202 hN203 => ?_))
        replace B := B.new1 hN203
        clear hN203
        refine s_k0 rfl (k_stB (v := .agg #[.slice a194 nfe1 c195, .slice a196 nfx1 c197, .slice a198 nfy1 c199]) (n := 3) (cs' := [.slice a194 nfe1 c195, .slice a196 nfx1 c197, .slice a198 nfy1 c199]) T7.sz_49_3 rfl rfl rfl (B.b 0 rfl) (by simp [Value.cells, Value.oneCell']) (Nat.le_of_ble_eq_true rfl) rfl (fun w204 hU205 => ?_))
        replace B : Bu w no w204 [.blk b201 [.slice a194 nfe1 c195, .slice a196 nfx1 c197, .slice a198 nfy1 c199] 49, .ow kF a194 nfe1 c195 56 Xfe1, .ow kF a196 nfx1 c197 56 Xfx1, .ow kF a198 nfy1 c199 56 Xfy1, .blk b188 [.int .i64 wd0, .int .i64 hi0, .bool wr0, .slice a183 nsp0 c184, .slice a185 nls0 c186] 26, .ow kF a183 nsp0 c184 56 Xsp0, .ow kF a185 nls0 c186 56 Xls0, .ow kF a36 nfe1 c37 56 Xfe1, .ow kF a38 nfx1 c39 56 Xfx1, .ow kF a40 nfy1 c41 56 Xfy1, .ow kF a28 nsp0 c29 56 Xsp0, .ow kF a30 nls0 c31 56 Xls0, .blk b4 [.slice afe1 nfe1 cfe1, .slice afx1 nfx1 cfx1, .slice afy1 nfy1 cfy1] 45, .blk b1 [.int .i64 wd0, .int .i64 hi0, .bool wr0, .slice asp0 nsp0 csp0, .slice als0 nls0 cls0] 36, .rd kF asp0 nsp0 Xsp0, .rd kF als0 nls0 Xls0, .rd kF afe1 nfe1 Xfe1, .rd kF afx1 nfx1 Xfx1, .rd kF afy1 nfy1 Xfy1] := B.upd [0] rfl hU205
        clear hU205
        refine s_nil ?_
        refine W_seq ?_
        refine W_region (by kernel_rfl) ?_
        refine s_y (v := .agg #[.int .i64 wd0, .int .i64 hi0, .bool wr0, .slice a183 nsp0 c184, .slice a185 nls0 c186]) rfl (y_loadn (b := b188) (o := 0) (vs := [.int .i64 wd0, .int .i64 hi0, .bool wr0, .slice a183 nsp0 c184, .slice a185 nls0 c186]) T7.agg_26_5 rfl rfl ((B.b 4 rfl).cells (o := 0) rfl)) ?_
        refine s_y (v := .agg #[.slice a194 nfe1 c195, .slice a196 nfx1 c197, .slice a198 nfy1 c199]) rfl (y_loadn (b := b201) (o := 0) (vs := [.slice a194 nfe1 c195, .slice a196 nfx1 c197, .slice a198 nfy1 c199]) T7.agg_49_3 rfl rfl ((B.b 0 rfl).cells (o := 0) rfl)) ?_
        refine s_y (v := .int .i64 i2) rfl (y_move rfl) ?_
        refine s_k rfl (k_call T7.fn_42 (c_i_ColumnOf ((B.o 5 rfl).rd) ((B.o 6 rfl).rd) ((B.o 1 rfl).rd) ((B.o 2 rfl).rd) ((B.o 3 rfl).rd) (by omega) (by omega) (by omega) (by omega) (by omega)) rfl ?_)
        rintro v208 w206 hx207
        obtain ⟨_, rfl, e209⟩ := hx207.resolve_left (fun hz => c48 hz.1)
        clear hx207
        replace B := B.ext0 e209
        clear e209
        refine s_y (v := .tuple #[.slice none 0 0, .bool false]) rfl (y_move rfl) ?_
        refine s_y (v := .slice none 0 0) rfl (y_extract rfl rfl) ?_
        refine s_y (v := .bool false) rfl (y_extract rfl rfl) ?_
        refine s_y (v := .slice none 0 0) rfl (y_assign rfl) ?_
        refine s_y (v := .bool false) rfl (y_assign rfl) ?_
        refine s_nil ?_
        refine W_seq ?_
        refine W_seq ?_
        refine W_region (by kernel_rfl) ?_
        refine s_y (v := .slice none 0 0) rfl (y_move rfl) ?_
        refine s_y (v := .slice none 0 0) rfl (y_move rfl) ?_
        refine s_k rfl (k_call T7.fn_33 (c_l_eqFloat32S (Rd.nil _ kF none) (Rd.nil _ kF none) (by omega)) rfl ?_)
        rintro _ w210 ⟨rfl, e211⟩
        replace B := B.ext0 e211
        clear e211
        refine s_y (v := .bool false) rfl (y_not rfl rfl) ?_
        refine s_y (v := .bool false) rfl (y_move rfl) ?_
        refine s_y (v := .bool false) rfl (y_move rfl) ?_
        refine s_y (v := .bool false) rfl (y_move rfl) ?_
        refine s_y (v := .bool false) rfl (y_bneq T7.bool_4 rfl rfl rfl) ?_
        refine s_y (v := .bool false) rfl (y_pick_f rfl rfl) ?_
        refine s_nil ?_
        refine W_if_f (by decide) rfl ?_
        refine W_skip ?_
        refine W_seq ?_
        refine W_seq ?_
        have B0_216 := B
        refine W_draw (no) T7.mx (by kernel_rfl) (fun w214 e215 => ?_)
        have R217 := Ext.refl (no) w210
        replace R217 := R217.trans (Ext0.any e215)
        replace B := B.ext0 e215
        clear e215
        refine m_y (v := .agg #[.int .i64 wd0, .int .i64 hi0, .bool wr0, .slice a183 nsp0 c184, .slice a185 nls0 c186]) 0 rfl (by kernel_rfl) rfl rfl (fun w' e' => y_loadn (b := b188) (o := 0) (vs := [.int .i64 wd0, .int .i64 hi0, .bool wr0, .slice a183 nsp0 c184, .slice a185 nls0 c186]) T7.agg_26_5 rfl rfl (((B0_216.b 4 rfl).ext0 e').cells (o := 0) rfl)) ?_
        refine m_y (v := .agg #[.int .i64 wd0, .int .i64 hi0, .bool wr0, .slice asp0 nsp0 csp0, .slice als0 nls0 cls0]) 1 rfl (by kernel_rfl) rfl rfl (fun w' e' => y_loadn (b := b1) (o := 0) (vs := [.int .i64 wd0, .int .i64 hi0, .bool wr0, .slice asp0 nsp0 csp0, .slice als0 nls0 cls0]) T7.agg_36_5 rfl rfl (((B0_216.b 13 rfl).ext0 e').cells (o := 0) rfl)) ?_
        refine m_k 2 [3, 4] rfl (by kernel_rfl) rfl rfl (fun w218 e219 => ?_)
        replace R217 := R217.trans (Ext0.any e219)
        replace B := B.ext0 e219
        clear e219
        refine k_call T7.fn_23 (c_l_toSheet (B.r 14 rfl) (B.r 15 rfl) (by omega) (by omega)) rfl ?_
        rintro _ w220 ⟨a221, c222, a223, c224, rfl, hN225⟩
        replace R217 := R217.trans (Ext0.any hN225.ext)
        replace B := B.new2 hN225
        clear hN225
        refine ⟨fun _ => R217, ?_⟩
        refine m_k 3 [4] rfl (by kernel_rfl) rfl rfl (fun w226 e227 => ?_)
        replace R217 := R217.trans (Ext0.any e227)
        replace B := B.ext0 e227
        clear e227
        refine k_call T7.fn_25 (c_l_eqSheet ((B.o 7 rfl).rd) ((B.o 8 rfl).rd) ((B.o 0 rfl).rd) ((B.o 1 rfl).rd) (by omega) (by omega)) rfl ?_
        rintro _ w228 ⟨rfl, e229⟩
        replace R217 := R217.trans (Ext0.any e229)
        replace B := B.ext0 e229
        clear e229
        refine ⟨fun _ => R217, ?_⟩
        refine m_y (v := .bool false) 4 rfl (by kernel_rfl) rfl rfl (fun w' e' => y_not rfl rfl) ?_
        refine m_done (by kernel_rfl) (fun w230 e231 => ?_)
        replace B := B.ext0 e231
        clear e231
        clear B0_216 R217
        refine W_if_f (by decide) rfl ?_
        refine W_skip ?_
        refine W_seq ?_
        refine W_seq ?_
        have B0_236 := B
        refine W_draw (no) T7.mx (by kernel_rfl) (fun w234 e235 => ?_)
        have R237 := Ext.refl (no) w230
        replace R237 := R237.trans (Ext0.any e235)
        replace B := B.ext0 e235
        clear e235
        refine m_y (v := .agg #[.slice a194 nfe1 c195, .slice a196 nfx1 c197, .slice a198 nfy1 c199]) 0 rfl (by kernel_rfl) rfl rfl (fun w' e' => y_loadn (b := b201) (o := 0) (vs := [.slice a194 nfe1 c195, .slice a196 nfx1 c197, .slice a198 nfy1 c199]) T7.agg_49_3 rfl rfl (((B0_236.b 2 rfl).ext0 e').cells (o := 0) rfl)) ?_
        refine m_y (v := .agg #[.slice afe1 nfe1 cfe1, .slice afx1 nfx1 cfx1, .slice afy1 nfy1 cfy1]) 1 rfl (by kernel_rfl) rfl rfl (fun w' e' => y_loadn (b := b4) (o := 0) (vs := [.slice afe1 nfe1 cfe1, .slice afx1 nfx1 cfx1, .slice afy1 nfy1 cfy1]) T7.agg_45_3 rfl rfl (((B0_236.b 14 rfl).ext0 e').cells (o := 0) rfl)) ?_
        refine m_k 2 [3, 4] rfl (by kernel_rfl) rfl rfl (fun w238 e239 => ?_)
        replace R237 := R237.trans (Ext0.any e239)
        replace B := B.ext0 e239
        clear e239
        refine k_call T7.fn_31 (c_l_toField (B.r 18 rfl) (B.r 19 rfl) (B.r 20 rfl) (by omega) (by omega) (by omega)) rfl ?_
        rintro _ w240 ⟨a241, c242, a243, c244, a245, c246, rfl, hN247⟩
        replace R237 := R237.trans (Ext0.any hN247.ext)
        replace B := B.new3 hN247
        clear hN247
        refine ⟨fun _ => R237, ?_⟩
        refine m_k 3 [4] rfl (by kernel_rfl) rfl rfl (fun w248 e249 => ?_)
        replace R237 := R237.trans (Ext0.any e249)
        replace B := B.ext0 e249
        clear e249
        refine k_call T7.fn_34 (c_l_eqField ((B.o 6 rfl).rd) ((B.o 7 rfl).rd) ((B.o 8 rfl).rd) ((B.o 0 rfl).rd) ((B.o 1 rfl).rd) ((B.o 2 rfl).rd) (by omega) (by omega) (by omega)) rfl ?_
        rintro _ w250 ⟨rfl, e251⟩
        replace R237 := R237.trans (Ext0.any e251)
        replace B := B.ext0 e251
        clear e251
        refine ⟨fun _ => R237, ?_⟩
        refine m_y (v := .bool false) 4 rfl (by kernel_rfl) rfl rfl (fun w' e' => y_not rfl rfl) ?_
        refine m_done (by kernel_rfl) (fun w252 e253 => ?_)
        replace B := B.ext0 e253
        clear e253
        clear B0_236 R237
        refine W_if_f (by decide) rfl ?_
        refine W_skip ?_
        refine W_seq ?_
        refine W_region (by kernel_rfl) ?_
        refine s_y (v := .int .i64 1) rfl (y_assign rfl) ?_
        refine s_nil ?_
        refine W_seq ?_
        refine W_region (by kernel_rfl) ?_
        refine s_y (v := .agg #[.int .i64 wd0, .int .i64 hi0, .bool wr0, .slice a183 nsp0 c184, .slice a185 nls0 c186]) rfl (y_loadn (b := b188) (o := 0) (vs := [.int .i64 wd0, .int .i64 hi0, .bool wr0, .slice a183 nsp0 c184, .slice a185 nls0 c186]) T7.agg_26_5 rfl rfl ((B.b 9 rfl).cells (o := 0) rfl)) ?_
        refine s_y (v := .int .i64 1) rfl (y_move rfl) ?_
        refine s_k rfl (k_call T7.fn_26 (c_l_markSheet (by omega) (by omega) (by omega) (by omega) (B.all.pick [10, 11] rfl) (B.pw.pick [10, 11] rfl rfl)) rfl ?_)
        rintro _ w254 ⟨rfl, hU255⟩
        replace B : Bu w no w254 [.ow kF a183 nsp0 c184 56 (marks 1 nsp0), .ow kF a185 nls0 c186 56 (marks (1 + ((nsp0 : Nat) : Int)) nls0), .ow kF a241 nfe1 c242 56 Xfe1, .ow kF a243 nfx1 c244 56 Xfx1, .ow kF a245 nfy1 c246 56 Xfy1, .ow kF a221 nsp0 c222 56 Xsp0, .ow kF a223 nls0 c224 56 Xls0, .blk b201 [.slice a194 nfe1 c195, .slice a196 nfx1 c197, .slice a198 nfy1 c199] 49, .ow kF a194 nfe1 c195 56 Xfe1, .ow kF a196 nfx1 c197 56 Xfx1, .ow kF a198 nfy1 c199 56 Xfy1, .blk b188 [.int .i64 wd0, .int .i64 hi0, .bool wr0, .slice a183 nsp0 c184, .slice a185 nls0 c186] 26, .ow kF a36 nfe1 c37 56 Xfe1, .ow kF a38 nfx1 c39 56 Xfx1, .ow kF a40 nfy1 c41 56 Xfy1, .ow kF a28 nsp0 c29 56 Xsp0, .ow kF a30 nls0 c31 56 Xls0, .blk b4 [.slice afe1 nfe1 cfe1, .slice afx1 nfx1 cfx1, .slice afy1 nfy1 cfy1] 45, .blk b1 [.int .i64 wd0, .int .i64 hi0, .bool wr0, .slice asp0 nsp0 csp0, .slice als0 nls0 cls0] 36, .rd kF asp0 nsp0 Xsp0, .rd kF als0 nls0 Xls0, .rd kF afe1 nfe1 Xfe1, .rd kF afx1 nfx1 Xfx1, .rd kF afy1 nfy1 Xfy1] := B.upd [10, 11] rfl hU255
        clear hU255
        refine s_y (v := .int .i64 (1 + ((nsp0 : Nat) : Int) + ((nls0 : Nat) : Int))) rfl (y_assign rfl) ?_
        refine s_nil ?_
        refine W_seq ?_
        refine W_region (by kernel_rfl) ?_
        refine s_y (v := .agg #[.slice a194 nfe1 c195, .slice a196 nfx1 c197, .slice a198 nfy1 c199]) rfl (y_loadn (b := b201) (o := 0) (vs := [.slice a194 nfe1 c195, .slice a196 nfx1 c197, .slice a198 nfy1 c199]) T7.agg_49_3 rfl rfl ((B.b 7 rfl).cells (o := 0) rfl)) ?_
        refine s_y (v := .int .i64 (1 + ((nsp0 : Nat) : Int) + ((nls0 : Nat) : Int))) rfl (y_move rfl) ?_
        refine s_k rfl (k_call T7.fn_35 (c_l_markField (by omega) (by omega) (by omega) (by omega) (by omega) (B.all.pick [8, 9, 10] rfl) (B.pw.pick [8, 9, 10] rfl rfl)) rfl ?_)
        rintro _ w256 ⟨rfl, hU257⟩
        replace B : Bu w no w256 [.ow kF a194 nfe1 c195 56 (marks (1 + ((nsp0 : Nat) : Int) + ((nls0 : Nat) : Int)) nfe1), .ow kF a196 nfx1 c197 56 (marks ((1 + ((nsp0 : Nat) : Int) + ((nls0 : Nat) : Int)) + ((nfe1 : Nat) : Int)) nfx1), .ow kF a198 nfy1 c199 56 (marks ((1 + ((nsp0 : Nat) : Int) + ((nls0 : Nat) : Int)) + ((nfe1 : Nat) : Int) + ((nfx1 : Nat) : Int)) nfy1), .ow kF a183 nsp0 c184 56 (marks 1 nsp0), .ow kF a185 nls0 c186 56 (marks (1 + ((nsp0 : Nat) : Int)) nls0), .ow kF a241 nfe1 c242 56 Xfe1, .ow kF a243 nfx1 c244 56 Xfx1, .ow kF a245 nfy1 c246 56 Xfy1, .ow kF a221 nsp0 c222 56 Xsp0, .ow kF a223 nls0 c224 56 Xls0, .blk b201 [.slice a194 nfe1 c195, .slice a196 nfx1 c197, .slice a198 nfy1 c199] 49, .blk b188 [.int .i64 wd0, .int .i64 hi0, .bool wr0, .slice a183 nsp0 c184, .slice a185 nls0 c186] 26, .ow kF a36 nfe1 c37 56 Xfe1, .ow kF a38 nfx1 c39 56 Xfx1, .ow kF a40 nfy1 c41 56 Xfy1, .ow kF a28 nsp0 c29 56 Xsp0, .ow kF a30 nls0 c31 56 Xls0, .blk b4 [.slice afe1 nfe1 cfe1, .slice afx1 nfx1 cfx1, .slice afy1 nfy1 cfy1] 45, .blk b1 [.int .i64 wd0, .int .i64 hi0, .bool wr0, .slice asp0 nsp0 csp0, .slice als0 nls0 cls0] 36, .rd kF asp0 nsp0 Xsp0, .rd kF als0 nls0 Xls0, .rd kF afe1 nfe1 Xfe1, .rd kF afx1 nfx1 Xfx1, .rd kF afy1 nfy1 Xfy1] := B.upd [8, 9, 10] rfl hU257
        clear hU257
        refine s_y (v := .int .i64 ((1 + ((nsp0 : Nat) : Int) + ((nls0 : Nat) : Int)) + ((nfe1 : Nat) : Int) + ((nfx1 : Nat) : Int) + ((nfy1 : Nat) : Int))) rfl (y_assign rfl) ?_
        refine s_nil ?_
        refine W_seq ?_
        refine W_seq ?_
        refine W_region (by kernel_rfl) ?_
        refine s_y (v := .int .i64 ((1 + ((nsp0 : Nat) : Int) + ((nls0 : Nat) : Int)) + ((nfe1 : Nat) : Int) + ((nfx1 : Nat) : Int) + ((nfy1 : Nat) : Int))) rfl (y_move rfl) ?_
        have hk258 : ¬ (((1 + ((nsp0 : Nat) : Int) + ((nls0 : Nat) : Int)) + ((nfe1 : Nat) : Int) + ((nfx1 : Nat) : Int) + ((nfy1 : Nat) : Int)) < 0) := (by omega)
        refine s_y (v := .bool false) rfl (y_lss rfl rfl (decide_eq_false hk258)) ?_
        refine s_y (v := .bool false) rfl (y_move rfl) ?_
        refine s_y (v := .slice none 0 0) rfl (y_move rfl) ?_
        refine s_y (v := .slice none 0 0) rfl (y_move rfl) ?_
        refine s_k rfl (k_call T7.fn_33 (c_l_eqFloat32S (Rd.nil _ kF none) (Rd.nil _ kF none) (by omega)) rfl ?_)
        rintro _ w259 ⟨rfl, e260⟩
        replace B := B.ext0 e260
        clear e260
        refine s_y (v := .bool false) rfl (y_not rfl rfl) ?_
        refine s_y (v := .bool false) rfl (y_pick_f rfl rfl) ?_
        refine s_y (v := .bool false) rfl (y_move rfl) ?_
        refine s_y (v := .bool false) rfl (y_move rfl) ?_
        refine s_y (v := .bool false) rfl (y_move rfl) ?_
        refine s_y (v := .bool false) rfl (y_bneq T7.bool_4 rfl rfl rfl) ?_
        refine s_y (v := .bool false) rfl (y_pick_f rfl rfl) ?_
        refine s_nil ?_
        refine W_if_f (by decide) rfl ?_
        refine W_skip ?_
        refine W_seq ?_
        refine W_region (by kernel_rfl) ?_
        refine s_y (v := .int .i64 1) rfl (y_assign rfl) ?_
        refine s_nil ?_
        refine W_seq ?_
        refine W_region (by kernel_rfl) ?_
        refine s_y (v := .slice none 0 0) rfl (y_move rfl) ?_
        refine s_y (v := .int .i64 1) rfl (y_move rfl) ?_
        refine s_k rfl (k_call T7.fn_36 (c_l_markFloat32S (by decide) (by omega) (by omega) (All.cons (Ow.nil _ kF 56 : Fact.holds _ (.ow kF none 0 0 56 [])) <| All.nil) (Pw.nils (by intro f hf; simp only [List.mem_cons, List.not_mem_nil, or_false] at hf; rcases hf with rfl <;> exact no_none))) rfl ?_)
        rintro _ w261 ⟨rfl, hU262⟩
        replace hU262 := Upd.nils hU262 (by intro f hf; simp only [List.mem_cons, List.not_mem_nil, or_false] at hf; rcases hf with rfl <;> exact no_none)
        replace B := B.ext0 hU262
        clear hU262
        refine s_y (v := .int .i64 (1 + ((0 : Nat) : Int))) rfl (y_assign rfl) ?_
        refine s_nil ?_
        refine W_seq ?_
        refine W_region (by kernel_rfl) ?_
        refine s_y (v := .int .i64 1) rfl (y_assign rfl) ?_
        refine s_nil ?_
        refine W_seq ?_
        refine W_region (by kernel_rfl) ?_
        refine s_y (v := .slice none 0 0) rfl (y_move rfl) ?_
        refine s_y (v := .int .i64 1) rfl (y_move rfl) ?_
        refine s_k rfl (k_call T7.fn_37 (c_l_heldFloat32S (k := 1) (Rd.nil _ kF none : Rd _ kF none 0 (marks 1 0)) (by decide) (by omega) (by omega)) rfl ?_)
        rintro _ w263 ⟨rfl, e264⟩
        replace B := B.ext0 e264
        clear e264
        refine s_y (v := .int .i64 (1 + ((0 : Nat) : Int))) rfl (y_assign rfl) ?_
        refine s_nil ?_
        refine W_seq ?_
        refine W_seq ?_
        refine W_region (by kernel_rfl) ?_
        refine s_y (v := .int .i64 (1 + ((0 : Nat) : Int))) rfl (y_move rfl) ?_
        have hk265 : ¬ ((1 + ((0 : Nat) : Int)) < 0) := (by omega)
        refine s_y (v := .bool false) rfl (y_lss rfl rfl (decide_eq_false hk265)) ?_
        refine s_nil ?_
        refine W_if_f (by decide) rfl ?_
        refine W_skip ?_
        refine W_seq ?_
        refine W_seq ?_
        refine W_region (by kernel_rfl) ?_
        refine s_y (v := .int .i64 (1 + ((0 : Nat) : Int))) rfl (y_move rfl) ?_
        refine s_y (v := .int .i64 (1 + ((0 : Nat) : Int))) rfl (y_move rfl) ?_
        refine s_y (v := .bool false) rfl (y_neq rfl rfl (decide_eq_false (fun hq => hq rfl))) ?_
        refine s_nil ?_
        refine W_if_f (by decide) rfl ?_
        refine W_skip ?_
        refine W_seq ?_
        have B0_270 := B
        refine W_draw (no) T7.mx (by kernel_rfl) (fun w268 e269 => ?_)
        have R271 := Ext.refl (no) w263
        replace R271 := R271.trans (Ext0.any e269)
        replace B := B.ext0 e269
        clear e269
        refine m_y (v := .agg #[.int .i64 wd0, .int .i64 hi0, .bool wr0, .slice asp0 nsp0 csp0, .slice als0 nls0 cls0]) 0 rfl (by kernel_rfl) rfl rfl (fun w' e' => y_loadn (b := b1) (o := 0) (vs := [.int .i64 wd0, .int .i64 hi0, .bool wr0, .slice asp0 nsp0 csp0, .slice als0 nls0 cls0]) T7.agg_36_5 rfl rfl (((B0_270.b 18 rfl).ext0 e').cells (o := 0) rfl)) ?_
        refine m_y (v := .agg #[.slice afe1 nfe1 cfe1, .slice afx1 nfx1 cfx1, .slice afy1 nfy1 cfy1]) 2 rfl (by kernel_rfl) rfl rfl (fun w' e' => y_loadn (b := b4) (o := 0) (vs := [.slice afe1 nfe1 cfe1, .slice afx1 nfx1 cfx1, .slice afy1 nfy1 cfy1]) T7.agg_45_3 rfl rfl (((B0_270.b 17 rfl).ext0 e').cells (o := 0) rfl)) ?_
        refine m_y (v := .int .i64 i2) 4 rfl (by kernel_rfl) rfl rfl (fun w' e' => y_move rfl) ?_
        refine m_k 1 [3, 5, 6, 7, 8, 9, 10] rfl (by kernel_rfl) rfl rfl (fun w272 e273 => ?_)
        replace R271 := R271.trans (Ext0.any e273)
        replace B := B.ext0 e273
        clear e273
        refine k_call T7.fn_23 (c_l_toSheet (B.r 19 rfl) (B.r 20 rfl) (by omega) (by omega)) rfl ?_
        rintro _ w274 ⟨a275, c276, a277, c278, rfl, hN279⟩
        replace R271 := R271.trans (Ext0.any hN279.ext)
        replace B := B.new2 hN279
        clear hN279
        refine ⟨fun _ => R271, ?_⟩
        refine m_k 3 [5, 6, 7, 8, 9, 10] rfl (by kernel_rfl) rfl rfl (fun w280 e281 => ?_)
        replace R271 := R271.trans (Ext0.any e281)
        replace B := B.ext0 e281
        clear e281
        refine k_call T7.fn_31 (c_l_toField (B.r 23 rfl) (B.r 24 rfl) (B.r 25 rfl) (by omega) (by omega) (by omega)) rfl ?_
        rintro _ w282 ⟨a283, c284, a285, c286, a287, c288, rfl, hN289⟩
        replace R271 := R271.trans (Ext0.any hN289.ext)
        replace B := B.new3 hN289
        clear hN289
        refine ⟨fun _ => R271, ?_⟩
        refine m_k 5 [6, 7, 8, 9, 10] rfl (by kernel_rfl) rfl rfl (fun w290 e291 => ?_)
        replace R271 := R271.trans (Ext0.any e291)
        replace B := B.ext0 e291
        clear e291
        refine k_call T7.fn_42 (c_i_ColumnOf ((B.o 3 rfl).rd) ((B.o 4 rfl).rd) ((B.o 0 rfl).rd) ((B.o 1 rfl).rd) ((B.o 2 rfl).rd) (by omega) (by omega) (by omega) (by omega) (by omega)) rfl ?_
        rintro v294 w292 hx293
        obtain ⟨_, rfl, e295⟩ := hx293.resolve_left (fun hz => c48 hz.1)
        clear hx293
        replace R271 := R271.trans (Ext0.any e295)
        replace B := B.ext0 e295
        clear e295
        refine ⟨fun _ => R271, ?_⟩
        refine m_y (v := .tuple #[.slice none 0 0, .bool false]) 6 rfl (by kernel_rfl) rfl rfl (fun w' e' => y_move rfl) ?_
        refine m_y (v := .slice none 0 0) 7 rfl (by kernel_rfl) rfl rfl (fun w' e' => y_extract rfl rfl) ?_
        refine m_y (v := .bool false) 8 rfl (by kernel_rfl) rfl rfl (fun w' e' => y_extract rfl rfl) ?_
        refine m_y (v := .slice none 0 0) 9 rfl (by kernel_rfl) rfl rfl (fun w' e' => y_assign rfl) ?_
        refine m_y (v := .bool false) 10 rfl (by kernel_rfl) rfl rfl (fun w' e' => y_assign rfl) ?_
        refine m_done (by kernel_rfl) (fun w296 e297 => ?_)
        replace B := B.ext0 e297
        clear e297
        clear B0_270 R271
        refine W_seq ?_
        refine W_seq ?_
        refine W_region (by kernel_rfl) ?_
        refine s_y (v := .slice none 0 0) rfl (y_move rfl) ?_
        refine s_y (v := .slice none 0 0) rfl (y_move rfl) ?_
        refine s_k rfl (k_call T7.fn_33 (c_l_eqFloat32S (Rd.nil _ kF none) (Rd.nil _ kF none) (by omega)) rfl ?_)
        rintro _ w298 ⟨rfl, e299⟩
        replace B := B.ext0 e299
        clear e299
        refine s_y (v := .bool false) rfl (y_not rfl rfl) ?_
        refine s_y (v := .bool false) rfl (y_move rfl) ?_
        refine s_y (v := .bool false) rfl (y_move rfl) ?_
        refine s_y (v := .bool false) rfl (y_move rfl) ?_
        refine s_y (v := .bool false) rfl (y_bneq T7.bool_4 rfl rfl rfl) ?_
        refine s_y (v := .bool false) rfl (y_pick_f rfl rfl) ?_
        refine s_nil ?_
        refine W_if_f (by decide) rfl ?_
        refine W_skip ?_
        refine W_seq ?_
        refine W_region (by kernel_rfl) ?_
        refine s_y (v := .int .i64 1) rfl (y_assign rfl) ?_
        refine s_nil ?_
        refine W_seq ?_
        refine W_region (by kernel_rfl) ?_
        refine s_y (v := .slice none 0 0) rfl (y_move rfl) ?_
        refine s_y (v := .int .i64 1) rfl (y_move rfl) ?_
        refine s_k rfl (k_call T7.fn_37 (c_l_heldFloat32S (k := 1) (Rd.nil _ kF none : Rd _ kF none 0 (marks 1 0)) (by decide) (by omega) (by omega)) rfl ?_)
        rintro _ w300 ⟨rfl, e301⟩
        replace B := B.ext0 e301
        clear e301
        refine s_y (v := .int .i64 (1 + ((0 : Nat) : Int))) rfl (y_assign rfl) ?_
        refine s_nil ?_
        refine W_seq ?_
        refine W_seq ?_
        refine W_region (by kernel_rfl) ?_
        refine s_y (v := .int .i64 (1 + ((0 : Nat) : Int))) rfl (y_move rfl) ?_
        refine s_y (v := .bool false) rfl (y_lss rfl rfl (decide_eq_false hk265)) ?_
        refine s_nil ?_
        refine W_if_f (by decide) rfl ?_
        refine W_skip ?_
        refine W_seq ?_
        refine W_seq ?_
        refine W_region (by kernel_rfl) ?_
        refine s_y (v := .int .i64 (1 + ((0 : Nat) : Int))) rfl (y_move rfl) ?_
        refine s_y (v := .int .i64 (1 + ((0 : Nat) : Int))) rfl (y_move rfl) ?_
        refine s_y (v := .bool false) rfl (y_neq rfl rfl (decide_eq_false (fun hq => hq rfl))) ?_
        refine s_nil ?_
        refine W_if_f (by decide) rfl ?_
        refine W_skip ?_
        refine W_seq ?_
        refine W_region (by kernel_rfl) ?_
        refine s_y (v := .bool true) rfl (y_assign rfl) ?_
        refine s_nil ?_
        refine W_ret ?_
        refine ret1 (v := .bool true) rfl rfl rfl ⟨_, rfl, ?_⟩
        exact ⟨rfl, B.ext⟩
    · obtain rfl : v15 = .int .i64 (-1) := hv16.trans (congrArg _ (if_neg c17))
      refine s_y (v := .int .i64 (-1)) rfl (y_assign rfl) ?_
      refine s_nil ?_
      refine W_seq ?_
      refine W_seq ?_
      refine W_region (by kernel_rfl) ?_
      refine s_y (v := .int .i64 (-1)) rfl (y_move rfl) ?_
      have hk302 : (-1 : Int) < 0 := (by decide)
      refine s_y (v := .bool true) rfl (y_lss rfl rfl (decide_eq_true hk302)) ?_
      refine s_nil ?_
      refine W_if_t (by decide) rfl ?_
      refine W_seq ?_
      refine W_region (by kernel_rfl) ?_
      refine s_y (v := .bool true) rfl (y_assign rfl) ?_
      refine s_nil ?_
      refine W_ret ?_
      refine ret1 (v := .bool true) rfl rfl rfl ⟨_, rfl, ?_⟩
      exact ⟨rfl, B.ext⟩
  · obtain rfl : v9 = .int .i64 (-1) := hv10.trans (congrArg _ (if_neg c11))
    refine s_y (v := .int .i64 (-1)) rfl (y_assign rfl) ?_
    refine s_nil ?_
    refine W_seq ?_
    refine W_seq ?_
    refine W_region (by kernel_rfl) ?_
    refine s_y (v := .int .i64 (-1)) rfl (y_move rfl) ?_
    have hk303 : (-1 : Int) < 0 := (by decide)
    refine s_y (v := .bool true) rfl (y_lss rfl rfl (decide_eq_true hk303)) ?_
    refine s_nil ?_
    refine W_if_t (by decide) rfl ?_
    refine W_seq ?_
    refine W_region (by kernel_rfl) ?_
    refine s_y (v := .bool true) rfl (y_assign rfl) ?_
    refine s_nil ?_
    refine W_ret ?_
    refine ret1 (v := .bool true) rfl rfl rfl ⟨_, rfl, ?_⟩
    exact ⟨rfl, B.ext⟩
end Go.Proofs.Ytalkhbnlphefdaa
