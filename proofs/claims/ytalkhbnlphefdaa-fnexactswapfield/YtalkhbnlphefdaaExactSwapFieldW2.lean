/- Walks: what the functions under FnExactSwapField do (part 3). Printed by a program of this claim's author. -/
import Derived.Test.YtalkhbnlphefdaaExactSwapFieldW1
set_option linter.unusedSimpArgs false
set_option linter.unusedVariables false
open Go.Wv
namespace Go.Proofs.Ytalkhbnlphefdaa
open Go.Proofs
namespace T25
theorem mx : Try.prog.follows .mixedOrders = true := by kernel_rfl
theorem bool_4 : Try.prog.underlying 4 = some .bool := by kernel_rfl
theorem fld_26_0_0 : fldB Try.prog 26 0 0 = true := by kernel_rfl
theorem fld_26_1_1 : fldB Try.prog 26 1 1 = true := by kernel_rfl
theorem fld_26_2_2 : fldB Try.prog 26 2 2 = true := by kernel_rfl
theorem fld_26_3_3 : fldB Try.prog 26 3 3 = true := by kernel_rfl
theorem fld_26_4_4 : fldB Try.prog 26 4 4 = true := by kernel_rfl
theorem fn_33 : fnB Try.prog 33 = true := by kernel_rfl
theorem one_2 : oneB Try.prog 2 = true := by kernel_rfl
theorem one_24 : oneB Try.prog 24 = true := by kernel_rfl
theorem one_4 : oneB Try.prog 4 = true := by kernel_rfl
end T25
set_option maxRecDepth 100000 in
set_option maxHeartbeats 4000000 in
theorem c_l_eqSheet {wd : Int} {hi : Int} {wr : Bool} {asp : Option Addr} {nsp : Nat} {csp : Nat} {Xsp : List Nat} {als : Option Addr} {nls : Nat} {cls : Nat} {Xls : List Nat} {asp2 : Option Addr} {nsp2 : Nat} {csp2 : Nat} {als2 : Option Addr} {nls2 : Nat} {cls2 : Nat} {w : World} (qsp : Rd w kF asp nsp Xsp) (qls : Rd w kF als nls Xls) (qsp2 : Rd w kF asp2 nsp2 Xsp) (qls2 : Rd w kF als2 nls2 Xls) (hbnsp : nsp ≤ 9223372036854775806) (hbnls : nls ≤ 9223372036854775806) :
    Calls Try.prog 25 #[.agg #[.int .i64 wd, .int .i64 hi, .bool wr, .slice asp nsp csp, .slice als nls cls], .agg #[.int .i64 wd, .int .i64 hi, .bool wr, .slice asp2 nsp2 csp2, .slice als2 nls2 cls2]] w (Rt fun v w' => v = .bool true ∧ Ext0 w w') := by
  have hlsp := qsp.len
  have hlls := qls.len
  have hlsp2 := qsp2.len
  have hlls2 := qls2.len
  have B : Bu w no w [.rd kF asp nsp Xsp, .rd kF als nls Xls, .rd kF asp2 nsp2 Xsp, .rd kF als2 nls2 Xls] := Bu.ro (All.cons qsp (All.cons qls (All.cons qsp2 (All.cons qls2 All.nil)))) rfl
  refine calls_W (n := 32) Try.func25 rfl rfl (Nat.le_of_ble_eq_true rfl) ?_
  refine W_seq ?_
  refine W_region (by kernel_rfl) ?_
  refine s_k rfl (k_boxN (v := .agg #[.int .i64 wd, .int .i64 hi, .bool wr, .slice asp nsp csp, .slice als nls cls]) (cs := [.int .i64 wd, .int .i64 hi, .bool wr, .slice asp nsp csp, .slice als nls cls]) rfl rfl (fun b1 w2 hN3 => ?_))
  replace B := B.new1 hN3
  clear hN3
  refine s_k rfl (k_boxN (v := .agg #[.int .i64 wd, .int .i64 hi, .bool wr, .slice asp2 nsp2 csp2, .slice als2 nls2 cls2]) (cs := [.int .i64 wd, .int .i64 hi, .bool wr, .slice asp2 nsp2 csp2, .slice als2 nls2 cls2]) rfl rfl (fun b4 w5 hN6 => ?_))
  replace B := B.new1 hN6
  clear hN6
  refine s_y (v := .bool false) rfl (y_assign rfl) ?_
  refine s_nil ?_
  refine W_seq ?_
  refine W_seq ?_
  refine W_region (by kernel_rfl) ?_
  refine s_y (v := .pointer (some ⟨b1, 0, none⟩)) rfl (y_fld (o := 0) T25.fld_26_0_0 rfl) ?_
  refine s_y (v := .int .i64 wd) rfl (y_load T25.one_2 rfl ((B.b 1 rfl).cell (j := 0) rfl)) ?_
  refine s_y (v := .pointer (some ⟨b4, 0, none⟩)) rfl (y_fld (o := 0) T25.fld_26_0_0 rfl) ?_
  refine s_y (v := .int .i64 wd) rfl (y_load T25.one_2 rfl ((B.b 0 rfl).cell (j := 0) rfl)) ?_
  refine s_y (v := .bool false) rfl (y_neq rfl rfl (decide_eq_false (fun hq => hq rfl))) ?_
  refine s_nil ?_
  refine W_if_f (by decide) rfl ?_
  refine W_skip ?_
  refine W_seq ?_
  refine W_seq ?_
  refine W_region (by kernel_rfl) ?_
  refine s_y (v := .pointer (some ⟨b1, 1, none⟩)) rfl (y_fld (o := 0) T25.fld_26_1_1 rfl) ?_
  refine s_y (v := .int .i64 hi) rfl (y_load T25.one_2 rfl ((B.b 1 rfl).cell (j := 1) rfl)) ?_
  refine s_y (v := .pointer (some ⟨b4, 1, none⟩)) rfl (y_fld (o := 0) T25.fld_26_1_1 rfl) ?_
  refine s_y (v := .int .i64 hi) rfl (y_load T25.one_2 rfl ((B.b 0 rfl).cell (j := 1) rfl)) ?_
  refine s_y (v := .bool false) rfl (y_neq rfl rfl (decide_eq_false (fun hq => hq rfl))) ?_
  refine s_nil ?_
  refine W_if_f (by decide) rfl ?_
  refine W_skip ?_
  refine W_seq ?_
  refine W_seq ?_
  refine W_region (by kernel_rfl) ?_
  refine s_y (v := .pointer (some ⟨b1, 2, none⟩)) rfl (y_fld (o := 0) T25.fld_26_2_2 rfl) ?_
  refine s_y (v := .bool wr) rfl (y_load T25.one_4 rfl ((B.b 1 rfl).cell (j := 2) rfl)) ?_
  refine s_y (v := .pointer (some ⟨b4, 2, none⟩)) rfl (y_fld (o := 0) T25.fld_26_2_2 rfl) ?_
  refine s_y (v := .bool wr) rfl (y_load T25.one_4 rfl ((B.b 0 rfl).cell (j := 2) rfl)) ?_
  refine s_y (v := .bool false) rfl (y_bneq T25.bool_4 rfl rfl (by simp)) ?_
  refine s_nil ?_
  refine W_if_f (by decide) rfl ?_
  refine W_skip ?_
  refine W_seq ?_
  refine W_seq ?_
  refine W_region (by kernel_rfl) ?_
  refine s_y (v := .pointer (some ⟨b1, 3, none⟩)) rfl (y_fld (o := 0) T25.fld_26_3_3 rfl) ?_
  refine s_y (v := .slice asp nsp csp) rfl (y_load T25.one_24 rfl ((B.b 1 rfl).cell (j := 3) rfl)) ?_
  refine s_y (v := .pointer (some ⟨b4, 3, none⟩)) rfl (y_fld (o := 0) T25.fld_26_3_3 rfl) ?_
  refine s_y (v := .slice asp2 nsp2 csp2) rfl (y_load T25.one_24 rfl ((B.b 0 rfl).cell (j := 3) rfl)) ?_
  refine s_k rfl (k_call T25.fn_33 (c_l_eqFloat32S (B.r 2 rfl) (B.r 4 rfl) (by omega)) rfl ?_)
  rintro _ w7 ⟨rfl, e8⟩
  replace B := B.ext0 e8
  clear e8
  refine s_y (v := .bool false) rfl (y_not rfl rfl) ?_
  refine s_nil ?_
  refine W_if_f (by decide) rfl ?_
  refine W_skip ?_
  refine W_seq ?_
  refine W_seq ?_
  refine W_region (by kernel_rfl) ?_
  refine s_y (v := .pointer (some ⟨b1, 4, none⟩)) rfl (y_fld (o := 0) T25.fld_26_4_4 rfl) ?_
  refine s_y (v := .slice als nls cls) rfl (y_load T25.one_24 rfl ((B.b 1 rfl).cell (j := 4) rfl)) ?_
  refine s_y (v := .pointer (some ⟨b4, 4, none⟩)) rfl (y_fld (o := 0) T25.fld_26_4_4 rfl) ?_
  refine s_y (v := .slice als2 nls2 cls2) rfl (y_load T25.one_24 rfl ((B.b 0 rfl).cell (j := 4) rfl)) ?_
  refine s_k rfl (k_call T25.fn_33 (c_l_eqFloat32S (B.r 3 rfl) (B.r 5 rfl) (by omega)) rfl ?_)
  rintro _ w9 ⟨rfl, e10⟩
  replace B := B.ext0 e10
  clear e10
  refine s_y (v := .bool false) rfl (y_not rfl rfl) ?_
  refine s_nil ?_
  refine W_if_f (by decide) rfl ?_
  refine W_skip ?_
  refine W_seq ?_
  refine W_region (by kernel_rfl) ?_
  refine s_y (v := .bool true) rfl (y_assign rfl) ?_
  refine s_nil ?_
  refine W_ret ?_
  refine ret1 (v := .bool true) rfl rfl rfl ⟨_, rfl, ?_⟩
  exact ⟨rfl, B.ext⟩
namespace T36
theorem mx : Try.prog.follows .mixedOrders = true := by kernel_rfl
theorem flt_56_f32 : Try.prog.underlying 56 = some (.float .f32) := by kernel_rfl
theorem sl_24_56_1 : slB Try.prog 24 56 1 = true := by kernel_rfl
theorem sz_56_1 : szB Try.prog 56 1 = true := by kernel_rfl
theorem und_3 : (Try.prog.underlying 3).isSome = true := by kernel_rfl
end T36
set_option maxRecDepth 100000 in
set_option maxHeartbeats 4000000 in
theorem c_l_markFloat32S {a : Option Addr} {n : Nat} {c : Nat} {k : Int} {X : List Nat} {w : World} (hbn : n ≤ 1048576) (hk0 : 0 ≤ k) (hk1 : k ≤ 4294967296) (HA : All w [.ow kF a n c 56 X]) (HP : Pw [.ow kF a n c 56 X]) :
    Calls Try.prog 36 #[.slice a n c, .int .i64 k] w (Rt fun v w' => v = .int .i64 (k + ((n : Nat) : Int)) ∧ Upd w w' [.ow kF a n c 56 X] [.ow kF a n c 56 (marks k n)]) := by
  have B := Bu.init HA HP
  have hl := (B.o 0 rfl).len
  refine calls_W (n := 20) Try.func36 rfl rfl (Nat.le_of_ble_eq_true rfl) ?_
  refine W_seq ?_
  refine W_region (by kernel_rfl) ?_
  refine s_y (v := .int .i64 0) rfl (y_assign rfl) ?_
  refine s_nil ?_
  refine W_seq ?_
  refine W_seq ?_
  refine W_region (by kernel_rfl) ?_
  refine s_y (v := .int .i64 0) rfl (y_assign rfl) ?_
  refine s_nil ?_
  refine W_block ?_
  refine W_loop (fun ρ' w' => ∃ (ρ1 : Env) (j : Int) (zs : List Nat), ρ' = updL ρ1 [(0, .slice a n c), (1, .int .i64 (k + j)), (4, .int .i64 0), (5, .int .i64 j)] ∧ Bu w (hasW [.ow kF a n c 56 X]) w' [.ow kF a n c 56 zs] ∧ (0 ≤ j) ∧ (j ≤ (n : Int)) ∧ (zs.length = n) ∧ (∀ i, 0 ≤ i → i < j → el zs i = FloatKind.nearest .f32 (k + i))) (fun ρ' _ => ((n : Int) - iv (ρ' 5)).toNat) ?_ ?_
  · exact ⟨_, 0, _, Fits.eq ⟨rfl, (by first | rfl | exact congrArg (Value.int .i64) (by omega)), rfl, rfl, trivial⟩, B, (Int.le_refl _), (by omega), hl, (by intro i h0 h1; omega)⟩
  · clear B; rintro _ w1 ⟨ρ2, j, zs, rfl, B, h0j, h1j, hz, hq⟩
    refine W_seq ?_
    refine W_seq ?_
    refine W_region (by kernel_rfl) ?_
    refine s_y (v := .int .i64 j) rfl (y_move rfl) ?_
    refine s_y (v := .slice a n c) rfl (y_move rfl) ?_
    refine s_y (v := .int .i64 ((n : Nat) : Int)) rfl (y_len T36.sl_24_56_1 rfl rfl) ?_
    by_cases c3 : j < ((n : Nat) : Int)
    · refine s_y (v := .bool true) rfl (y_lss rfl rfl (decide_eq_true c3)) ?_
      refine s_nil ?_
      refine W_if_t (by decide) rfl ?_
      refine W_skip ?_
      refine W_seq ?_
      refine W_block ?_
      refine W_seq ?_
      refine W_region (by kernel_rfl) ?_
      refine s_y (v := .slice a n c) rfl (y_move rfl) ?_
      refine s_y (v := .int .i64 j) rfl (y_move rfl) ?_
      refine s_y (v := .int .i64 (k + j)) rfl (y_move rfl) ?_
      refine s_y (v := .float .f32 (FloatKind.nearest .f32 (k + j))) rfl (y_if T36.und_3 T36.flt_56_f32 rfl) ?_
      refine s_y (v := .pointer (some (sat a ((j).toNat * 1)))) rfl (y_idx T36.sl_24_56_1 rfl rfl ((B.o 0 rfl).rd.addr (by omega)) (by omega) (by omega)) ?_
      refine s_k0 rfl (k_stO (k := kF) (i := j) (j := 0) (x' := FloatKind.nearest .f32 (k + j)) (new := [.float .f32 (FloatKind.nearest .f32 (k + j))]) T36.sz_56_1 rfl rfl rfl rfl rfl (by simp [Value.oneCell']) (by decide) (B.o 0 rfl) (by omega) (by omega) (by decide) (by rintro q ⟨_, rfl, _⟩; exact ⟨_, rfl, (can_nearest .f32 (k + j))⟩) (fun w4 hU5 => ?_))
      replace B : Bu w (hasW [.ow kF a n c 56 X]) w4 [.ow kF a n c 56 (put zs j (FloatKind.nearest .f32 (k + j)))] := B.upd [0] rfl hU5
      clear hU5
      refine s_nil ?_
      refine W_region (by kernel_rfl) ?_
      refine s_y (v := .int .i64 (k + j)) rfl (y_move rfl) ?_
      refine s_y (v := .int .i64 ((k + j) + 1)) rfl (y_add rfl rfl rfl (by omega)) ?_
      refine s_y (v := .int .i64 ((k + j) + 1)) rfl (y_assign rfl) ?_
      refine s_nil ?_
      refine W_region (by kernel_rfl) ?_
      refine s_y (v := .int .i64 j) rfl (y_move rfl) ?_
      refine s_y (v := .int .i64 (j + 1)) rfl (y_add rfl rfl rfl (by omega)) ?_
      refine s_y (v := .int .i64 (j + 1)) rfl (y_assign rfl) ?_
      refine s_nil ?_
      refine ⟨⟨_, j + 1, _, Fits.eq ⟨rfl, (by first | rfl | exact congrArg (Value.int .i64) (by omega)), rfl, rfl, trivial⟩, B, (by omega), (by omega), (by simp only [put_length, pl_length]; exact hz), (el_mark (by omega) (by omega) (by omega) hq)⟩, ?_⟩
      show ((n : Int) - (j + 1)).toNat < ((n : Int) - j).toNat
      omega
    · refine s_y (v := .bool false) rfl (y_lss rfl rfl (decide_eq_false c3)) ?_
      refine s_nil ?_
      refine W_if_f (by decide) rfl ?_
      refine W_exit ?_
      refine W_seq ?_
      refine W_region (by kernel_rfl) ?_
      refine s_y (v := .int .i64 (k + j)) rfl (y_move rfl) ?_
      refine s_y (v := .int .i64 (k + j)) rfl (y_assign rfl) ?_
      refine s_nil ?_
      refine W_ret ?_
      refine ret1 (v := .int .i64 (k + j)) rfl rfl rfl ⟨_, rfl, ?_⟩
      obtain rfl : zs = marks k n := marks_done (by omega) (fun i h0 h1 => hq i h0 (by omega))
      exact ⟨congrArg (Value.int .i64) (by omega), B.wrote [0] rfl rfl rfl⟩
namespace T26
theorem mx : Try.prog.follows .mixedOrders = true := by kernel_rfl
theorem fld_26_3_3 : fldB Try.prog 26 3 3 = true := by kernel_rfl
theorem fld_26_4_4 : fldB Try.prog 26 4 4 = true := by kernel_rfl
theorem fn_36 : fnB Try.prog 36 = true := by kernel_rfl
theorem one_24 : oneB Try.prog 24 = true := by kernel_rfl
end T26
set_option maxRecDepth 100000 in
set_option maxHeartbeats 4000000 in
theorem c_l_markSheet {wd : Int} {hi : Int} {wr : Bool} {asp : Option Addr} {nsp : Nat} {csp : Nat} {als : Option Addr} {nls : Nat} {cls : Nat} {k : Int} {Xsp : List Nat} {Xls : List Nat} {w : World} (hbnsp : nsp ≤ 1048576) (hbnls : nls ≤ 1048576) (hk0 : 0 ≤ k) (hk1 : k ≤ 4200000000) (HA : All w [.ow kF asp nsp csp 56 Xsp, .ow kF als nls cls 56 Xls]) (HP : Pw [.ow kF asp nsp csp 56 Xsp, .ow kF als nls cls 56 Xls]) :
    Calls Try.prog 26 #[.agg #[.int .i64 wd, .int .i64 hi, .bool wr, .slice asp nsp csp, .slice als nls cls], .int .i64 k] w (Rt fun v w' => v = .int .i64 (k + ((nsp : Nat) : Int) + ((nls : Nat) : Int)) ∧ Upd w w' [.ow kF asp nsp csp 56 Xsp, .ow kF als nls cls 56 Xls] [.ow kF asp nsp csp 56 (marks k nsp), .ow kF als nls cls 56 (marks (k + ((nsp : Nat) : Int)) nls)]) := by
  have B := Bu.init HA HP
  have hlsp := (B.o 0 rfl).len
  have hlls := (B.o 1 rfl).len
  refine calls_W (n := 14) Try.func26 rfl rfl (Nat.le_of_ble_eq_true rfl) ?_
  refine W_seq ?_
  refine W_region (by kernel_rfl) ?_
  refine s_k rfl (k_boxN (v := .agg #[.int .i64 wd, .int .i64 hi, .bool wr, .slice asp nsp csp, .slice als nls cls]) (cs := [.int .i64 wd, .int .i64 hi, .bool wr, .slice asp nsp csp, .slice als nls cls]) rfl rfl (fun b1 w2 hN3 => ?_))
  replace B := B.new1 hN3
  clear hN3
  refine s_y (v := .int .i64 0) rfl (y_assign rfl) ?_
  refine s_nil ?_
  refine W_seq ?_
  refine W_region (by kernel_rfl) ?_
  refine s_y (v := .pointer (some ⟨b1, 3, none⟩)) rfl (y_fld (o := 0) T26.fld_26_3_3 rfl) ?_
  refine s_y (v := .slice asp nsp csp) rfl (y_load T26.one_24 rfl ((B.b 0 rfl).cell (j := 3) rfl)) ?_
  refine s_y (v := .int .i64 k) rfl (y_move rfl) ?_
  refine s_k rfl (k_call T26.fn_36 (c_l_markFloat32S (by omega) (by omega) (by omega) (B.all.pick [1] rfl) (B.pw.pick [1] rfl rfl)) rfl ?_)
  rintro _ w4 ⟨rfl, hU5⟩
  replace B : Bu w (hasW [.ow kF asp nsp csp 56 Xsp, .ow kF als nls cls 56 Xls]) w4 [.ow kF asp nsp csp 56 (marks k nsp), .blk b1 [.int .i64 wd, .int .i64 hi, .bool wr, .slice asp nsp csp, .slice als nls cls] 26, .ow kF als nls cls 56 Xls] := B.upd [1] rfl hU5
  clear hU5
  refine s_y (v := .int .i64 (k + ((nsp : Nat) : Int))) rfl (y_assign rfl) ?_
  refine s_nil ?_
  refine W_seq ?_
  refine W_region (by kernel_rfl) ?_
  refine s_y (v := .pointer (some ⟨b1, 4, none⟩)) rfl (y_fld (o := 0) T26.fld_26_4_4 rfl) ?_
  refine s_y (v := .slice als nls cls) rfl (y_load T26.one_24 rfl ((B.b 1 rfl).cell (j := 4) rfl)) ?_
  refine s_y (v := .int .i64 (k + ((nsp : Nat) : Int))) rfl (y_move rfl) ?_
  refine s_k rfl (k_call T26.fn_36 (c_l_markFloat32S (by omega) (by omega) (by omega) (B.all.pick [2] rfl) (B.pw.pick [2] rfl rfl)) rfl ?_)
  rintro _ w6 ⟨rfl, hU7⟩
  replace B : Bu w (hasW [.ow kF asp nsp csp 56 Xsp, .ow kF als nls cls 56 Xls]) w6 [.ow kF als nls cls 56 (marks (k + ((nsp : Nat) : Int)) nls), .ow kF asp nsp csp 56 (marks k nsp), .blk b1 [.int .i64 wd, .int .i64 hi, .bool wr, .slice asp nsp csp, .slice als nls cls] 26] := B.upd [2] rfl hU7
  clear hU7
  refine s_y (v := .int .i64 ((k + ((nsp : Nat) : Int)) + ((nls : Nat) : Int))) rfl (y_assign rfl) ?_
  refine s_nil ?_
  refine W_seq ?_
  refine W_region (by kernel_rfl) ?_
  refine s_y (v := .int .i64 ((k + ((nsp : Nat) : Int)) + ((nls : Nat) : Int))) rfl (y_move rfl) ?_
  refine s_y (v := .int .i64 ((k + ((nsp : Nat) : Int)) + ((nls : Nat) : Int))) rfl (y_assign rfl) ?_
  refine s_nil ?_
  refine W_ret ?_
  refine ret1 (v := .int .i64 ((k + ((nsp : Nat) : Int)) + ((nls : Nat) : Int))) rfl rfl rfl ⟨_, rfl, ?_⟩
  exact ⟨rfl, B.wrote [1, 0] rfl rfl rfl⟩
namespace T35
theorem mx : Try.prog.follows .mixedOrders = true := by kernel_rfl
theorem fld_49_0_0 : fldB Try.prog 49 0 0 = true := by kernel_rfl
theorem fld_49_1_1 : fldB Try.prog 49 1 1 = true := by kernel_rfl
theorem fld_49_2_2 : fldB Try.prog 49 2 2 = true := by kernel_rfl
theorem fn_36 : fnB Try.prog 36 = true := by kernel_rfl
theorem one_24 : oneB Try.prog 24 = true := by kernel_rfl
end T35
set_option maxRecDepth 100000 in
set_option maxHeartbeats 4000000 in
theorem c_l_markField {afe : Option Addr} {nfe : Nat} {cfe : Nat} {afx : Option Addr} {nfx : Nat} {cfx : Nat} {afy : Option Addr} {nfy : Nat} {cfy : Nat} {k : Int} {Xfe : List Nat} {Xfx : List Nat} {Xfy : List Nat} {w : World} (hbnfe : nfe ≤ 1048576) (hbnfx : nfx ≤ 1048576) (hbnfy : nfy ≤ 1048576) (hk0 : 0 ≤ k) (hk1 : k ≤ 4200000000) (HA : All w [.ow kF afe nfe cfe 56 Xfe, .ow kF afx nfx cfx 56 Xfx, .ow kF afy nfy cfy 56 Xfy]) (HP : Pw [.ow kF afe nfe cfe 56 Xfe, .ow kF afx nfx cfx 56 Xfx, .ow kF afy nfy cfy 56 Xfy]) :
    Calls Try.prog 35 #[.agg #[.slice afe nfe cfe, .slice afx nfx cfx, .slice afy nfy cfy], .int .i64 k] w (Rt fun v w' => v = .int .i64 (k + ((nfe : Nat) : Int) + ((nfx : Nat) : Int) + ((nfy : Nat) : Int)) ∧ Upd w w' [.ow kF afe nfe cfe 56 Xfe, .ow kF afx nfx cfx 56 Xfx, .ow kF afy nfy cfy 56 Xfy] [.ow kF afe nfe cfe 56 (marks k nfe), .ow kF afx nfx cfx 56 (marks (k + ((nfe : Nat) : Int)) nfx), .ow kF afy nfy cfy 56 (marks (k + ((nfe : Nat) : Int) + ((nfx : Nat) : Int)) nfy)]) := by
  have B := Bu.init HA HP
  have hlfe := (B.o 0 rfl).len
  have hlfx := (B.o 1 rfl).len
  have hlfy := (B.o 2 rfl).len
  refine calls_W (n := 18) Try.func35 rfl rfl (Nat.le_of_ble_eq_true rfl) ?_
  refine W_seq ?_
  refine W_region (by kernel_rfl) ?_
  refine s_k rfl (k_boxN (v := .agg #[.slice afe nfe cfe, .slice afx nfx cfx, .slice afy nfy cfy]) (cs := [.slice afe nfe cfe, .slice afx nfx cfx, .slice afy nfy cfy]) rfl rfl (fun b1 w2 hN3 => ?_))
  replace B := B.new1 hN3
  clear hN3
  refine s_y (v := .int .i64 0) rfl (y_assign rfl) ?_
  refine s_nil ?_
  refine W_seq ?_
  refine W_region (by kernel_rfl) ?_
  refine s_y (v := .pointer (some ⟨b1, 0, none⟩)) rfl (y_fld (o := 0) T35.fld_49_0_0 rfl) ?_
  refine s_y (v := .slice afe nfe cfe) rfl (y_load T35.one_24 rfl ((B.b 0 rfl).cell (j := 0) rfl)) ?_
  refine s_y (v := .int .i64 k) rfl (y_move rfl) ?_
  refine s_k rfl (k_call T35.fn_36 (c_l_markFloat32S (by omega) (by omega) (by omega) (B.all.pick [1] rfl) (B.pw.pick [1] rfl rfl)) rfl ?_)
  rintro _ w4 ⟨rfl, hU5⟩
  replace B : Bu w (hasW [.ow kF afe nfe cfe 56 Xfe, .ow kF afx nfx cfx 56 Xfx, .ow kF afy nfy cfy 56 Xfy]) w4 [.ow kF afe nfe cfe 56 (marks k nfe), .blk b1 [.slice afe nfe cfe, .slice afx nfx cfx, .slice afy nfy cfy] 49, .ow kF afx nfx cfx 56 Xfx, .ow kF afy nfy cfy 56 Xfy] := B.upd [1] rfl hU5
  clear hU5
  refine s_y (v := .int .i64 (k + ((nfe : Nat) : Int))) rfl (y_assign rfl) ?_
  refine s_nil ?_
  refine W_seq ?_
  refine W_region (by kernel_rfl) ?_
  refine s_y (v := .pointer (some ⟨b1, 1, none⟩)) rfl (y_fld (o := 0) T35.fld_49_1_1 rfl) ?_
  refine s_y (v := .slice afx nfx cfx) rfl (y_load T35.one_24 rfl ((B.b 1 rfl).cell (j := 1) rfl)) ?_
  refine s_y (v := .int .i64 (k + ((nfe : Nat) : Int))) rfl (y_move rfl) ?_
  refine s_k rfl (k_call T35.fn_36 (c_l_markFloat32S (by omega) (by omega) (by omega) (B.all.pick [2] rfl) (B.pw.pick [2] rfl rfl)) rfl ?_)
  rintro _ w6 ⟨rfl, hU7⟩
  replace B : Bu w (hasW [.ow kF afe nfe cfe 56 Xfe, .ow kF afx nfx cfx 56 Xfx, .ow kF afy nfy cfy 56 Xfy]) w6 [.ow kF afx nfx cfx 56 (marks (k + ((nfe : Nat) : Int)) nfx), .ow kF afe nfe cfe 56 (marks k nfe), .blk b1 [.slice afe nfe cfe, .slice afx nfx cfx, .slice afy nfy cfy] 49, .ow kF afy nfy cfy 56 Xfy] := B.upd [2] rfl hU7
  clear hU7
  refine s_y (v := .int .i64 ((k + ((nfe : Nat) : Int)) + ((nfx : Nat) : Int))) rfl (y_assign rfl) ?_
  refine s_nil ?_
  refine W_seq ?_
  refine W_region (by kernel_rfl) ?_
  refine s_y (v := .pointer (some ⟨b1, 2, none⟩)) rfl (y_fld (o := 0) T35.fld_49_2_2 rfl) ?_
  refine s_y (v := .slice afy nfy cfy) rfl (y_load T35.one_24 rfl ((B.b 2 rfl).cell (j := 2) rfl)) ?_
  refine s_y (v := .int .i64 ((k + ((nfe : Nat) : Int)) + ((nfx : Nat) : Int))) rfl (y_move rfl) ?_
  refine s_k rfl (k_call T35.fn_36 (c_l_markFloat32S (by omega) (by omega) (by omega) (B.all.pick [3] rfl) (B.pw.pick [3] rfl rfl)) rfl ?_)
  rintro _ w8 ⟨rfl, hU9⟩
  replace B : Bu w (hasW [.ow kF afe nfe cfe 56 Xfe, .ow kF afx nfx cfx 56 Xfx, .ow kF afy nfy cfy 56 Xfy]) w8 [.ow kF afy nfy cfy 56 (marks ((k + ((nfe : Nat) : Int)) + ((nfx : Nat) : Int)) nfy), .ow kF afx nfx cfx 56 (marks (k + ((nfe : Nat) : Int)) nfx), .ow kF afe nfe cfe 56 (marks k nfe), .blk b1 [.slice afe nfe cfe, .slice afx nfx cfx, .slice afy nfy cfy] 49] := B.upd [3] rfl hU9
  clear hU9
  refine s_y (v := .int .i64 (((k + ((nfe : Nat) : Int)) + ((nfx : Nat) : Int)) + ((nfy : Nat) : Int))) rfl (y_assign rfl) ?_
  refine s_nil ?_
  refine W_seq ?_
  refine W_region (by kernel_rfl) ?_
  refine s_y (v := .int .i64 (((k + ((nfe : Nat) : Int)) + ((nfx : Nat) : Int)) + ((nfy : Nat) : Int))) rfl (y_move rfl) ?_
  refine s_y (v := .int .i64 (((k + ((nfe : Nat) : Int)) + ((nfx : Nat) : Int)) + ((nfy : Nat) : Int))) rfl (y_assign rfl) ?_
  refine s_nil ?_
  refine W_ret ?_
  refine ret1 (v := .int .i64 (((k + ((nfe : Nat) : Int)) + ((nfx : Nat) : Int)) + ((nfy : Nat) : Int))) rfl rfl rfl ⟨_, rfl, ?_⟩
  exact ⟨rfl, B.wrote [2, 1, 0] rfl rfl rfl⟩
namespace T37
theorem mx : Try.prog.follows .mixedOrders = true := by kernel_rfl
theorem flt_56_f32 : Try.prog.underlying 56 = some (.float .f32) := by kernel_rfl
theorem one_56 : oneB Try.prog 56 = true := by kernel_rfl
theorem sl_24_56_1 : slB Try.prog 24 56 1 = true := by kernel_rfl
theorem und_3 : (Try.prog.underlying 3).isSome = true := by kernel_rfl
end T37
set_option maxRecDepth 100000 in
set_option maxHeartbeats 4000000 in
theorem c_l_heldFloat32S {a : Option Addr} {n : Nat} {c : Nat} {k : Int} {w : World} (q : Rd w kF a n (marks k n)) (hbn : n ≤ 1048576) (hk0 : 0 ≤ k) (hk1 : k ≤ 4294967296) :
    Calls Try.prog 37 #[.slice a n c, .int .i64 k] w (Rt fun v w' => v = .int .i64 (k + ((n : Nat) : Int)) ∧ Ext0 w w') := by
  have hl := q.len
  have B : Bu w no w [.rd kF a n (marks k n)] := Bu.ro (All.cons q All.nil) rfl
  refine calls_W (n := 22) Try.func37 rfl rfl (Nat.le_of_ble_eq_true rfl) ?_
  refine W_seq ?_
  refine W_region (by kernel_rfl) ?_
  refine s_y (v := .int .i64 0) rfl (y_assign rfl) ?_
  refine s_nil ?_
  refine W_seq ?_
  refine W_seq ?_
  refine W_region (by kernel_rfl) ?_
  refine s_y (v := .int .i64 0) rfl (y_assign rfl) ?_
  refine s_nil ?_
  refine W_block ?_
  refine W_loop (fun ρ' w' => ∃ (ρ1 : Env) (j : Int), ρ' = updL ρ1 [(0, .slice a n c), (1, .int .i64 (k + j)), (5, .int .i64 j)] ∧ Bu w no w' [.rd kF a n (marks k n)] ∧ (0 ≤ j) ∧ (j ≤ (n : Int))) (fun ρ' _ => ((n : Int) - iv (ρ' 5)).toNat) ?_ ?_
  · exact ⟨_, 0, Fits.eq ⟨rfl, (by first | rfl | exact congrArg (Value.int .i64) (by omega)), rfl, trivial⟩, B, (Int.le_refl _), (by omega)⟩
  · clear B; rintro _ w1 ⟨ρ2, j, rfl, B, h0j, h1j⟩
    refine W_seq ?_
    refine W_seq ?_
    refine W_region (by kernel_rfl) ?_
    refine s_y (v := .int .i64 j) rfl (y_move rfl) ?_
    refine s_y (v := .slice a n c) rfl (y_move rfl) ?_
    refine s_y (v := .int .i64 ((n : Nat) : Int)) rfl (y_len T37.sl_24_56_1 rfl rfl) ?_
    by_cases c3 : j < ((n : Nat) : Int)
    · refine s_y (v := .bool true) rfl (y_lss rfl rfl (decide_eq_true c3)) ?_
      refine s_nil ?_
      refine W_if_t (by decide) rfl ?_
      refine W_skip ?_
      refine W_seq ?_
      refine W_block ?_
      refine W_seq ?_
      refine W_seq ?_
      refine W_region (by kernel_rfl) ?_
      refine s_y (v := .slice a n c) rfl (y_move rfl) ?_
      refine s_y (v := .int .i64 j) rfl (y_move rfl) ?_
      refine s_y (v := .pointer (some (sat a ((j).toNat * 1)))) rfl (y_idx T37.sl_24_56_1 rfl rfl ((B.r 0 rfl).addr (by omega)) (by omega) (by omega)) ?_
      obtain ⟨r5, hr6, hR4⟩ := Rd.atF (B.r 0 rfl) j (by omega) (by omega)
      refine s_y (v := .float .f32 r5) rfl (y_load T37.one_56 rfl (hR4.cell (i := 0) rfl)) ?_
      refine s_y (v := .int .i64 (k + j)) rfl (y_move rfl) ?_
      refine s_y (v := .float .f32 (FloatKind.nearest .f32 (k + j))) rfl (y_if T37.und_3 T37.flt_56_f32 rfl) ?_
      have hk7 : ¬ (fne .f32 (el (marks k n) j) (FloatKind.nearest .f32 (k + j)) = true) := not_fne_el_marks (by omega) (by omega)
      refine s_y (v := .bool false) rfl (y_fneq rfl rfl (fneC hr6 (can_nearest .f32 (k + j)) (Bool.eq_false_iff.2 hk7))) ?_
      refine s_nil ?_
      refine W_if_f (by decide) rfl ?_
      refine W_skip ?_
      refine W_region (by kernel_rfl) ?_
      refine s_y (v := .int .i64 (k + j)) rfl (y_move rfl) ?_
      refine s_y (v := .int .i64 ((k + j) + 1)) rfl (y_add rfl rfl rfl (by omega)) ?_
      refine s_y (v := .int .i64 ((k + j) + 1)) rfl (y_assign rfl) ?_
      refine s_nil ?_
      refine W_region (by kernel_rfl) ?_
      refine s_y (v := .int .i64 j) rfl (y_move rfl) ?_
      refine s_y (v := .int .i64 (j + 1)) rfl (y_add rfl rfl rfl (by omega)) ?_
      refine s_y (v := .int .i64 (j + 1)) rfl (y_assign rfl) ?_
      refine s_nil ?_
      refine ⟨⟨_, j + 1, Fits.eq ⟨rfl, (by first | rfl | exact congrArg (Value.int .i64) (by omega)), rfl, trivial⟩, B, (by omega), (by omega)⟩, ?_⟩
      show ((n : Int) - (j + 1)).toNat < ((n : Int) - j).toNat
      omega
    · refine s_y (v := .bool false) rfl (y_lss rfl rfl (decide_eq_false c3)) ?_
      refine s_nil ?_
      refine W_if_f (by decide) rfl ?_
      refine W_exit ?_
      refine W_seq ?_
      refine W_region (by kernel_rfl) ?_
      refine s_y (v := .int .i64 (k + j)) rfl (y_move rfl) ?_
      refine s_y (v := .int .i64 (k + j)) rfl (y_assign rfl) ?_
      refine s_nil ?_
      refine W_ret ?_
      refine ret1 (v := .int .i64 (k + j)) rfl rfl rfl ⟨_, rfl, ?_⟩
      exact ⟨congrArg (Value.int .i64) (by omega), B.ext⟩
namespace T50
theorem mx : Try.prog.follows .mixedOrders = true := by kernel_rfl
theorem fld_49_0_0 : fldB Try.prog 49 0 0 = true := by kernel_rfl
theorem fld_49_1_1 : fldB Try.prog 49 1 1 = true := by kernel_rfl
theorem fld_49_2_2 : fldB Try.prog 49 2 2 = true := by kernel_rfl
theorem fn_37 : fnB Try.prog 37 = true := by kernel_rfl
theorem one_24 : oneB Try.prog 24 = true := by kernel_rfl
end T50
set_option maxRecDepth 100000 in
set_option maxHeartbeats 4000000 in
theorem c_l_heldField {afe : Option Addr} {nfe : Nat} {cfe : Nat} {afx : Option Addr} {nfx : Nat} {cfx : Nat} {afy : Option Addr} {nfy : Nat} {cfy : Nat} {k : Int} {w : World} (qfe : Rd w kF afe nfe (marks k nfe)) (qfx : Rd w kF afx nfx (marks (k + ((nfe : Nat) : Int)) nfx)) (qfy : Rd w kF afy nfy (marks (k + ((nfe : Nat) : Int) + ((nfx : Nat) : Int)) nfy)) (hbnfe : nfe ≤ 1048576) (hbnfx : nfx ≤ 1048576) (hbnfy : nfy ≤ 1048576) (hk0 : 0 ≤ k) (hk1 : k ≤ 4200000000) :
    Calls Try.prog 50 #[.agg #[.slice afe nfe cfe, .slice afx nfx cfx, .slice afy nfy cfy], .int .i64 k] w (Rt fun v w' => v = .int .i64 (k + ((nfe : Nat) : Int) + ((nfx : Nat) : Int) + ((nfy : Nat) : Int)) ∧ Ext0 w w') := by
  have hlfe := qfe.len
  have hlfx := qfx.len
  have hlfy := qfy.len
  have B : Bu w no w [.rd kF afe nfe (marks k nfe), .rd kF afx nfx (marks (k + ((nfe : Nat) : Int)) nfx), .rd kF afy nfy (marks (k + ((nfe : Nat) : Int) + ((nfx : Nat) : Int)) nfy)] := Bu.ro (All.cons qfe (All.cons qfx (All.cons qfy All.nil))) rfl
  refine calls_W (n := 24) Try.func50 rfl rfl (Nat.le_of_ble_eq_true rfl) ?_
  refine W_seq ?_
  refine W_region (by kernel_rfl) ?_
  refine s_k rfl (k_boxN (v := .agg #[.slice afe nfe cfe, .slice afx nfx cfx, .slice afy nfy cfy]) (cs := [.slice afe nfe cfe, .slice afx nfx cfx, .slice afy nfy cfy]) rfl rfl (fun b1 w2 hN3 => ?_))
  replace B := B.new1 hN3
  clear hN3
  refine s_y (v := .int .i64 0) rfl (y_assign rfl) ?_
  refine s_nil ?_
  refine W_seq ?_
  refine W_region (by kernel_rfl) ?_
  refine s_y (v := .pointer (some ⟨b1, 0, none⟩)) rfl (y_fld (o := 0) T50.fld_49_0_0 rfl) ?_
  refine s_y (v := .slice afe nfe cfe) rfl (y_load T50.one_24 rfl ((B.b 0 rfl).cell (j := 0) rfl)) ?_
  refine s_y (v := .int .i64 k) rfl (y_move rfl) ?_
  refine s_k rfl (k_call T50.fn_37 (c_l_heldFloat32S (B.r 1 rfl) (by omega) (by omega) (by omega)) rfl ?_)
  rintro _ w4 ⟨rfl, e5⟩
  replace B := B.ext0 e5
  clear e5
  refine s_y (v := .int .i64 (k + ((nfe : Nat) : Int))) rfl (y_assign rfl) ?_
  refine s_nil ?_
  refine W_seq ?_
  refine W_seq ?_
  refine W_region (by kernel_rfl) ?_
  refine s_y (v := .int .i64 (k + ((nfe : Nat) : Int))) rfl (y_move rfl) ?_
  have hk6 : ¬ ((k + ((nfe : Nat) : Int)) < 0) := (by omega)
  refine s_y (v := .bool false) rfl (y_lss rfl rfl (decide_eq_false hk6)) ?_
  refine s_nil ?_
  refine W_if_f (by decide) rfl ?_
  refine W_skip ?_
  refine W_seq ?_
  refine W_region (by kernel_rfl) ?_
  refine s_y (v := .pointer (some ⟨b1, 1, none⟩)) rfl (y_fld (o := 0) T50.fld_49_1_1 rfl) ?_
  refine s_y (v := .slice afx nfx cfx) rfl (y_load T50.one_24 rfl ((B.b 0 rfl).cell (j := 1) rfl)) ?_
  refine s_y (v := .int .i64 (k + ((nfe : Nat) : Int))) rfl (y_move rfl) ?_
  refine s_k rfl (k_call T50.fn_37 (c_l_heldFloat32S (B.r 2 rfl) (by omega) (by omega) (by omega)) rfl ?_)
  rintro _ w7 ⟨rfl, e8⟩
  replace B := B.ext0 e8
  clear e8
  refine s_y (v := .int .i64 ((k + ((nfe : Nat) : Int)) + ((nfx : Nat) : Int))) rfl (y_assign rfl) ?_
  refine s_nil ?_
  refine W_seq ?_
  refine W_seq ?_
  refine W_region (by kernel_rfl) ?_
  refine s_y (v := .int .i64 ((k + ((nfe : Nat) : Int)) + ((nfx : Nat) : Int))) rfl (y_move rfl) ?_
  have hk9 : ¬ (((k + ((nfe : Nat) : Int)) + ((nfx : Nat) : Int)) < 0) := (by omega)
  refine s_y (v := .bool false) rfl (y_lss rfl rfl (decide_eq_false hk9)) ?_
  refine s_nil ?_
  refine W_if_f (by decide) rfl ?_
  refine W_skip ?_
  refine W_seq ?_
  refine W_region (by kernel_rfl) ?_
  refine s_y (v := .pointer (some ⟨b1, 2, none⟩)) rfl (y_fld (o := 0) T50.fld_49_2_2 rfl) ?_
  refine s_y (v := .slice afy nfy cfy) rfl (y_load T50.one_24 rfl ((B.b 0 rfl).cell (j := 2) rfl)) ?_
  refine s_y (v := .int .i64 ((k + ((nfe : Nat) : Int)) + ((nfx : Nat) : Int))) rfl (y_move rfl) ?_
  refine s_k rfl (k_call T50.fn_37 (c_l_heldFloat32S (B.r 3 rfl) (by omega) (by omega) (by omega)) rfl ?_)
  rintro _ w10 ⟨rfl, e11⟩
  replace B := B.ext0 e11
  clear e11
  refine s_y (v := .int .i64 (((k + ((nfe : Nat) : Int)) + ((nfx : Nat) : Int)) + ((nfy : Nat) : Int))) rfl (y_assign rfl) ?_
  refine s_nil ?_
  refine W_seq ?_
  refine W_seq ?_
  refine W_region (by kernel_rfl) ?_
  refine s_y (v := .int .i64 (((k + ((nfe : Nat) : Int)) + ((nfx : Nat) : Int)) + ((nfy : Nat) : Int))) rfl (y_move rfl) ?_
  have hk12 : ¬ ((((k + ((nfe : Nat) : Int)) + ((nfx : Nat) : Int)) + ((nfy : Nat) : Int)) < 0) := (by omega)
  refine s_y (v := .bool false) rfl (y_lss rfl rfl (decide_eq_false hk12)) ?_
  refine s_nil ?_
  refine W_if_f (by decide) rfl ?_
  refine W_skip ?_
  refine W_seq ?_
  refine W_region (by kernel_rfl) ?_
  refine s_y (v := .int .i64 (((k + ((nfe : Nat) : Int)) + ((nfx : Nat) : Int)) + ((nfy : Nat) : Int))) rfl (y_move rfl) ?_
  refine s_y (v := .int .i64 (((k + ((nfe : Nat) : Int)) + ((nfx : Nat) : Int)) + ((nfy : Nat) : Int))) rfl (y_assign rfl) ?_
  refine s_nil ?_
  refine W_ret ?_
  refine ret1 (v := .int .i64 (((k + ((nfe : Nat) : Int)) + ((nfx : Nat) : Int)) + ((nfy : Nat) : Int))) rfl rfl rfl ⟨_, rfl, ?_⟩
  exact ⟨congrArg (Value.int .i64) (by omega), B.ext⟩
end Go.Proofs.Ytalkhbnlphefdaa
