/- Walks: what the functions under FnRings do (part 1). Printed by a program of this claim's author. -/
import Derived.Test.YtalkhbnlphefdaaBw1
set_option linter.unusedSimpArgs false
set_option linter.unusedVariables false
open Go.Wv
namespace Go.Proofs.Ytalkhbnlphefdaa
open Go.Proofs
namespace T15
theorem mx : Try.prog.follows .mixedOrders = true := by kernel_rfl
theorem sl_22_5_1 : slB Try.prog 22 5 1 = true := by kernel_rfl
end T15
set_option maxRecDepth 100000 in
set_option maxHeartbeats 4000000 in
theorem c_l_r8Long {aq : Option Addr} {nq : Nat} {cq : Nat} {Xq : List Nat} {ar : Option Addr} {nr : Nat} {cr : Nat} {Xr : List Nat} {w : World} (qq : Rd w kY aq nq Xq) (qr : Rd w kY ar nr Xr) (gq : nq ≤ 9223372036854775807) (gr : nr ≤ 9223372036854775807) :
    Calls Try.prog 15 #[.slice aq nq cq, .slice ar nr cr] w (Rt fun v w' => v = .bool ((decide (48 < (nq : Int)) || decide (48 < (nr : Int)))) ∧ Ext0 w w') := by
  have hlq := qq.len
  have hlr := qr.len
  have B : Bu w no w [.rd kY aq nq Xq, .rd kY ar nr Xr] := Bu.ro (All.cons qq (All.cons qr All.nil)) rfl
  refine calls_W (n := 13) Try.func15 rfl rfl (Nat.le_of_ble_eq_true rfl) ?_
  refine W_seq ?_
  refine W_region (by kernel_rfl) ?_
  refine s_y (v := .bool false) rfl (y_assign rfl) ?_
  refine s_nil ?_
  refine W_seq ?_
  refine W_region (by kernel_rfl) ?_
  refine s_y (v := .slice aq nq cq) rfl (y_move rfl) ?_
  refine s_y (v := .int .i64 ((nq : Nat) : Int)) rfl (y_len T15.sl_22_5_1 rfl rfl) ?_
  by_cases c1 : 48 < ((nq : Nat) : Int)
  · refine s_y (v := .bool true) rfl (y_gtr rfl rfl (decide_eq_true c1)) ?_
    refine s_y (v := .bool true) rfl (y_move rfl) ?_
    refine s_skip rfl ?_
    refine s_skip rfl ?_
    refine s_skip rfl ?_
    refine s_y (v := .bool true) rfl (y_pick_t rfl rfl) ?_
    refine s_y (v := .bool true) rfl (y_assign rfl) ?_
    refine s_nil ?_
    refine W_ret ?_
    refine ret1 (v := .bool true) rfl rfl rfl ⟨_, rfl, ?_⟩
    exact ⟨congrArg Value.bool (by simp only [(decide_eq_true c1), Bool.and_true, Bool.true_and, Bool.and_false, Bool.false_and, Bool.not_true, Bool.not_false, Bool.or_true, Bool.true_or, Bool.or_false, Bool.false_or]), B.ext⟩
  · refine s_y (v := .bool false) rfl (y_gtr rfl rfl (decide_eq_false c1)) ?_
    refine s_y (v := .bool false) rfl (y_move rfl) ?_
    refine s_y (v := .slice ar nr cr) rfl (y_move rfl) ?_
    refine s_y (v := .int .i64 ((nr : Nat) : Int)) rfl (y_len T15.sl_22_5_1 rfl rfl) ?_
    by_cases c2 : 48 < ((nr : Nat) : Int)
    · refine s_y (v := .bool true) rfl (y_gtr rfl rfl (decide_eq_true c2)) ?_
      refine s_y (v := .bool true) rfl (y_pick_f rfl rfl) ?_
      refine s_y (v := .bool true) rfl (y_assign rfl) ?_
      refine s_nil ?_
      refine W_ret ?_
      refine ret1 (v := .bool true) rfl rfl rfl ⟨_, rfl, ?_⟩
      exact ⟨congrArg Value.bool (by simp only [(decide_eq_false c1), (decide_eq_true c2), Bool.and_true, Bool.true_and, Bool.and_false, Bool.false_and, Bool.not_true, Bool.not_false, Bool.or_true, Bool.true_or, Bool.or_false, Bool.false_or]), B.ext⟩
    · refine s_y (v := .bool false) rfl (y_gtr rfl rfl (decide_eq_false c2)) ?_
      refine s_y (v := .bool false) rfl (y_pick_f rfl rfl) ?_
      refine s_y (v := .bool false) rfl (y_assign rfl) ?_
      refine s_nil ?_
      refine W_ret ?_
      refine ret1 (v := .bool false) rfl rfl rfl ⟨_, rfl, ?_⟩
      exact ⟨congrArg Value.bool (by simp only [(decide_eq_false c1), (decide_eq_false c2), Bool.and_true, Bool.true_and, Bool.and_false, Bool.false_and, Bool.not_true, Bool.not_false, Bool.or_true, Bool.true_or, Bool.or_false, Bool.false_or]), B.ext⟩
namespace T61
theorem mx : Try.prog.follows .mixedOrders = true := by kernel_rfl
end T61
set_option maxRecDepth 100000 in
set_option maxHeartbeats 4000000 in
theorem c_s_l00From {aq : Option Addr} {nq : Nat} {cq : Nat} {Xq : List Nat} {w : World} (qq : Rd w kY aq nq Xq) :
    Calls Try.prog 61 #[.slice aq nq cq] w (Rt fun v w' => ∃ b, v = .pointer (some ⟨b, 0, none⟩) ∧ New w w' [.blk b [.slice aq nq cq, .int .i64 0, .int .u64 0] 120]) := by
  have hlq := qq.len
  have B : Bu w no w [.rd kY aq nq Xq] := Bu.ro (All.cons qq All.nil) rfl
  refine calls_W (n := 6) Try.func61 rfl rfl (Nat.le_of_ble_eq_true rfl) ?_
  refine W_seq ?_
  refine W_region (by kernel_rfl) ?_
  refine s_y (v := .pointer none) rfl (y_assign rfl) ?_
  refine s_nil ?_
  refine W_seq ?_
  refine W_region (by kernel_rfl) ?_
  refine s_y (v := .slice aq nq cq) rfl (y_move rfl) ?_
  refine s_y (v := .agg #[.slice aq nq cq, .int .i64 0, .int .u64 0]) rfl (y_build (cells := #[.slice aq nq cq, .int .i64 0, .int .u64 0]) (by kernel_rfl)) ?_
  refine s_k rfl (k_boxN (v := .agg #[.slice aq nq cq, .int .i64 0, .int .u64 0]) (cs := [.slice aq nq cq, .int .i64 0, .int .u64 0]) rfl rfl (fun b1 w2 hN3 => ?_))
  replace B := B.new1 hN3
  clear hN3
  refine s_y (v := .pointer (some ⟨b1, 0, none⟩)) rfl (y_assign rfl) ?_
  refine s_nil ?_
  refine W_ret ?_
  refine ret1 (v := .pointer (some ⟨b1, 0, none⟩)) rfl rfl rfl ⟨_, rfl, ?_⟩
  exact ⟨_, rfl, B.give [0] rfl rfl rfl⟩
namespace T117
theorem mx : Try.prog.follows .mixedOrders = true := by kernel_rfl
theorem fld_120_0_0 : fldB Try.prog 120 0 0 = true := by kernel_rfl
theorem fld_120_1_1 : fldB Try.prog 120 1 1 = true := by kernel_rfl
theorem fld_120_2_2 : fldB Try.prog 120 2 2 = true := by kernel_rfl
theorem int_118_u64 : Try.prog.underlying 118 = some (.int .u64) := by kernel_rfl
theorem int_2_i64 : Try.prog.underlying 2 = some (.int .i64) := by kernel_rfl
theorem int_3_i64 : Try.prog.underlying 3 = some (.int .i64) := by kernel_rfl
theorem one_118 : oneB Try.prog 118 = true := by kernel_rfl
theorem one_22 : oneB Try.prog 22 = true := by kernel_rfl
theorem one_3 : oneB Try.prog 3 = true := by kernel_rfl
theorem one_5 : oneB Try.prog 5 = true := by kernel_rfl
theorem sl_22_5_1 : slB Try.prog 22 5 1 = true := by kernel_rfl
theorem sz_118_1 : szB Try.prog 118 1 = true := by kernel_rfl
theorem sz_3_1 : szB Try.prog 3 1 = true := by kernel_rfl
theorem und_118 : (Try.prog.underlying 118).isSome = true := by kernel_rfl
theorem und_3 : (Try.prog.underlying 3).isSome = true := by kernel_rfl
theorem und_5 : (Try.prog.underlying 5).isSome = true := by kernel_rfl
end T117
set_option maxRecDepth 100000 in
set_option maxHeartbeats 4000000 in
theorem c_s_next {bs : Nat} {aq : Option Addr} {nq cq : Nat} {Xq : List Nat} {p sd : Int} {w : World} (hp0 : 0 ≤ p) (hp1 : p ≤ 1000000) (HA : All w [.blk bs [.slice aq nq cq, .int .i64 p, .int .u64 sd] 120, .rd kY aq nq Xq]) (HP : Pw [.blk bs [.slice aq nq cq, .int .i64 p, .int .u64 sd] 120, .rd kY aq nq Xq]) :
    Calls Try.prog 117 #[.pointer (some ⟨bs, 0, none⟩)] w (Rt fun v w' => v = .int .i64 (nxV Xq p sd) ∧ Upd w w' [.blk bs [.slice aq nq cq, .int .i64 p, .int .u64 sd] 120] [.blk bs [.slice aq nq cq, .int .i64 (p + 1), .int .u64 (nxS Xq p sd)] 120]) := by
  have B : Bu w (hasW [.blk bs [.slice aq nq cq, .int .i64 p, .int .u64 sd] 120]) w [.blk bs [.slice aq nq cq, .int .i64 p, .int .u64 sd] 120, .rd kY aq nq Xq] := Bu.initW (W := [.blk bs [.slice aq nq cq, .int .i64 p, .int .u64 sd] 120]) (R := [.rd kY aq nq Xq]) HA HP rfl
  have hlq := (B.r 1 rfl).len
  refine calls_W (n := 62) Try.func117 rfl rfl (Nat.le_of_ble_eq_true rfl) ?_
  refine W_seq ?_
  refine W_region (by kernel_rfl) ?_
  refine s_y (v := .int .i64 0) rfl (y_assign rfl) ?_
  refine s_nil ?_
  refine W_seq ?_
  refine W_region (by kernel_rfl) ?_
  refine s_y (v := .int .i64 0) rfl (y_assign rfl) ?_
  refine s_nil ?_
  refine W_seq ?_
  refine W_seq ?_
  have B0_5 := B
  refine W_draw (no) T117.mx (by kernel_rfl) (fun w3 e4 => ?_)
  have R6 := Ext.refl (no) w
  replace R6 := R6.trans (Ext0.any e4)
  replace B := B.ext0 e4
  clear e4
  refine m_y (v := .pointer (some ⟨bs, 0, none⟩)) 0 rfl (by kernel_rfl) rfl rfl (fun w' e' => y_move rfl) ?_
  refine m_y (v := .pointer (some ⟨bs, 0, none⟩)) 1 rfl (by kernel_rfl) rfl rfl (fun w' e' => y_nil rfl) ?_
  refine m_y (v := .pointer (some ⟨bs, 1, none⟩)) 2 rfl (by kernel_rfl) rfl rfl (fun w' e' => y_fld (o := 0) T117.fld_120_1_1 rfl) ?_
  refine m_y (v := .int .i64 p) 3 rfl (by kernel_rfl) rfl rfl (fun w' e' => y_load T117.one_3 rfl (((B0_5.b 0 rfl).ext0 e').cell (j := 1) rfl)) ?_
  refine m_y (v := .pointer (some ⟨bs, 0, none⟩)) 4 rfl (by kernel_rfl) rfl rfl (fun w' e' => y_move rfl) ?_
  refine m_y (v := .pointer (some ⟨bs, 0, none⟩)) 5 rfl (by kernel_rfl) rfl rfl (fun w' e' => y_nil rfl) ?_
  refine m_y (v := .pointer (some ⟨bs, 0, none⟩)) 6 rfl (by kernel_rfl) rfl rfl (fun w' e' => y_fld (o := 0) T117.fld_120_0_0 rfl) ?_
  refine m_y (v := .slice aq nq cq) 7 rfl (by kernel_rfl) rfl rfl (fun w' e' => y_load T117.one_22 rfl (((B0_5.b 0 rfl).ext0 e').cell (j := 0) rfl)) ?_
  refine m_y (v := .int .i64 ((nq : Nat) : Int)) 8 rfl (by kernel_rfl) rfl rfl (fun w' e' => y_len T117.sl_22_5_1 rfl rfl) ?_
  by_cases c7 : p < ((nq : Nat) : Int)
  · refine m_y (v := .bool true) 9 rfl (by kernel_rfl) rfl rfl (fun w' e' => y_lss rfl rfl (decide_eq_true c7)) ?_
    refine m_done (by kernel_rfl) (fun w8 e9 => ?_)
    replace B := B.ext0 e9
    clear e9
    clear B0_5 R6
    refine W_if_t (by decide) rfl ?_
    have B0_14 := B
    refine W_draw (no) T117.mx (by kernel_rfl) (fun w12 e13 => ?_)
    have R15 := Ext.refl (no) w8
    replace R15 := R15.trans (Ext0.any e13)
    replace B := B.ext0 e13
    clear e13
    refine m_y (v := .pointer (some ⟨bs, 0, none⟩)) 0 rfl (by kernel_rfl) rfl rfl (fun w' e' => y_move rfl) ?_
    refine m_y (v := .pointer (some ⟨bs, 0, none⟩)) 1 rfl (by kernel_rfl) rfl rfl (fun w' e' => y_nil rfl) ?_
    refine m_y (v := .pointer (some ⟨bs, 0, none⟩)) 2 rfl (by kernel_rfl) rfl rfl (fun w' e' => y_fld (o := 0) T117.fld_120_0_0 rfl) ?_
    refine m_y (v := .slice aq nq cq) 3 rfl (by kernel_rfl) rfl rfl (fun w' e' => y_load T117.one_22 rfl (((B0_14.b 0 rfl).ext0 e').cell (j := 0) rfl)) ?_
    refine m_y (v := .pointer (some ⟨bs, 0, none⟩)) 4 rfl (by kernel_rfl) rfl rfl (fun w' e' => y_move rfl) ?_
    refine m_y (v := .pointer (some ⟨bs, 0, none⟩)) 5 rfl (by kernel_rfl) rfl rfl (fun w' e' => y_nil rfl) ?_
    refine m_y (v := .pointer (some ⟨bs, 1, none⟩)) 6 rfl (by kernel_rfl) rfl rfl (fun w' e' => y_fld (o := 0) T117.fld_120_1_1 rfl) ?_
    refine m_y (v := .int .i64 p) 7 rfl (by kernel_rfl) rfl rfl (fun w' e' => y_load T117.one_3 rfl (((B0_14.b 0 rfl).ext0 e').cell (j := 1) rfl)) ?_
    refine m_y (v := .pointer (some (sat aq ((p).toNat * 1)))) 8 rfl (by kernel_rfl) rfl rfl (fun w' e' => y_idx T117.sl_22_5_1 rfl rfl ((B.r 1 rfl).addr (by omega)) (by omega) (by omega)) ?_
    obtain ⟨hb17, hR16⟩ := Rd.atY (B0_14.r 1 rfl) p (by omega) (by omega)
    refine m_y (v := .int .u8 (byt Xq p)) 9 rfl (by kernel_rfl) rfl rfl (fun w' e' => y_load T117.one_5 rfl ((hR16.ext0 e').cell (i := 0) rfl)) ?_
    refine m_y (v := .int .i64 (byt Xq p)) 10 rfl (by kernel_rfl) rfl rfl (fun w' e' => y_ii T117.und_5 T117.int_3_i64 rfl (IntWalk.i64_in _ (by omega))) ?_
    refine m_y (v := .int .i64 (byt Xq p)) 11 rfl (by kernel_rfl) rfl rfl (fun w' e' => y_assign rfl) ?_
    refine m_done (by kernel_rfl) (fun w18 e19 => ?_)
    replace B := B.ext0 e19
    clear e19
    clear B0_14 R15
    refine W_seq ?_
    refine W_region (by kernel_rfl) ?_
    refine s_y (v := .pointer (some ⟨bs, 0, none⟩)) rfl (y_move rfl) ?_
    refine s_y (v := .pointer (some ⟨bs, 0, none⟩)) rfl (y_nil rfl) ?_
    refine s_y (v := .pointer (some ⟨bs, 1, none⟩)) rfl (y_fld (o := 0) T117.fld_120_1_1 rfl) ?_
    refine s_y (v := .int .i64 p) rfl (y_load T117.one_3 rfl ((B.b 0 rfl).cell (j := 1) rfl)) ?_
    refine s_y (v := .int .i64 (p + 1)) rfl (y_add rfl rfl rfl (by omega)) ?_
    refine s_y (v := .pointer (some ⟨bs, 0, none⟩)) rfl (y_nil rfl) ?_
    refine s_y (v := .pointer (some ⟨bs, 1, none⟩)) rfl (y_fld (o := 0) T117.fld_120_1_1 rfl) ?_
    refine s_k0 rfl (k_stB (v := .int .i64 (p + 1)) (n := 1) (cs' := [.slice aq nq cq, .int .i64 (p + 1), .int .u64 sd]) T117.sz_3_1 rfl rfl rfl (B.b 0 rfl) (by simp [Value.cells, Value.oneCell']) (Nat.le_of_ble_eq_true rfl) rfl (fun w20 hU21 => ?_))
    replace B : Bu w (hasW [.blk bs [.slice aq nq cq, .int .i64 p, .int .u64 sd] 120]) w20 [.blk bs [.slice aq nq cq, .int .i64 (p + 1), .int .u64 sd] 120, .rd kY aq nq Xq] := B.upd [0] rfl hU21
    clear hU21
    refine s_nil ?_
    refine W_seq ?_
    refine W_region (by kernel_rfl) ?_
    refine s_y (v := .pointer (some ⟨bs, 0, none⟩)) rfl (y_move rfl) ?_
    refine s_y (v := .pointer (some ⟨bs, 0, none⟩)) rfl (y_move rfl) ?_
    refine s_y (v := .pointer (some ⟨bs, 0, none⟩)) rfl (y_nil rfl) ?_
    refine s_y (v := .pointer (some ⟨bs, 2, none⟩)) rfl (y_fld (o := 0) T117.fld_120_2_2 rfl) ?_
    refine s_y (v := .int .u64 sd) rfl (y_load T117.one_118 rfl ((B.b 0 rfl).cell (j := 2) rfl)) ?_
    refine s_y (v := .int .u64 (IntKind.u64.wrap (sd * 6364136223846793005))) rfl (y_wmul rfl rfl) ?_
    refine s_y (v := .int .i64 (byt Xq p)) rfl (y_move rfl) ?_
    refine s_y (v := .int .u64 (byt Xq p)) rfl (y_ii T117.und_3 T117.int_118_u64 rfl (IntWalk.u64_in _ (by omega))) ?_
    refine s_y (v := .int .u64 (IntKind.u64.wrap ((IntKind.u64.wrap (sd * 6364136223846793005)) + (byt Xq p)))) rfl (y_wadd rfl rfl) ?_
    refine s_y (v := .int .u64 (IntKind.u64.wrap ((IntKind.u64.wrap ((IntKind.u64.wrap (sd * 6364136223846793005)) + (byt Xq p))) + 1442695040888963407))) rfl (y_wadd rfl rfl) ?_
    refine s_y (v := .pointer (some ⟨bs, 0, none⟩)) rfl (y_nil rfl) ?_
    refine s_y (v := .pointer (some ⟨bs, 2, none⟩)) rfl (y_fld (o := 0) T117.fld_120_2_2 rfl) ?_
    refine s_k0 rfl (k_stB (v := .int .u64 (IntKind.u64.wrap ((IntKind.u64.wrap ((IntKind.u64.wrap (sd * 6364136223846793005)) + (byt Xq p))) + 1442695040888963407))) (n := 1) (cs' := [.slice aq nq cq, .int .i64 (p + 1), .int .u64 (IntKind.u64.wrap ((IntKind.u64.wrap ((IntKind.u64.wrap (sd * 6364136223846793005)) + (byt Xq p))) + 1442695040888963407))]) T117.sz_118_1 rfl rfl rfl (B.b 0 rfl) (by simp [Value.cells, Value.oneCell']) (Nat.le_of_ble_eq_true rfl) rfl (fun w22 hU23 => ?_))
    replace B : Bu w (hasW [.blk bs [.slice aq nq cq, .int .i64 p, .int .u64 sd] 120]) w22 [.blk bs [.slice aq nq cq, .int .i64 (p + 1), .int .u64 (IntKind.u64.wrap ((IntKind.u64.wrap ((IntKind.u64.wrap (sd * 6364136223846793005)) + (byt Xq p))) + 1442695040888963407))] 120, .rd kY aq nq Xq] := B.upd [0] rfl hU23
    clear hU23
    refine s_nil ?_
    refine W_seq ?_
    refine W_seq ?_
    have B0_28 := B
    refine W_draw (no) T117.mx (by kernel_rfl) (fun w26 e27 => ?_)
    have R29 := Ext.refl (no) w22
    replace R29 := R29.trans (Ext0.any e27)
    replace B := B.ext0 e27
    clear e27
    refine m_y (v := .pointer (some ⟨bs, 0, none⟩)) 0 rfl (by kernel_rfl) rfl rfl (fun w' e' => y_move rfl) ?_
    refine m_y (v := .pointer (some ⟨bs, 0, none⟩)) 1 rfl (by kernel_rfl) rfl rfl (fun w' e' => y_nil rfl) ?_
    refine m_y (v := .pointer (some ⟨bs, 1, none⟩)) 2 rfl (by kernel_rfl) rfl rfl (fun w' e' => y_fld (o := 0) T117.fld_120_1_1 rfl) ?_
    refine m_y (v := .int .i64 (p + 1)) 3 rfl (by kernel_rfl) rfl rfl (fun w' e' => y_load T117.one_3 rfl (((B0_28.b 0 rfl).ext0 e').cell (j := 1) rfl)) ?_
    refine m_y (v := .pointer (some ⟨bs, 0, none⟩)) 4 rfl (by kernel_rfl) rfl rfl (fun w' e' => y_move rfl) ?_
    refine m_y (v := .pointer (some ⟨bs, 0, none⟩)) 5 rfl (by kernel_rfl) rfl rfl (fun w' e' => y_nil rfl) ?_
    refine m_y (v := .pointer (some ⟨bs, 0, none⟩)) 6 rfl (by kernel_rfl) rfl rfl (fun w' e' => y_fld (o := 0) T117.fld_120_0_0 rfl) ?_
    refine m_y (v := .slice aq nq cq) 7 rfl (by kernel_rfl) rfl rfl (fun w' e' => y_load T117.one_22 rfl (((B0_28.b 0 rfl).ext0 e').cell (j := 0) rfl)) ?_
    refine m_y (v := .int .i64 ((nq : Nat) : Int)) 8 rfl (by kernel_rfl) rfl rfl (fun w' e' => y_len T117.sl_22_5_1 rfl rfl) ?_
    by_cases c30 : (p + 1) ≤ ((nq : Nat) : Int)
    · refine m_y (v := .bool true) 9 rfl (by kernel_rfl) rfl rfl (fun w' e' => y_leq rfl rfl (decide_eq_true c30)) ?_
      refine m_done (by kernel_rfl) (fun w31 e32 => ?_)
      replace B := B.ext0 e32
      clear e32
      clear B0_28 R29
      refine W_if_t (by decide) rfl ?_
      refine W_seq ?_
      refine W_region (by kernel_rfl) ?_
      refine s_y (v := .int .i64 (byt Xq p)) rfl (y_move rfl) ?_
      refine s_y (v := .int .i64 (byt Xq p)) rfl (y_assign rfl) ?_
      refine s_nil ?_
      refine W_ret ?_
      refine ret1 (v := .int .i64 (byt Xq p)) rfl rfl rfl ⟨_, rfl, ?_⟩
      have hby : bY Xq p = byt Xq p := bY_in hlq c7
      replace B : Bu w (hasW [.blk bs [.slice aq nq cq, .int .i64 p, .int .u64 sd] 120]) w31 [.blk bs [.slice aq nq cq, .int .i64 (p + 1), .int .u64 (nxS Xq p sd)] 120, .rd kY aq nq Xq] := B.blkEq 0 rfl (nx_cells hby)
      exact ⟨(congrArg (Value.int .i64) (nxV_in hlq c30 hby)), B.wrote [0] rfl rfl rfl⟩
    · refine m_y (v := .bool false) 9 rfl (by kernel_rfl) rfl rfl (fun w' e' => y_leq rfl rfl (decide_eq_false c30)) ?_
      refine m_done (by kernel_rfl) (fun w33 e34 => ?_)
      replace B := B.ext0 e34
      clear e34
      clear B0_28 R29
      refine W_if_f (by decide) rfl ?_
      refine W_skip ?_
      refine W_seq ?_
      refine W_region (by kernel_rfl) ?_
      refine s_y (v := .pointer (some ⟨bs, 0, none⟩)) rfl (y_move rfl) ?_
      refine s_y (v := .pointer (some ⟨bs, 0, none⟩)) rfl (y_nil rfl) ?_
      refine s_y (v := .pointer (some ⟨bs, 2, none⟩)) rfl (y_fld (o := 0) T117.fld_120_2_2 rfl) ?_
      refine s_y (v := .int .u64 (IntKind.u64.wrap ((IntKind.u64.wrap ((IntKind.u64.wrap (sd * 6364136223846793005)) + (byt Xq p))) + 1442695040888963407))) rfl (y_load T117.one_118 rfl ((B.b 0 rfl).cell (j := 2) rfl)) ?_
      refine s_y (v := .int .u64 ((IntKind.u64.wrap ((IntKind.u64.wrap ((IntKind.u64.wrap (sd * 6364136223846793005)) + (byt Xq p))) + 1442695040888963407)) / 1099511627776)) rfl (y_shr40 rfl rfl) ?_
      have hb35 := lo8_b ((IntKind.u64.wrap ((IntKind.u64.wrap ((IntKind.u64.wrap (sd * 6364136223846793005)) + (byt Xq p))) + 1442695040888963407)) / 1099511627776)
      refine s_y (v := .int .u64 (lo8 ((IntKind.u64.wrap ((IntKind.u64.wrap ((IntKind.u64.wrap (sd * 6364136223846793005)) + (byt Xq p))) + 1442695040888963407)) / 1099511627776))) rfl (y_and255 rfl rfl) ?_
      refine s_y (v := .int .i64 (lo8 ((IntKind.u64.wrap ((IntKind.u64.wrap ((IntKind.u64.wrap (sd * 6364136223846793005)) + (byt Xq p))) + 1442695040888963407)) / 1099511627776))) rfl (y_ii T117.und_118 T117.int_2_i64 rfl (IntWalk.i64_in _ (by omega))) ?_
      refine s_y (v := .int .i64 (lo8 ((IntKind.u64.wrap ((IntKind.u64.wrap ((IntKind.u64.wrap (sd * 6364136223846793005)) + (byt Xq p))) + 1442695040888963407)) / 1099511627776))) rfl (y_assign rfl) ?_
      refine s_nil ?_
      refine W_ret ?_
      refine ret1 (v := .int .i64 (lo8 ((IntKind.u64.wrap ((IntKind.u64.wrap ((IntKind.u64.wrap (sd * 6364136223846793005)) + (byt Xq p))) + 1442695040888963407)) / 1099511627776))) rfl rfl rfl ⟨_, rfl, ?_⟩
      have hby : bY Xq p = byt Xq p := bY_in hlq c7
      replace B : Bu w (hasW [.blk bs [.slice aq nq cq, .int .i64 p, .int .u64 sd] 120]) w33 [.blk bs [.slice aq nq cq, .int .i64 (p + 1), .int .u64 (nxS Xq p sd)] 120, .rd kY aq nq Xq] := B.blkEq 0 rfl (nx_cells hby)
      skip
      exact ⟨(congrArg (Value.int .i64) ((by unfold nxS; rw [hby] : lo8 ((IntKind.u64.wrap ((IntKind.u64.wrap ((IntKind.u64.wrap (sd * 6364136223846793005)) + (byt Xq p))) + 1442695040888963407)) / 1099511627776) = lo8 (nxS Xq p sd / 1099511627776)).trans (nxV_out hlq c30))), B.wrote [0] rfl rfl rfl⟩
  · refine m_y (v := .bool false) 9 rfl (by kernel_rfl) rfl rfl (fun w' e' => y_lss rfl rfl (decide_eq_false c7)) ?_
    refine m_done (by kernel_rfl) (fun w36 e37 => ?_)
    replace B := B.ext0 e37
    clear e37
    clear B0_5 R6
    refine W_if_f (by decide) rfl ?_
    refine W_skip ?_
    refine W_seq ?_
    refine W_region (by kernel_rfl) ?_
    refine s_y (v := .pointer (some ⟨bs, 0, none⟩)) rfl (y_move rfl) ?_
    refine s_y (v := .pointer (some ⟨bs, 0, none⟩)) rfl (y_nil rfl) ?_
    refine s_y (v := .pointer (some ⟨bs, 1, none⟩)) rfl (y_fld (o := 0) T117.fld_120_1_1 rfl) ?_
    refine s_y (v := .int .i64 p) rfl (y_load T117.one_3 rfl ((B.b 0 rfl).cell (j := 1) rfl)) ?_
    refine s_y (v := .int .i64 (p + 1)) rfl (y_add rfl rfl rfl (by omega)) ?_
    refine s_y (v := .pointer (some ⟨bs, 0, none⟩)) rfl (y_nil rfl) ?_
    refine s_y (v := .pointer (some ⟨bs, 1, none⟩)) rfl (y_fld (o := 0) T117.fld_120_1_1 rfl) ?_
    refine s_k0 rfl (k_stB (v := .int .i64 (p + 1)) (n := 1) (cs' := [.slice aq nq cq, .int .i64 (p + 1), .int .u64 sd]) T117.sz_3_1 rfl rfl rfl (B.b 0 rfl) (by simp [Value.cells, Value.oneCell']) (Nat.le_of_ble_eq_true rfl) rfl (fun w38 hU39 => ?_))
    replace B : Bu w (hasW [.blk bs [.slice aq nq cq, .int .i64 p, .int .u64 sd] 120]) w38 [.blk bs [.slice aq nq cq, .int .i64 (p + 1), .int .u64 sd] 120, .rd kY aq nq Xq] := B.upd [0] rfl hU39
    clear hU39
    refine s_nil ?_
    refine W_seq ?_
    refine W_region (by kernel_rfl) ?_
    refine s_y (v := .pointer (some ⟨bs, 0, none⟩)) rfl (y_move rfl) ?_
    refine s_y (v := .pointer (some ⟨bs, 0, none⟩)) rfl (y_move rfl) ?_
    refine s_y (v := .pointer (some ⟨bs, 0, none⟩)) rfl (y_nil rfl) ?_
    refine s_y (v := .pointer (some ⟨bs, 2, none⟩)) rfl (y_fld (o := 0) T117.fld_120_2_2 rfl) ?_
    refine s_y (v := .int .u64 sd) rfl (y_load T117.one_118 rfl ((B.b 0 rfl).cell (j := 2) rfl)) ?_
    refine s_y (v := .int .u64 (IntKind.u64.wrap (sd * 6364136223846793005))) rfl (y_wmul rfl rfl) ?_
    refine s_y (v := .int .i64 0) rfl (y_move rfl) ?_
    refine s_y (v := .int .u64 0) rfl (y_ii T117.und_3 T117.int_118_u64 rfl (IntWalk.u64_in _ (by omega))) ?_
    refine s_y (v := .int .u64 (IntKind.u64.wrap ((IntKind.u64.wrap (sd * 6364136223846793005)) + 0))) rfl (y_wadd rfl rfl) ?_
    refine s_y (v := .int .u64 (IntKind.u64.wrap ((IntKind.u64.wrap ((IntKind.u64.wrap (sd * 6364136223846793005)) + 0)) + 1442695040888963407))) rfl (y_wadd rfl rfl) ?_
    refine s_y (v := .pointer (some ⟨bs, 0, none⟩)) rfl (y_nil rfl) ?_
    refine s_y (v := .pointer (some ⟨bs, 2, none⟩)) rfl (y_fld (o := 0) T117.fld_120_2_2 rfl) ?_
    refine s_k0 rfl (k_stB (v := .int .u64 (IntKind.u64.wrap ((IntKind.u64.wrap ((IntKind.u64.wrap (sd * 6364136223846793005)) + 0)) + 1442695040888963407))) (n := 1) (cs' := [.slice aq nq cq, .int .i64 (p + 1), .int .u64 (IntKind.u64.wrap ((IntKind.u64.wrap ((IntKind.u64.wrap (sd * 6364136223846793005)) + 0)) + 1442695040888963407))]) T117.sz_118_1 rfl rfl rfl (B.b 0 rfl) (by simp [Value.cells, Value.oneCell']) (Nat.le_of_ble_eq_true rfl) rfl (fun w40 hU41 => ?_))
    replace B : Bu w (hasW [.blk bs [.slice aq nq cq, .int .i64 p, .int .u64 sd] 120]) w40 [.blk bs [.slice aq nq cq, .int .i64 (p + 1), .int .u64 (IntKind.u64.wrap ((IntKind.u64.wrap ((IntKind.u64.wrap (sd * 6364136223846793005)) + 0)) + 1442695040888963407))] 120, .rd kY aq nq Xq] := B.upd [0] rfl hU41
    clear hU41
    refine s_nil ?_
    refine W_seq ?_
    refine W_seq ?_
    have B0_46 := B
    refine W_draw (no) T117.mx (by kernel_rfl) (fun w44 e45 => ?_)
    have R47 := Ext.refl (no) w40
    replace R47 := R47.trans (Ext0.any e45)
    replace B := B.ext0 e45
    clear e45
    refine m_y (v := .pointer (some ⟨bs, 0, none⟩)) 0 rfl (by kernel_rfl) rfl rfl (fun w' e' => y_move rfl) ?_
    refine m_y (v := .pointer (some ⟨bs, 0, none⟩)) 1 rfl (by kernel_rfl) rfl rfl (fun w' e' => y_nil rfl) ?_
    refine m_y (v := .pointer (some ⟨bs, 1, none⟩)) 2 rfl (by kernel_rfl) rfl rfl (fun w' e' => y_fld (o := 0) T117.fld_120_1_1 rfl) ?_
    refine m_y (v := .int .i64 (p + 1)) 3 rfl (by kernel_rfl) rfl rfl (fun w' e' => y_load T117.one_3 rfl (((B0_46.b 0 rfl).ext0 e').cell (j := 1) rfl)) ?_
    refine m_y (v := .pointer (some ⟨bs, 0, none⟩)) 4 rfl (by kernel_rfl) rfl rfl (fun w' e' => y_move rfl) ?_
    refine m_y (v := .pointer (some ⟨bs, 0, none⟩)) 5 rfl (by kernel_rfl) rfl rfl (fun w' e' => y_nil rfl) ?_
    refine m_y (v := .pointer (some ⟨bs, 0, none⟩)) 6 rfl (by kernel_rfl) rfl rfl (fun w' e' => y_fld (o := 0) T117.fld_120_0_0 rfl) ?_
    refine m_y (v := .slice aq nq cq) 7 rfl (by kernel_rfl) rfl rfl (fun w' e' => y_load T117.one_22 rfl (((B0_46.b 0 rfl).ext0 e').cell (j := 0) rfl)) ?_
    refine m_y (v := .int .i64 ((nq : Nat) : Int)) 8 rfl (by kernel_rfl) rfl rfl (fun w' e' => y_len T117.sl_22_5_1 rfl rfl) ?_
    by_cases c48 : (p + 1) ≤ ((nq : Nat) : Int)
    · refine m_y (v := .bool true) 9 rfl (by kernel_rfl) rfl rfl (fun w' e' => y_leq rfl rfl (decide_eq_true c48)) ?_
      refine m_done (by kernel_rfl) (fun w49 e50 => ?_)
      replace B := B.ext0 e50
      clear e50
      clear B0_46 R47
      refine W_if_t (by decide) rfl ?_
      refine W_seq ?_
      refine W_region (by kernel_rfl) ?_
      refine s_y (v := .int .i64 0) rfl (y_move rfl) ?_
      refine s_y (v := .int .i64 0) rfl (y_assign rfl) ?_
      refine s_nil ?_
      refine W_ret ?_
      refine ret1 (v := .int .i64 0) rfl rfl rfl ⟨_, rfl, ?_⟩
      have hby : bY Xq p = 0 := bY_out hlq c7
      replace B : Bu w (hasW [.blk bs [.slice aq nq cq, .int .i64 p, .int .u64 sd] 120]) w49 [.blk bs [.slice aq nq cq, .int .i64 (p + 1), .int .u64 (nxS Xq p sd)] 120, .rd kY aq nq Xq] := B.blkEq 0 rfl (nx_cells hby)
      exact ⟨(congrArg (Value.int .i64) (nxV_in hlq c48 hby)), B.wrote [0] rfl rfl rfl⟩
    · refine m_y (v := .bool false) 9 rfl (by kernel_rfl) rfl rfl (fun w' e' => y_leq rfl rfl (decide_eq_false c48)) ?_
      refine m_done (by kernel_rfl) (fun w51 e52 => ?_)
      replace B := B.ext0 e52
      clear e52
      clear B0_46 R47
      refine W_if_f (by decide) rfl ?_
      refine W_skip ?_
      refine W_seq ?_
      refine W_region (by kernel_rfl) ?_
      refine s_y (v := .pointer (some ⟨bs, 0, none⟩)) rfl (y_move rfl) ?_
      refine s_y (v := .pointer (some ⟨bs, 0, none⟩)) rfl (y_nil rfl) ?_
      refine s_y (v := .pointer (some ⟨bs, 2, none⟩)) rfl (y_fld (o := 0) T117.fld_120_2_2 rfl) ?_
      refine s_y (v := .int .u64 (IntKind.u64.wrap ((IntKind.u64.wrap ((IntKind.u64.wrap (sd * 6364136223846793005)) + 0)) + 1442695040888963407))) rfl (y_load T117.one_118 rfl ((B.b 0 rfl).cell (j := 2) rfl)) ?_
      refine s_y (v := .int .u64 ((IntKind.u64.wrap ((IntKind.u64.wrap ((IntKind.u64.wrap (sd * 6364136223846793005)) + 0)) + 1442695040888963407)) / 1099511627776)) rfl (y_shr40 rfl rfl) ?_
      have hb53 := lo8_b ((IntKind.u64.wrap ((IntKind.u64.wrap ((IntKind.u64.wrap (sd * 6364136223846793005)) + 0)) + 1442695040888963407)) / 1099511627776)
      refine s_y (v := .int .u64 (lo8 ((IntKind.u64.wrap ((IntKind.u64.wrap ((IntKind.u64.wrap (sd * 6364136223846793005)) + 0)) + 1442695040888963407)) / 1099511627776))) rfl (y_and255 rfl rfl) ?_
      refine s_y (v := .int .i64 (lo8 ((IntKind.u64.wrap ((IntKind.u64.wrap ((IntKind.u64.wrap (sd * 6364136223846793005)) + 0)) + 1442695040888963407)) / 1099511627776))) rfl (y_ii T117.und_118 T117.int_2_i64 rfl (IntWalk.i64_in _ (by omega))) ?_
      refine s_y (v := .int .i64 (lo8 ((IntKind.u64.wrap ((IntKind.u64.wrap ((IntKind.u64.wrap (sd * 6364136223846793005)) + 0)) + 1442695040888963407)) / 1099511627776))) rfl (y_assign rfl) ?_
      refine s_nil ?_
      refine W_ret ?_
      refine ret1 (v := .int .i64 (lo8 ((IntKind.u64.wrap ((IntKind.u64.wrap ((IntKind.u64.wrap (sd * 6364136223846793005)) + 0)) + 1442695040888963407)) / 1099511627776))) rfl rfl rfl ⟨_, rfl, ?_⟩
      have hby : bY Xq p = 0 := bY_out hlq c7
      replace B : Bu w (hasW [.blk bs [.slice aq nq cq, .int .i64 p, .int .u64 sd] 120]) w51 [.blk bs [.slice aq nq cq, .int .i64 (p + 1), .int .u64 (nxS Xq p sd)] 120, .rd kY aq nq Xq] := B.blkEq 0 rfl (nx_cells hby)
      skip
      exact ⟨(congrArg (Value.int .i64) ((by unfold nxS; rw [hby] : lo8 ((IntKind.u64.wrap ((IntKind.u64.wrap ((IntKind.u64.wrap (sd * 6364136223846793005)) + 0)) + 1442695040888963407)) / 1099511627776) = lo8 (nxS Xq p sd / 1099511627776)).trans (nxV_out hlq c48))), B.wrote [0] rfl rfl rfl⟩
namespace T104
theorem mx : Try.prog.follows .mixedOrders = true := by kernel_rfl
theorem fn_117 : fnB Try.prog 117 = true := by kernel_rfl
end T104
set_option maxRecDepth 100000 in
set_option maxHeartbeats 4000000 in
theorem c_s_pick {bs : Nat} {n : Int} {aq : Option Addr} {nq cq : Nat} {Xq : List Nat} {p : Int} {w : World} (hp0 : 0 ≤ p) (hp1 : p ≤ 1000000) (hn0 : 2 ≤ n) (hn1 : n ≤ 200) (HA : All w [.blk bs [.slice aq nq cq, .int .i64 p, .int .u64 (sdY Xq p)] 120, .rd kY aq nq Xq]) (HP : Pw [.blk bs [.slice aq nq cq, .int .i64 p, .int .u64 (sdY Xq p)] 120, .rd kY aq nq Xq]) :
    Calls Try.prog 104 #[.pointer (some ⟨bs, 0, none⟩), .int .i64 n] w (Rt fun v w' => ∃ (uv : Int), v = .int .i64 uv ∧ uv = pk Xq n p ∧ Upd w w' [.blk bs [.slice aq nq cq, .int .i64 p, .int .u64 (sdY Xq p)] 120] [.blk bs [.slice aq nq cq, .int .i64 (p + 1), .int .u64 (sdY Xq (p + 1))] 120]) := by
  have B : Bu w (hasW [.blk bs [.slice aq nq cq, .int .i64 p, .int .u64 (sdY Xq p)] 120]) w [.blk bs [.slice aq nq cq, .int .i64 p, .int .u64 (sdY Xq p)] 120, .rd kY aq nq Xq] := Bu.initW (W := [.blk bs [.slice aq nq cq, .int .i64 p, .int .u64 (sdY Xq p)] 120]) (R := [.rd kY aq nq Xq]) HA HP rfl
  have hlq := (B.r 1 rfl).len
  refine calls_W (n := 20) Try.func104 rfl rfl (Nat.le_of_ble_eq_true rfl) ?_
  refine W_seq ?_
  refine W_region (by kernel_rfl) ?_
  refine s_y (v := .int .i64 0) rfl (y_assign rfl) ?_
  refine s_nil ?_
  refine W_seq ?_
  refine W_seq ?_
  refine W_region (by kernel_rfl) ?_
  refine s_y (v := .int .i64 n) rfl (y_move rfl) ?_
  have hk1 : ¬ (n ≤ 1) := (by omega)
  refine s_y (v := .bool false) rfl (y_leq rfl rfl (decide_eq_false hk1)) ?_
  refine s_nil ?_
  refine W_if_f (by decide) rfl ?_
  refine W_skip ?_
  refine W_seq ?_
  refine W_region (by kernel_rfl) ?_
  refine s_y (v := .pointer (some ⟨bs, 0, none⟩)) rfl (y_move rfl) ?_
  refine s_k rfl (k_call T104.fn_117 (c_s_next (by omega) (by omega) (B.all.pick [0, 1] rfl) (B.pw.pick [0, 1] rfl rfl)) rfl ?_)
  rintro _ w2 ⟨rfl, hU3⟩
  replace B : Bu w (hasW [.blk bs [.slice aq nq cq, .int .i64 p, .int .u64 (sdY Xq p)] 120]) w2 [.blk bs [.slice aq nq cq, .int .i64 (p + 1), .int .u64 (nxS Xq p (sdY Xq p))] 120, .rd kY aq nq Xq] := B.upd [0] rfl hU3
  clear hU3
  have hb4 := nxV_b (p := p) (sd := sdY Xq p) (X := Xq) (B.r 1 rfl).bytes
  refine s_y (v := .int .i64 (nxV Xq p (sdY Xq p))) rfl (y_assign rfl) ?_
  refine s_nil ?_
  refine W_seq ?_
  refine W_seq ?_
  refine W_region (by kernel_rfl) ?_
  refine s_y (v := .int .i64 n) rfl (y_move rfl) ?_
  have hk5 : ¬ (200 < n) := (by omega)
  refine s_y (v := .bool false) rfl (y_gtr rfl rfl (decide_eq_false hk5)) ?_
  refine s_nil ?_
  refine W_if_f (by decide) rfl ?_
  refine W_skip ?_
  refine W_seq ?_
  refine W_region (by kernel_rfl) ?_
  refine s_y (v := .int .i64 (nxV Xq p (sdY Xq p))) rfl (y_move rfl) ?_
  refine s_y (v := .int .i64 n) rfl (y_move rfl) ?_
  have hm6 := rem_b (x := nxV Xq p (sdY Xq p)) (m := n) (by omega) (by omega)
  refine s_y (v := .int .i64 ((nxV Xq p (sdY Xq p)) % n)) rfl (y_rem rfl rfl (by omega) (by omega) rfl) ?_
  refine s_y (v := .int .i64 ((nxV Xq p (sdY Xq p)) % n)) rfl (y_assign rfl) ?_
  refine s_nil ?_
  refine W_ret ?_
  refine ret1 (v := .int .i64 ((nxV Xq p (sdY Xq p)) % n)) rfl rfl rfl ⟨_, rfl, ?_⟩
  replace B : Bu w (hasW [.blk bs [.slice aq nq cq, .int .i64 p, .int .u64 (sdY Xq p)] 120]) w2 [.blk bs [.slice aq nq cq, .int .i64 (p + 1), .int .u64 (sdY Xq (p + 1))] 120, .rd kY aq nq Xq] := B.blkEq 0 rfl (sdY_cells hp0)
  exact ⟨_, rfl, rfl, B.wrote [0] rfl rfl rfl⟩
namespace T105
theorem mx : Try.prog.follows .mixedOrders = true := by kernel_rfl
theorem fn_104 : fnB Try.prog 104 = true := by kernel_rfl
end T105
set_option maxRecDepth 100000 in
set_option maxHeartbeats 4000000 in
theorem c_s_one {bs : Nat} {n : Int} {aq : Option Addr} {nq cq : Nat} {Xq : List Nat} {p : Int} {w : World} (hp0 : 0 ≤ p) (hp1 : p ≤ 1000000) (hn0 : 2 ≤ n) (hn1 : n ≤ 200) (HA : All w [.blk bs [.slice aq nq cq, .int .i64 p, .int .u64 (sdY Xq p)] 120, .rd kY aq nq Xq]) (HP : Pw [.blk bs [.slice aq nq cq, .int .i64 p, .int .u64 (sdY Xq p)] 120, .rd kY aq nq Xq]) :
    Calls Try.prog 105 #[.pointer (some ⟨bs, 0, none⟩), .int .i64 n] w (Rt fun v w' => ∃ (vb : Bool), v = .bool vb ∧ decide (pk Xq n p = 0) = vb ∧ Upd w w' [.blk bs [.slice aq nq cq, .int .i64 p, .int .u64 (sdY Xq p)] 120] [.blk bs [.slice aq nq cq, .int .i64 (p + 1), .int .u64 (sdY Xq (p + 1))] 120]) := by
  have B : Bu w (hasW [.blk bs [.slice aq nq cq, .int .i64 p, .int .u64 (sdY Xq p)] 120]) w [.blk bs [.slice aq nq cq, .int .i64 p, .int .u64 (sdY Xq p)] 120, .rd kY aq nq Xq] := Bu.initW (W := [.blk bs [.slice aq nq cq, .int .i64 p, .int .u64 (sdY Xq p)] 120]) (R := [.rd kY aq nq Xq]) HA HP rfl
  have hlq := (B.r 1 rfl).len
  refine calls_W (n := 9) Try.func105 rfl rfl (Nat.le_of_ble_eq_true rfl) ?_
  refine W_seq ?_
  refine W_region (by kernel_rfl) ?_
  refine s_y (v := .bool false) rfl (y_assign rfl) ?_
  refine s_nil ?_
  refine W_seq ?_
  refine W_region (by kernel_rfl) ?_
  refine s_y (v := .pointer (some ⟨bs, 0, none⟩)) rfl (y_move rfl) ?_
  refine s_y (v := .int .i64 n) rfl (y_move rfl) ?_
  refine s_k rfl (k_call T105.fn_104 (c_s_pick (by omega) (by omega) (by omega) (by omega) (B.all.pick [0, 1] rfl) (B.pw.pick [0, 1] rfl rfl)) rfl ?_)
  rintro _ w1 ⟨v3, rfl, hp4, hU2⟩
  replace B : Bu w (hasW [.blk bs [.slice aq nq cq, .int .i64 p, .int .u64 (sdY Xq p)] 120]) w1 [.blk bs [.slice aq nq cq, .int .i64 (p + 1), .int .u64 (sdY Xq (p + 1))] 120, .rd kY aq nq Xq] := B.upd [0] rfl hU2
  clear hU2
  have hb5 := pk_b Xq (n := n) p (by omega)
  rw [← hp4] at hb5
  by_cases c6 : v3 = 0
  · refine s_y (v := .bool true) rfl (y_eql rfl rfl (decide_eq_true c6)) ?_
    refine s_y (v := .bool true) rfl (y_assign rfl) ?_
    refine s_nil ?_
    refine W_ret ?_
    refine ret1 (v := .bool true) rfl rfl rfl ⟨_, rfl, ?_⟩
    exact ⟨_, rfl, (by rw [← hp4]; exact decide_eq_true c6), B.wrote [0] rfl rfl rfl⟩
  · refine s_y (v := .bool false) rfl (y_eql rfl rfl (decide_eq_false c6)) ?_
    refine s_y (v := .bool false) rfl (y_assign rfl) ?_
    refine s_nil ?_
    refine W_ret ?_
    refine ret1 (v := .bool false) rfl rfl rfl ⟨_, rfl, ?_⟩
    exact ⟨_, rfl, (by rw [← hp4]; exact decide_eq_false c6), B.wrote [0] rfl rfl rfl⟩
namespace T62
theorem mx : Try.prog.follows .mixedOrders = true := by kernel_rfl
theorem agg_26_5 : aggB Try.prog 26 5 = true := by kernel_rfl
theorem fld_26_0_0 : fldB Try.prog 26 0 0 = true := by kernel_rfl
theorem fld_26_1_1 : fldB Try.prog 26 1 1 = true := by kernel_rfl
theorem fld_26_3_3 : fldB Try.prog 26 3 3 = true := by kernel_rfl
theorem fld_26_4_4 : fldB Try.prog 26 4 4 = true := by kernel_rfl
theorem flt_56_f32 : Try.prog.underlying 56 = some (.float .f32) := by kernel_rfl
theorem fn_104 : fnB Try.prog 104 = true := by kernel_rfl
theorem fn_105 : fnB Try.prog 105 = true := by kernel_rfl
theorem one_2 : oneB Try.prog 2 = true := by kernel_rfl
theorem one_24 : oneB Try.prog 24 = true := by kernel_rfl
theorem slt_24 : SlT Try.prog 24 56 1 4 (.float .f32 0) := ⟨by kernel_rfl, by kernel_rfl, rfl, by decide⟩
theorem sz_2_1 : szB Try.prog 2 1 = true := by kernel_rfl
theorem sz_24_1 : szB Try.prog 24 1 = true := by kernel_rfl
theorem sz_26_5 : szB Try.prog 26 5 = true := by kernel_rfl
theorem und_2 : (Try.prog.underlying 2).isSome = true := by kernel_rfl
theorem zero_26 : zeroB Try.prog 26 (.agg #[.int .i64 0, .int .i64 0, .bool false, .slice none 0 0, .slice none 0 0]) := by unfold zeroB; kernel_rfl
end T62
set_option maxRecDepth 100000 in
set_option maxHeartbeats 4000000 in
theorem c_s_l02DrawOk {bs : Nat} {aq : Option Addr} {nq cq : Nat} {Xq : List Nat} {p : Int} {w : World} (hp0 : 0 ≤ p) (hp1 : p ≤ 1000) (HA : All w [.blk bs [.slice aq nq cq, .int .i64 p, .int .u64 (sdY Xq p)] 120, .rd kY aq nq Xq]) (HP : Pw [.blk bs [.slice aq nq cq, .int .i64 p, .int .u64 (sdY Xq p)] 120, .rd kY aq nq Xq]) :
    Calls Try.prog 62 #[.pointer (some ⟨bs, 0, none⟩)] w (Rt fun v w' => ∃ (wd : Int) (hi : Int) (vb : Bool) (pl : Bool) (pe : Int) (a1 : Option Addr) (n1 : Nat) (c1 : Nat) (a2 : Option Addr) (n2 : Nat) (c2 : Nat), v = .agg #[.int .i64 wd, .int .i64 hi, .bool vb, .slice a1 n1 c1, .slice a2 n2 c2] ∧ decide (pk Xq 2 (p + 1) = 0) = vb ∧ 3 ≤ wd ∧ wd ≤ 6 ∧ 3 ≤ hi ∧ hi ≤ 6 ∧ p ≤ pe ∧ pe ≤ p + 900 ∧ Upd w w' [.blk bs [.slice aq nq cq, .int .i64 p, .int .u64 (sdY Xq p)] 120] [.blk bs [.slice aq nq cq, .int .i64 pe, .int .u64 (sdY Xq pe)] 120, .ow kF a1 n1 c1 56 (dwSpL Xq pl (p + 1 + 1 + 1 + 1) (wd * hi)), .ow kF a2 n2 c2 56 (dwLsL Xq pl (p + 1 + 1 + 1 + 1) (wd * hi))]) := by
  have B : Bu w (hasW [.blk bs [.slice aq nq cq, .int .i64 p, .int .u64 (sdY Xq p)] 120]) w [.blk bs [.slice aq nq cq, .int .i64 p, .int .u64 (sdY Xq p)] 120, .rd kY aq nq Xq] := Bu.initW (W := [.blk bs [.slice aq nq cq, .int .i64 p, .int .u64 (sdY Xq p)] 120]) (R := [.rd kY aq nq Xq]) HA HP rfl
  have hlq := (B.r 1 rfl).len
  refine calls_W (n := 54) Try.func62 rfl rfl (Nat.le_of_ble_eq_true rfl) ?_
  refine W_seq ?_
  refine W_region (by kernel_rfl) ?_
  refine s_k rfl (k_allocN (z := (.agg #[.int .i64 0, .int .i64 0, .bool false, .slice none 0 0, .slice none 0 0])) (cs := [.int .i64 0, .int .i64 0, .bool false, .slice none 0 0, .slice none 0 0]) T62.zero_26 rfl (fun b1 w2 hN3 => ?_))
  replace B := B.new1 hN3
  clear hN3
  refine s_nil ?_
  refine W_seq ?_
  refine W_region (by kernel_rfl) ?_
  refine s_y (v := .pointer (some ⟨bs, 0, none⟩)) rfl (y_move rfl) ?_
  refine s_k rfl (k_call T62.fn_104 (c_s_pick (by omega) (by omega) (by omega) (by omega) (B.all.pick [1, 2] rfl) (B.pw.pick [1, 2] rfl rfl)) rfl ?_)
  rintro _ w4 ⟨v6, rfl, hp7, hU5⟩
  replace B : Bu w (hasW [.blk bs [.slice aq nq cq, .int .i64 p, .int .u64 (sdY Xq p)] 120]) w4 [.blk bs [.slice aq nq cq, .int .i64 (p + 1), .int .u64 (sdY Xq (p + 1))] 120, .blk b1 [.int .i64 0, .int .i64 0, .bool false, .slice none 0 0, .slice none 0 0] 26, .rd kY aq nq Xq] := B.upd [1] rfl hU5
  clear hU5
  have hb8 := pk_b Xq (n := 4) p (by omega)
  rw [← hp7] at hb8
  refine s_y (v := .int .i64 (3 + v6)) rfl (y_add rfl rfl rfl (by omega)) ?_
  refine s_y (v := .pointer (some ⟨bs, 0, none⟩)) rfl (y_move rfl) ?_
  refine s_k rfl (k_call T62.fn_105 (c_s_one (by omega) (by omega) (by omega) (by omega) (B.all.pick [0, 2] rfl) (B.pw.pick [0, 2] rfl rfl)) rfl ?_)
  rintro _ w9 ⟨vb11, rfl, hp12, hU10⟩
  replace B : Bu w (hasW [.blk bs [.slice aq nq cq, .int .i64 p, .int .u64 (sdY Xq p)] 120]) w9 [.blk bs [.slice aq nq cq, .int .i64 ((p + 1) + 1), .int .u64 (sdY Xq ((p + 1) + 1))] 120, .blk b1 [.int .i64 0, .int .i64 0, .bool false, .slice none 0 0, .slice none 0 0] 26, .rd kY aq nq Xq] := B.upd [0] rfl hU10
  clear hU10
  refine s_y (v := .agg #[.int .i64 (3 + v6), .int .i64 0, .bool vb11, .slice none 0 0, .slice none 0 0]) rfl (y_build (cells := #[.int .i64 (3 + v6), .int .i64 0, .bool vb11, .slice none 0 0, .slice none 0 0]) (by kernel_rfl)) ?_
  refine s_k rfl (k_allocN (z := (.agg #[.int .i64 0, .int .i64 0, .bool false, .slice none 0 0, .slice none 0 0])) (cs := [.int .i64 0, .int .i64 0, .bool false, .slice none 0 0, .slice none 0 0]) T62.zero_26 rfl (fun b13 w14 hN15 => ?_))
  replace B := B.new1 hN15
  clear hN15
  refine s_k0 rfl (k_stB (v := .agg #[.int .i64 (3 + v6), .int .i64 0, .bool vb11, .slice none 0 0, .slice none 0 0]) (n := 5) (cs' := [.int .i64 (3 + v6), .int .i64 0, .bool vb11, .slice none 0 0, .slice none 0 0]) T62.sz_26_5 rfl rfl rfl (B.b 0 rfl) (by simp [Value.cells, Value.oneCell']) (Nat.le_of_ble_eq_true rfl) rfl (fun w16 hU17 => ?_))
  replace B : Bu w (hasW [.blk bs [.slice aq nq cq, .int .i64 p, .int .u64 (sdY Xq p)] 120]) w16 [.blk b13 [.int .i64 (3 + v6), .int .i64 0, .bool vb11, .slice none 0 0, .slice none 0 0] 26, .blk bs [.slice aq nq cq, .int .i64 ((p + 1) + 1), .int .u64 (sdY Xq ((p + 1) + 1))] 120, .blk b1 [.int .i64 0, .int .i64 0, .bool false, .slice none 0 0, .slice none 0 0] 26, .rd kY aq nq Xq] := B.upd [0] rfl hU17
  clear hU17
  refine s_nil ?_
  refine W_seq ?_
  refine W_region (by kernel_rfl) ?_
  refine s_y (v := .pointer (some ⟨bs, 0, none⟩)) rfl (y_move rfl) ?_
  refine s_k rfl (k_call T62.fn_104 (c_s_pick (by omega) (by omega) (by omega) (by omega) (B.all.pick [1, 3] rfl) (B.pw.pick [1, 3] rfl rfl)) rfl ?_)
  rintro _ w18 ⟨v20, rfl, hp21, hU19⟩
  replace B : Bu w (hasW [.blk bs [.slice aq nq cq, .int .i64 p, .int .u64 (sdY Xq p)] 120]) w18 [.blk bs [.slice aq nq cq, .int .i64 (((p + 1) + 1) + 1), .int .u64 (sdY Xq (((p + 1) + 1) + 1))] 120, .blk b13 [.int .i64 (3 + v6), .int .i64 0, .bool vb11, .slice none 0 0, .slice none 0 0] 26, .blk b1 [.int .i64 0, .int .i64 0, .bool false, .slice none 0 0, .slice none 0 0] 26, .rd kY aq nq Xq] := B.upd [1] rfl hU19
  clear hU19
  have hb22 := pk_b Xq (n := 4) ((p + 1) + 1) (by omega)
  rw [← hp21] at hb22
  refine s_y (v := .int .i64 (3 + v20)) rfl (y_add rfl rfl rfl (by omega)) ?_
  refine s_y (v := .pointer (some ⟨b13, 1, none⟩)) rfl (y_fld (o := 0) T62.fld_26_1_1 rfl) ?_
  refine s_k0 rfl (k_stB (v := .int .i64 (3 + v20)) (n := 1) (cs' := [.int .i64 (3 + v6), .int .i64 (3 + v20), .bool vb11, .slice none 0 0, .slice none 0 0]) T62.sz_2_1 rfl rfl rfl (B.b 1 rfl) (by simp [Value.cells, Value.oneCell']) (Nat.le_of_ble_eq_true rfl) rfl (fun w23 hU24 => ?_))
  replace B : Bu w (hasW [.blk bs [.slice aq nq cq, .int .i64 p, .int .u64 (sdY Xq p)] 120]) w23 [.blk b13 [.int .i64 (3 + v6), .int .i64 (3 + v20), .bool vb11, .slice none 0 0, .slice none 0 0] 26, .blk bs [.slice aq nq cq, .int .i64 (((p + 1) + 1) + 1), .int .u64 (sdY Xq (((p + 1) + 1) + 1))] 120, .blk b1 [.int .i64 0, .int .i64 0, .bool false, .slice none 0 0, .slice none 0 0] 26, .rd kY aq nq Xq] := B.upd [1] rfl hU24
  clear hU24
  refine s_nil ?_
  refine W_seq ?_
  refine W_region (by kernel_rfl) ?_
  refine s_y (v := .pointer (some ⟨bs, 0, none⟩)) rfl (y_move rfl) ?_
  refine s_k rfl (k_call T62.fn_105 (c_s_one (by omega) (by omega) (by omega) (by omega) (B.all.pick [1, 3] rfl) (B.pw.pick [1, 3] rfl rfl)) rfl ?_)
  rintro _ w25 ⟨vb27, rfl, hp28, hU26⟩
  replace B : Bu w (hasW [.blk bs [.slice aq nq cq, .int .i64 p, .int .u64 (sdY Xq p)] 120]) w25 [.blk bs [.slice aq nq cq, .int .i64 ((((p + 1) + 1) + 1) + 1), .int .u64 (sdY Xq ((((p + 1) + 1) + 1) + 1))] 120, .blk b13 [.int .i64 (3 + v6), .int .i64 (3 + v20), .bool vb11, .slice none 0 0, .slice none 0 0] 26, .blk b1 [.int .i64 0, .int .i64 0, .bool false, .slice none 0 0, .slice none 0 0] 26, .rd kY aq nq Xq] := B.upd [1] rfl hU26
  clear hU26
  refine s_y (v := .bool vb27) rfl (y_assign rfl) ?_
  refine s_nil ?_
  refine W_seq ?_
  refine W_seq ?_
  refine W_region (by kernel_rfl) ?_
  refine s_y (v := .int .i64 0) rfl (y_assign rfl) ?_
  refine s_nil ?_
  refine W_block ?_
  have hwh := mul16 (a := (3 + v6)) (b := (3 + v20)) (by omega)
  refine W_loop (fun ρ' w' => ∃ (ρ1 : Env) (k : Int) (A1 : Option Addr) (N1 : Nat) (C1 : Nat) (A2 : Option Addr) (N2 : Nat) (C2 : Nat), ρ' = updL ρ1 [(0, .pointer (some ⟨bs, 0, none⟩)), (2, .pointer (some ⟨b1, 0, none⟩)), (3, .pointer (some ⟨b13, 0, none⟩)), (4, .bool vb27), (5, .int .i64 k)] ∧ Bu w (hasW [.blk bs [.slice aq nq cq, .int .i64 p, .int .u64 (sdY Xq p)] 120]) w' [.ow kF A1 N1 C1 56 (dwSpL Xq vb27 (p + 1 + 1 + 1 + 1) k), .ow kF A2 N2 C2 56 (dwLsL Xq vb27 (p + 1 + 1 + 1 + 1) k), .blk bs [.slice aq nq cq, .int .i64 (dwP Xq vb27 (p + 1 + 1 + 1 + 1) k), .int .u64 (sdY Xq (dwP Xq vb27 (p + 1 + 1 + 1 + 1) k))] 120, .blk b13 [.int .i64 (3 + v6), .int .i64 (3 + v20), .bool vb11, .slice A1 N1 C1, .slice A2 N2 C2] 26, .blk b1 [.int .i64 0, .int .i64 0, .bool false, .slice none 0 0, .slice none 0 0] 26, .rd kY aq nq Xq] ∧ (0 ≤ k) ∧ (k ≤ (3 + v6) * (3 + v20))) (fun ρ' _ => ((3 + v6) * (3 + v20) - iv (ρ' 5)).toNat) ?_ ?_
  · have hN29 := New.nilO w25 kF 56
    replace B := B.new1 hN29
    clear hN29
    have hN30 := New.nilO w25 kF 56
    replace B := B.new1 hN30
    clear hN30
    replace B : Bu w (hasW [.blk bs [.slice aq nq cq, .int .i64 p, .int .u64 (sdY Xq p)] 120]) w25 [.ow kF (none) 0 0 56 ([] : List Nat), .ow kF none 0 0 56 ([] : List Nat), .blk bs [.slice aq nq cq, .int .i64 (dwP Xq vb27 (p + 1 + 1 + 1 + 1) 0), .int .u64 (sdY Xq (dwP Xq vb27 (p + 1 + 1 + 1 + 1) 0))] 120, .blk b13 [.int .i64 (3 + v6), .int .i64 (3 + v20), .bool vb11, .slice none 0 0, .slice none 0 0] 26, .blk b1 [.int .i64 0, .int .i64 0, .bool false, .slice none 0 0, .slice none 0 0] 26, .rd kY aq nq Xq] := B.blkEq 2 rfl (pos_cells dwP_zero.symm)
    replace B : Bu w (hasW [.blk bs [.slice aq nq cq, .int .i64 p, .int .u64 (sdY Xq p)] 120]) w25 [.ow kF (none) 0 0 56 ([] : List Nat), .ow kF none 0 0 56 (dwSpL Xq vb27 (p + 1 + 1 + 1 + 1) 0), .blk bs [.slice aq nq cq, .int .i64 (dwP Xq vb27 (p + 1 + 1 + 1 + 1) 0), .int .u64 (sdY Xq (dwP Xq vb27 (p + 1 + 1 + 1 + 1) 0))] 120, .blk b13 [.int .i64 (3 + v6), .int .i64 (3 + v20), .bool vb11, .slice none 0 0, .slice none 0 0] 26, .blk b1 [.int .i64 0, .int .i64 0, .bool false, .slice none 0 0, .slice none 0 0] 26, .rd kY aq nq Xq] := B.castX 1 rfl rfl rfl
    replace B : Bu w (hasW [.blk bs [.slice aq nq cq, .int .i64 p, .int .u64 (sdY Xq p)] 120]) w25 [.ow kF (none) 0 0 56 (dwLsL Xq vb27 (p + 1 + 1 + 1 + 1) 0), .ow kF none 0 0 56 (dwSpL Xq vb27 (p + 1 + 1 + 1 + 1) 0), .blk bs [.slice aq nq cq, .int .i64 (dwP Xq vb27 (p + 1 + 1 + 1 + 1) 0), .int .u64 (sdY Xq (dwP Xq vb27 (p + 1 + 1 + 1 + 1) 0))] 120, .blk b13 [.int .i64 (3 + v6), .int .i64 (3 + v20), .bool vb11, .slice none 0 0, .slice none 0 0] 26, .blk b1 [.int .i64 0, .int .i64 0, .bool false, .slice none 0 0, .slice none 0 0] 26, .rd kY aq nq Xq] := B.castX 0 rfl rfl rfl
    exact ⟨_, 0, none, 0, 0, none, 0, 0, Fits.eq ⟨rfl, rfl, rfl, rfl, rfl, trivial⟩, (B.pick [1, 0, 2, 3, 4, 5] rfl rfl), (Int.le_refl _), (by omega)⟩
  · clear B; rintro _ w31 ⟨ρ32, k, A1, N1, C1, A2, N2, C2, rfl, B, h0k, h1k⟩
    have hdp := dwP_b Xq vb27 (p + 1 + 1 + 1 + 1) h0k
    have hN1 := (B.o 0 rfl).len
    rw [dwSpL_len] at hN1
    have hN2 := (B.o 1 rfl).len
    rw [dwLsL_len] at hN2
    refine W_seq ?_
    refine W_seq ?_
    refine W_region (by kernel_rfl) ?_
    refine s_y (v := .int .i64 k) rfl (y_move rfl) ?_
    refine s_y (v := .pointer (some ⟨b13, 0, none⟩)) rfl (y_fld (o := 0) T62.fld_26_0_0 rfl) ?_
    refine s_y (v := .int .i64 (3 + v6)) rfl (y_load T62.one_2 rfl ((B.b 3 rfl).cell (j := 0) rfl)) ?_
    refine s_y (v := .pointer (some ⟨b13, 1, none⟩)) rfl (y_fld (o := 0) T62.fld_26_1_1 rfl) ?_
    refine s_y (v := .int .i64 (3 + v20)) rfl (y_load T62.one_2 rfl ((B.b 3 rfl).cell (j := 1) rfl)) ?_
    have hm33 := mulb (a := 3 + v6) (b := 3 + v20) (by omega) (by omega) (by omega) (by omega)
    refine s_y (v := .int .i64 ((3 + v6) * (3 + v20))) rfl (y_mul rfl rfl rfl (by omega)) ?_
    by_cases c34 : k < ((3 + v6) * (3 + v20))
    · refine s_y (v := .bool true) rfl (y_lss rfl rfl (decide_eq_true c34)) ?_
      refine s_nil ?_
      refine W_if_t (by decide) rfl ?_
      refine W_skip ?_
      refine W_seq ?_
      refine W_block ?_
      refine W_seq ?_
      refine W_region (by kernel_rfl) ?_
      refine s_y (v := .float .f32 1056964608) rfl (y_assign rfl) ?_
      refine s_nil ?_
      refine W_seq ?_
      refine W_region (by kernel_rfl) ?_
      refine s_y (v := .float .f32 0) rfl (y_assign rfl) ?_
      refine s_nil ?_
      refine W_seq ?_
      refine W_seq ?_
      refine W_region (by kernel_rfl) ?_
      refine s_y (v := .bool vb27) rfl (y_move rfl) ?_
      refine s_y (v := .bool (!vb27)) rfl (y_not rfl rfl) ?_
      refine s_nil ?_
      cases vb27
      · refine W_if_t (by decide) rfl ?_
        refine W_seq ?_
        refine W_region (by kernel_rfl) ?_
        refine s_y (v := .pointer (some ⟨bs, 0, none⟩)) rfl (y_move rfl) ?_
        refine s_k rfl (k_call T62.fn_104 (c_s_pick (by omega) (by omega) (by omega) (by omega) (B.all.pick [2, 5] rfl) (B.pw.pick [2, 5] rfl rfl)) rfl ?_)
        rintro _ w35 ⟨v37, rfl, hp38, hU36⟩
        replace B : Bu w (hasW [.blk bs [.slice aq nq cq, .int .i64 p, .int .u64 (sdY Xq p)] 120]) w35 [.blk bs [.slice aq nq cq, .int .i64 ((dwP Xq false (p + 1 + 1 + 1 + 1) k) + 1), .int .u64 (sdY Xq ((dwP Xq false (p + 1 + 1 + 1 + 1) k) + 1))] 120, .ow kF A1 N1 C1 56 (dwSpL Xq false (p + 1 + 1 + 1 + 1) k), .ow kF A2 N2 C2 56 (dwLsL Xq false (p + 1 + 1 + 1 + 1) k), .blk b13 [.int .i64 (3 + v6), .int .i64 (3 + v20), .bool vb11, .slice A1 N1 C1, .slice A2 N2 C2] 26, .blk b1 [.int .i64 0, .int .i64 0, .bool false, .slice none 0 0, .slice none 0 0] 26, .rd kY aq nq Xq] := B.upd [2] rfl hU36
        clear hU36
        have hb39 := pk_b Xq (n := 9) (dwP Xq false (p + 1 + 1 + 1 + 1) k) (by omega)
        rw [← hp38] at hb39
        refine s_y (v := .float .f32 (FloatKind.nearest .f32 v37)) rfl (y_if T62.und_2 T62.flt_56_f32 rfl) ?_
        refine s_n rfl (n_arith (by decide) rfl rfl) ?_
        rintro _ w43 e44 ⟨r41, rfl, hr42⟩
        replace B := B.ext0 e44
        clear e44
        have hc45 := fopC hr42 (can_nearest .f32 v37) (show can .f32 1098907648 = 1098907648 by kernel_rfl)
        refine s_y (v := .float .f32 r41) rfl (y_assign rfl) ?_
        refine s_nil ?_
        refine W_seq ?_
        refine W_region (by kernel_rfl) ?_
        refine s_y (v := .pointer (some ⟨bs, 0, none⟩)) rfl (y_move rfl) ?_
        refine s_k rfl (k_call T62.fn_105 (c_s_one (by omega) (by omega) (by omega) (by omega) (B.all.pick [0, 5] rfl) (B.pw.pick [0, 5] rfl rfl)) rfl ?_)
        rintro _ w46 ⟨vb48, rfl, hp49, hU47⟩
        replace B : Bu w (hasW [.blk bs [.slice aq nq cq, .int .i64 p, .int .u64 (sdY Xq p)] 120]) w46 [.blk bs [.slice aq nq cq, .int .i64 (((dwP Xq false (p + 1 + 1 + 1 + 1) k) + 1) + 1), .int .u64 (sdY Xq (((dwP Xq false (p + 1 + 1 + 1 + 1) k) + 1) + 1))] 120, .ow kF A1 N1 C1 56 (dwSpL Xq false (p + 1 + 1 + 1 + 1) k), .ow kF A2 N2 C2 56 (dwLsL Xq false (p + 1 + 1 + 1 + 1) k), .blk b13 [.int .i64 (3 + v6), .int .i64 (3 + v20), .bool vb11, .slice A1 N1 C1, .slice A2 N2 C2] 26, .blk b1 [.int .i64 0, .int .i64 0, .bool false, .slice none 0 0, .slice none 0 0] 26, .rd kY aq nq Xq] := B.upd [0] rfl hU47
        clear hU47
        refine s_nil ?_
        cases vb48
        · refine W_if_f (by decide) rfl ?_
          refine W_skip ?_
          refine W_seq ?_
          refine W_region (by kernel_rfl) ?_
          refine s_y (v := .pointer (some ⟨b13, 3, none⟩)) rfl (y_fld (o := 0) T62.fld_26_3_3 rfl) ?_
          refine s_y (v := .slice A1 N1 C1) rfl (y_load T62.one_24 rfl ((B.b 3 rfl).cell (j := 3) rfl)) ?_
          refine s_y (v := .float .f32 r41) rfl (y_move rfl) ?_
          refine s_k rfl (k_bsliceO (k := kF) (n := 1) (cells := #[.float .f32 r41]) (X := [fop .quo .f32 (FloatKind.nearest .f32 v37) 1098907648]) T62.slt_24 (by decide) (by first | rfl | kernel_rfl) (reps_cons (c := [.float .f32 r41]) ⟨_, rfl, hc45⟩ (rfl : Reps kF [] [])) rfl (fun b50 w51 hN52 => ?_))
          replace B := B.new1 hN52
          clear hN52
          refine s_k rfl (k_appO (k := kF) T62.slt_24 rfl rfl rfl (B.o 2 rfl) (B.o 0 rfl).rd (by omega) (by unfold maxLen; omega) (fun a53 c54 w55 hU56 => ?_))
          replace B : Bu w (hasW [.blk bs [.slice aq nq cq, .int .i64 p, .int .u64 (sdY Xq p)] 120]) w55 [.ow kF a53 (N1 + 1) c54 56 ((dwSpL Xq false (p + 1 + 1 + 1 + 1) k) ++ ([fop .quo .f32 (FloatKind.nearest .f32 v37) 1098907648])), .ow kF (some ⟨b50, 0, none⟩) 1 1 56 ([fop .quo .f32 (FloatKind.nearest .f32 v37) 1098907648]), .blk bs [.slice aq nq cq, .int .i64 (((dwP Xq false (p + 1 + 1 + 1 + 1) k) + 1) + 1), .int .u64 (sdY Xq (((dwP Xq false (p + 1 + 1 + 1 + 1) k) + 1) + 1))] 120, .ow kF A2 N2 C2 56 (dwLsL Xq false (p + 1 + 1 + 1 + 1) k), .blk b13 [.int .i64 (3 + v6), .int .i64 (3 + v20), .bool vb11, .slice A1 N1 C1, .slice A2 N2 C2] 26, .blk b1 [.int .i64 0, .int .i64 0, .bool false, .slice none 0 0, .slice none 0 0] 26, .rd kY aq nq Xq] := B.upd [2] rfl hU56
          clear hU56
          refine s_y (v := .pointer (some ⟨b13, 3, none⟩)) rfl (y_fld (o := 0) T62.fld_26_3_3 rfl) ?_
          refine s_k0 rfl (k_stB (v := .slice a53 (N1 + 1) c54) (n := 1) (cs' := [.int .i64 (3 + v6), .int .i64 (3 + v20), .bool vb11, .slice a53 (N1 + 1) c54, .slice A2 N2 C2]) T62.sz_24_1 rfl rfl rfl (B.b 4 rfl) (by simp [Value.cells, Value.oneCell']) (Nat.le_of_ble_eq_true rfl) rfl (fun w57 hU58 => ?_))
          replace B : Bu w (hasW [.blk bs [.slice aq nq cq, .int .i64 p, .int .u64 (sdY Xq p)] 120]) w57 [.blk b13 [.int .i64 (3 + v6), .int .i64 (3 + v20), .bool vb11, .slice a53 (N1 + 1) c54, .slice A2 N2 C2] 26, .ow kF a53 (N1 + 1) c54 56 ((dwSpL Xq false (p + 1 + 1 + 1 + 1) k) ++ ([fop .quo .f32 (FloatKind.nearest .f32 v37) 1098907648])), .ow kF (some ⟨b50, 0, none⟩) 1 1 56 ([fop .quo .f32 (FloatKind.nearest .f32 v37) 1098907648]), .blk bs [.slice aq nq cq, .int .i64 (((dwP Xq false (p + 1 + 1 + 1 + 1) k) + 1) + 1), .int .u64 (sdY Xq (((dwP Xq false (p + 1 + 1 + 1 + 1) k) + 1) + 1))] 120, .ow kF A2 N2 C2 56 (dwLsL Xq false (p + 1 + 1 + 1 + 1) k), .blk b1 [.int .i64 0, .int .i64 0, .bool false, .slice none 0 0, .slice none 0 0] 26, .rd kY aq nq Xq] := B.upd [4] rfl hU58
          clear hU58
          refine s_nil ?_
          refine W_region (by kernel_rfl) ?_
          refine s_y (v := .pointer (some ⟨b13, 4, none⟩)) rfl (y_fld (o := 0) T62.fld_26_4_4 rfl) ?_
          refine s_y (v := .slice A2 N2 C2) rfl (y_load T62.one_24 rfl ((B.b 0 rfl).cell (j := 4) rfl)) ?_
          refine s_y (v := .float .f32 0) rfl (y_move rfl) ?_
          refine s_k rfl (k_bsliceO (k := kF) (n := 1) (cells := #[.float .f32 0]) (X := [0]) T62.slt_24 (by decide) (by first | rfl | kernel_rfl) (reps_cons (c := [.float .f32 0]) ⟨_, rfl, (show can .f32 0 = 0 by kernel_rfl)⟩ (rfl : Reps kF [] [])) rfl (fun b59 w60 hN61 => ?_))
          replace B := B.new1 hN61
          clear hN61
          refine s_k rfl (k_appO (k := kF) T62.slt_24 rfl rfl rfl (B.o 5 rfl) (B.o 0 rfl).rd (by omega) (by unfold maxLen; omega) (fun a62 c63 w64 hU65 => ?_))
          replace B : Bu w (hasW [.blk bs [.slice aq nq cq, .int .i64 p, .int .u64 (sdY Xq p)] 120]) w64 [.ow kF a62 (N2 + 1) c63 56 ((dwLsL Xq false (p + 1 + 1 + 1 + 1) k) ++ ([0])), .ow kF (some ⟨b59, 0, none⟩) 1 1 56 ([0]), .blk b13 [.int .i64 (3 + v6), .int .i64 (3 + v20), .bool vb11, .slice a53 (N1 + 1) c54, .slice A2 N2 C2] 26, .ow kF a53 (N1 + 1) c54 56 ((dwSpL Xq false (p + 1 + 1 + 1 + 1) k) ++ ([fop .quo .f32 (FloatKind.nearest .f32 v37) 1098907648])), .ow kF (some ⟨b50, 0, none⟩) 1 1 56 ([fop .quo .f32 (FloatKind.nearest .f32 v37) 1098907648]), .blk bs [.slice aq nq cq, .int .i64 (((dwP Xq false (p + 1 + 1 + 1 + 1) k) + 1) + 1), .int .u64 (sdY Xq (((dwP Xq false (p + 1 + 1 + 1 + 1) k) + 1) + 1))] 120, .blk b1 [.int .i64 0, .int .i64 0, .bool false, .slice none 0 0, .slice none 0 0] 26, .rd kY aq nq Xq] := B.upd [5] rfl hU65
          clear hU65
          refine s_y (v := .pointer (some ⟨b13, 4, none⟩)) rfl (y_fld (o := 0) T62.fld_26_4_4 rfl) ?_
          refine s_k0 rfl (k_stB (v := .slice a62 (N2 + 1) c63) (n := 1) (cs' := [.int .i64 (3 + v6), .int .i64 (3 + v20), .bool vb11, .slice a53 (N1 + 1) c54, .slice a62 (N2 + 1) c63]) T62.sz_24_1 rfl rfl rfl (B.b 2 rfl) (by simp [Value.cells, Value.oneCell']) (Nat.le_of_ble_eq_true rfl) rfl (fun w66 hU67 => ?_))
          replace B : Bu w (hasW [.blk bs [.slice aq nq cq, .int .i64 p, .int .u64 (sdY Xq p)] 120]) w66 [.blk b13 [.int .i64 (3 + v6), .int .i64 (3 + v20), .bool vb11, .slice a53 (N1 + 1) c54, .slice a62 (N2 + 1) c63] 26, .ow kF a62 (N2 + 1) c63 56 ((dwLsL Xq false (p + 1 + 1 + 1 + 1) k) ++ ([0])), .ow kF (some ⟨b59, 0, none⟩) 1 1 56 ([0]), .ow kF a53 (N1 + 1) c54 56 ((dwSpL Xq false (p + 1 + 1 + 1 + 1) k) ++ ([fop .quo .f32 (FloatKind.nearest .f32 v37) 1098907648])), .ow kF (some ⟨b50, 0, none⟩) 1 1 56 ([fop .quo .f32 (FloatKind.nearest .f32 v37) 1098907648]), .blk bs [.slice aq nq cq, .int .i64 (((dwP Xq false (p + 1 + 1 + 1 + 1) k) + 1) + 1), .int .u64 (sdY Xq (((dwP Xq false (p + 1 + 1 + 1 + 1) k) + 1) + 1))] 120, .blk b1 [.int .i64 0, .int .i64 0, .bool false, .slice none 0 0, .slice none 0 0] 26, .rd kY aq nq Xq] := B.upd [2] rfl hU67
          clear hU67
          refine s_nil ?_
          refine W_region (by kernel_rfl) ?_
          refine s_y (v := .int .i64 k) rfl (y_move rfl) ?_
          refine s_y (v := .int .i64 (k + 1)) rfl (y_add rfl rfl rfl (by omega)) ?_
          refine s_y (v := .int .i64 (k + 1)) rfl (y_assign rfl) ?_
          refine s_nil ?_
          subst hp38
          replace B : Bu w (hasW [.blk bs [.slice aq nq cq, .int .i64 p, .int .u64 (sdY Xq p)] 120]) w66 [.blk b13 [.int .i64 (3 + v6), .int .i64 (3 + v20), .bool vb11, .slice a53 (N1 + 1) c54, .slice a62 (N2 + 1) c63] 26, .ow kF a62 (N2 + 1) c63 56 ((dwLsL Xq false (p + 1 + 1 + 1 + 1) k) ++ ([0])), .ow kF (some ⟨b59, 0, none⟩) 1 1 56 ([0]), .ow kF a53 (N1 + 1) c54 56 ((dwSpL Xq false (p + 1 + 1 + 1 + 1) k) ++ ([fop .quo .f32 (FloatKind.nearest .f32 (pk Xq 9 (dwP Xq false (p + 1 + 1 + 1 + 1) k))) 1098907648])), .ow kF (some ⟨b50, 0, none⟩) 1 1 56 ([fop .quo .f32 (FloatKind.nearest .f32 (pk Xq 9 (dwP Xq false (p + 1 + 1 + 1 + 1) k))) 1098907648]), .blk bs [.slice aq nq cq, .int .i64 (dwP Xq false (p + 1 + 1 + 1 + 1) (k + 1)), .int .u64 (sdY Xq (dwP Xq false (p + 1 + 1 + 1 + 1) (k + 1)))] 120, .blk b1 [.int .i64 0, .int .i64 0, .bool false, .slice none 0 0, .slice none 0 0] 26, .rd kY aq nq Xq] := B.blkEq 5 rfl (pos_cells ((dw_no (q := dwP Xq false (p + 1 + 1 + 1 + 1) k) hp49).2.trans (dwP_next h0k)))
          replace B : Bu w (hasW [.blk bs [.slice aq nq cq, .int .i64 p, .int .u64 (sdY Xq p)] 120]) w66 [.blk b13 [.int .i64 (3 + v6), .int .i64 (3 + v20), .bool vb11, .slice a53 (N1 + 1) c54, .slice a62 (N2 + 1) c63] 26, .ow kF a62 (N2 + 1) c63 56 ((dwLsL Xq false (p + 1 + 1 + 1 + 1) k) ++ ([0])), .ow kF (some ⟨b59, 0, none⟩) 1 1 56 ([0]), .ow kF a53 (N1 + 1) c54 56 (dwSpL Xq false (p + 1 + 1 + 1 + 1) (k + 1)), .ow kF (some ⟨b50, 0, none⟩) 1 1 56 ([fop .quo .f32 (FloatKind.nearest .f32 (pk Xq 9 (dwP Xq false (p + 1 + 1 + 1 + 1) k))) 1098907648]), .blk bs [.slice aq nq cq, .int .i64 (dwP Xq false (p + 1 + 1 + 1 + 1) (k + 1)), .int .u64 (sdY Xq (dwP Xq false (p + 1 + 1 + 1 + 1) (k + 1)))] 120, .blk b1 [.int .i64 0, .int .i64 0, .bool false, .slice none 0 0, .slice none 0 0] 26, .rd kY aq nq Xq] := B.castX 3 rfl rfl (dwSpL_next h0k rfl)
          replace B : Bu w (hasW [.blk bs [.slice aq nq cq, .int .i64 p, .int .u64 (sdY Xq p)] 120]) w66 [.blk b13 [.int .i64 (3 + v6), .int .i64 (3 + v20), .bool vb11, .slice a53 (N1 + 1) c54, .slice a62 (N2 + 1) c63] 26, .ow kF a62 (N2 + 1) c63 56 (dwLsL Xq false (p + 1 + 1 + 1 + 1) (k + 1)), .ow kF (some ⟨b59, 0, none⟩) 1 1 56 ([0]), .ow kF a53 (N1 + 1) c54 56 (dwSpL Xq false (p + 1 + 1 + 1 + 1) (k + 1)), .ow kF (some ⟨b50, 0, none⟩) 1 1 56 ([fop .quo .f32 (FloatKind.nearest .f32 (pk Xq 9 (dwP Xq false (p + 1 + 1 + 1 + 1) k))) 1098907648]), .blk bs [.slice aq nq cq, .int .i64 (dwP Xq false (p + 1 + 1 + 1 + 1) (k + 1)), .int .u64 (sdY Xq (dwP Xq false (p + 1 + 1 + 1 + 1) (k + 1)))] 120, .blk b1 [.int .i64 0, .int .i64 0, .bool false, .slice none 0 0, .slice none 0 0] 26, .rd kY aq nq Xq] := B.castX 1 rfl rfl (dwLsL_next h0k (dw_no (q := dwP Xq false (p + 1 + 1 + 1 + 1) k) hp49).1)
          refine ⟨⟨_, k + 1, a53, N1 + 1, c54, a62, N2 + 1, c63, Fits.eq ⟨rfl, rfl, rfl, rfl, rfl, trivial⟩, (B.pick [3, 1, 5, 0, 6, 7] rfl rfl), (by omega), (by omega)⟩, ?_⟩
          show ((3 + v6) * (3 + v20) - (k + 1)).toNat < ((3 + v6) * (3 + v20) - k).toNat
          omega
        · refine W_if_t (by decide) rfl ?_
          refine W_region (by kernel_rfl) ?_
          refine s_y (v := .pointer (some ⟨bs, 0, none⟩)) rfl (y_move rfl) ?_
          refine s_k rfl (k_call T62.fn_104 (c_s_pick (by omega) (by omega) (by omega) (by omega) (B.all.pick [0, 5] rfl) (B.pw.pick [0, 5] rfl rfl)) rfl ?_)
          rintro _ w68 ⟨v70, rfl, hp71, hU69⟩
          replace B : Bu w (hasW [.blk bs [.slice aq nq cq, .int .i64 p, .int .u64 (sdY Xq p)] 120]) w68 [.blk bs [.slice aq nq cq, .int .i64 ((((dwP Xq false (p + 1 + 1 + 1 + 1) k) + 1) + 1) + 1), .int .u64 (sdY Xq ((((dwP Xq false (p + 1 + 1 + 1 + 1) k) + 1) + 1) + 1))] 120, .ow kF A1 N1 C1 56 (dwSpL Xq false (p + 1 + 1 + 1 + 1) k), .ow kF A2 N2 C2 56 (dwLsL Xq false (p + 1 + 1 + 1 + 1) k), .blk b13 [.int .i64 (3 + v6), .int .i64 (3 + v20), .bool vb11, .slice A1 N1 C1, .slice A2 N2 C2] 26, .blk b1 [.int .i64 0, .int .i64 0, .bool false, .slice none 0 0, .slice none 0 0] 26, .rd kY aq nq Xq] := B.upd [0] rfl hU69
          clear hU69
          have hb72 := pk_b Xq (n := 9) (((dwP Xq false (p + 1 + 1 + 1 + 1) k) + 1) + 1) (by omega)
          rw [← hp71] at hb72
          refine s_y (v := .float .f32 (FloatKind.nearest .f32 v70)) rfl (y_if T62.und_2 T62.flt_56_f32 rfl) ?_
          refine s_n rfl (n_arith (by decide) rfl rfl) ?_
          rintro _ w76 e77 ⟨r74, rfl, hr75⟩
          replace B := B.ext0 e77
          clear e77
          have hc78 := fopC hr75 (can_nearest .f32 v70) (show can .f32 1090519040 = 1090519040 by kernel_rfl)
          refine s_y (v := .float .f32 r74) rfl (y_assign rfl) ?_
          refine s_nil ?_
          refine W_seq ?_
          refine W_region (by kernel_rfl) ?_
          refine s_y (v := .pointer (some ⟨b13, 3, none⟩)) rfl (y_fld (o := 0) T62.fld_26_3_3 rfl) ?_
          refine s_y (v := .slice A1 N1 C1) rfl (y_load T62.one_24 rfl ((B.b 3 rfl).cell (j := 3) rfl)) ?_
          refine s_y (v := .float .f32 r41) rfl (y_move rfl) ?_
          refine s_k rfl (k_bsliceO (k := kF) (n := 1) (cells := #[.float .f32 r41]) (X := [fop .quo .f32 (FloatKind.nearest .f32 v37) 1098907648]) T62.slt_24 (by decide) (by first | rfl | kernel_rfl) (reps_cons (c := [.float .f32 r41]) ⟨_, rfl, hc45⟩ (rfl : Reps kF [] [])) rfl (fun b79 w80 hN81 => ?_))
          replace B := B.new1 hN81
          clear hN81
          refine s_k rfl (k_appO (k := kF) T62.slt_24 rfl rfl rfl (B.o 2 rfl) (B.o 0 rfl).rd (by omega) (by unfold maxLen; omega) (fun a82 c83 w84 hU85 => ?_))
          replace B : Bu w (hasW [.blk bs [.slice aq nq cq, .int .i64 p, .int .u64 (sdY Xq p)] 120]) w84 [.ow kF a82 (N1 + 1) c83 56 ((dwSpL Xq false (p + 1 + 1 + 1 + 1) k) ++ ([fop .quo .f32 (FloatKind.nearest .f32 v37) 1098907648])), .ow kF (some ⟨b79, 0, none⟩) 1 1 56 ([fop .quo .f32 (FloatKind.nearest .f32 v37) 1098907648]), .blk bs [.slice aq nq cq, .int .i64 ((((dwP Xq false (p + 1 + 1 + 1 + 1) k) + 1) + 1) + 1), .int .u64 (sdY Xq ((((dwP Xq false (p + 1 + 1 + 1 + 1) k) + 1) + 1) + 1))] 120, .ow kF A2 N2 C2 56 (dwLsL Xq false (p + 1 + 1 + 1 + 1) k), .blk b13 [.int .i64 (3 + v6), .int .i64 (3 + v20), .bool vb11, .slice A1 N1 C1, .slice A2 N2 C2] 26, .blk b1 [.int .i64 0, .int .i64 0, .bool false, .slice none 0 0, .slice none 0 0] 26, .rd kY aq nq Xq] := B.upd [2] rfl hU85
          clear hU85
          refine s_y (v := .pointer (some ⟨b13, 3, none⟩)) rfl (y_fld (o := 0) T62.fld_26_3_3 rfl) ?_
          refine s_k0 rfl (k_stB (v := .slice a82 (N1 + 1) c83) (n := 1) (cs' := [.int .i64 (3 + v6), .int .i64 (3 + v20), .bool vb11, .slice a82 (N1 + 1) c83, .slice A2 N2 C2]) T62.sz_24_1 rfl rfl rfl (B.b 4 rfl) (by simp [Value.cells, Value.oneCell']) (Nat.le_of_ble_eq_true rfl) rfl (fun w86 hU87 => ?_))
          replace B : Bu w (hasW [.blk bs [.slice aq nq cq, .int .i64 p, .int .u64 (sdY Xq p)] 120]) w86 [.blk b13 [.int .i64 (3 + v6), .int .i64 (3 + v20), .bool vb11, .slice a82 (N1 + 1) c83, .slice A2 N2 C2] 26, .ow kF a82 (N1 + 1) c83 56 ((dwSpL Xq false (p + 1 + 1 + 1 + 1) k) ++ ([fop .quo .f32 (FloatKind.nearest .f32 v37) 1098907648])), .ow kF (some ⟨b79, 0, none⟩) 1 1 56 ([fop .quo .f32 (FloatKind.nearest .f32 v37) 1098907648]), .blk bs [.slice aq nq cq, .int .i64 ((((dwP Xq false (p + 1 + 1 + 1 + 1) k) + 1) + 1) + 1), .int .u64 (sdY Xq ((((dwP Xq false (p + 1 + 1 + 1 + 1) k) + 1) + 1) + 1))] 120, .ow kF A2 N2 C2 56 (dwLsL Xq false (p + 1 + 1 + 1 + 1) k), .blk b1 [.int .i64 0, .int .i64 0, .bool false, .slice none 0 0, .slice none 0 0] 26, .rd kY aq nq Xq] := B.upd [4] rfl hU87
          clear hU87
          refine s_nil ?_
          refine W_region (by kernel_rfl) ?_
          refine s_y (v := .pointer (some ⟨b13, 4, none⟩)) rfl (y_fld (o := 0) T62.fld_26_4_4 rfl) ?_
          refine s_y (v := .slice A2 N2 C2) rfl (y_load T62.one_24 rfl ((B.b 0 rfl).cell (j := 4) rfl)) ?_
          refine s_y (v := .float .f32 r74) rfl (y_move rfl) ?_
          refine s_k rfl (k_bsliceO (k := kF) (n := 1) (cells := #[.float .f32 r74]) (X := [fop .quo .f32 (FloatKind.nearest .f32 v70) 1090519040]) T62.slt_24 (by decide) (by first | rfl | kernel_rfl) (reps_cons (c := [.float .f32 r74]) ⟨_, rfl, hc78⟩ (rfl : Reps kF [] [])) rfl (fun b88 w89 hN90 => ?_))
          replace B := B.new1 hN90
          clear hN90
          refine s_k rfl (k_appO (k := kF) T62.slt_24 rfl rfl rfl (B.o 5 rfl) (B.o 0 rfl).rd (by omega) (by unfold maxLen; omega) (fun a91 c92 w93 hU94 => ?_))
          replace B : Bu w (hasW [.blk bs [.slice aq nq cq, .int .i64 p, .int .u64 (sdY Xq p)] 120]) w93 [.ow kF a91 (N2 + 1) c92 56 ((dwLsL Xq false (p + 1 + 1 + 1 + 1) k) ++ ([fop .quo .f32 (FloatKind.nearest .f32 v70) 1090519040])), .ow kF (some ⟨b88, 0, none⟩) 1 1 56 ([fop .quo .f32 (FloatKind.nearest .f32 v70) 1090519040]), .blk b13 [.int .i64 (3 + v6), .int .i64 (3 + v20), .bool vb11, .slice a82 (N1 + 1) c83, .slice A2 N2 C2] 26, .ow kF a82 (N1 + 1) c83 56 ((dwSpL Xq false (p + 1 + 1 + 1 + 1) k) ++ ([fop .quo .f32 (FloatKind.nearest .f32 v37) 1098907648])), .ow kF (some ⟨b79, 0, none⟩) 1 1 56 ([fop .quo .f32 (FloatKind.nearest .f32 v37) 1098907648]), .blk bs [.slice aq nq cq, .int .i64 ((((dwP Xq false (p + 1 + 1 + 1 + 1) k) + 1) + 1) + 1), .int .u64 (sdY Xq ((((dwP Xq false (p + 1 + 1 + 1 + 1) k) + 1) + 1) + 1))] 120, .blk b1 [.int .i64 0, .int .i64 0, .bool false, .slice none 0 0, .slice none 0 0] 26, .rd kY aq nq Xq] := B.upd [5] rfl hU94
          clear hU94
          refine s_y (v := .pointer (some ⟨b13, 4, none⟩)) rfl (y_fld (o := 0) T62.fld_26_4_4 rfl) ?_
          refine s_k0 rfl (k_stB (v := .slice a91 (N2 + 1) c92) (n := 1) (cs' := [.int .i64 (3 + v6), .int .i64 (3 + v20), .bool vb11, .slice a82 (N1 + 1) c83, .slice a91 (N2 + 1) c92]) T62.sz_24_1 rfl rfl rfl (B.b 2 rfl) (by simp [Value.cells, Value.oneCell']) (Nat.le_of_ble_eq_true rfl) rfl (fun w95 hU96 => ?_))
          replace B : Bu w (hasW [.blk bs [.slice aq nq cq, .int .i64 p, .int .u64 (sdY Xq p)] 120]) w95 [.blk b13 [.int .i64 (3 + v6), .int .i64 (3 + v20), .bool vb11, .slice a82 (N1 + 1) c83, .slice a91 (N2 + 1) c92] 26, .ow kF a91 (N2 + 1) c92 56 ((dwLsL Xq false (p + 1 + 1 + 1 + 1) k) ++ ([fop .quo .f32 (FloatKind.nearest .f32 v70) 1090519040])), .ow kF (some ⟨b88, 0, none⟩) 1 1 56 ([fop .quo .f32 (FloatKind.nearest .f32 v70) 1090519040]), .ow kF a82 (N1 + 1) c83 56 ((dwSpL Xq false (p + 1 + 1 + 1 + 1) k) ++ ([fop .quo .f32 (FloatKind.nearest .f32 v37) 1098907648])), .ow kF (some ⟨b79, 0, none⟩) 1 1 56 ([fop .quo .f32 (FloatKind.nearest .f32 v37) 1098907648]), .blk bs [.slice aq nq cq, .int .i64 ((((dwP Xq false (p + 1 + 1 + 1 + 1) k) + 1) + 1) + 1), .int .u64 (sdY Xq ((((dwP Xq false (p + 1 + 1 + 1 + 1) k) + 1) + 1) + 1))] 120, .blk b1 [.int .i64 0, .int .i64 0, .bool false, .slice none 0 0, .slice none 0 0] 26, .rd kY aq nq Xq] := B.upd [2] rfl hU96
          clear hU96
          refine s_nil ?_
          refine W_region (by kernel_rfl) ?_
          refine s_y (v := .int .i64 k) rfl (y_move rfl) ?_
          refine s_y (v := .int .i64 (k + 1)) rfl (y_add rfl rfl rfl (by omega)) ?_
          refine s_y (v := .int .i64 (k + 1)) rfl (y_assign rfl) ?_
          refine s_nil ?_
          subst hp38
          subst hp71
          replace B : Bu w (hasW [.blk bs [.slice aq nq cq, .int .i64 p, .int .u64 (sdY Xq p)] 120]) w95 [.blk b13 [.int .i64 (3 + v6), .int .i64 (3 + v20), .bool vb11, .slice a82 (N1 + 1) c83, .slice a91 (N2 + 1) c92] 26, .ow kF a91 (N2 + 1) c92 56 ((dwLsL Xq false (p + 1 + 1 + 1 + 1) k) ++ ([fop .quo .f32 (FloatKind.nearest .f32 (pk Xq 9 (((dwP Xq false (p + 1 + 1 + 1 + 1) k) + 1) + 1))) 1090519040])), .ow kF (some ⟨b88, 0, none⟩) 1 1 56 ([fop .quo .f32 (FloatKind.nearest .f32 (pk Xq 9 (((dwP Xq false (p + 1 + 1 + 1 + 1) k) + 1) + 1))) 1090519040]), .ow kF a82 (N1 + 1) c83 56 ((dwSpL Xq false (p + 1 + 1 + 1 + 1) k) ++ ([fop .quo .f32 (FloatKind.nearest .f32 (pk Xq 9 (dwP Xq false (p + 1 + 1 + 1 + 1) k))) 1098907648])), .ow kF (some ⟨b79, 0, none⟩) 1 1 56 ([fop .quo .f32 (FloatKind.nearest .f32 (pk Xq 9 (dwP Xq false (p + 1 + 1 + 1 + 1) k))) 1098907648]), .blk bs [.slice aq nq cq, .int .i64 (dwP Xq false (p + 1 + 1 + 1 + 1) (k + 1)), .int .u64 (sdY Xq (dwP Xq false (p + 1 + 1 + 1 + 1) (k + 1)))] 120, .blk b1 [.int .i64 0, .int .i64 0, .bool false, .slice none 0 0, .slice none 0 0] 26, .rd kY aq nq Xq] := B.blkEq 5 rfl (pos_cells ((dw_yes (q := dwP Xq false (p + 1 + 1 + 1 + 1) k) hp49).2.trans (dwP_next h0k)))
          replace B : Bu w (hasW [.blk bs [.slice aq nq cq, .int .i64 p, .int .u64 (sdY Xq p)] 120]) w95 [.blk b13 [.int .i64 (3 + v6), .int .i64 (3 + v20), .bool vb11, .slice a82 (N1 + 1) c83, .slice a91 (N2 + 1) c92] 26, .ow kF a91 (N2 + 1) c92 56 ((dwLsL Xq false (p + 1 + 1 + 1 + 1) k) ++ ([fop .quo .f32 (FloatKind.nearest .f32 (pk Xq 9 (((dwP Xq false (p + 1 + 1 + 1 + 1) k) + 1) + 1))) 1090519040])), .ow kF (some ⟨b88, 0, none⟩) 1 1 56 ([fop .quo .f32 (FloatKind.nearest .f32 (pk Xq 9 (((dwP Xq false (p + 1 + 1 + 1 + 1) k) + 1) + 1))) 1090519040]), .ow kF a82 (N1 + 1) c83 56 (dwSpL Xq false (p + 1 + 1 + 1 + 1) (k + 1)), .ow kF (some ⟨b79, 0, none⟩) 1 1 56 ([fop .quo .f32 (FloatKind.nearest .f32 (pk Xq 9 (dwP Xq false (p + 1 + 1 + 1 + 1) k))) 1098907648]), .blk bs [.slice aq nq cq, .int .i64 (dwP Xq false (p + 1 + 1 + 1 + 1) (k + 1)), .int .u64 (sdY Xq (dwP Xq false (p + 1 + 1 + 1 + 1) (k + 1)))] 120, .blk b1 [.int .i64 0, .int .i64 0, .bool false, .slice none 0 0, .slice none 0 0] 26, .rd kY aq nq Xq] := B.castX 3 rfl rfl (dwSpL_next h0k rfl)
          replace B : Bu w (hasW [.blk bs [.slice aq nq cq, .int .i64 p, .int .u64 (sdY Xq p)] 120]) w95 [.blk b13 [.int .i64 (3 + v6), .int .i64 (3 + v20), .bool vb11, .slice a82 (N1 + 1) c83, .slice a91 (N2 + 1) c92] 26, .ow kF a91 (N2 + 1) c92 56 (dwLsL Xq false (p + 1 + 1 + 1 + 1) (k + 1)), .ow kF (some ⟨b88, 0, none⟩) 1 1 56 ([fop .quo .f32 (FloatKind.nearest .f32 (pk Xq 9 (((dwP Xq false (p + 1 + 1 + 1 + 1) k) + 1) + 1))) 1090519040]), .ow kF a82 (N1 + 1) c83 56 (dwSpL Xq false (p + 1 + 1 + 1 + 1) (k + 1)), .ow kF (some ⟨b79, 0, none⟩) 1 1 56 ([fop .quo .f32 (FloatKind.nearest .f32 (pk Xq 9 (dwP Xq false (p + 1 + 1 + 1 + 1) k))) 1098907648]), .blk bs [.slice aq nq cq, .int .i64 (dwP Xq false (p + 1 + 1 + 1 + 1) (k + 1)), .int .u64 (sdY Xq (dwP Xq false (p + 1 + 1 + 1 + 1) (k + 1)))] 120, .blk b1 [.int .i64 0, .int .i64 0, .bool false, .slice none 0 0, .slice none 0 0] 26, .rd kY aq nq Xq] := B.castX 1 rfl rfl (dwLsL_next h0k (dw_yes (q := dwP Xq false (p + 1 + 1 + 1 + 1) k) hp49).1)
          refine ⟨⟨_, k + 1, a82, N1 + 1, c83, a91, N2 + 1, c92, Fits.eq ⟨rfl, rfl, rfl, rfl, rfl, trivial⟩, (B.pick [3, 1, 5, 0, 6, 7] rfl rfl), (by omega), (by omega)⟩, ?_⟩
          show ((3 + v6) * (3 + v20) - (k + 1)).toNat < ((3 + v6) * (3 + v20) - k).toNat
          omega
      · refine W_if_f (by decide) rfl ?_
        refine W_skip ?_
        refine W_seq ?_
        refine W_region (by kernel_rfl) ?_
        refine s_y (v := .pointer (some ⟨b13, 3, none⟩)) rfl (y_fld (o := 0) T62.fld_26_3_3 rfl) ?_
        refine s_y (v := .slice A1 N1 C1) rfl (y_load T62.one_24 rfl ((B.b 3 rfl).cell (j := 3) rfl)) ?_
        refine s_y (v := .float .f32 1056964608) rfl (y_move rfl) ?_
        refine s_k rfl (k_bsliceO (k := kF) (n := 1) (cells := #[.float .f32 1056964608]) (X := [1056964608]) T62.slt_24 (by decide) (by first | rfl | kernel_rfl) (reps_cons (c := [.float .f32 1056964608]) ⟨_, rfl, (show can .f32 1056964608 = 1056964608 by kernel_rfl)⟩ (rfl : Reps kF [] [])) rfl (fun b97 w98 hN99 => ?_))
        replace B := B.new1 hN99
        clear hN99
        refine s_k rfl (k_appO (k := kF) T62.slt_24 rfl rfl rfl (B.o 1 rfl) (B.o 0 rfl).rd (by omega) (by unfold maxLen; omega) (fun a100 c101 w102 hU103 => ?_))
        replace B : Bu w (hasW [.blk bs [.slice aq nq cq, .int .i64 p, .int .u64 (sdY Xq p)] 120]) w102 [.ow kF a100 (N1 + 1) c101 56 ((dwSpL Xq true (p + 1 + 1 + 1 + 1) k) ++ ([1056964608])), .ow kF (some ⟨b97, 0, none⟩) 1 1 56 ([1056964608]), .ow kF A2 N2 C2 56 (dwLsL Xq true (p + 1 + 1 + 1 + 1) k), .blk bs [.slice aq nq cq, .int .i64 (dwP Xq true (p + 1 + 1 + 1 + 1) k), .int .u64 (sdY Xq (dwP Xq true (p + 1 + 1 + 1 + 1) k))] 120, .blk b13 [.int .i64 (3 + v6), .int .i64 (3 + v20), .bool vb11, .slice A1 N1 C1, .slice A2 N2 C2] 26, .blk b1 [.int .i64 0, .int .i64 0, .bool false, .slice none 0 0, .slice none 0 0] 26, .rd kY aq nq Xq] := B.upd [1] rfl hU103
        clear hU103
        refine s_y (v := .pointer (some ⟨b13, 3, none⟩)) rfl (y_fld (o := 0) T62.fld_26_3_3 rfl) ?_
        refine s_k0 rfl (k_stB (v := .slice a100 (N1 + 1) c101) (n := 1) (cs' := [.int .i64 (3 + v6), .int .i64 (3 + v20), .bool vb11, .slice a100 (N1 + 1) c101, .slice A2 N2 C2]) T62.sz_24_1 rfl rfl rfl (B.b 4 rfl) (by simp [Value.cells, Value.oneCell']) (Nat.le_of_ble_eq_true rfl) rfl (fun w104 hU105 => ?_))
        replace B : Bu w (hasW [.blk bs [.slice aq nq cq, .int .i64 p, .int .u64 (sdY Xq p)] 120]) w104 [.blk b13 [.int .i64 (3 + v6), .int .i64 (3 + v20), .bool vb11, .slice a100 (N1 + 1) c101, .slice A2 N2 C2] 26, .ow kF a100 (N1 + 1) c101 56 ((dwSpL Xq true (p + 1 + 1 + 1 + 1) k) ++ ([1056964608])), .ow kF (some ⟨b97, 0, none⟩) 1 1 56 ([1056964608]), .ow kF A2 N2 C2 56 (dwLsL Xq true (p + 1 + 1 + 1 + 1) k), .blk bs [.slice aq nq cq, .int .i64 (dwP Xq true (p + 1 + 1 + 1 + 1) k), .int .u64 (sdY Xq (dwP Xq true (p + 1 + 1 + 1 + 1) k))] 120, .blk b1 [.int .i64 0, .int .i64 0, .bool false, .slice none 0 0, .slice none 0 0] 26, .rd kY aq nq Xq] := B.upd [4] rfl hU105
        clear hU105
        refine s_nil ?_
        refine W_region (by kernel_rfl) ?_
        refine s_y (v := .pointer (some ⟨b13, 4, none⟩)) rfl (y_fld (o := 0) T62.fld_26_4_4 rfl) ?_
        refine s_y (v := .slice A2 N2 C2) rfl (y_load T62.one_24 rfl ((B.b 0 rfl).cell (j := 4) rfl)) ?_
        refine s_y (v := .float .f32 0) rfl (y_move rfl) ?_
        refine s_k rfl (k_bsliceO (k := kF) (n := 1) (cells := #[.float .f32 0]) (X := [0]) T62.slt_24 (by decide) (by first | rfl | kernel_rfl) (reps_cons (c := [.float .f32 0]) ⟨_, rfl, (show can .f32 0 = 0 by kernel_rfl)⟩ (rfl : Reps kF [] [])) rfl (fun b106 w107 hN108 => ?_))
        replace B := B.new1 hN108
        clear hN108
        refine s_k rfl (k_appO (k := kF) T62.slt_24 rfl rfl rfl (B.o 4 rfl) (B.o 0 rfl).rd (by omega) (by unfold maxLen; omega) (fun a109 c110 w111 hU112 => ?_))
        replace B : Bu w (hasW [.blk bs [.slice aq nq cq, .int .i64 p, .int .u64 (sdY Xq p)] 120]) w111 [.ow kF a109 (N2 + 1) c110 56 ((dwLsL Xq true (p + 1 + 1 + 1 + 1) k) ++ ([0])), .ow kF (some ⟨b106, 0, none⟩) 1 1 56 ([0]), .blk b13 [.int .i64 (3 + v6), .int .i64 (3 + v20), .bool vb11, .slice a100 (N1 + 1) c101, .slice A2 N2 C2] 26, .ow kF a100 (N1 + 1) c101 56 ((dwSpL Xq true (p + 1 + 1 + 1 + 1) k) ++ ([1056964608])), .ow kF (some ⟨b97, 0, none⟩) 1 1 56 ([1056964608]), .blk bs [.slice aq nq cq, .int .i64 (dwP Xq true (p + 1 + 1 + 1 + 1) k), .int .u64 (sdY Xq (dwP Xq true (p + 1 + 1 + 1 + 1) k))] 120, .blk b1 [.int .i64 0, .int .i64 0, .bool false, .slice none 0 0, .slice none 0 0] 26, .rd kY aq nq Xq] := B.upd [4] rfl hU112
        clear hU112
        refine s_y (v := .pointer (some ⟨b13, 4, none⟩)) rfl (y_fld (o := 0) T62.fld_26_4_4 rfl) ?_
        refine s_k0 rfl (k_stB (v := .slice a109 (N2 + 1) c110) (n := 1) (cs' := [.int .i64 (3 + v6), .int .i64 (3 + v20), .bool vb11, .slice a100 (N1 + 1) c101, .slice a109 (N2 + 1) c110]) T62.sz_24_1 rfl rfl rfl (B.b 2 rfl) (by simp [Value.cells, Value.oneCell']) (Nat.le_of_ble_eq_true rfl) rfl (fun w113 hU114 => ?_))
        replace B : Bu w (hasW [.blk bs [.slice aq nq cq, .int .i64 p, .int .u64 (sdY Xq p)] 120]) w113 [.blk b13 [.int .i64 (3 + v6), .int .i64 (3 + v20), .bool vb11, .slice a100 (N1 + 1) c101, .slice a109 (N2 + 1) c110] 26, .ow kF a109 (N2 + 1) c110 56 ((dwLsL Xq true (p + 1 + 1 + 1 + 1) k) ++ ([0])), .ow kF (some ⟨b106, 0, none⟩) 1 1 56 ([0]), .ow kF a100 (N1 + 1) c101 56 ((dwSpL Xq true (p + 1 + 1 + 1 + 1) k) ++ ([1056964608])), .ow kF (some ⟨b97, 0, none⟩) 1 1 56 ([1056964608]), .blk bs [.slice aq nq cq, .int .i64 (dwP Xq true (p + 1 + 1 + 1 + 1) k), .int .u64 (sdY Xq (dwP Xq true (p + 1 + 1 + 1 + 1) k))] 120, .blk b1 [.int .i64 0, .int .i64 0, .bool false, .slice none 0 0, .slice none 0 0] 26, .rd kY aq nq Xq] := B.upd [2] rfl hU114
        clear hU114
        refine s_nil ?_
        refine W_region (by kernel_rfl) ?_
        refine s_y (v := .int .i64 k) rfl (y_move rfl) ?_
        refine s_y (v := .int .i64 (k + 1)) rfl (y_add rfl rfl rfl (by omega)) ?_
        refine s_y (v := .int .i64 (k + 1)) rfl (y_assign rfl) ?_
        refine s_nil ?_
        replace B : Bu w (hasW [.blk bs [.slice aq nq cq, .int .i64 p, .int .u64 (sdY Xq p)] 120]) w113 [.blk b13 [.int .i64 (3 + v6), .int .i64 (3 + v20), .bool vb11, .slice a100 (N1 + 1) c101, .slice a109 (N2 + 1) c110] 26, .ow kF a109 (N2 + 1) c110 56 ((dwLsL Xq true (p + 1 + 1 + 1 + 1) k) ++ ([0])), .ow kF (some ⟨b106, 0, none⟩) 1 1 56 ([0]), .ow kF a100 (N1 + 1) c101 56 ((dwSpL Xq true (p + 1 + 1 + 1 + 1) k) ++ ([1056964608])), .ow kF (some ⟨b97, 0, none⟩) 1 1 56 ([1056964608]), .blk bs [.slice aq nq cq, .int .i64 (dwP Xq true (p + 1 + 1 + 1 + 1) (k + 1)), .int .u64 (sdY Xq (dwP Xq true (p + 1 + 1 + 1 + 1) (k + 1)))] 120, .blk b1 [.int .i64 0, .int .i64 0, .bool false, .slice none 0 0, .slice none 0 0] 26, .rd kY aq nq Xq] := B.blkEq 5 rfl (pos_cells (dwP_next (plain := true) h0k))
        replace B : Bu w (hasW [.blk bs [.slice aq nq cq, .int .i64 p, .int .u64 (sdY Xq p)] 120]) w113 [.blk b13 [.int .i64 (3 + v6), .int .i64 (3 + v20), .bool vb11, .slice a100 (N1 + 1) c101, .slice a109 (N2 + 1) c110] 26, .ow kF a109 (N2 + 1) c110 56 ((dwLsL Xq true (p + 1 + 1 + 1 + 1) k) ++ ([0])), .ow kF (some ⟨b106, 0, none⟩) 1 1 56 ([0]), .ow kF a100 (N1 + 1) c101 56 (dwSpL Xq true (p + 1 + 1 + 1 + 1) (k + 1)), .ow kF (some ⟨b97, 0, none⟩) 1 1 56 ([1056964608]), .blk bs [.slice aq nq cq, .int .i64 (dwP Xq true (p + 1 + 1 + 1 + 1) (k + 1)), .int .u64 (sdY Xq (dwP Xq true (p + 1 + 1 + 1 + 1) (k + 1)))] 120, .blk b1 [.int .i64 0, .int .i64 0, .bool false, .slice none 0 0, .slice none 0 0] 26, .rd kY aq nq Xq] := B.castX 3 rfl rfl (dwSpL_next h0k rfl)
        replace B : Bu w (hasW [.blk bs [.slice aq nq cq, .int .i64 p, .int .u64 (sdY Xq p)] 120]) w113 [.blk b13 [.int .i64 (3 + v6), .int .i64 (3 + v20), .bool vb11, .slice a100 (N1 + 1) c101, .slice a109 (N2 + 1) c110] 26, .ow kF a109 (N2 + 1) c110 56 (dwLsL Xq true (p + 1 + 1 + 1 + 1) (k + 1)), .ow kF (some ⟨b106, 0, none⟩) 1 1 56 ([0]), .ow kF a100 (N1 + 1) c101 56 (dwSpL Xq true (p + 1 + 1 + 1 + 1) (k + 1)), .ow kF (some ⟨b97, 0, none⟩) 1 1 56 ([1056964608]), .blk bs [.slice aq nq cq, .int .i64 (dwP Xq true (p + 1 + 1 + 1 + 1) (k + 1)), .int .u64 (sdY Xq (dwP Xq true (p + 1 + 1 + 1 + 1) (k + 1)))] 120, .blk b1 [.int .i64 0, .int .i64 0, .bool false, .slice none 0 0, .slice none 0 0] 26, .rd kY aq nq Xq] := B.castX 1 rfl rfl (dwLsL_next h0k rfl)
        refine ⟨⟨_, k + 1, a100, N1 + 1, c101, a109, N2 + 1, c110, Fits.eq ⟨rfl, rfl, rfl, rfl, rfl, trivial⟩, (B.pick [3, 1, 5, 0, 6, 7] rfl rfl), (by omega), (by omega)⟩, ?_⟩
        show ((3 + v6) * (3 + v20) - (k + 1)).toNat < ((3 + v6) * (3 + v20) - k).toNat
        omega
    · refine s_y (v := .bool false) rfl (y_lss rfl rfl (decide_eq_false c34)) ?_
      refine s_nil ?_
      refine W_if_f (by decide) rfl ?_
      refine W_exit ?_
      refine W_seq ?_
      refine W_region (by kernel_rfl) ?_
      refine s_y (v := .agg #[.int .i64 (3 + v6), .int .i64 (3 + v20), .bool vb11, .slice A1 N1 C1, .slice A2 N2 C2]) rfl (y_loadn (b := b13) (o := 0) (vs := [.int .i64 (3 + v6), .int .i64 (3 + v20), .bool vb11, .slice A1 N1 C1, .slice A2 N2 C2]) T62.agg_26_5 rfl rfl ((B.b 3 rfl).cells (o := 0) rfl)) ?_
      refine s_k0 rfl (k_stB (v := .agg #[.int .i64 (3 + v6), .int .i64 (3 + v20), .bool vb11, .slice A1 N1 C1, .slice A2 N2 C2]) (n := 5) (cs' := [.int .i64 (3 + v6), .int .i64 (3 + v20), .bool vb11, .slice A1 N1 C1, .slice A2 N2 C2]) T62.sz_26_5 rfl rfl rfl (B.b 4 rfl) (by simp [Value.cells, Value.oneCell']) (Nat.le_of_ble_eq_true rfl) rfl (fun w115 hU116 => ?_))
      replace B : Bu w (hasW [.blk bs [.slice aq nq cq, .int .i64 p, .int .u64 (sdY Xq p)] 120]) w115 [.blk b1 [.int .i64 (3 + v6), .int .i64 (3 + v20), .bool vb11, .slice A1 N1 C1, .slice A2 N2 C2] 26, .ow kF A1 N1 C1 56 (dwSpL Xq vb27 (p + 1 + 1 + 1 + 1) k), .ow kF A2 N2 C2 56 (dwLsL Xq vb27 (p + 1 + 1 + 1 + 1) k), .blk bs [.slice aq nq cq, .int .i64 (dwP Xq vb27 (p + 1 + 1 + 1 + 1) k), .int .u64 (sdY Xq (dwP Xq vb27 (p + 1 + 1 + 1 + 1) k))] 120, .blk b13 [.int .i64 (3 + v6), .int .i64 (3 + v20), .bool vb11, .slice A1 N1 C1, .slice A2 N2 C2] 26, .rd kY aq nq Xq] := B.upd [4] rfl hU116
      clear hU116
      refine s_nil ?_
      refine W_ret ?_
      refine ret1 (v := .agg #[.int .i64 (3 + v6), .int .i64 (3 + v20), .bool vb11, .slice A1 N1 C1, .slice A2 N2 C2]) rfl rfl ⟨_, [.int .i64 (3 + v6), .int .i64 (3 + v20), .bool vb11, .slice A1 N1 C1, .slice A2 N2 C2], _, rfl, (B.b 0 rfl), T62.agg_26_5, rfl⟩ ⟨_, rfl, ?_⟩
      have hke : k = (3 + v6) * (3 + v20) := by omega
      subst hke
      have hdp := dwP_b Xq vb27 (p + 1 + 1 + 1 + 1) h0k
      exact ⟨_, _, _, _, _, _, _, _, _, _, _, rfl, hp12, (by omega), (by omega), (by omega), (by omega), (by omega), (by omega), B.wrote [3, 1, 2] rfl rfl rfl⟩
namespace T16
theorem mx : Try.prog.follows .mixedOrders = true := by kernel_rfl
theorem agg_26_5 : aggB Try.prog 26 5 = true := by kernel_rfl
theorem fn_61 : fnB Try.prog 61 = true := by kernel_rfl
theorem fn_62 : fnB Try.prog 62 = true := by kernel_rfl
theorem sz_26_5 : szB Try.prog 26 5 = true := by kernel_rfl
theorem zero_26 : zeroB Try.prog 26 (.agg #[.int .i64 0, .int .i64 0, .bool false, .slice none 0 0, .slice none 0 0]) := by unfold zeroB; kernel_rfl
end T16
set_option maxRecDepth 100000 in
set_option maxHeartbeats 4000000 in
theorem c_s_R8Sheet {aq : Option Addr} {nq : Nat} {cq : Nat} {Xq : List Nat} {w : World} (qq : Rd w kY aq nq Xq) :
    Calls Try.prog 16 #[.slice aq nq cq] w (Rt fun v w' => ∃ (wd : Int) (hi : Int) (vb : Bool) (a1 : Option Addr) (n1 : Nat) (c1 : Nat) (X1 : List Nat) (a2 : Option Addr) (n2 : Nat) (c2 : Nat) (X2 : List Nat), v = .agg #[.int .i64 wd, .int .i64 hi, .bool vb, .slice a1 n1 c1, .slice a2 n2 c2] ∧ wd ≤ 6 ∧ hi ≤ 6 ∧ validS wd hi X1 X2 = true ∧ New w w' [.ow kF a1 n1 c1 56 X1, .ow kF a2 n2 c2 56 X2]) := by
  have hlq := qq.len
  have B : Bu w no w [.rd kY aq nq Xq] := Bu.ro (All.cons qq All.nil) rfl
  refine calls_W (n := 8) Try.func16 rfl rfl (Nat.le_of_ble_eq_true rfl) ?_
  refine W_seq ?_
  refine W_region (by kernel_rfl) ?_
  refine s_k rfl (k_allocN (z := (.agg #[.int .i64 0, .int .i64 0, .bool false, .slice none 0 0, .slice none 0 0])) (cs := [.int .i64 0, .int .i64 0, .bool false, .slice none 0 0, .slice none 0 0]) T16.zero_26 rfl (fun b1 w2 hN3 => ?_))
  replace B := B.new1 hN3
  clear hN3
  refine s_nil ?_
  refine W_seq ?_
  refine W_region (by kernel_rfl) ?_
  refine s_y (v := .slice aq nq cq) rfl (y_move rfl) ?_
  refine s_k rfl (k_call T16.fn_61 (c_s_l00From (B.r 1 rfl)) rfl ?_)
  rintro _ w4 ⟨b6, rfl, hN5⟩
  replace B := B.new1 hN5
  clear hN5
  refine s_y (v := .pointer (some ⟨b6, 0, none⟩)) rfl (y_assign rfl) ?_
  refine s_nil ?_
  refine W_seq ?_
  refine W_region (by kernel_rfl) ?_
  refine s_y (v := .pointer (some ⟨b6, 0, none⟩)) rfl (y_move rfl) ?_
  refine s_k rfl (k_call T16.fn_62 (c_s_l02DrawOk (by omega) (by omega) (B.all.pick [0, 2] rfl) (B.pw.pick [0, 2] rfl rfl)) rfl ?_)
  rintro _ w7 ⟨v9, v10, vb11, vb12, v13, a14, c15, c16, a17, c18, c19, rfl, hp20, hp21, hp22, hp23, hp24, hp25, hp26, hU8⟩
  replace B : Bu w no w7 [.blk b6 [.slice aq nq cq, .int .i64 v13, .int .u64 (sdY Xq v13)] 120, .ow kF a14 c15 c16 56 (dwSpL Xq vb12 (0 + 1 + 1 + 1 + 1) (v9 * v10)), .ow kF a17 c18 c19 56 (dwLsL Xq vb12 (0 + 1 + 1 + 1 + 1) (v9 * v10)), .blk b1 [.int .i64 0, .int .i64 0, .bool false, .slice none 0 0, .slice none 0 0] 26, .rd kY aq nq Xq] := B.upd [0] rfl hU8
  clear hU8
  refine s_k0 rfl (k_stB (v := .agg #[.int .i64 v9, .int .i64 v10, .bool vb11, .slice a14 c15 c16, .slice a17 c18 c19]) (n := 5) (cs' := [.int .i64 v9, .int .i64 v10, .bool vb11, .slice a14 c15 c16, .slice a17 c18 c19]) T16.sz_26_5 rfl rfl rfl (B.b 3 rfl) (by simp [Value.cells, Value.oneCell']) (Nat.le_of_ble_eq_true rfl) rfl (fun w27 hU28 => ?_))
  replace B : Bu w no w27 [.blk b1 [.int .i64 v9, .int .i64 v10, .bool vb11, .slice a14 c15 c16, .slice a17 c18 c19] 26, .blk b6 [.slice aq nq cq, .int .i64 v13, .int .u64 (sdY Xq v13)] 120, .ow kF a14 c15 c16 56 (dwSpL Xq vb12 (0 + 1 + 1 + 1 + 1) (v9 * v10)), .ow kF a17 c18 c19 56 (dwLsL Xq vb12 (0 + 1 + 1 + 1 + 1) (v9 * v10)), .rd kY aq nq Xq] := B.upd [3] rfl hU28
  clear hU28
  refine s_nil ?_
  refine W_ret ?_
  refine ret1 (v := .agg #[.int .i64 v9, .int .i64 v10, .bool vb11, .slice a14 c15 c16, .slice a17 c18 c19]) rfl rfl ⟨_, [.int .i64 v9, .int .i64 v10, .bool vb11, .slice a14 c15 c16, .slice a17 c18 c19], _, rfl, (B.b 0 rfl), T16.agg_26_5, rfl⟩ ⟨_, rfl, ?_⟩
  exact ⟨_, _, _, _, _, _, _, _, _, _, _, rfl, (by omega), (by omega), (dw_valid (by omega) (by omega) (by omega) (by omega)), B.give [2, 3] rfl rfl rfl⟩
namespace T17
theorem mx : Try.prog.follows .mixedOrders = true := by kernel_rfl
theorem int_2_i64 : Try.prog.underlying 2 = some (.int .i64) := by kernel_rfl
theorem one_5 : oneB Try.prog 5 = true := by kernel_rfl
theorem sl_22_5_1 : slB Try.prog 22 5 1 = true := by kernel_rfl
theorem und_5 : (Try.prog.underlying 5).isSome = true := by kernel_rfl
end T17
set_option maxRecDepth 100000 in
set_option maxHeartbeats 4000000 in
theorem c_l_r8At {aq : Option Addr} {nq : Nat} {cq : Nat} {Xq : List Nat} {k : Int} {n : Int} {w : World} (qq : Rd w kY aq nq Xq) (k0 : 0 ≤ k) (n0 : 1 ≤ n) (gq : nq ≤ 9223372036854775807) :
    Calls Try.prog 17 #[.slice aq nq cq, .int .i64 k, .int .i64 n] w (Rt fun v w' => ∃ uv : Int, v = .int .i64 uv ∧ uv = r8A Xq k n ∧ Ext0 w w') := by
  have hlq := qq.len
  have B : Bu w no w [.rd kY aq nq Xq] := Bu.ro (All.cons qq All.nil) rfl
  refine calls_W (n := 22) Try.func17 rfl rfl (Nat.le_of_ble_eq_true rfl) ?_
  refine W_seq ?_
  refine W_region (by kernel_rfl) ?_
  refine s_y (v := .int .i64 0) rfl (y_assign rfl) ?_
  refine s_nil ?_
  refine W_seq ?_
  refine W_seq ?_
  refine W_region (by kernel_rfl) ?_
  refine s_y (v := .int .i64 n) rfl (y_move rfl) ?_
  by_cases c1 : n ≤ 1
  · refine s_y (v := .bool true) rfl (y_leq rfl rfl (decide_eq_true c1)) ?_
    refine s_y (v := .bool true) rfl (y_move rfl) ?_
    refine s_skip rfl ?_
    refine s_skip rfl ?_
    refine s_skip rfl ?_
    refine s_skip rfl ?_
    refine s_y (v := .bool true) rfl (y_pick_t rfl rfl) ?_
    refine s_nil ?_
    refine W_if_t (by decide) rfl ?_
    refine W_seq ?_
    refine W_region (by kernel_rfl) ?_
    refine s_y (v := .int .i64 0) rfl (y_assign rfl) ?_
    refine s_nil ?_
    refine W_ret ?_
    refine ret1 (v := .int .i64 0) rfl rfl rfl ⟨_, rfl, ?_⟩
    exact ⟨_, rfl, (r8A_zero hlq (by omega)).symm, B.ext⟩
  · refine s_y (v := .bool false) rfl (y_leq rfl rfl (decide_eq_false c1)) ?_
    refine s_y (v := .bool false) rfl (y_move rfl) ?_
    refine s_y (v := .int .i64 k) rfl (y_move rfl) ?_
    refine s_y (v := .slice aq nq cq) rfl (y_move rfl) ?_
    refine s_y (v := .int .i64 ((nq : Nat) : Int)) rfl (y_len T17.sl_22_5_1 rfl rfl) ?_
    by_cases c2 : ((nq : Nat) : Int) ≤ k
    · refine s_y (v := .bool true) rfl (y_geq rfl rfl (decide_eq_true c2)) ?_
      refine s_y (v := .bool true) rfl (y_pick_f rfl rfl) ?_
      refine s_nil ?_
      refine W_if_t (by decide) rfl ?_
      refine W_seq ?_
      refine W_region (by kernel_rfl) ?_
      refine s_y (v := .int .i64 0) rfl (y_assign rfl) ?_
      refine s_nil ?_
      refine W_ret ?_
      refine ret1 (v := .int .i64 0) rfl rfl rfl ⟨_, rfl, ?_⟩
      exact ⟨_, rfl, (r8A_zero hlq (by omega)).symm, B.ext⟩
    · refine s_y (v := .bool false) rfl (y_geq rfl rfl (decide_eq_false c2)) ?_
      refine s_y (v := .bool false) rfl (y_pick_f rfl rfl) ?_
      refine s_nil ?_
      refine W_if_f (by decide) rfl ?_
      refine W_skip ?_
      refine W_seq ?_
      refine W_region (by kernel_rfl) ?_
      refine s_y (v := .slice aq nq cq) rfl (y_move rfl) ?_
      refine s_y (v := .int .i64 k) rfl (y_move rfl) ?_
      refine s_y (v := .pointer (some (sat aq ((k).toNat * 1)))) rfl (y_idx T17.sl_22_5_1 rfl rfl ((B.r 0 rfl).addr (by omega)) (by omega) (by omega)) ?_
      obtain ⟨hb4, hR3⟩ := Rd.atY (B.r 0 rfl) k (by omega) (by omega)
      refine s_y (v := .int .u8 (byt Xq k)) rfl (y_load T17.one_5 rfl (hR3.cell (i := 0) rfl)) ?_
      refine s_y (v := .int .i64 (byt Xq k)) rfl (y_ii T17.und_5 T17.int_2_i64 rfl (IntWalk.i64_in _ (by omega))) ?_
      refine s_y (v := .int .i64 n) rfl (y_move rfl) ?_
      have hm5 := rem_b (x := byt Xq k) (m := n) (by omega) (by omega)
      refine s_y (v := .int .i64 ((byt Xq k) % n)) rfl (y_rem rfl rfl (by omega) (by omega) rfl) ?_
      refine s_y (v := .int .i64 ((byt Xq k) % n)) rfl (y_assign rfl) ?_
      refine s_nil ?_
      refine W_ret ?_
      refine ret1 (v := .int .i64 ((byt Xq k) % n)) rfl rfl rfl ⟨_, rfl, ?_⟩
      exact ⟨_, rfl, (r8A_at hlq (by omega) (by omega)).symm, B.ext⟩
namespace T63
theorem mx : Try.prog.follows .mixedOrders = true := by kernel_rfl
theorem agg_26_5 : aggB Try.prog 26 5 = true := by kernel_rfl
theorem fn_19 : fnB Try.prog 19 = true := by kernel_rfl
theorem fn_66 : fnB Try.prog 66 = true := by kernel_rfl
end T63
set_option maxRecDepth 100000 in
set_option maxHeartbeats 4000000 in
theorem c_i_isValidCell {wd : Int} {hi : Int} {wr : Bool} {asp : Option Addr} {nsp : Nat} {csp : Nat} {Xsp : List Nat} {als : Option Addr} {nls : Nat} {cls : Nat} {Xls : List Nat} {x : Int} {y : Int} {w : World} (qsp : Rd w kF asp nsp Xsp) (qls : Rd w kF als nls Xls) (hbsp : nsp ≤ 9223372036854775806) (hbls : nls ≤ 9223372036854775806) :
    Calls Try.prog 63 #[.agg #[.int .i64 wd, .int .i64 hi, .bool wr, .slice asp nsp csp, .slice als nls cls], .int .i64 x, .int .i64 y] w (Rt fun v w' => v = .bool (vcellB wd hi Xsp Xls x y) ∧ Ext0 w w') := by
  have hlsp := qsp.len
  have hlls := qls.len
  have B : Bu w no w [.rd kF asp nsp Xsp, .rd kF als nls Xls] := Bu.ro (All.cons qsp (All.cons qls All.nil)) rfl
  refine calls_W (n := 15) Try.func63 rfl rfl (Nat.le_of_ble_eq_true rfl) ?_
  refine W_seq ?_
  refine W_region (by kernel_rfl) ?_
  refine s_k rfl (k_boxN (v := .agg #[.int .i64 wd, .int .i64 hi, .bool wr, .slice asp nsp csp, .slice als nls cls]) (cs := [.int .i64 wd, .int .i64 hi, .bool wr, .slice asp nsp csp, .slice als nls cls]) rfl rfl (fun b1 w2 hN3 => ?_))
  replace B := B.new1 hN3
  clear hN3
  refine s_y (v := .bool false) rfl (y_assign rfl) ?_
  refine s_nil ?_
  refine W_seq ?_
  refine W_region (by kernel_rfl) ?_
  refine s_y (v := .agg #[.int .i64 wd, .int .i64 hi, .bool wr, .slice asp nsp csp, .slice als nls cls]) rfl (y_loadn (b := b1) (o := 0) (vs := [.int .i64 wd, .int .i64 hi, .bool wr, .slice asp nsp csp, .slice als nls cls]) T63.agg_26_5 rfl rfl ((B.b 0 rfl).cells (o := 0) rfl)) ?_
  refine s_k rfl (k_call T63.fn_19 (c_i_ValidSheet (B.r 1 rfl) (B.r 2 rfl) (by omega) (by omega)) rfl ?_)
  rintro v6 w4 ⟨hv7, e5⟩
  replace B := B.ext0 e5
  clear e5
  by_cases c8 : validS wd hi Xsp Xls = true
  · have hb9 := validS_b c8
    obtain rfl : v6 = .bool true := hv7.trans (congrArg Value.bool c8)
    refine s_y (v := .bool true) rfl (y_move rfl) ?_
    refine s_y (v := .agg #[.int .i64 wd, .int .i64 hi, .bool wr, .slice asp nsp csp, .slice als nls cls]) rfl (y_loadn (b := b1) (o := 0) (vs := [.int .i64 wd, .int .i64 hi, .bool wr, .slice asp nsp csp, .slice als nls cls]) T63.agg_26_5 rfl rfl ((B.b 0 rfl).cells (o := 0) rfl)) ?_
    refine s_y (v := .int .i64 x) rfl (y_move rfl) ?_
    refine s_y (v := .int .i64 y) rfl (y_move rfl) ?_
    refine s_k rfl (k_call T63.fn_66 (c_i_isCell (by omega) (by omega) (by omega) (by omega)) rfl ?_)
    rintro v12 w10 ⟨hv13, e11⟩
    replace B := B.ext0 e11
    clear e11
    by_cases c14 : cellB wd hi x y = true
    · have hb15 := cellB_b c14
      obtain rfl : v12 = .bool true := hv13.trans (congrArg Value.bool c14)
      refine s_y (v := .bool true) rfl (y_pick_t rfl rfl) ?_
      refine s_y (v := .bool true) rfl (y_assign rfl) ?_
      refine s_nil ?_
      refine W_ret ?_
      refine ret1 (v := .bool true) rfl rfl rfl ⟨_, rfl, ?_⟩
      exact ⟨congrArg Value.bool (by simp only [vcellB, c8, c14, Bool.and_true, Bool.true_and, Bool.and_false, Bool.false_and, Bool.not_true, Bool.not_false, Bool.or_true, Bool.true_or, Bool.or_false, Bool.false_or]), B.ext⟩
    · obtain rfl : v12 = .bool false := hv13.trans (congrArg Value.bool (Bool.eq_false_iff.2 c14))
      refine s_y (v := .bool false) rfl (y_pick_t rfl rfl) ?_
      refine s_y (v := .bool false) rfl (y_assign rfl) ?_
      refine s_nil ?_
      refine W_ret ?_
      refine ret1 (v := .bool false) rfl rfl rfl ⟨_, rfl, ?_⟩
      exact ⟨congrArg Value.bool (by simp only [vcellB, c8, (Bool.eq_false_iff.2 c14), Bool.and_true, Bool.true_and, Bool.and_false, Bool.false_and, Bool.not_true, Bool.not_false, Bool.or_true, Bool.true_or, Bool.or_false, Bool.false_or]), B.ext⟩
  · obtain rfl : v6 = .bool false := hv7.trans (congrArg Value.bool (Bool.eq_false_iff.2 c8))
    refine s_y (v := .bool false) rfl (y_move rfl) ?_
    refine s_skip rfl ?_
    refine s_skip rfl ?_
    refine s_skip rfl ?_
    refine s_skip rfl ?_
    refine s_y (v := .bool false) rfl (y_pick_f rfl rfl) ?_
    refine s_y (v := .bool false) rfl (y_assign rfl) ?_
    refine s_nil ?_
    refine W_ret ?_
    refine ret1 (v := .bool false) rfl rfl rfl ⟨_, rfl, ?_⟩
    exact ⟨congrArg Value.bool (by simp only [vcellB, (Bool.eq_false_iff.2 c8), Bool.and_true, Bool.true_and, Bool.and_false, Bool.false_and, Bool.not_true, Bool.not_false, Bool.or_true, Bool.true_or, Bool.or_false, Bool.false_or]), B.ext⟩
namespace T18
theorem mx : Try.prog.follows .mixedOrders = true := by kernel_rfl
theorem agg_26_5 : aggB Try.prog 26 5 = true := by kernel_rfl
theorem fld_26_0_0 : fldB Try.prog 26 0 0 = true := by kernel_rfl
theorem fld_26_1_1 : fldB Try.prog 26 1 1 = true := by kernel_rfl
theorem fn_63 : fnB Try.prog 63 = true := by kernel_rfl
theorem fn_64 : fnB Try.prog 64 = true := by kernel_rfl
theorem one_2 : oneB Try.prog 2 = true := by kernel_rfl
theorem sl_29_33_2 : slB Try.prog 29 33 2 = true := by kernel_rfl
theorem slt_29 : SlT Try.prog 29 33 2 16 (.agg #[.int .i64 0, .int .i64 0]) := ⟨by kernel_rfl, by kernel_rfl, rfl, by decide⟩
end T18
set_option maxRecDepth 100000 in
set_option maxHeartbeats 4000000 in
theorem c_i_RingAround {wd : Int} {hi : Int} {wr : Bool} {asp : Option Addr} {nsp : Nat} {csp : Nat} {Xsp : List Nat} {als : Option Addr} {nls : Nat} {cls : Nat} {Xls : List Nat} {x : Int} {y : Int} {far : Int} {w : World} (qsp : Rd w kF asp nsp Xsp) (qls : Rd w kF als nls Xls) (hbsp : nsp ≤ 9223372036854775806) (hbls : nls ≤ 9223372036854775806) :
    Calls Try.prog 18 #[.agg #[.int .i64 wd, .int .i64 hi, .bool wr, .slice asp nsp csp, .slice als nls cls], .int .i64 x, .int .i64 y, .int .i64 far] w (Rt fun v w' => (ringB wd hi Xsp Xls x y far = true ∧ ∃ (a1 : Option Addr) (c1 : Nat), v = .tuple #[.slice a1 (List.length (ringL wd hi x y far)) c1, .bool true] ∧ New w w' [.ow kP a1 (List.length (ringL wd hi x y far)) c1 33 (ringL wd hi x y far)]) ∨ (ringB wd hi Xsp Xls x y far = false ∧ v = .tuple #[.slice none 0 0, .bool false] ∧ Ext0 w w')) := by
  have hlsp := qsp.len
  have hlls := qls.len
  have B : Bu w no w [.rd kF asp nsp Xsp, .rd kF als nls Xls] := Bu.ro (All.cons qsp (All.cons qls All.nil)) rfl
  refine calls_W (n := 61) Try.func18 rfl rfl (Nat.le_of_ble_eq_true rfl) ?_
  refine W_seq ?_
  refine W_region (by kernel_rfl) ?_
  refine s_k rfl (k_boxN (v := .agg #[.int .i64 wd, .int .i64 hi, .bool wr, .slice asp nsp csp, .slice als nls cls]) (cs := [.int .i64 wd, .int .i64 hi, .bool wr, .slice asp nsp csp, .slice als nls cls]) rfl rfl (fun b1 w2 hN3 => ?_))
  replace B := B.new1 hN3
  clear hN3
  refine s_y (v := .slice none 0 0) rfl (y_assign rfl) ?_
  refine s_y (v := .bool false) rfl (y_assign rfl) ?_
  refine s_nil ?_
  refine W_seq ?_
  refine W_seq ?_
  refine W_region (by kernel_rfl) ?_
  refine s_y (v := .agg #[.int .i64 wd, .int .i64 hi, .bool wr, .slice asp nsp csp, .slice als nls cls]) rfl (y_loadn (b := b1) (o := 0) (vs := [.int .i64 wd, .int .i64 hi, .bool wr, .slice asp nsp csp, .slice als nls cls]) T18.agg_26_5 rfl rfl ((B.b 0 rfl).cells (o := 0) rfl)) ?_
  refine s_y (v := .int .i64 x) rfl (y_move rfl) ?_
  refine s_y (v := .int .i64 y) rfl (y_move rfl) ?_
  refine s_k rfl (k_call T18.fn_63 (c_i_isValidCell (B.r 1 rfl) (B.r 2 rfl) (by omega) (by omega)) rfl ?_)
  rintro v6 w4 ⟨hv7, e5⟩
  replace B := B.ext0 e5
  clear e5
  by_cases c8 : vcellB wd hi Xsp Xls x y = true
  · have hb9 := vcellB_b c8
    obtain rfl : v6 = .bool true := hv7.trans (congrArg Value.bool c8)
    refine s_y (v := .bool false) rfl (y_not rfl rfl) ?_
    refine s_y (v := .bool false) rfl (y_move rfl) ?_
    refine s_y (v := .int .i64 far) rfl (y_move rfl) ?_
    refine s_k rfl (k_call T18.fn_64 (c_i_within) rfl ?_)
    rintro v12 w10 ⟨hv13, e11⟩
    replace B := B.ext0 e11
    clear e11
    by_cases c14 : within far 1 16 = true
    · have hb15 := within_b c14
      obtain rfl : v12 = .bool true := hv13.trans (congrArg Value.bool c14)
      refine s_y (v := .bool false) rfl (y_not rfl rfl) ?_
      refine s_y (v := .bool false) rfl (y_pick_f rfl rfl) ?_
      refine s_nil ?_
      refine W_if_f (by decide) rfl ?_
      refine W_skip ?_
      refine W_seq ?_
      refine W_region (by kernel_rfl) ?_
      refine s_k rfl (k_bsliceO (k := kP) (n := 0) (cells := #[]) (X := []) T18.slt_29 (by decide) (by first | rfl | kernel_rfl) (rfl : Reps kP [] []) rfl (fun b16 w17 hN18 => ?_))
      replace B := B.new1 hN18
      clear hN18
      refine s_y (v := .slice (some ⟨b16, 0, none⟩) 0 0) rfl (y_assign rfl) ?_
      refine s_nil ?_
      refine W_seq ?_
      refine W_seq ?_
      refine W_region (by kernel_rfl) ?_
      refine s_y (v := .pointer (some ⟨b1, 1, none⟩)) rfl (y_fld (o := 0) T18.fld_26_1_1 rfl) ?_
      refine s_y (v := .int .i64 hi) rfl (y_load T18.one_2 rfl ((B.b 1 rfl).cell (j := 1) rfl)) ?_
      refine s_y (v := .int .i64 0) rfl (y_move rfl) ?_
      refine s_nil ?_
      refine W_block ?_
      refine W_loop (fun ρ' w' => ∃ (ρ1 : Env) (py : Int) (a0 : Option Addr) (cc0 : Nat) (nn0 : Nat), ρ' = updL ρ1 [(1, .int .i64 x), (2, .int .i64 y), (3, .int .i64 far), (4, .pointer (some ⟨b1, 0, none⟩)), (8, .slice none 0 0), (9, .bool false), (10, .slice a0 nn0 cc0), (25, .int .i64 hi), (26, .int .i64 py)] ∧ Bu w no w' [.ow kP a0 nn0 cc0 33 (boxN 0 0 wd.toNat (ringP x y far) (Int.toNat py)), .blk b1 [.int .i64 wd, .int .i64 hi, .bool wr, .slice asp nsp csp, .slice als nls cls] 26, .rd kF asp nsp Xsp, .rd kF als nls Xls] ∧ (0 ≤ py) ∧ (py ≤ hi)) (fun ρ' _ => (hi - iv (ρ' 26)).toNat) ?_ ?_
      · replace B : Bu w no w17 [.ow kP (some ⟨b16, 0, none⟩) 0 0 33 (boxN 0 0 wd.toNat (ringP x y far) (Int.toNat 0)), .blk b1 [.int .i64 wd, .int .i64 hi, .bool wr, .slice asp nsp csp, .slice als nls cls] 26, .rd kF asp nsp Xsp, .rd kF als nls Xls] := B.castX 0 rfl rfl rfl
        exact ⟨_, 0, (some ⟨b16, 0, none⟩), 0, 0, Fits.eq ⟨rfl, rfl, rfl, rfl, rfl, rfl, rfl, rfl, rfl, trivial⟩, B, (Int.le_refl _), (by omega)⟩
      · clear B; rintro _ w19 ⟨ρ20, py, a0, cc0, nn0, rfl, B, h0py, h1py⟩
        have hnn0 := (B.o 0 rfl).len
        have hsnn0 : (boxN 0 0 wd.toNat (ringP x y far) (Int.toNat py)).length ≤ 5000 := Nat.le_trans (boxN_len (by omega) _ (by omega)) (by omega)
        refine W_seq ?_
        refine W_region (by kernel_rfl) ?_
        by_cases c21 : py < hi
        · refine s_y (v := .bool true) rfl (y_lss rfl rfl (decide_eq_true c21)) ?_
          refine s_nil ?_
          refine W_seq ?_
          refine W_if_t (by decide) rfl ?_
          refine W_skip ?_
          refine W_seq ?_
          refine W_block ?_
          refine W_seq ?_
          refine W_region (by kernel_rfl) ?_
          refine s_y (v := .int .i64 py) rfl (y_move rfl) ?_
          refine s_y (v := .int .i64 py) rfl (y_assign rfl) ?_
          refine s_nil ?_
          refine W_seq ?_
          refine W_region (by kernel_rfl) ?_
          refine s_y (v := .pointer (some ⟨b1, 0, none⟩)) rfl (y_fld (o := 0) T18.fld_26_0_0 rfl) ?_
          refine s_y (v := .int .i64 wd) rfl (y_load T18.one_2 rfl ((B.b 1 rfl).cell (j := 0) rfl)) ?_
          refine s_y (v := .int .i64 0) rfl (y_move rfl) ?_
          refine s_nil ?_
          refine W_block ?_
          refine W_loop (fun ρ' w' => ∃ (ρ1 : Env) (px : Int) (a9 : Option Addr) (cc9 : Nat) (nn9 : Nat), ρ' = updL ρ1 [(1, .int .i64 x), (2, .int .i64 y), (3, .int .i64 far), (4, .pointer (some ⟨b1, 0, none⟩)), (8, .slice none 0 0), (9, .bool false), (10, .slice a9 nn9 cc9), (11, .int .i64 py), (25, .int .i64 hi), (26, .int .i64 py), (27, .bool true), (28, .int .i64 py), (29, .pointer (some ⟨b1, 0, none⟩)), (30, .int .i64 wd), (31, .int .i64 px)] ∧ Bu w no w' [.ow kP a9 nn9 cc9 33 (inL 0 0 wd.toNat (ringP x y far) (Int.toNat py) py px), .blk b1 [.int .i64 wd, .int .i64 hi, .bool wr, .slice asp nsp csp, .slice als nls cls] 26, .rd kF asp nsp Xsp, .rd kF als nls Xls] ∧ (0 ≤ px) ∧ (px ≤ wd)) (fun ρ' _ => (wd - iv (ρ' 31)).toNat) ?_ ?_
          · replace B : Bu w no w19 [.ow kP a0 nn0 cc0 33 (inL 0 0 wd.toNat (ringP x y far) (Int.toNat py) py 0), .blk b1 [.int .i64 wd, .int .i64 hi, .bool wr, .slice asp nsp csp, .slice als nls cls] 26, .rd kF asp nsp Xsp, .rd kF als nls Xls] := B.castX 0 rfl rfl inL_zero
            exact ⟨_, 0, a0, cc0, nn0, Fits.eq ⟨rfl, rfl, rfl, rfl, rfl, rfl, rfl, rfl, rfl, rfl, rfl, rfl, rfl, rfl, rfl, trivial⟩, B, (Int.le_refl _), (by omega)⟩
          · clear B; rintro _ w22 ⟨ρ23, px, a9, cc9, nn9, rfl, B, h0px, h1px⟩
            have hnn9 := (B.o 0 rfl).len
            have hsnn9 : (inL 0 0 wd.toNat (ringP x y far) (Int.toNat py) py px).length ≤ 5000 := inL_len (by omega) (by omega) (by omega)
            refine W_seq ?_
            refine W_region (by kernel_rfl) ?_
            by_cases c24 : px < wd
            · refine s_y (v := .bool true) rfl (y_lss rfl rfl (decide_eq_true c24)) ?_
              refine s_nil ?_
              refine W_seq ?_
              refine W_if_t (by decide) rfl ?_
              refine W_skip ?_
              refine W_seq ?_
              refine W_block ?_
              refine W_seq ?_
              refine W_region (by kernel_rfl) ?_
              refine s_y (v := .int .i64 px) rfl (y_move rfl) ?_
              refine s_y (v := .int .i64 px) rfl (y_assign rfl) ?_
              refine s_nil ?_
              refine W_seq ?_
              refine W_region (by kernel_rfl) ?_
              refine s_y (v := .int .i64 px) rfl (y_move rfl) ?_
              refine s_y (v := .int .i64 x) rfl (y_move rfl) ?_
              refine s_y (v := .int .i64 (px - x)) rfl (y_sub rfl rfl rfl (by omega)) ?_
              refine s_y (v := .int .i64 x) rfl (y_move rfl) ?_
              refine s_y (v := .int .i64 px) rfl (y_move rfl) ?_
              refine s_y (v := .int .i64 (x - px)) rfl (y_sub rfl rfl rfl (by omega)) ?_
              refine s_y (v := .int .i64 py) rfl (y_move rfl) ?_
              refine s_y (v := .int .i64 y) rfl (y_move rfl) ?_
              refine s_y (v := .int .i64 (py - y)) rfl (y_sub rfl rfl rfl (by omega)) ?_
              refine s_y (v := .int .i64 y) rfl (y_move rfl) ?_
              refine s_y (v := .int .i64 py) rfl (y_move rfl) ?_
              refine s_y (v := .int .i64 (y - py)) rfl (y_sub rfl rfl rfl (by omega)) ?_
              refine s_y (v := .int .i64 (max (max (max (px - x) (x - px)) (py - y)) (y - py))) rfl (y_max4 rfl rfl rfl rfl rfl) ?_
              refine s_y (v := .int .i64 far) rfl (y_move rfl) ?_
              by_cases c25 : (max (max (max (px - x) (x - px)) (py - y)) (y - py)) = far
              · refine s_y (v := .bool true) rfl (y_eql rfl rfl (decide_eq_true c25)) ?_
                refine s_nil ?_
                refine W_if_t (by decide) rfl ?_
                refine W_region (by kernel_rfl) ?_
                refine s_y (v := .slice a9 nn9 cc9) rfl (y_move rfl) ?_
                refine s_y (v := .int .i64 px) rfl (y_move rfl) ?_
                refine s_y (v := .int .i64 py) rfl (y_move rfl) ?_
                refine s_y (v := .agg #[.int .i64 px, .int .i64 py]) rfl (y_build (cells := #[.int .i64 px, .int .i64 py]) (by kernel_rfl)) ?_
                refine s_k rfl (k_bsliceO (k := kP) (n := 1) (cells := #[.int .i64 px, .int .i64 py]) (X := [(px, py)]) T18.slt_29 (by decide) (by first | rfl | kernel_rfl) (reps_cons (c := [.int .i64 px, .int .i64 py]) rfl (rfl : Reps kP [] [])) rfl (fun b26 w27 hN28 => ?_))
                replace B := B.new1 hN28
                clear hN28
                refine s_k rfl (k_appO (k := kP) T18.slt_29 rfl rfl rfl (B.o 1 rfl) (B.o 0 rfl).rd (by omega) (by unfold maxLen; omega) (fun a29 c30 w31 hU32 => ?_))
                replace B : Bu w no w31 [.ow kP a29 (nn9 + 1) c30 33 ((inL 0 0 wd.toNat (ringP x y far) (Int.toNat py) py px) ++ ([(px, py)])), .ow kP (some ⟨b26, 0, none⟩) 1 1 33 ([(px, py)]), .blk b1 [.int .i64 wd, .int .i64 hi, .bool wr, .slice asp nsp csp, .slice als nls cls] 26, .rd kF asp nsp Xsp, .rd kF als nls Xls] := B.upd [1] rfl hU32
                clear hU32
                refine s_y (v := .slice a29 (nn9 + 1) c30) rfl (y_assign rfl) ?_
                refine s_nil ?_
                refine W_region (by kernel_rfl) ?_
                refine s_y (v := .int .i64 (px + 1)) rfl (y_add rfl rfl rfl (by omega)) ?_
                refine s_y (v := .int .i64 (px + 1)) rfl (y_move rfl) ?_
                refine s_nil ?_
                replace B : Bu w no w31 [.ow kP a29 (nn9 + 1) c30 33 (inL 0 0 wd.toNat (ringP x y far) (Int.toNat py) py (px + 1)), .ow kP (some ⟨b26, 0, none⟩) 1 1 33 ([(px, py)]), .blk b1 [.int .i64 wd, .int .i64 hi, .bool wr, .slice asp nsp csp, .slice als nls cls] 26, .rd kF asp nsp Xsp, .rd kF als nls Xls] := B.castX 0 rfl rfl (inL_yes (by omega) (by omega) (decide_eq_true c25))
                refine ⟨⟨_, px + 1, a29, c30, nn9 + 1, Fits.eq ⟨rfl, rfl, rfl, rfl, rfl, rfl, rfl, rfl, rfl, rfl, rfl, rfl, rfl, rfl, rfl, trivial⟩, (B.pick [0, 2, 3, 4] rfl rfl), (by omega), (by omega)⟩, ?_⟩
                show (wd - (px + 1)).toNat < (wd - (px)).toNat
                omega
              · refine s_y (v := .bool false) rfl (y_eql rfl rfl (decide_eq_false c25)) ?_
                refine s_nil ?_
                refine W_if_f (by decide) rfl ?_
                refine W_skip ?_
                refine W_region (by kernel_rfl) ?_
                refine s_y (v := .int .i64 (px + 1)) rfl (y_add rfl rfl rfl (by omega)) ?_
                refine s_y (v := .int .i64 (px + 1)) rfl (y_move rfl) ?_
                refine s_nil ?_
                replace B : Bu w no w22 [.ow kP a9 nn9 cc9 33 (inL 0 0 wd.toNat (ringP x y far) (Int.toNat py) py (px + 1)), .blk b1 [.int .i64 wd, .int .i64 hi, .bool wr, .slice asp nsp csp, .slice als nls cls] 26, .rd kF asp nsp Xsp, .rd kF als nls Xls] := B.castX 0 rfl rfl (inL_no (by omega) (by omega) (decide_eq_false c25))
                refine ⟨⟨_, px + 1, a9, cc9, nn9, Fits.eq ⟨rfl, rfl, rfl, rfl, rfl, rfl, rfl, rfl, rfl, rfl, rfl, rfl, rfl, rfl, rfl, trivial⟩, B, (by omega), (by omega)⟩, ?_⟩
                show (wd - (px + 1)).toNat < (wd - (px)).toNat
                omega
            · refine s_y (v := .bool false) rfl (y_lss rfl rfl (decide_eq_false c24)) ?_
              refine s_nil ?_
              refine W_seq ?_
              refine W_if_f (by decide) rfl ?_
              refine W_exit ?_
              refine W_region (by kernel_rfl) ?_
              refine s_y (v := .int .i64 (py + 1)) rfl (y_add rfl rfl rfl (by omega)) ?_
              refine s_y (v := .int .i64 (py + 1)) rfl (y_move rfl) ?_
              refine s_nil ?_
              replace B : Bu w no w22 [.ow kP a9 nn9 cc9 33 (boxN 0 0 wd.toNat (ringP x y far) (Int.toNat (py + 1))), .blk b1 [.int .i64 wd, .int .i64 hi, .bool wr, .slice asp nsp csp, .slice als nls cls] 26, .rd kF asp nsp Xsp, .rd kF als nls Xls] := B.castX 0 rfl rfl (inL_row (by omega) (by omega) (by omega))
              refine ⟨⟨_, py + 1, a9, cc9, nn9, Fits.eq ⟨rfl, rfl, rfl, rfl, rfl, rfl, rfl, rfl, rfl, trivial⟩, B, (by omega), (by omega)⟩, ?_⟩
              show (hi - (py + 1)).toNat < (hi - (py)).toNat
              omega
        · refine s_y (v := .bool false) rfl (y_lss rfl rfl (decide_eq_false c21)) ?_
          refine s_nil ?_
          refine W_seq ?_
          refine W_if_f (by decide) rfl ?_
          refine W_exit ?_
          refine W_seq ?_
          refine W_seq ?_
          refine W_region (by kernel_rfl) ?_
          refine s_y (v := .slice a0 nn0 cc0) rfl (y_move rfl) ?_
          refine s_y (v := .int .i64 ((nn0 : Nat) : Int)) rfl (y_len T18.sl_29_33_2 rfl rfl) ?_
          by_cases c33 : 8 < ((nn0 : Nat) : Int)
          · refine s_y (v := .bool true) rfl (y_gtr rfl rfl (decide_eq_true c33)) ?_
            refine s_nil ?_
            refine W_if_t (by decide) rfl ?_
            refine W_seq ?_
            refine W_region (by kernel_rfl) ?_
            refine s_y (v := .slice none 0 0) rfl (y_assign rfl) ?_
            refine s_y (v := .bool false) rfl (y_assign rfl) ?_
            refine s_nil ?_
            refine W_ret ?_
            refine ret2 (v1 := .slice none 0 0) (v2 := .bool false) rfl rfl rfl rfl rfl ⟨_, rfl, ?_⟩
            obtain rfl : hi = py := by omega
            have hlen : (ringL wd hi x y far).length = nn0 := hnn0
            have hlq : decide ((ringL wd hi x y far).length ≤ 8) = false := decide_eq_false (by omega)
            exact .inr ⟨by simp only [ringB, hlq, c8, c14, (decide_eq_false c21), (decide_eq_true c33), Bool.and_true, Bool.true_and, Bool.and_false, Bool.false_and, Bool.not_true, Bool.not_false, Bool.or_true, Bool.true_or, Bool.or_false, Bool.false_or], rfl, B.ext⟩
          · refine s_y (v := .bool false) rfl (y_gtr rfl rfl (decide_eq_false c33)) ?_
            refine s_nil ?_
            refine W_if_f (by decide) rfl ?_
            refine W_skip ?_
            refine W_seq ?_
            refine W_region (by kernel_rfl) ?_
            refine s_y (v := .slice a0 nn0 cc0) rfl (y_move rfl) ?_
            refine s_y (v := .slice a0 nn0 cc0) rfl (y_assign rfl) ?_
            refine s_y (v := .bool true) rfl (y_assign rfl) ?_
            refine s_nil ?_
            refine W_ret ?_
            refine ret2 (v1 := .slice a0 nn0 cc0) (v2 := .bool true) rfl rfl rfl rfl rfl ⟨_, rfl, ?_⟩
            obtain rfl : hi = py := by omega
            have hlen : (ringL wd hi x y far).length = nn0 := hnn0
            have hlq : decide ((ringL wd hi x y far).length ≤ 8) = true := decide_eq_true (by omega)
            have hcond : ringB wd hi Xsp Xls x y far = true := by simp only [ringB, hlq, c8, c14, (decide_eq_false c21), (decide_eq_false c33), Bool.and_true, Bool.true_and, Bool.and_false, Bool.false_and, Bool.not_true, Bool.not_false, Bool.or_true, Bool.true_or, Bool.or_false, Bool.false_or]
            replace B : Bu w no w19 [.ow kP a0 (List.length (ringL wd hi x y far)) cc0 33 (ringL wd hi x y far), .blk b1 [.int .i64 wd, .int .i64 hi, .bool wr, .slice asp nsp csp, .slice als nls cls] 26, .rd kF asp nsp Xsp, .rd kF als nls Xls] := B.castX 0 rfl hnn0.symm rfl
            exact .inl ⟨hcond, ⟨_, _, (by rw [(show nn0 = List.length (ringL wd hi x y far) from hnn0.symm)]), B.give [0] rfl rfl rfl⟩⟩
    · obtain rfl : v12 = .bool false := hv13.trans (congrArg Value.bool (Bool.eq_false_iff.2 c14))
      refine s_y (v := .bool true) rfl (y_not rfl rfl) ?_
      refine s_y (v := .bool true) rfl (y_pick_f rfl rfl) ?_
      refine s_nil ?_
      refine W_if_t (by decide) rfl ?_
      refine W_seq ?_
      refine W_region (by kernel_rfl) ?_
      refine s_y (v := .slice none 0 0) rfl (y_assign rfl) ?_
      refine s_y (v := .bool false) rfl (y_assign rfl) ?_
      refine s_nil ?_
      refine W_ret ?_
      refine ret2 (v1 := .slice none 0 0) (v2 := .bool false) rfl rfl rfl rfl rfl ⟨_, rfl, ?_⟩
      exact .inr ⟨by simp only [ringB, c8, (Bool.eq_false_iff.2 c14), Bool.and_true, Bool.true_and, Bool.and_false, Bool.false_and, Bool.not_true, Bool.not_false, Bool.or_true, Bool.true_or, Bool.or_false, Bool.false_or], rfl, B.ext⟩
  · obtain rfl : v6 = .bool false := hv7.trans (congrArg Value.bool (Bool.eq_false_iff.2 c8))
    refine s_y (v := .bool true) rfl (y_not rfl rfl) ?_
    refine s_y (v := .bool true) rfl (y_move rfl) ?_
    refine s_skip rfl ?_
    refine s_skip rfl ?_
    refine s_skip rfl ?_
    refine s_y (v := .bool true) rfl (y_pick_t rfl rfl) ?_
    refine s_nil ?_
    refine W_if_t (by decide) rfl ?_
    refine W_seq ?_
    refine W_region (by kernel_rfl) ?_
    refine s_y (v := .slice none 0 0) rfl (y_assign rfl) ?_
    refine s_y (v := .bool false) rfl (y_assign rfl) ?_
    refine s_nil ?_
    refine W_ret ?_
    refine ret2 (v1 := .slice none 0 0) (v2 := .bool false) rfl rfl rfl rfl rfl ⟨_, rfl, ?_⟩
    exact .inr ⟨by simp only [ringB, (Bool.eq_false_iff.2 c8), Bool.and_true, Bool.true_and, Bool.and_false, Bool.false_and, Bool.not_true, Bool.not_false, Bool.or_true, Bool.true_or, Bool.or_false, Bool.false_or], rfl, B.ext⟩
namespace T20
theorem mx : Try.prog.follows .mixedOrders = true := by kernel_rfl
theorem agg_26_5 : aggB Try.prog 26 5 = true := by kernel_rfl
theorem agg_33_2 : aggB Try.prog 33 2 = true := by kernel_rfl
theorem fld_33_0_0 : fldB Try.prog 33 0 0 = true := by kernel_rfl
theorem fld_33_1_1 : fldB Try.prog 33 1 1 = true := by kernel_rfl
theorem fn_19 : fnB Try.prog 19 = true := by kernel_rfl
theorem fn_66 : fnB Try.prog 66 = true := by kernel_rfl
theorem one_2 : oneB Try.prog 2 = true := by kernel_rfl
theorem sl_29_33_2 : slB Try.prog 29 33 2 = true := by kernel_rfl
theorem sz_33_2 : szB Try.prog 33 2 = true := by kernel_rfl
theorem zero_33 : zeroB Try.prog 33 (.agg #[.int .i64 0, .int .i64 0]) := by unfold zeroB; kernel_rfl
end T20
set_option maxRecDepth 100000 in
set_option maxHeartbeats 4000000 in
theorem c_i_AreProbes {wd : Int} {hi : Int} {wr : Bool} {asp : Option Addr} {nsp : Nat} {csp : Nat} {Xsp : List Nat} {als : Option Addr} {nls : Nat} {cls : Nat} {Xls : List Nat} {ap : Option Addr} {np : Nat} {cp : Nat} {Xp : List (Int × Int)} {w : World} (qsp : Rd w kF asp nsp Xsp) (qls : Rd w kF als nls Xls) (qp : Rd w kP ap np Xp) (hbsp : nsp ≤ 9223372036854775806) (hbls : nls ≤ 9223372036854775806) :
    Calls Try.prog 20 #[.agg #[.int .i64 wd, .int .i64 hi, .bool wr, .slice asp nsp csp, .slice als nls cls], .slice ap np cp] w (Rt fun v w' => v = .bool (areProbesB wd hi Xsp Xls Xp) ∧ Ext0 w w') := by
  have hlsp := qsp.len
  have hlls := qls.len
  have hlp := qp.len
  have B : Bu w no w [.rd kF asp nsp Xsp, .rd kF als nls Xls, .rd kP ap np Xp] := Bu.ro (All.cons qsp (All.cons qls (All.cons qp All.nil))) rfl
  refine calls_W (n := 29) Try.func20 rfl rfl (Nat.le_of_ble_eq_true rfl) ?_
  refine W_seq ?_
  refine W_region (by kernel_rfl) ?_
  refine s_k rfl (k_boxN (v := .agg #[.int .i64 wd, .int .i64 hi, .bool wr, .slice asp nsp csp, .slice als nls cls]) (cs := [.int .i64 wd, .int .i64 hi, .bool wr, .slice asp nsp csp, .slice als nls cls]) rfl rfl (fun b1 w2 hN3 => ?_))
  replace B := B.new1 hN3
  clear hN3
  refine s_y (v := .bool false) rfl (y_assign rfl) ?_
  refine s_nil ?_
  refine W_seq ?_
  refine W_seq ?_
  refine W_region (by kernel_rfl) ?_
  refine s_y (v := .agg #[.int .i64 wd, .int .i64 hi, .bool wr, .slice asp nsp csp, .slice als nls cls]) rfl (y_loadn (b := b1) (o := 0) (vs := [.int .i64 wd, .int .i64 hi, .bool wr, .slice asp nsp csp, .slice als nls cls]) T20.agg_26_5 rfl rfl ((B.b 0 rfl).cells (o := 0) rfl)) ?_
  refine s_k rfl (k_call T20.fn_19 (c_i_ValidSheet (B.r 1 rfl) (B.r 2 rfl) (by omega) (by omega)) rfl ?_)
  rintro v6 w4 ⟨hv7, e5⟩
  replace B := B.ext0 e5
  clear e5
  by_cases c8 : validS wd hi Xsp Xls = true
  · have hb9 := validS_b c8
    obtain rfl : v6 = .bool true := hv7.trans (congrArg Value.bool c8)
    refine s_y (v := .bool false) rfl (y_not rfl rfl) ?_
    refine s_y (v := .bool false) rfl (y_move rfl) ?_
    refine s_y (v := .slice ap np cp) rfl (y_move rfl) ?_
    refine s_y (v := .int .i64 ((np : Nat) : Int)) rfl (y_len T20.sl_29_33_2 rfl rfl) ?_
    by_cases c10 : 8 < ((np : Nat) : Int)
    · refine s_y (v := .bool true) rfl (y_gtr rfl rfl (decide_eq_true c10)) ?_
      refine s_y (v := .bool true) rfl (y_pick_f rfl rfl) ?_
      refine s_nil ?_
      refine W_if_t (by decide) rfl ?_
      refine W_seq ?_
      refine W_region (by kernel_rfl) ?_
      refine s_y (v := .bool false) rfl (y_assign rfl) ?_
      refine s_nil ?_
      refine W_ret ?_
      refine ret1 (v := .bool false) rfl rfl rfl ⟨_, rfl, ?_⟩
      exact ⟨congrArg Value.bool (by first | exact (probesB_n1 (by assumption)).symm | exact (probesB_n2 (by omega)).symm), B.ext⟩
    · refine s_y (v := .bool false) rfl (y_gtr rfl rfl (decide_eq_false c10)) ?_
      refine s_y (v := .bool false) rfl (y_pick_f rfl rfl) ?_
      refine s_nil ?_
      refine W_if_f (by decide) rfl ?_
      refine W_skip ?_
      refine W_seq ?_
      refine W_seq ?_
      refine W_region (by kernel_rfl) ?_
      refine s_y (v := .slice ap np cp) rfl (y_move rfl) ?_
      refine s_y (v := .int .i64 ((np : Nat) : Int)) rfl (y_len T20.sl_29_33_2 rfl rfl) ?_
      refine s_y (v := .int .i64 0) rfl (y_move rfl) ?_
      refine s_nil ?_
      refine W_block ?_
      refine W_loop (fun ρ' w' => ∃ (ρ1 : Env) (k : Int), ρ' = updL ρ1 [(2, .pointer (some ⟨b1, 0, none⟩)), (15, .slice ap np cp), (16, .int .i64 ((np : Nat) : Int)), (17, .int .i64 k)] ∧ Bu w no w' [.blk b1 [.int .i64 wd, .int .i64 hi, .bool wr, .slice asp nsp csp, .slice als nls cls] 26, .rd kF asp nsp Xsp, .rd kF als nls Xls, .rd kP ap np Xp] ∧ (0 ≤ k) ∧ (k ≤ (np : Int)) ∧ (∀ i, 0 ≤ i → i < k → cellB wd hi (gl Xp i).1 (gl Xp i).2 = true)) (fun ρ' _ => ((np : Int) - iv (ρ' 17)).toNat) ?_ ?_
      · exact ⟨_, 0, Fits.eq ⟨rfl, rfl, rfl, rfl, trivial⟩, B, (Int.le_refl _), (by omega), (by intro i h0 h1; omega)⟩
      · clear B; rintro _ w11 ⟨ρ12, k, rfl, B, h0k, h1k, hq⟩
        refine W_seq ?_
        refine W_region (by kernel_rfl) ?_
        by_cases c13 : k < ((np : Nat) : Int)
        · refine s_y (v := .bool true) rfl (y_lss rfl rfl (decide_eq_true c13)) ?_
          refine s_nil ?_
          refine W_seq ?_
          refine W_if_t (by decide) rfl ?_
          refine W_skip ?_
          refine W_seq ?_
          refine W_block ?_
          refine W_seq ?_
          refine W_region (by kernel_rfl) ?_
          refine s_y (v := .pointer (some (sat ap ((k).toNat * 2)))) rfl (y_idx T20.sl_29_33_2 rfl rfl ((B.r 3 rfl).addr (by omega)) (by omega) (by omega)) ?_
          have hR14 := Rd.atP (B.r 3 rfl) k (by omega) (by omega)
          refine s_y (v := .agg #[.int .i64 ((gl Xp k).1), .int .i64 ((gl Xp k).2)]) rfl (y_loadR (vs := [.int .i64 ((gl Xp k).1), .int .i64 ((gl Xp k).2)]) T20.agg_33_2 rfl rfl (by decide) hR14) ?_
          refine s_k rfl (k_allocN (z := (.agg #[.int .i64 0, .int .i64 0])) (cs := [.int .i64 0, .int .i64 0]) T20.zero_33 rfl (fun b15 w16 hN17 => ?_))
          replace B := B.new1 hN17
          clear hN17
          refine s_k0 rfl (k_stB (v := .agg #[.int .i64 ((gl Xp k).1), .int .i64 ((gl Xp k).2)]) (n := 2) (cs' := [.int .i64 ((gl Xp k).1), .int .i64 ((gl Xp k).2)]) T20.sz_33_2 rfl rfl rfl (B.b 0 rfl) (by simp [Value.cells, Value.oneCell']) (Nat.le_of_ble_eq_true rfl) rfl (fun w18 hU19 => ?_))
          replace B : Bu w no w18 [.blk b15 [.int .i64 ((gl Xp k).1), .int .i64 ((gl Xp k).2)] 33, .blk b1 [.int .i64 wd, .int .i64 hi, .bool wr, .slice asp nsp csp, .slice als nls cls] 26, .rd kF asp nsp Xsp, .rd kF als nls Xls, .rd kP ap np Xp] := B.upd [0] rfl hU19
          clear hU19
          refine s_nil ?_
          refine W_seq ?_
          refine W_region (by kernel_rfl) ?_
          refine s_y (v := .agg #[.int .i64 wd, .int .i64 hi, .bool wr, .slice asp nsp csp, .slice als nls cls]) rfl (y_loadn (b := b1) (o := 0) (vs := [.int .i64 wd, .int .i64 hi, .bool wr, .slice asp nsp csp, .slice als nls cls]) T20.agg_26_5 rfl rfl ((B.b 1 rfl).cells (o := 0) rfl)) ?_
          refine s_y (v := .pointer (some ⟨b15, 0, none⟩)) rfl (y_fld (o := 0) T20.fld_33_0_0 rfl) ?_
          refine s_y (v := .int .i64 ((gl Xp k).1)) rfl (y_load T20.one_2 rfl ((B.b 0 rfl).cell (j := 0) rfl)) ?_
          refine s_y (v := .pointer (some ⟨b15, 1, none⟩)) rfl (y_fld (o := 0) T20.fld_33_1_1 rfl) ?_
          refine s_y (v := .int .i64 ((gl Xp k).2)) rfl (y_load T20.one_2 rfl ((B.b 0 rfl).cell (j := 1) rfl)) ?_
          refine s_k rfl (k_call T20.fn_66 (c_i_isCell (by omega) (by omega) (by omega) (by omega)) rfl ?_)
          rintro v22 w20 ⟨hv23, e21⟩
          replace B := B.ext0 e21
          clear e21
          by_cases c24 : cellB wd hi ((gl Xp k).1) ((gl Xp k).2) = true
          · have hb25 := cellB_b c24
            obtain rfl : v22 = .bool true := hv23.trans (congrArg Value.bool c24)
            refine s_y (v := .bool false) rfl (y_not rfl rfl) ?_
            refine s_nil ?_
            refine W_if_f (by decide) rfl ?_
            refine W_skip ?_
            refine W_region (by kernel_rfl) ?_
            refine s_y (v := .int .i64 (k + 1)) rfl (y_add rfl rfl rfl (by omega)) ?_
            refine s_y (v := .int .i64 (k + 1)) rfl (y_move rfl) ?_
            refine s_nil ?_
            refine ⟨⟨_, k + 1, Fits.eq ⟨rfl, rfl, rfl, rfl, trivial⟩, (B.pick [1, 2, 3, 4] rfl rfl), (by omega), (by omega), (allI_more (p := fun i => cellB wd hi (gl Xp i).1 (gl Xp i).2) hq (by assumption))⟩, ?_⟩
            show ((np : Int) - (k + 1)).toNat < ((np : Int) - k).toNat
            omega
          · obtain rfl : v22 = .bool false := hv23.trans (congrArg Value.bool (Bool.eq_false_iff.2 c24))
            refine s_y (v := .bool true) rfl (y_not rfl rfl) ?_
            refine s_nil ?_
            refine W_if_t (by decide) rfl ?_
            refine W_seq ?_
            refine W_region (by kernel_rfl) ?_
            refine s_y (v := .bool false) rfl (y_assign rfl) ?_
            refine s_nil ?_
            refine W_ret ?_
            refine ret1 (v := .bool false) rfl rfl rfl ⟨_, rfl, ?_⟩
            exact ⟨congrArg Value.bool ((probesB_no (i := k) (by omega) (by omega) (by assumption)).symm), B.ext⟩
        · refine s_y (v := .bool false) rfl (y_lss rfl rfl (decide_eq_false c13)) ?_
          refine s_nil ?_
          refine W_seq ?_
          refine W_if_f (by decide) rfl ?_
          refine W_exit ?_
          refine W_seq ?_
          refine W_region (by kernel_rfl) ?_
          refine s_y (v := .bool true) rfl (y_assign rfl) ?_
          refine s_nil ?_
          refine W_ret ?_
          refine ret1 (v := .bool true) rfl rfl rfl ⟨_, rfl, ?_⟩
          exact ⟨congrArg Value.bool ((probesB_yes (by assumption) (by omega) (fun i h0 h1 => hq i h0 (by omega))).symm), B.ext⟩
  · obtain rfl : v6 = .bool false := hv7.trans (congrArg Value.bool (Bool.eq_false_iff.2 c8))
    refine s_y (v := .bool true) rfl (y_not rfl rfl) ?_
    refine s_y (v := .bool true) rfl (y_move rfl) ?_
    refine s_skip rfl ?_
    refine s_skip rfl ?_
    refine s_skip rfl ?_
    refine s_y (v := .bool true) rfl (y_pick_t rfl rfl) ?_
    refine s_nil ?_
    refine W_if_t (by decide) rfl ?_
    refine W_seq ?_
    refine W_region (by kernel_rfl) ?_
    refine s_y (v := .bool false) rfl (y_assign rfl) ?_
    refine s_nil ?_
    refine W_ret ?_
    refine ret1 (v := .bool false) rfl rfl rfl ⟨_, rfl, ?_⟩
    exact ⟨congrArg Value.bool (by first | exact (probesB_n1 (by assumption)).symm | exact (probesB_n2 (by omega)).symm), B.ext⟩
namespace T3
theorem mx : Try.prog.follows .mixedOrders = true := by kernel_rfl
theorem agg_26_5 : aggB Try.prog 26 5 = true := by kernel_rfl
theorem agg_33_2 : aggB Try.prog 33 2 = true := by kernel_rfl
theorem bool_4 : Try.prog.underlying 4 = some .bool := by kernel_rfl
theorem eq2_33 : eq2B Try.prog 33 = true := by kernel_rfl
theorem fld_26_0_0 : fldB Try.prog 26 0 0 = true := by kernel_rfl
theorem fld_26_1_1 : fldB Try.prog 26 1 1 = true := by kernel_rfl
theorem fn_15 : fnB Try.prog 15 = true := by kernel_rfl
theorem fn_16 : fnB Try.prog 16 = true := by kernel_rfl
theorem fn_17 : fnB Try.prog 17 = true := by kernel_rfl
theorem fn_18 : fnB Try.prog 18 = true := by kernel_rfl
theorem fn_19 : fnB Try.prog 19 = true := by kernel_rfl
theorem fn_20 : fnB Try.prog 20 = true := by kernel_rfl
theorem one_2 : oneB Try.prog 2 = true := by kernel_rfl
theorem sl_29_33_2 : slB Try.prog 29 33 2 = true := by kernel_rfl
theorem slt_29 : SlT Try.prog 29 33 2 16 (.agg #[.int .i64 0, .int .i64 0]) := ⟨by kernel_rfl, by kernel_rfl, rfl, by decide⟩
theorem sz_26_5 : szB Try.prog 26 5 = true := by kernel_rfl
theorem zero_26 : zeroB Try.prog 26 (.agg #[.int .i64 0, .int .i64 0, .bool false, .slice none 0 0, .slice none 0 0]) := by unfold zeroB; kernel_rfl
end T3
set_option maxRecDepth 100000 in
set_option maxHeartbeats 20000000 in
theorem c_FnRings {a0 : Option Addr} {n0 : Nat} {c0 : Nat} {X0 : List Nat} {a1 : Option Addr} {n1 : Nat} {c1 : Nat} {X1 : List Nat} {w : World} (q0 : Rd w kY a0 n0 X0) (q1 : Rd w kY a1 n1 X1) (g0 : n0 ≤ 9223372036854775807) (g1 : n1 ≤ 9223372036854775807) :
    Calls Try.prog 3 #[.slice a0 n0 c0, .slice a1 n1 c1] w (Rt fun v w' => v = .bool true ∧ Ext0 w w') := by
  have hl0 := q0.len
  have hl1 := q1.len
  have B : Bu w no w [.rd kY a0 n0 X0, .rd kY a1 n1 X1] := Bu.ro (All.cons q0 (All.cons q1 All.nil)) rfl
  refine calls_W (n := 114) Try.func3 rfl rfl (Nat.le_of_ble_eq_true rfl) ?_
  refine W_seq ?_
  refine W_region (by kernel_rfl) ?_
  refine s_y (v := .bool false) rfl (y_assign rfl) ?_
  refine s_nil ?_
  refine W_seq ?_
  refine W_seq ?_
  refine W_region (by kernel_rfl) ?_
  refine s_y (v := .slice a0 n0 c0) rfl (y_move rfl) ?_
  refine s_y (v := .slice a1 n1 c1) rfl (y_move rfl) ?_
  refine s_k rfl (k_call T3.fn_15 (c_l_r8Long (B.r 0 rfl) (B.r 1 rfl) (by omega) (by omega)) rfl ?_)
  rintro v3 w1 ⟨hv4, e2⟩
  replace B := B.ext0 e2
  clear e2
  by_cases c5 : (decide (48 < (n0 : Int)) || decide (48 < (n1 : Int))) = true
  · obtain rfl : v3 = .bool true := hv4.trans (congrArg Value.bool c5)
    refine s_nil ?_
    refine W_if_t (by decide) rfl ?_
    refine W_seq ?_
    refine W_region (by kernel_rfl) ?_
    refine s_y (v := .bool true) rfl (y_assign rfl) ?_
    refine s_nil ?_
    refine W_ret ?_
    refine ret1 (v := .bool true) rfl rfl rfl ⟨_, rfl, ?_⟩
    exact ⟨rfl, B.ext⟩
  · obtain rfl : v3 = .bool false := hv4.trans (congrArg Value.bool (Bool.eq_false_iff.2 c5))
    refine s_nil ?_
    refine W_if_f (by decide) rfl ?_
    refine W_skip ?_
    refine W_seq ?_
    refine W_region (by kernel_rfl) ?_
    refine s_y (v := .slice a0 n0 c0) rfl (y_move rfl) ?_
    refine s_k rfl (k_call T3.fn_16 (c_s_R8Sheet (B.r 0 rfl)) rfl ?_)
    rintro _ w6 ⟨v8, v9, vb10, a11, c12, c13, Z14, a15, c16, c17, Z18, rfl, hp19, hp20, hp21, hN7⟩
    replace B := B.new2 hN7
    clear hN7
    have hl22 := (B.o 0 rfl).len
    have hl23 := (B.o 1 rfl).len
    have hb24 := validS_b hp21
    refine s_k rfl (k_allocN (z := (.agg #[.int .i64 0, .int .i64 0, .bool false, .slice none 0 0, .slice none 0 0])) (cs := [.int .i64 0, .int .i64 0, .bool false, .slice none 0 0, .slice none 0 0]) T3.zero_26 rfl (fun b25 w26 hN27 => ?_))
    replace B := B.new1 hN27
    clear hN27
    refine s_k0 rfl (k_stB (v := .agg #[.int .i64 v8, .int .i64 v9, .bool vb10, .slice a11 c12 c13, .slice a15 c16 c17]) (n := 5) (cs' := [.int .i64 v8, .int .i64 v9, .bool vb10, .slice a11 c12 c13, .slice a15 c16 c17]) T3.sz_26_5 rfl rfl rfl (B.b 0 rfl) (by simp [Value.cells, Value.oneCell']) (Nat.le_of_ble_eq_true rfl) rfl (fun w28 hU29 => ?_))
    replace B : Bu w no w28 [.blk b25 [.int .i64 v8, .int .i64 v9, .bool vb10, .slice a11 c12 c13, .slice a15 c16 c17] 26, .ow kF a11 c12 c13 56 Z14, .ow kF a15 c16 c17 56 Z18, .rd kY a0 n0 X0, .rd kY a1 n1 X1] := B.upd [0] rfl hU29
    clear hU29
    refine s_nil ?_
    refine W_seq ?_
    refine W_region (by kernel_rfl) ?_
    refine s_y (v := .slice a1 n1 c1) rfl (y_move rfl) ?_
    refine s_y (v := .pointer (some ⟨b25, 0, none⟩)) rfl (y_fld (o := 0) T3.fld_26_0_0 rfl) ?_
    refine s_y (v := .int .i64 v8) rfl (y_load T3.one_2 rfl ((B.b 0 rfl).cell (j := 0) rfl)) ?_
    refine s_k rfl (k_call T3.fn_17 (c_l_r8At (B.r 4 rfl) (by omega) (by omega) (by omega)) rfl ?_)
    rintro _ w30 ⟨v32, rfl, hp33, e31⟩
    replace B := B.ext0 e31
    clear e31
    have hb34 := r8A_b X1 0 (show 1 ≤ v8 by omega)
    rw [← hp33] at hb34
    refine s_y (v := .int .i64 v32) rfl (y_assign rfl) ?_
    refine s_nil ?_
    refine W_seq ?_
    refine W_region (by kernel_rfl) ?_
    refine s_y (v := .slice a1 n1 c1) rfl (y_move rfl) ?_
    refine s_y (v := .pointer (some ⟨b25, 1, none⟩)) rfl (y_fld (o := 0) T3.fld_26_1_1 rfl) ?_
    refine s_y (v := .int .i64 v9) rfl (y_load T3.one_2 rfl ((B.b 0 rfl).cell (j := 1) rfl)) ?_
    refine s_k rfl (k_call T3.fn_17 (c_l_r8At (B.r 4 rfl) (by omega) (by omega) (by omega)) rfl ?_)
    rintro _ w35 ⟨v37, rfl, hp38, e36⟩
    replace B := B.ext0 e36
    clear e36
    have hb39 := r8A_b X1 1 (show 1 ≤ v9 by omega)
    rw [← hp38] at hb39
    refine s_y (v := .int .i64 v37) rfl (y_assign rfl) ?_
    refine s_nil ?_
    refine W_seq ?_
    refine W_region (by kernel_rfl) ?_
    refine s_y (v := .slice a1 n1 c1) rfl (y_move rfl) ?_
    refine s_k rfl (k_call T3.fn_17 (c_l_r8At (B.r 4 rfl) (by omega) (by omega) (by omega)) rfl ?_)
    rintro _ w40 ⟨v42, rfl, hp43, e41⟩
    replace B := B.ext0 e41
    clear e41
    have hb44 := r8A_b X1 2 (show 1 ≤ 4 by omega)
    rw [← hp43] at hb44
    refine s_y (v := .int .i64 (1 + v42)) rfl (y_add rfl rfl rfl (by omega)) ?_
    refine s_y (v := .int .i64 (1 + v42)) rfl (y_assign rfl) ?_
    refine s_nil ?_
    refine W_seq ?_
    refine W_region (by kernel_rfl) ?_
    refine s_y (v := .agg #[.int .i64 v8, .int .i64 v9, .bool vb10, .slice a11 c12 c13, .slice a15 c16 c17]) rfl (y_loadn (b := b25) (o := 0) (vs := [.int .i64 v8, .int .i64 v9, .bool vb10, .slice a11 c12 c13, .slice a15 c16 c17]) T3.agg_26_5 rfl rfl ((B.b 0 rfl).cells (o := 0) rfl)) ?_
    refine s_y (v := .int .i64 v32) rfl (y_move rfl) ?_
    refine s_y (v := .int .i64 v37) rfl (y_move rfl) ?_
    refine s_y (v := .int .i64 (1 + v42)) rfl (y_move rfl) ?_
    refine s_k rfl (k_call T3.fn_18 (c_i_RingAround ((B.o 1 rfl).rd) ((B.o 2 rfl).rd) (by omega) (by omega)) rfl ?_)
    rintro v47 w45 hx46
    by_cases c48 : ringB v8 v9 Z14 Z18 v32 v37 (1 + v42) = true
    · have hb49 := ringB_b c48
      obtain ⟨a50, c51, rfl, hN52⟩ := (hx46.resolve_right (fun hz => by rw [c48] at hz; cases hz.1)).2
      clear hx46
      replace B := B.new1 hN52
      clear hN52
      refine s_y (v := .tuple #[.slice a50 (List.length (ringL v8 v9 v32 v37 (1 + v42))) c51, .bool true]) rfl (y_move rfl) ?_
      refine s_y (v := .slice a50 (List.length (ringL v8 v9 v32 v37 (1 + v42))) c51) rfl (y_extract rfl rfl) ?_
      refine s_y (v := .bool true) rfl (y_extract rfl rfl) ?_
      refine s_y (v := .slice a50 (List.length (ringL v8 v9 v32 v37 (1 + v42))) c51) rfl (y_assign rfl) ?_
      refine s_y (v := .bool true) rfl (y_assign rfl) ?_
      refine s_nil ?_
      refine W_seq ?_
      refine W_region (by kernel_rfl) ?_
      refine s_k rfl (k_bsliceO (k := kP) (n := 0) (cells := #[]) (X := []) T3.slt_29 (by decide) (by first | rfl | kernel_rfl) (rfl : Reps kP [] []) rfl (fun b53 w54 hN55 => ?_))
      replace B := B.new1 hN55
      clear hN55
      refine s_y (v := .slice (some ⟨b53, 0, none⟩) 0 0) rfl (y_assign rfl) ?_
      refine s_nil ?_
      refine W_seq ?_
      refine W_seq ?_
      refine W_region (by kernel_rfl) ?_
      refine s_y (v := .int .i64 0) rfl (y_assign rfl) ?_
      refine s_nil ?_
      refine W_block ?_
      refine W_loop (fun ρ' w' => ∃ (ρ1 : Env) (py : Int) (A0 : Option Addr) (CC0 : Nat) (NN0 : Nat), ρ' = updL ρ1 [(4, .bool false), (5, .pointer (some ⟨b25, 0, none⟩)), (6, .int .i64 v32), (7, .int .i64 v37), (8, .int .i64 (1 + v42)), (9, .slice a50 (List.length (ringL v8 v9 v32 v37 (1 + v42))) c51), (10, .bool true), (11, .slice A0 NN0 CC0), (12, .int .i64 py)] ∧ Bu w no w' [.ow kP A0 NN0 CC0 33 (boxN 0 0 (Int.toNat v8) (ringP v32 v37 (1 + v42)) (Int.toNat py)), .ow kP a50 (List.length (ringL v8 v9 v32 v37 (1 + v42))) c51 33 (ringL v8 v9 v32 v37 (1 + v42)), .blk b25 [.int .i64 v8, .int .i64 v9, .bool vb10, .slice a11 c12 c13, .slice a15 c16 c17] 26, .ow kF a11 c12 c13 56 Z14, .ow kF a15 c16 c17 56 Z18, .rd kY a0 n0 X0, .rd kY a1 n1 X1] ∧ (0 ≤ py) ∧ (py ≤ v9)) (fun ρ' _ => (v9 - iv (ρ' 12)).toNat) ?_ ?_
      · replace B : Bu w no w54 [.ow kP (some ⟨b53, 0, none⟩) 0 0 33 (boxN 0 0 (Int.toNat v8) (ringP v32 v37 (1 + v42)) (Int.toNat 0)), .ow kP a50 (List.length (ringL v8 v9 v32 v37 (1 + v42))) c51 33 (ringL v8 v9 v32 v37 (1 + v42)), .blk b25 [.int .i64 v8, .int .i64 v9, .bool vb10, .slice a11 c12 c13, .slice a15 c16 c17] 26, .ow kF a11 c12 c13 56 Z14, .ow kF a15 c16 c17 56 Z18, .rd kY a0 n0 X0, .rd kY a1 n1 X1] := B.castX 0 rfl rfl rfl
        exact ⟨_, 0, (some ⟨b53, 0, none⟩), 0, 0, Fits.eq ⟨rfl, rfl, rfl, rfl, rfl, rfl, rfl, rfl, rfl, trivial⟩, B, (Int.le_refl _), (by omega)⟩
      · clear B; rintro _ w56 ⟨ρ57, py, A0, CC0, NN0, rfl, B, h0py, h1py⟩
        have hNN0 := (B.o 0 rfl).len
        have hsNN0 : (boxN 0 0 (Int.toNat v8) (ringP v32 v37 (1 + v42)) (Int.toNat py)).length ≤ 5000 := Nat.le_trans (boxN_len (by omega) _ (by omega)) (by omega)
        refine W_seq ?_
        refine W_seq ?_
        refine W_region (by kernel_rfl) ?_
        refine s_y (v := .int .i64 py) rfl (y_move rfl) ?_
        refine s_y (v := .pointer (some ⟨b25, 1, none⟩)) rfl (y_fld (o := 0) T3.fld_26_1_1 rfl) ?_
        refine s_y (v := .int .i64 v9) rfl (y_load T3.one_2 rfl ((B.b 2 rfl).cell (j := 1) rfl)) ?_
        by_cases c58 : py < v9
        · refine s_y (v := .bool true) rfl (y_lss rfl rfl (decide_eq_true c58)) ?_
          refine s_nil ?_
          refine W_if_t (by decide) rfl ?_
          refine W_skip ?_
          refine W_seq ?_
          refine W_block ?_
          refine W_seq ?_
          refine W_region (by kernel_rfl) ?_
          refine s_y (v := .int .i64 0) rfl (y_assign rfl) ?_
          refine s_nil ?_
          refine W_block ?_
          refine W_loop (fun ρ' w' => ∃ (ρ1 : Env) (px : Int) (A9 : Option Addr) (CC9 : Nat) (NN9 : Nat), ρ' = updL ρ1 [(4, .bool false), (5, .pointer (some ⟨b25, 0, none⟩)), (6, .int .i64 v32), (7, .int .i64 v37), (8, .int .i64 (1 + v42)), (9, .slice a50 (List.length (ringL v8 v9 v32 v37 (1 + v42))) c51), (10, .bool true), (11, .slice A9 NN9 CC9), (12, .int .i64 py), (13, .int .i64 px), (41, .int .i64 py), (42, .pointer (some ⟨b25, 1, none⟩)), (43, .int .i64 v9), (44, .bool true)] ∧ Bu w no w' [.ow kP A9 NN9 CC9 33 (inL 0 0 (Int.toNat v8) (ringP v32 v37 (1 + v42)) (Int.toNat py) py px), .ow kP a50 (List.length (ringL v8 v9 v32 v37 (1 + v42))) c51 33 (ringL v8 v9 v32 v37 (1 + v42)), .blk b25 [.int .i64 v8, .int .i64 v9, .bool vb10, .slice a11 c12 c13, .slice a15 c16 c17] 26, .ow kF a11 c12 c13 56 Z14, .ow kF a15 c16 c17 56 Z18, .rd kY a0 n0 X0, .rd kY a1 n1 X1] ∧ (0 ≤ px) ∧ (px ≤ v8)) (fun ρ' _ => (v8 - iv (ρ' 13)).toNat) ?_ ?_
          · replace B : Bu w no w56 [.ow kP A0 NN0 CC0 33 (inL 0 0 (Int.toNat v8) (ringP v32 v37 (1 + v42)) (Int.toNat py) py 0), .ow kP a50 (List.length (ringL v8 v9 v32 v37 (1 + v42))) c51 33 (ringL v8 v9 v32 v37 (1 + v42)), .blk b25 [.int .i64 v8, .int .i64 v9, .bool vb10, .slice a11 c12 c13, .slice a15 c16 c17] 26, .ow kF a11 c12 c13 56 Z14, .ow kF a15 c16 c17 56 Z18, .rd kY a0 n0 X0, .rd kY a1 n1 X1] := B.castX 0 rfl rfl inL_zero
            exact ⟨_, 0, A0, CC0, NN0, Fits.eq ⟨rfl, rfl, rfl, rfl, rfl, rfl, rfl, rfl, rfl, rfl, rfl, rfl, rfl, rfl, trivial⟩, B, (Int.le_refl _), (by omega)⟩
          · clear B; rintro _ w59 ⟨ρ60, px, A9, CC9, NN9, rfl, B, h0px, h1px⟩
            have hNN9 := (B.o 0 rfl).len
            have hsNN9 : (inL 0 0 (Int.toNat v8) (ringP v32 v37 (1 + v42)) (Int.toNat py) py px).length ≤ 5000 := inL_len (by omega) (by omega) (by omega)
            refine W_seq ?_
            refine W_seq ?_
            refine W_region (by kernel_rfl) ?_
            refine s_y (v := .int .i64 px) rfl (y_move rfl) ?_
            refine s_y (v := .pointer (some ⟨b25, 0, none⟩)) rfl (y_fld (o := 0) T3.fld_26_0_0 rfl) ?_
            refine s_y (v := .int .i64 v8) rfl (y_load T3.one_2 rfl ((B.b 2 rfl).cell (j := 0) rfl)) ?_
            by_cases c61 : px < v8
            · refine s_y (v := .bool true) rfl (y_lss rfl rfl (decide_eq_true c61)) ?_
              refine s_nil ?_
              refine W_if_t (by decide) rfl ?_
              refine W_skip ?_
              refine W_seq ?_
              refine W_block ?_
              refine W_seq ?_
              refine W_region (by kernel_rfl) ?_
              refine s_y (v := .int .i64 px) rfl (y_move rfl) ?_
              refine s_y (v := .int .i64 v32) rfl (y_move rfl) ?_
              refine s_y (v := .int .i64 (px - v32)) rfl (y_sub rfl rfl rfl (by omega)) ?_
              refine s_y (v := .int .i64 v32) rfl (y_move rfl) ?_
              refine s_y (v := .int .i64 px) rfl (y_move rfl) ?_
              refine s_y (v := .int .i64 (v32 - px)) rfl (y_sub rfl rfl rfl (by omega)) ?_
              refine s_y (v := .int .i64 (max (px - v32) (v32 - px))) rfl (y_max2 rfl rfl rfl) ?_
              refine s_y (v := .int .i64 py) rfl (y_move rfl) ?_
              refine s_y (v := .int .i64 v37) rfl (y_move rfl) ?_
              refine s_y (v := .int .i64 (py - v37)) rfl (y_sub rfl rfl rfl (by omega)) ?_
              refine s_y (v := .int .i64 v37) rfl (y_move rfl) ?_
              refine s_y (v := .int .i64 py) rfl (y_move rfl) ?_
              refine s_y (v := .int .i64 (v37 - py)) rfl (y_sub rfl rfl rfl (by omega)) ?_
              refine s_y (v := .int .i64 (max (py - v37) (v37 - py))) rfl (y_max2 rfl rfl rfl) ?_
              refine s_y (v := .int .i64 (max (max (px - v32) (v32 - px)) (max (py - v37) (v37 - py)))) rfl (y_max2 rfl rfl rfl) ?_
              refine s_y (v := .int .i64 (max (max (px - v32) (v32 - px)) (max (py - v37) (v37 - py)))) rfl (y_assign rfl) ?_
              refine s_nil ?_
              refine W_seq ?_
              refine W_region (by kernel_rfl) ?_
              refine s_y (v := .int .i64 (max (max (px - v32) (v32 - px)) (max (py - v37) (v37 - py)))) rfl (y_move rfl) ?_
              refine s_y (v := .int .i64 (1 + v42)) rfl (y_move rfl) ?_
              by_cases c62 : (max (max (px - v32) (v32 - px)) (max (py - v37) (v37 - py))) = (1 + v42)
              · refine s_y (v := .bool true) rfl (y_eql rfl rfl (decide_eq_true c62)) ?_
                refine s_nil ?_
                refine W_if_t (by decide) rfl ?_
                refine W_region (by kernel_rfl) ?_
                refine s_y (v := .slice A9 NN9 CC9) rfl (y_move rfl) ?_
                refine s_y (v := .int .i64 px) rfl (y_move rfl) ?_
                refine s_y (v := .int .i64 py) rfl (y_move rfl) ?_
                refine s_y (v := .agg #[.int .i64 px, .int .i64 py]) rfl (y_build (cells := #[.int .i64 px, .int .i64 py]) (by kernel_rfl)) ?_
                refine s_k rfl (k_bsliceO (k := kP) (n := 1) (cells := #[.int .i64 px, .int .i64 py]) (X := [(px, py)]) T3.slt_29 (by decide) (by first | rfl | kernel_rfl) (reps_cons (c := [.int .i64 px, .int .i64 py]) rfl (rfl : Reps kP [] [])) rfl (fun b63 w64 hN65 => ?_))
                replace B := B.new1 hN65
                clear hN65
                refine s_k rfl (k_appO (k := kP) T3.slt_29 rfl rfl rfl (B.o 1 rfl) (B.o 0 rfl).rd (by omega) (by unfold maxLen; omega) (fun a66 c67 w68 hU69 => ?_))
                replace B : Bu w no w68 [.ow kP a66 (NN9 + 1) c67 33 ((inL 0 0 (Int.toNat v8) (ringP v32 v37 (1 + v42)) (Int.toNat py) py px) ++ ([(px, py)])), .ow kP (some ⟨b63, 0, none⟩) 1 1 33 ([(px, py)]), .ow kP a50 (List.length (ringL v8 v9 v32 v37 (1 + v42))) c51 33 (ringL v8 v9 v32 v37 (1 + v42)), .blk b25 [.int .i64 v8, .int .i64 v9, .bool vb10, .slice a11 c12 c13, .slice a15 c16 c17] 26, .ow kF a11 c12 c13 56 Z14, .ow kF a15 c16 c17 56 Z18, .rd kY a0 n0 X0, .rd kY a1 n1 X1] := B.upd [1] rfl hU69
                clear hU69
                refine s_y (v := .slice a66 (NN9 + 1) c67) rfl (y_assign rfl) ?_
                refine s_nil ?_
                refine W_region (by kernel_rfl) ?_
                refine s_y (v := .int .i64 px) rfl (y_move rfl) ?_
                refine s_y (v := .int .i64 (px + 1)) rfl (y_add rfl rfl rfl (by omega)) ?_
                refine s_y (v := .int .i64 (px + 1)) rfl (y_assign rfl) ?_
                refine s_nil ?_
                replace B : Bu w no w68 [.ow kP a66 (NN9 + 1) c67 33 (inL 0 0 (Int.toNat v8) (ringP v32 v37 (1 + v42)) (Int.toNat py) py (px + 1)), .ow kP (some ⟨b63, 0, none⟩) 1 1 33 ([(px, py)]), .ow kP a50 (List.length (ringL v8 v9 v32 v37 (1 + v42))) c51 33 (ringL v8 v9 v32 v37 (1 + v42)), .blk b25 [.int .i64 v8, .int .i64 v9, .bool vb10, .slice a11 c12 c13, .slice a15 c16 c17] 26, .ow kF a11 c12 c13 56 Z14, .ow kF a15 c16 c17 56 Z18, .rd kY a0 n0 X0, .rd kY a1 n1 X1] := B.castX 0 rfl rfl (inL_yes (by omega) (by omega) (ringP_of (decide_eq_true c62)))
                refine ⟨⟨_, px + 1, a66, c67, NN9 + 1, Fits.eq ⟨rfl, rfl, rfl, rfl, rfl, rfl, rfl, rfl, rfl, rfl, rfl, rfl, rfl, rfl, trivial⟩, (B.pick [0, 2, 3, 4, 5, 6, 7] rfl rfl), (by omega), (by omega)⟩, ?_⟩
                show (v8 - (px + 1)).toNat < (v8 - (px)).toNat
                omega
              · refine s_y (v := .bool false) rfl (y_eql rfl rfl (decide_eq_false c62)) ?_
                refine s_nil ?_
                refine W_if_f (by decide) rfl ?_
                refine W_skip ?_
                refine W_region (by kernel_rfl) ?_
                refine s_y (v := .int .i64 px) rfl (y_move rfl) ?_
                refine s_y (v := .int .i64 (px + 1)) rfl (y_add rfl rfl rfl (by omega)) ?_
                refine s_y (v := .int .i64 (px + 1)) rfl (y_assign rfl) ?_
                refine s_nil ?_
                replace B : Bu w no w59 [.ow kP A9 NN9 CC9 33 (inL 0 0 (Int.toNat v8) (ringP v32 v37 (1 + v42)) (Int.toNat py) py (px + 1)), .ow kP a50 (List.length (ringL v8 v9 v32 v37 (1 + v42))) c51 33 (ringL v8 v9 v32 v37 (1 + v42)), .blk b25 [.int .i64 v8, .int .i64 v9, .bool vb10, .slice a11 c12 c13, .slice a15 c16 c17] 26, .ow kF a11 c12 c13 56 Z14, .ow kF a15 c16 c17 56 Z18, .rd kY a0 n0 X0, .rd kY a1 n1 X1] := B.castX 0 rfl rfl (inL_no (by omega) (by omega) (ringP_of (decide_eq_false c62)))
                refine ⟨⟨_, px + 1, A9, CC9, NN9, Fits.eq ⟨rfl, rfl, rfl, rfl, rfl, rfl, rfl, rfl, rfl, rfl, rfl, rfl, rfl, rfl, trivial⟩, B, (by omega), (by omega)⟩, ?_⟩
                show (v8 - (px + 1)).toNat < (v8 - (px)).toNat
                omega
            · refine s_y (v := .bool false) rfl (y_lss rfl rfl (decide_eq_false c61)) ?_
              refine s_nil ?_
              refine W_if_f (by decide) rfl ?_
              refine W_exit ?_
              refine W_region (by kernel_rfl) ?_
              refine s_y (v := .int .i64 py) rfl (y_move rfl) ?_
              refine s_y (v := .int .i64 (py + 1)) rfl (y_add rfl rfl rfl (by omega)) ?_
              refine s_y (v := .int .i64 (py + 1)) rfl (y_assign rfl) ?_
              refine s_nil ?_
              replace B : Bu w no w59 [.ow kP A9 NN9 CC9 33 (boxN 0 0 (Int.toNat v8) (ringP v32 v37 (1 + v42)) (Int.toNat (py + 1))), .ow kP a50 (List.length (ringL v8 v9 v32 v37 (1 + v42))) c51 33 (ringL v8 v9 v32 v37 (1 + v42)), .blk b25 [.int .i64 v8, .int .i64 v9, .bool vb10, .slice a11 c12 c13, .slice a15 c16 c17] 26, .ow kF a11 c12 c13 56 Z14, .ow kF a15 c16 c17 56 Z18, .rd kY a0 n0 X0, .rd kY a1 n1 X1] := B.castX 0 rfl rfl (inL_row (by omega) (by omega) (by omega))
              refine ⟨⟨_, py + 1, A9, CC9, NN9, Fits.eq ⟨rfl, rfl, rfl, rfl, rfl, rfl, rfl, rfl, rfl, trivial⟩, B, (by omega), (by omega)⟩, ?_⟩
              show (v9 - (py + 1)).toNat < (v9 - (py)).toNat
              omega
        · refine s_y (v := .bool false) rfl (y_lss rfl rfl (decide_eq_false c58)) ?_
          refine s_nil ?_
          refine W_if_f (by decide) rfl ?_
          refine W_exit ?_
          obtain rfl : v9 = py := by omega
          replace B : Bu w no w56 [.ow kP A0 NN0 CC0 33 (ringL v8 v9 v32 v37 (1 + v42)), .ow kP a50 (List.length (ringL v8 v9 v32 v37 (1 + v42))) c51 33 (ringL v8 v9 v32 v37 (1 + v42)), .blk b25 [.int .i64 v8, .int .i64 v9, .bool vb10, .slice a11 c12 c13, .slice a15 c16 c17] 26, .ow kF a11 c12 c13 56 Z14, .ow kF a15 c16 c17 56 Z18, .rd kY a0 n0 X0, .rd kY a1 n1 X1] := B.castX 0 rfl rfl rfl
          have hlen : (ringL v8 v9 v32 v37 (1 + v42)).length = NN0 := hNN0
          have hrb := ringB_b c48
          refine W_seq ?_
          refine W_seq ?_
          refine W_region (by kernel_rfl) ?_
          refine s_y (v := .bool true) rfl (y_move rfl) ?_
          refine s_y (v := .slice A0 NN0 CC0) rfl (y_move rfl) ?_
          refine s_y (v := .int .i64 ((NN0 : Nat) : Int)) rfl (y_len T3.sl_29_33_2 rfl rfl) ?_
          have hk70 : ((NN0 : Nat) : Int) ≤ 8 := (by omega)
          refine s_y (v := .bool true) rfl (y_leq rfl rfl (decide_eq_true hk70)) ?_
          refine s_y (v := .bool false) rfl (y_bneq T3.bool_4 rfl rfl rfl) ?_
          refine s_nil ?_
          refine W_if_f (by decide) rfl ?_
          refine W_skip ?_
          refine W_seq ?_
          refine W_seq ?_
          refine W_region (by kernel_rfl) ?_
          refine s_y (v := .bool true) rfl (y_move rfl) ?_
          refine s_y (v := .bool false) rfl (y_not rfl rfl) ?_
          refine s_nil ?_
          refine W_if_f (by decide) rfl ?_
          refine W_skip ?_
          refine W_seq ?_
          refine W_seq ?_
          refine W_region (by kernel_rfl) ?_
          refine s_y (v := .slice a50 (List.length (ringL v8 v9 v32 v37 (1 + v42))) c51) rfl (y_move rfl) ?_
          refine s_y (v := .int .i64 ((List.length (ringL v8 v9 v32 v37 (1 + v42)) : Nat) : Int)) rfl (y_len T3.sl_29_33_2 rfl rfl) ?_
          refine s_y (v := .slice A0 NN0 CC0) rfl (y_move rfl) ?_
          refine s_y (v := .int .i64 ((NN0 : Nat) : Int)) rfl (y_len T3.sl_29_33_2 rfl rfl) ?_
          have hk71 : ¬ (((List.length (ringL v8 v9 v32 v37 (1 + v42)) : Nat) : Int) ≠ ((NN0 : Nat) : Int)) := (by omega)
          refine s_y (v := .bool false) rfl (y_neq rfl rfl (decide_eq_false hk71)) ?_
          refine s_nil ?_
          refine W_if_f (by decide) rfl ?_
          refine W_skip ?_
          refine W_seq ?_
          refine W_seq ?_
          refine W_region (by kernel_rfl) ?_
          refine s_y (v := .int .i64 0) rfl (y_assign rfl) ?_
          refine s_nil ?_
          refine W_block ?_
          refine W_loop (fun ρ' w' => ∃ (ρ1 : Env) (k : Int), ρ' = updL ρ1 [(5, .pointer (some ⟨b25, 0, none⟩)), (9, .slice a50 (List.length (ringL v8 v9 v32 v37 (1 + v42))) c51), (11, .slice A0 NN0 CC0), (15, .int .i64 k)] ∧ Bu w no w' [.ow kP A0 NN0 CC0 33 (ringL v8 v9 v32 v37 (1 + v42)), .ow kP a50 (List.length (ringL v8 v9 v32 v37 (1 + v42))) c51 33 (ringL v8 v9 v32 v37 (1 + v42)), .blk b25 [.int .i64 v8, .int .i64 v9, .bool vb10, .slice a11 c12 c13, .slice a15 c16 c17] 26, .ow kF a11 c12 c13 56 Z14, .ow kF a15 c16 c17 56 Z18, .rd kY a0 n0 X0, .rd kY a1 n1 X1] ∧ (0 ≤ k) ∧ (k ≤ ((List.length (ringL v8 v9 v32 v37 (1 + v42)) : Nat) : Int))) (fun ρ' _ => (((List.length (ringL v8 v9 v32 v37 (1 + v42)) : Nat) : Int) - iv (ρ' 15)).toNat) ?_ ?_
          · exact ⟨_, 0, Fits.eq ⟨rfl, rfl, rfl, rfl, trivial⟩, B, (Int.le_refl _), (by omega)⟩
          · clear B; rintro _ w72 ⟨ρ73, k, rfl, B, h0k, h1k⟩
            refine W_seq ?_
            refine W_seq ?_
            refine W_region (by kernel_rfl) ?_
            refine s_y (v := .int .i64 k) rfl (y_move rfl) ?_
            refine s_y (v := .slice a50 (List.length (ringL v8 v9 v32 v37 (1 + v42))) c51) rfl (y_move rfl) ?_
            refine s_y (v := .int .i64 ((List.length (ringL v8 v9 v32 v37 (1 + v42)) : Nat) : Int)) rfl (y_len T3.sl_29_33_2 rfl rfl) ?_
            by_cases c74 : k < ((List.length (ringL v8 v9 v32 v37 (1 + v42)) : Nat) : Int)
            · refine s_y (v := .bool true) rfl (y_lss rfl rfl (decide_eq_true c74)) ?_
              refine s_nil ?_
              refine W_if_t (by decide) rfl ?_
              refine W_skip ?_
              refine W_seq ?_
              refine W_block ?_
              refine W_seq ?_
              have B0_79 := B
              refine W_draw (no) T3.mx (by kernel_rfl) (fun w77 e78 => ?_)
              have R80 := Ext.refl (no) w72
              replace R80 := R80.trans (Ext0.any e78)
              replace B := B.ext0 e78
              clear e78
              refine m_y (v := .slice a50 (List.length (ringL v8 v9 v32 v37 (1 + v42))) c51) 0 rfl (by kernel_rfl) rfl rfl (fun w' e' => y_move rfl) ?_
              refine m_y (v := .int .i64 k) 1 rfl (by kernel_rfl) rfl rfl (fun w' e' => y_move rfl) ?_
              refine m_y (v := .pointer (some (sat a50 ((k).toNat * 2)))) 2 rfl (by kernel_rfl) rfl rfl (fun w' e' => y_idx T3.sl_29_33_2 rfl rfl ((B.o 1 rfl).rd.addr (by omega)) (by omega) (by omega)) ?_
              have hR81 := Rd.atP (B0_79.o 1 rfl).rd k (by omega) (by omega)
              refine m_y (v := .agg #[.int .i64 ((gl (ringL v8 v9 v32 v37 (1 + v42)) k).1), .int .i64 ((gl (ringL v8 v9 v32 v37 (1 + v42)) k).2)]) 3 rfl (by kernel_rfl) rfl rfl (fun w' e' => y_loadR (vs := [.int .i64 ((gl (ringL v8 v9 v32 v37 (1 + v42)) k).1), .int .i64 ((gl (ringL v8 v9 v32 v37 (1 + v42)) k).2)]) T3.agg_33_2 rfl rfl (by decide) (hR81.ext0 e')) ?_
              refine m_y (v := .slice A0 NN0 CC0) 4 rfl (by kernel_rfl) rfl rfl (fun w' e' => y_move rfl) ?_
              refine m_y (v := .int .i64 k) 5 rfl (by kernel_rfl) rfl rfl (fun w' e' => y_move rfl) ?_
              refine m_y (v := .pointer (some (sat A0 ((k).toNat * 2)))) 6 rfl (by kernel_rfl) rfl rfl (fun w' e' => y_idx T3.sl_29_33_2 rfl rfl ((B.o 0 rfl).rd.addr (by omega)) (by omega) (by omega)) ?_
              have hR82 := Rd.atP (B0_79.o 0 rfl).rd k (by omega) (by omega)
              refine m_y (v := .agg #[.int .i64 ((gl (ringL v8 v9 v32 v37 (1 + v42)) k).1), .int .i64 ((gl (ringL v8 v9 v32 v37 (1 + v42)) k).2)]) 7 rfl (by kernel_rfl) rfl rfl (fun w' e' => y_loadR (vs := [.int .i64 ((gl (ringL v8 v9 v32 v37 (1 + v42)) k).1), .int .i64 ((gl (ringL v8 v9 v32 v37 (1 + v42)) k).2)]) T3.agg_33_2 rfl rfl (by decide) (hR82.ext0 e')) ?_
              refine m_y (v := .bool false) 8 rfl (by kernel_rfl) rfl rfl (fun w' e' => y_neq2 T3.eq2_33 rfl rfl (by simp)) ?_
              refine m_done (by kernel_rfl) (fun w83 e84 => ?_)
              replace B := B.ext0 e84
              clear e84
              clear B0_79 R80
              refine W_if_f (by decide) rfl ?_
              refine W_skip ?_
              refine W_region (by kernel_rfl) ?_
              refine s_y (v := .int .i64 k) rfl (y_move rfl) ?_
              refine s_y (v := .int .i64 (k + 1)) rfl (y_add rfl rfl rfl (by omega)) ?_
              refine s_y (v := .int .i64 (k + 1)) rfl (y_assign rfl) ?_
              refine s_nil ?_
              refine ⟨⟨_, k + 1, Fits.eq ⟨rfl, rfl, rfl, rfl, trivial⟩, B, (by omega), (by omega)⟩, ?_⟩
              show (((List.length (ringL v8 v9 v32 v37 (1 + v42)) : Nat) : Int) - (k + 1)).toNat < (((List.length (ringL v8 v9 v32 v37 (1 + v42)) : Nat) : Int) - k).toNat
              omega
            · refine s_y (v := .bool false) rfl (y_lss rfl rfl (decide_eq_false c74)) ?_
              refine s_nil ?_
              refine W_if_f (by decide) rfl ?_
              refine W_exit ?_
              refine W_seq ?_
              refine W_region (by kernel_rfl) ?_
              refine s_y (v := .agg #[.int .i64 v8, .int .i64 v9, .bool vb10, .slice a11 c12 c13, .slice a15 c16 c17]) rfl (y_loadn (b := b25) (o := 0) (vs := [.int .i64 v8, .int .i64 v9, .bool vb10, .slice a11 c12 c13, .slice a15 c16 c17]) T3.agg_26_5 rfl rfl ((B.b 2 rfl).cells (o := 0) rfl)) ?_
              refine s_y (v := .slice a50 (List.length (ringL v8 v9 v32 v37 (1 + v42))) c51) rfl (y_move rfl) ?_
              refine s_k rfl (k_call T3.fn_20 (c_i_AreProbes ((B.o 3 rfl).rd) ((B.o 4 rfl).rd) ((B.o 1 rfl).rd) (by omega) (by omega)) rfl ?_)
              rintro v87 w85 ⟨hv88, e86⟩
              replace B := B.ext0 e86
              clear e86
              have hk89 : areProbesB v8 v9 Z14 Z18 (ringL v8 v9 v32 v37 (1 + v42)) = true := (ring_areProbes hp21 hrb)
              have hb90 := areProbesB_b hk89
              obtain rfl : v87 = .bool true := hv88.trans (congrArg Value.bool hk89)
              refine s_y (v := .bool true) rfl (y_assign rfl) ?_
              refine s_nil ?_
              refine W_ret ?_
              refine ret1 (v := .bool true) rfl rfl rfl ⟨_, rfl, ?_⟩
              exact ⟨rfl, B.ext⟩
    · obtain ⟨_, rfl, e91⟩ := hx46.resolve_left (fun hz => c48 hz.1)
      clear hx46
      replace B := B.ext0 e91
      clear e91
      refine s_y (v := .tuple #[.slice none 0 0, .bool false]) rfl (y_move rfl) ?_
      refine s_y (v := .slice none 0 0) rfl (y_extract rfl rfl) ?_
      refine s_y (v := .bool false) rfl (y_extract rfl rfl) ?_
      refine s_y (v := .slice none 0 0) rfl (y_assign rfl) ?_
      refine s_y (v := .bool false) rfl (y_assign rfl) ?_
      refine s_nil ?_
      refine W_seq ?_
      refine W_region (by kernel_rfl) ?_
      refine s_k rfl (k_bsliceO (k := kP) (n := 0) (cells := #[]) (X := []) T3.slt_29 (by decide) (by first | rfl | kernel_rfl) (rfl : Reps kP [] []) rfl (fun b92 w93 hN94 => ?_))
      replace B := B.new1 hN94
      clear hN94
      refine s_y (v := .slice (some ⟨b92, 0, none⟩) 0 0) rfl (y_assign rfl) ?_
      refine s_nil ?_
      refine W_seq ?_
      refine W_seq ?_
      refine W_region (by kernel_rfl) ?_
      refine s_y (v := .int .i64 0) rfl (y_assign rfl) ?_
      refine s_nil ?_
      refine W_block ?_
      refine W_loop (fun ρ' w' => ∃ (ρ1 : Env) (py : Int) (A0 : Option Addr) (CC0 : Nat) (NN0 : Nat), ρ' = updL ρ1 [(4, .bool false), (5, .pointer (some ⟨b25, 0, none⟩)), (6, .int .i64 v32), (7, .int .i64 v37), (8, .int .i64 (1 + v42)), (9, .slice none 0 0), (10, .bool false), (11, .slice A0 NN0 CC0), (12, .int .i64 py)] ∧ Bu w no w' [.ow kP A0 NN0 CC0 33 (boxN 0 0 (Int.toNat v8) (ringP v32 v37 (1 + v42)) (Int.toNat py)), .blk b25 [.int .i64 v8, .int .i64 v9, .bool vb10, .slice a11 c12 c13, .slice a15 c16 c17] 26, .ow kF a11 c12 c13 56 Z14, .ow kF a15 c16 c17 56 Z18, .rd kY a0 n0 X0, .rd kY a1 n1 X1] ∧ (0 ≤ py) ∧ (py ≤ v9)) (fun ρ' _ => (v9 - iv (ρ' 12)).toNat) ?_ ?_
      · replace B : Bu w no w93 [.ow kP (some ⟨b92, 0, none⟩) 0 0 33 (boxN 0 0 (Int.toNat v8) (ringP v32 v37 (1 + v42)) (Int.toNat 0)), .blk b25 [.int .i64 v8, .int .i64 v9, .bool vb10, .slice a11 c12 c13, .slice a15 c16 c17] 26, .ow kF a11 c12 c13 56 Z14, .ow kF a15 c16 c17 56 Z18, .rd kY a0 n0 X0, .rd kY a1 n1 X1] := B.castX 0 rfl rfl rfl
        exact ⟨_, 0, (some ⟨b92, 0, none⟩), 0, 0, Fits.eq ⟨rfl, rfl, rfl, rfl, rfl, rfl, rfl, rfl, rfl, trivial⟩, B, (Int.le_refl _), (by omega)⟩
      · clear B; rintro _ w95 ⟨ρ96, py, A0, CC0, NN0, rfl, B, h0py, h1py⟩
        have hNN0 := (B.o 0 rfl).len
        have hsNN0 : (boxN 0 0 (Int.toNat v8) (ringP v32 v37 (1 + v42)) (Int.toNat py)).length ≤ 5000 := Nat.le_trans (boxN_len (by omega) _ (by omega)) (by omega)
        refine W_seq ?_
        refine W_seq ?_
        refine W_region (by kernel_rfl) ?_
        refine s_y (v := .int .i64 py) rfl (y_move rfl) ?_
        refine s_y (v := .pointer (some ⟨b25, 1, none⟩)) rfl (y_fld (o := 0) T3.fld_26_1_1 rfl) ?_
        refine s_y (v := .int .i64 v9) rfl (y_load T3.one_2 rfl ((B.b 1 rfl).cell (j := 1) rfl)) ?_
        by_cases c97 : py < v9
        · refine s_y (v := .bool true) rfl (y_lss rfl rfl (decide_eq_true c97)) ?_
          refine s_nil ?_
          refine W_if_t (by decide) rfl ?_
          refine W_skip ?_
          refine W_seq ?_
          refine W_block ?_
          refine W_seq ?_
          refine W_region (by kernel_rfl) ?_
          refine s_y (v := .int .i64 0) rfl (y_assign rfl) ?_
          refine s_nil ?_
          refine W_block ?_
          refine W_loop (fun ρ' w' => ∃ (ρ1 : Env) (px : Int) (A9 : Option Addr) (CC9 : Nat) (NN9 : Nat), ρ' = updL ρ1 [(4, .bool false), (5, .pointer (some ⟨b25, 0, none⟩)), (6, .int .i64 v32), (7, .int .i64 v37), (8, .int .i64 (1 + v42)), (9, .slice none 0 0), (10, .bool false), (11, .slice A9 NN9 CC9), (12, .int .i64 py), (13, .int .i64 px), (41, .int .i64 py), (42, .pointer (some ⟨b25, 1, none⟩)), (43, .int .i64 v9), (44, .bool true)] ∧ Bu w no w' [.ow kP A9 NN9 CC9 33 (inL 0 0 (Int.toNat v8) (ringP v32 v37 (1 + v42)) (Int.toNat py) py px), .blk b25 [.int .i64 v8, .int .i64 v9, .bool vb10, .slice a11 c12 c13, .slice a15 c16 c17] 26, .ow kF a11 c12 c13 56 Z14, .ow kF a15 c16 c17 56 Z18, .rd kY a0 n0 X0, .rd kY a1 n1 X1] ∧ (0 ≤ px) ∧ (px ≤ v8)) (fun ρ' _ => (v8 - iv (ρ' 13)).toNat) ?_ ?_
          · replace B : Bu w no w95 [.ow kP A0 NN0 CC0 33 (inL 0 0 (Int.toNat v8) (ringP v32 v37 (1 + v42)) (Int.toNat py) py 0), .blk b25 [.int .i64 v8, .int .i64 v9, .bool vb10, .slice a11 c12 c13, .slice a15 c16 c17] 26, .ow kF a11 c12 c13 56 Z14, .ow kF a15 c16 c17 56 Z18, .rd kY a0 n0 X0, .rd kY a1 n1 X1] := B.castX 0 rfl rfl inL_zero
            exact ⟨_, 0, A0, CC0, NN0, Fits.eq ⟨rfl, rfl, rfl, rfl, rfl, rfl, rfl, rfl, rfl, rfl, rfl, rfl, rfl, rfl, trivial⟩, B, (Int.le_refl _), (by omega)⟩
          · clear B; rintro _ w98 ⟨ρ99, px, A9, CC9, NN9, rfl, B, h0px, h1px⟩
            have hNN9 := (B.o 0 rfl).len
            have hsNN9 : (inL 0 0 (Int.toNat v8) (ringP v32 v37 (1 + v42)) (Int.toNat py) py px).length ≤ 5000 := inL_len (by omega) (by omega) (by omega)
            refine W_seq ?_
            refine W_seq ?_
            refine W_region (by kernel_rfl) ?_
            refine s_y (v := .int .i64 px) rfl (y_move rfl) ?_
            refine s_y (v := .pointer (some ⟨b25, 0, none⟩)) rfl (y_fld (o := 0) T3.fld_26_0_0 rfl) ?_
            refine s_y (v := .int .i64 v8) rfl (y_load T3.one_2 rfl ((B.b 1 rfl).cell (j := 0) rfl)) ?_
            by_cases c100 : px < v8
            · refine s_y (v := .bool true) rfl (y_lss rfl rfl (decide_eq_true c100)) ?_
              refine s_nil ?_
              refine W_if_t (by decide) rfl ?_
              refine W_skip ?_
              refine W_seq ?_
              refine W_block ?_
              refine W_seq ?_
              refine W_region (by kernel_rfl) ?_
              refine s_y (v := .int .i64 px) rfl (y_move rfl) ?_
              refine s_y (v := .int .i64 v32) rfl (y_move rfl) ?_
              refine s_y (v := .int .i64 (px - v32)) rfl (y_sub rfl rfl rfl (by omega)) ?_
              refine s_y (v := .int .i64 v32) rfl (y_move rfl) ?_
              refine s_y (v := .int .i64 px) rfl (y_move rfl) ?_
              refine s_y (v := .int .i64 (v32 - px)) rfl (y_sub rfl rfl rfl (by omega)) ?_
              refine s_y (v := .int .i64 (max (px - v32) (v32 - px))) rfl (y_max2 rfl rfl rfl) ?_
              refine s_y (v := .int .i64 py) rfl (y_move rfl) ?_
              refine s_y (v := .int .i64 v37) rfl (y_move rfl) ?_
              refine s_y (v := .int .i64 (py - v37)) rfl (y_sub rfl rfl rfl (by omega)) ?_
              refine s_y (v := .int .i64 v37) rfl (y_move rfl) ?_
              refine s_y (v := .int .i64 py) rfl (y_move rfl) ?_
              refine s_y (v := .int .i64 (v37 - py)) rfl (y_sub rfl rfl rfl (by omega)) ?_
              refine s_y (v := .int .i64 (max (py - v37) (v37 - py))) rfl (y_max2 rfl rfl rfl) ?_
              refine s_y (v := .int .i64 (max (max (px - v32) (v32 - px)) (max (py - v37) (v37 - py)))) rfl (y_max2 rfl rfl rfl) ?_
              refine s_y (v := .int .i64 (max (max (px - v32) (v32 - px)) (max (py - v37) (v37 - py)))) rfl (y_assign rfl) ?_
              refine s_nil ?_
              refine W_seq ?_
              refine W_region (by kernel_rfl) ?_
              refine s_y (v := .int .i64 (max (max (px - v32) (v32 - px)) (max (py - v37) (v37 - py)))) rfl (y_move rfl) ?_
              refine s_y (v := .int .i64 (1 + v42)) rfl (y_move rfl) ?_
              by_cases c101 : (max (max (px - v32) (v32 - px)) (max (py - v37) (v37 - py))) = (1 + v42)
              · refine s_y (v := .bool true) rfl (y_eql rfl rfl (decide_eq_true c101)) ?_
                refine s_nil ?_
                refine W_if_t (by decide) rfl ?_
                refine W_region (by kernel_rfl) ?_
                refine s_y (v := .slice A9 NN9 CC9) rfl (y_move rfl) ?_
                refine s_y (v := .int .i64 px) rfl (y_move rfl) ?_
                refine s_y (v := .int .i64 py) rfl (y_move rfl) ?_
                refine s_y (v := .agg #[.int .i64 px, .int .i64 py]) rfl (y_build (cells := #[.int .i64 px, .int .i64 py]) (by kernel_rfl)) ?_
                refine s_k rfl (k_bsliceO (k := kP) (n := 1) (cells := #[.int .i64 px, .int .i64 py]) (X := [(px, py)]) T3.slt_29 (by decide) (by first | rfl | kernel_rfl) (reps_cons (c := [.int .i64 px, .int .i64 py]) rfl (rfl : Reps kP [] [])) rfl (fun b102 w103 hN104 => ?_))
                replace B := B.new1 hN104
                clear hN104
                refine s_k rfl (k_appO (k := kP) T3.slt_29 rfl rfl rfl (B.o 1 rfl) (B.o 0 rfl).rd (by omega) (by unfold maxLen; omega) (fun a105 c106 w107 hU108 => ?_))
                replace B : Bu w no w107 [.ow kP a105 (NN9 + 1) c106 33 ((inL 0 0 (Int.toNat v8) (ringP v32 v37 (1 + v42)) (Int.toNat py) py px) ++ ([(px, py)])), .ow kP (some ⟨b102, 0, none⟩) 1 1 33 ([(px, py)]), .blk b25 [.int .i64 v8, .int .i64 v9, .bool vb10, .slice a11 c12 c13, .slice a15 c16 c17] 26, .ow kF a11 c12 c13 56 Z14, .ow kF a15 c16 c17 56 Z18, .rd kY a0 n0 X0, .rd kY a1 n1 X1] := B.upd [1] rfl hU108
                clear hU108
                refine s_y (v := .slice a105 (NN9 + 1) c106) rfl (y_assign rfl) ?_
                refine s_nil ?_
                refine W_region (by kernel_rfl) ?_
                refine s_y (v := .int .i64 px) rfl (y_move rfl) ?_
                refine s_y (v := .int .i64 (px + 1)) rfl (y_add rfl rfl rfl (by omega)) ?_
                refine s_y (v := .int .i64 (px + 1)) rfl (y_assign rfl) ?_
                refine s_nil ?_
                replace B : Bu w no w107 [.ow kP a105 (NN9 + 1) c106 33 (inL 0 0 (Int.toNat v8) (ringP v32 v37 (1 + v42)) (Int.toNat py) py (px + 1)), .ow kP (some ⟨b102, 0, none⟩) 1 1 33 ([(px, py)]), .blk b25 [.int .i64 v8, .int .i64 v9, .bool vb10, .slice a11 c12 c13, .slice a15 c16 c17] 26, .ow kF a11 c12 c13 56 Z14, .ow kF a15 c16 c17 56 Z18, .rd kY a0 n0 X0, .rd kY a1 n1 X1] := B.castX 0 rfl rfl (inL_yes (by omega) (by omega) (ringP_of (decide_eq_true c101)))
                refine ⟨⟨_, px + 1, a105, c106, NN9 + 1, Fits.eq ⟨rfl, rfl, rfl, rfl, rfl, rfl, rfl, rfl, rfl, rfl, rfl, rfl, rfl, rfl, trivial⟩, (B.pick [0, 2, 3, 4, 5, 6] rfl rfl), (by omega), (by omega)⟩, ?_⟩
                show (v8 - (px + 1)).toNat < (v8 - (px)).toNat
                omega
              · refine s_y (v := .bool false) rfl (y_eql rfl rfl (decide_eq_false c101)) ?_
                refine s_nil ?_
                refine W_if_f (by decide) rfl ?_
                refine W_skip ?_
                refine W_region (by kernel_rfl) ?_
                refine s_y (v := .int .i64 px) rfl (y_move rfl) ?_
                refine s_y (v := .int .i64 (px + 1)) rfl (y_add rfl rfl rfl (by omega)) ?_
                refine s_y (v := .int .i64 (px + 1)) rfl (y_assign rfl) ?_
                refine s_nil ?_
                replace B : Bu w no w98 [.ow kP A9 NN9 CC9 33 (inL 0 0 (Int.toNat v8) (ringP v32 v37 (1 + v42)) (Int.toNat py) py (px + 1)), .blk b25 [.int .i64 v8, .int .i64 v9, .bool vb10, .slice a11 c12 c13, .slice a15 c16 c17] 26, .ow kF a11 c12 c13 56 Z14, .ow kF a15 c16 c17 56 Z18, .rd kY a0 n0 X0, .rd kY a1 n1 X1] := B.castX 0 rfl rfl (inL_no (by omega) (by omega) (ringP_of (decide_eq_false c101)))
                refine ⟨⟨_, px + 1, A9, CC9, NN9, Fits.eq ⟨rfl, rfl, rfl, rfl, rfl, rfl, rfl, rfl, rfl, rfl, rfl, rfl, rfl, rfl, trivial⟩, B, (by omega), (by omega)⟩, ?_⟩
                show (v8 - (px + 1)).toNat < (v8 - (px)).toNat
                omega
            · refine s_y (v := .bool false) rfl (y_lss rfl rfl (decide_eq_false c100)) ?_
              refine s_nil ?_
              refine W_if_f (by decide) rfl ?_
              refine W_exit ?_
              refine W_region (by kernel_rfl) ?_
              refine s_y (v := .int .i64 py) rfl (y_move rfl) ?_
              refine s_y (v := .int .i64 (py + 1)) rfl (y_add rfl rfl rfl (by omega)) ?_
              refine s_y (v := .int .i64 (py + 1)) rfl (y_assign rfl) ?_
              refine s_nil ?_
              replace B : Bu w no w98 [.ow kP A9 NN9 CC9 33 (boxN 0 0 (Int.toNat v8) (ringP v32 v37 (1 + v42)) (Int.toNat (py + 1))), .blk b25 [.int .i64 v8, .int .i64 v9, .bool vb10, .slice a11 c12 c13, .slice a15 c16 c17] 26, .ow kF a11 c12 c13 56 Z14, .ow kF a15 c16 c17 56 Z18, .rd kY a0 n0 X0, .rd kY a1 n1 X1] := B.castX 0 rfl rfl (inL_row (by omega) (by omega) (by omega))
              refine ⟨⟨_, py + 1, A9, CC9, NN9, Fits.eq ⟨rfl, rfl, rfl, rfl, rfl, rfl, rfl, rfl, rfl, trivial⟩, B, (by omega), (by omega)⟩, ?_⟩
              show (v9 - (py + 1)).toNat < (v9 - (py)).toNat
              omega
        · refine s_y (v := .bool false) rfl (y_lss rfl rfl (decide_eq_false c97)) ?_
          refine s_nil ?_
          refine W_if_f (by decide) rfl ?_
          refine W_exit ?_
          obtain rfl : v9 = py := by omega
          replace B : Bu w no w95 [.ow kP A0 NN0 CC0 33 (ringL v8 v9 v32 v37 (1 + v42)), .blk b25 [.int .i64 v8, .int .i64 v9, .bool vb10, .slice a11 c12 c13, .slice a15 c16 c17] 26, .ow kF a11 c12 c13 56 Z14, .ow kF a15 c16 c17 56 Z18, .rd kY a0 n0 X0, .rd kY a1 n1 X1] := B.castX 0 rfl rfl rfl
          have hlen : (ringL v8 v9 v32 v37 (1 + v42)).length = NN0 := hNN0
          have hrb := ring_far hp21 (by omega) (by omega) (by omega) (by omega) (by omega) (by omega) c48
          refine W_seq ?_
          refine W_seq ?_
          refine W_region (by kernel_rfl) ?_
          refine s_y (v := .bool false) rfl (y_move rfl) ?_
          refine s_y (v := .slice A0 NN0 CC0) rfl (y_move rfl) ?_
          refine s_y (v := .int .i64 ((NN0 : Nat) : Int)) rfl (y_len T3.sl_29_33_2 rfl rfl) ?_
          have hk109 : ¬ (((NN0 : Nat) : Int) ≤ 8) := (by omega)
          refine s_y (v := .bool false) rfl (y_leq rfl rfl (decide_eq_false hk109)) ?_
          refine s_y (v := .bool false) rfl (y_bneq T3.bool_4 rfl rfl rfl) ?_
          refine s_nil ?_
          refine W_if_f (by decide) rfl ?_
          refine W_skip ?_
          refine W_seq ?_
          refine W_seq ?_
          refine W_region (by kernel_rfl) ?_
          refine s_y (v := .bool false) rfl (y_move rfl) ?_
          refine s_y (v := .bool true) rfl (y_not rfl rfl) ?_
          refine s_nil ?_
          refine W_if_t (by decide) rfl ?_
          refine W_seq ?_
          refine W_region (by kernel_rfl) ?_
          refine s_y (v := .slice none 0 0) rfl (y_move rfl) ?_
          refine s_y (v := .int .i64 0) rfl (y_len T3.sl_29_33_2 rfl rfl) ?_
          have hk110 : (0 : Int) = 0 := (by decide)
          refine s_y (v := .bool true) rfl (y_eql rfl rfl (decide_eq_true hk110)) ?_
          refine s_y (v := .bool true) rfl (y_move rfl) ?_
          refine s_y (v := .agg #[.int .i64 v8, .int .i64 v9, .bool vb10, .slice a11 c12 c13, .slice a15 c16 c17]) rfl (y_loadn (b := b25) (o := 0) (vs := [.int .i64 v8, .int .i64 v9, .bool vb10, .slice a11 c12 c13, .slice a15 c16 c17]) T3.agg_26_5 rfl rfl ((B.b 1 rfl).cells (o := 0) rfl)) ?_
          refine s_k rfl (k_call T3.fn_19 (c_i_ValidSheet ((B.o 2 rfl).rd) ((B.o 3 rfl).rd) (by omega) (by omega)) rfl ?_)
          rintro v113 w111 ⟨hv114, e112⟩
          replace B := B.ext0 e112
          clear e112
          obtain rfl : v113 = .bool true := hv114.trans (congrArg Value.bool hp21)
          refine s_y (v := .bool true) rfl (y_pick_t rfl rfl) ?_
          refine s_y (v := .bool true) rfl (y_assign rfl) ?_
          refine s_nil ?_
          refine W_ret ?_
          refine ret1 (v := .bool true) rfl rfl rfl ⟨_, rfl, ?_⟩
          exact ⟨rfl, B.ext⟩
end Go.Proofs.Ytalkhbnlphefdaa
