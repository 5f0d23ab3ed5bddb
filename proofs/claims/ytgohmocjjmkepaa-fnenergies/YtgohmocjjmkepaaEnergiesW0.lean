/- Walks: what the functions under FnEnergies do (part 1). Printed by a program of this claim's author. -/
import Derived.Test.YtgohmocjjmkepaaBw1
set_option linter.unusedSimpArgs false
set_option linter.unusedVariables false
open Go.Wv
namespace Go.Proofs.Ytgohmocjjmkepaa
open Go.Proofs
namespace T22
theorem mx : Try.prog.follows .mixedOrders = true := by kernel_rfl
theorem sl_22_5_1 : slB Try.prog 22 5 1 = true := by kernel_rfl
end T22
set_option maxRecDepth 100000 in
set_option maxHeartbeats 4000000 in
theorem c_l_r8Long {aq : Option Addr} {nq : Nat} {cq : Nat} {Xq : List Nat} {ar : Option Addr} {nr : Nat} {cr : Nat} {Xr : List Nat} {w : World} (qq : Rd w kY aq nq Xq) (qr : Rd w kY ar nr Xr) (gq : nq ≤ 9223372036854775807) (gr : nr ≤ 9223372036854775807) :
    Calls Try.prog 22 #[.slice aq nq cq, .slice ar nr cr] w (Rt fun v w' => v = .bool ((decide (48 < (nq : Int)) || decide (48 < (nr : Int)))) ∧ Ext0 w w') := by
  have hlq := qq.len
  have hlr := qr.len
  have B : Bu w no w [.rd kY aq nq Xq, .rd kY ar nr Xr] := Bu.ro (All.cons qq (All.cons qr All.nil)) rfl
  refine calls_W (n := 13) Try.func22 rfl rfl (Nat.le_of_ble_eq_true rfl) ?_
  refine W_seq ?_
  refine W_region (by kernel_rfl) ?_
  refine s_y (v := .bool false) rfl (y_assign rfl) ?_
  refine s_nil ?_
  refine W_seq ?_
  refine W_region (by kernel_rfl) ?_
  refine s_y (v := .slice aq nq cq) rfl (y_move rfl) ?_
  refine s_y (v := .int .i64 ((nq : Nat) : Int)) rfl (y_len T22.sl_22_5_1 rfl rfl) ?_
  by_cases c1 : 48 < ((nq : Nat) : Int)
  · refine s_y (v := .bool true) rfl (y_gtr rfl rfl (decide_eq_true c1)) ?_
    refine s_y (v := .bool true) rfl (y_move rfl) ?_
    refine s_skip rfl ?_
    refine s_skip rfl ?_
    refine s_skip rfl ?_
    refine s_y (v := .bool true) rfl (y_pick_t rfl rfl) ?_
    refine s_y (v := .bool true) rfl (y_assign rfl) ?_
    refine s_nil ?_
    refine W_ret ?_
    refine ret1 (v := .bool true) rfl rfl rfl ⟨_, rfl, ?_⟩
    exact ⟨congrArg Value.bool (by simp only [(decide_eq_true c1), Bool.and_true, Bool.true_and, Bool.and_false, Bool.false_and, Bool.not_true, Bool.not_false, Bool.or_true, Bool.true_or, Bool.or_false, Bool.false_or]), B.ext⟩
  · refine s_y (v := .bool false) rfl (y_gtr rfl rfl (decide_eq_false c1)) ?_
    refine s_y (v := .bool false) rfl (y_move rfl) ?_
    refine s_y (v := .slice ar nr cr) rfl (y_move rfl) ?_
    refine s_y (v := .int .i64 ((nr : Nat) : Int)) rfl (y_len T22.sl_22_5_1 rfl rfl) ?_
    by_cases c2 : 48 < ((nr : Nat) : Int)
    · refine s_y (v := .bool true) rfl (y_gtr rfl rfl (decide_eq_true c2)) ?_
      refine s_y (v := .bool true) rfl (y_pick_f rfl rfl) ?_
      refine s_y (v := .bool true) rfl (y_assign rfl) ?_
      refine s_nil ?_
      refine W_ret ?_
      refine ret1 (v := .bool true) rfl rfl rfl ⟨_, rfl, ?_⟩
      exact ⟨congrArg Value.bool (by simp only [(decide_eq_false c1), (decide_eq_true c2), Bool.and_true, Bool.true_and, Bool.and_false, Bool.false_and, Bool.not_true, Bool.not_false, Bool.or_true, Bool.true_or, Bool.or_false, Bool.false_or]), B.ext⟩
    · refine s_y (v := .bool false) rfl (y_gtr rfl rfl (decide_eq_false c2)) ?_
      refine s_y (v := .bool false) rfl (y_pick_f rfl rfl) ?_
      refine s_y (v := .bool false) rfl (y_assign rfl) ?_
      refine s_nil ?_
      refine W_ret ?_
      refine ret1 (v := .bool false) rfl rfl rfl ⟨_, rfl, ?_⟩
      exact ⟨congrArg Value.bool (by simp only [(decide_eq_false c1), (decide_eq_false c2), Bool.and_true, Bool.true_and, Bool.and_false, Bool.false_and, Bool.not_true, Bool.not_false, Bool.or_true, Bool.true_or, Bool.or_false, Bool.false_or]), B.ext⟩
namespace T63
theorem mx : Try.prog.follows .mixedOrders = true := by kernel_rfl
end T63
set_option maxRecDepth 100000 in
set_option maxHeartbeats 4000000 in
theorem c_s_l00From {aq : Option Addr} {nq : Nat} {cq : Nat} {Xq : List Nat} {w : World} (qq : Rd w kY aq nq Xq) :
    Calls Try.prog 63 #[.slice aq nq cq] w (Rt fun v w' => ∃ b, v = .pointer (some ⟨b, 0, none⟩) ∧ New w w' [.blk b [.slice aq nq cq, .int .i64 0, .int .u64 0] 131]) := by
  have hlq := qq.len
  have B : Bu w no w [.rd kY aq nq Xq] := Bu.ro (All.cons qq All.nil) rfl
  refine calls_W (n := 6) Try.func63 rfl rfl (Nat.le_of_ble_eq_true rfl) ?_
  refine W_seq ?_
  refine W_region (by kernel_rfl) ?_
  refine s_y (v := .pointer none) rfl (y_assign rfl) ?_
  refine s_nil ?_
  refine W_seq ?_
  refine W_region (by kernel_rfl) ?_
  refine s_y (v := .slice aq nq cq) rfl (y_move rfl) ?_
  refine s_y (v := .agg #[.slice aq nq cq, .int .i64 0, .int .u64 0]) rfl (y_build (cells := #[.slice aq nq cq, .int .i64 0, .int .u64 0]) (by kernel_rfl)) ?_
  refine s_k rfl (k_boxN (v := .agg #[.slice aq nq cq, .int .i64 0, .int .u64 0]) (cs := [.slice aq nq cq, .int .i64 0, .int .u64 0]) rfl rfl (fun b1 w2 hN3 => ?_))
  replace B := B.new1 hN3
  clear hN3
  refine s_y (v := .pointer (some ⟨b1, 0, none⟩)) rfl (y_assign rfl) ?_
  refine s_nil ?_
  refine W_ret ?_
  refine ret1 (v := .pointer (some ⟨b1, 0, none⟩)) rfl rfl rfl ⟨_, rfl, ?_⟩
  exact ⟨_, rfl, B.give [0] rfl rfl rfl⟩
namespace T126
theorem mx : Try.prog.follows .mixedOrders = true := by kernel_rfl
theorem fld_131_0_0 : fldB Try.prog 131 0 0 = true := by kernel_rfl
theorem fld_131_1_1 : fldB Try.prog 131 1 1 = true := by kernel_rfl
theorem fld_131_2_2 : fldB Try.prog 131 2 2 = true := by kernel_rfl
theorem int_129_u64 : Try.prog.underlying 129 = some (.int .u64) := by kernel_rfl
theorem int_2_i64 : Try.prog.underlying 2 = some (.int .i64) := by kernel_rfl
theorem int_3_i64 : Try.prog.underlying 3 = some (.int .i64) := by kernel_rfl
theorem one_129 : oneB Try.prog 129 = true := by kernel_rfl
theorem one_22 : oneB Try.prog 22 = true := by kernel_rfl
theorem one_3 : oneB Try.prog 3 = true := by kernel_rfl
theorem one_5 : oneB Try.prog 5 = true := by kernel_rfl
theorem sl_22_5_1 : slB Try.prog 22 5 1 = true := by kernel_rfl
theorem sz_129_1 : szB Try.prog 129 1 = true := by kernel_rfl
theorem sz_3_1 : szB Try.prog 3 1 = true := by kernel_rfl
theorem und_129 : (Try.prog.underlying 129).isSome = true := by kernel_rfl
theorem und_3 : (Try.prog.underlying 3).isSome = true := by kernel_rfl
theorem und_5 : (Try.prog.underlying 5).isSome = true := by kernel_rfl
end T126
set_option maxRecDepth 100000 in
set_option maxHeartbeats 4000000 in
theorem c_s_next {bs : Nat} {aq : Option Addr} {nq cq : Nat} {Xq : List Nat} {p sd : Int} {w : World} (hp0 : 0 ≤ p) (hp1 : p ≤ 1000000) (HA : All w [.blk bs [.slice aq nq cq, .int .i64 p, .int .u64 sd] 131, .rd kY aq nq Xq]) (HP : Pw [.blk bs [.slice aq nq cq, .int .i64 p, .int .u64 sd] 131, .rd kY aq nq Xq]) :
    Calls Try.prog 126 #[.pointer (some ⟨bs, 0, none⟩)] w (Rt fun v w' => v = .int .i64 (nxV Xq p sd) ∧ Upd w w' [.blk bs [.slice aq nq cq, .int .i64 p, .int .u64 sd] 131] [.blk bs [.slice aq nq cq, .int .i64 (p + 1), .int .u64 (nxS Xq p sd)] 131]) := by
  have B : Bu w (hasW [.blk bs [.slice aq nq cq, .int .i64 p, .int .u64 sd] 131]) w [.blk bs [.slice aq nq cq, .int .i64 p, .int .u64 sd] 131, .rd kY aq nq Xq] := Bu.initW (W := [.blk bs [.slice aq nq cq, .int .i64 p, .int .u64 sd] 131]) (R := [.rd kY aq nq Xq]) HA HP rfl
  have hlq := (B.r 1 rfl).len
  refine calls_W (n := 62) Try.func126 rfl rfl (Nat.le_of_ble_eq_true rfl) ?_
  refine W_seq ?_
  refine W_region (by kernel_rfl) ?_
  refine s_y (v := .int .i64 0) rfl (y_assign rfl) ?_
  refine s_nil ?_
  refine W_seq ?_
  refine W_region (by kernel_rfl) ?_
  refine s_y (v := .int .i64 0) rfl (y_assign rfl) ?_
  refine s_nil ?_
  refine W_seq ?_
  refine W_seq ?_
  have B0_5 := B
  refine W_draw (no) T126.mx (by kernel_rfl) (fun w3 e4 => ?_)
  have R6 := Ext.refl (no) w
  replace R6 := R6.trans (Ext0.any e4)
  replace B := B.ext0 e4
  clear e4
  refine m_y (v := .pointer (some ⟨bs, 0, none⟩)) 0 rfl (by kernel_rfl) rfl rfl (fun w' e' => y_move rfl) ?_
  refine m_y (v := .pointer (some ⟨bs, 0, none⟩)) 1 rfl (by kernel_rfl) rfl rfl (fun w' e' => y_nil rfl) ?_
  refine m_y (v := .pointer (some ⟨bs, 1, none⟩)) 2 rfl (by kernel_rfl) rfl rfl (fun w' e' => y_fld (o := 0) T126.fld_131_1_1 rfl) ?_
  refine m_y (v := .int .i64 p) 3 rfl (by kernel_rfl) rfl rfl (fun w' e' => y_load T126.one_3 rfl (((B0_5.b 0 rfl).ext0 e').cell (j := 1) rfl)) ?_
  refine m_y (v := .pointer (some ⟨bs, 0, none⟩)) 4 rfl (by kernel_rfl) rfl rfl (fun w' e' => y_move rfl) ?_
  refine m_y (v := .pointer (some ⟨bs, 0, none⟩)) 5 rfl (by kernel_rfl) rfl rfl (fun w' e' => y_nil rfl) ?_
  refine m_y (v := .pointer (some ⟨bs, 0, none⟩)) 6 rfl (by kernel_rfl) rfl rfl (fun w' e' => y_fld (o := 0) T126.fld_131_0_0 rfl) ?_
  refine m_y (v := .slice aq nq cq) 7 rfl (by kernel_rfl) rfl rfl (fun w' e' => y_load T126.one_22 rfl (((B0_5.b 0 rfl).ext0 e').cell (j := 0) rfl)) ?_
  refine m_y (v := .int .i64 ((nq : Nat) : Int)) 8 rfl (by kernel_rfl) rfl rfl (fun w' e' => y_len T126.sl_22_5_1 rfl rfl) ?_
  by_cases c7 : p < ((nq : Nat) : Int)
  · refine m_y (v := .bool true) 9 rfl (by kernel_rfl) rfl rfl (fun w' e' => y_lss rfl rfl (decide_eq_true c7)) ?_
    refine m_done (by kernel_rfl) (fun w8 e9 => ?_)
    replace B := B.ext0 e9
    clear e9
    clear B0_5 R6
    refine W_if_t (by decide) rfl ?_
    have B0_14 := B
    refine W_draw (no) T126.mx (by kernel_rfl) (fun w12 e13 => ?_)
    have R15 := Ext.refl (no) w8
    replace R15 := R15.trans (Ext0.any e13)
    replace B := B.ext0 e13
    clear e13
    refine m_y (v := .pointer (some ⟨bs, 0, none⟩)) 0 rfl (by kernel_rfl) rfl rfl (fun w' e' => y_move rfl) ?_
    refine m_y (v := .pointer (some ⟨bs, 0, none⟩)) 1 rfl (by kernel_rfl) rfl rfl (fun w' e' => y_nil rfl) ?_
    refine m_y (v := .pointer (some ⟨bs, 0, none⟩)) 2 rfl (by kernel_rfl) rfl rfl (fun w' e' => y_fld (o := 0) T126.fld_131_0_0 rfl) ?_
    refine m_y (v := .slice aq nq cq) 3 rfl (by kernel_rfl) rfl rfl (fun w' e' => y_load T126.one_22 rfl (((B0_14.b 0 rfl).ext0 e').cell (j := 0) rfl)) ?_
    refine m_y (v := .pointer (some ⟨bs, 0, none⟩)) 4 rfl (by kernel_rfl) rfl rfl (fun w' e' => y_move rfl) ?_
    refine m_y (v := .pointer (some ⟨bs, 0, none⟩)) 5 rfl (by kernel_rfl) rfl rfl (fun w' e' => y_nil rfl) ?_
    refine m_y (v := .pointer (some ⟨bs, 1, none⟩)) 6 rfl (by kernel_rfl) rfl rfl (fun w' e' => y_fld (o := 0) T126.fld_131_1_1 rfl) ?_
    refine m_y (v := .int .i64 p) 7 rfl (by kernel_rfl) rfl rfl (fun w' e' => y_load T126.one_3 rfl (((B0_14.b 0 rfl).ext0 e').cell (j := 1) rfl)) ?_
    refine m_y (v := .pointer (some (sat aq ((p).toNat * 1)))) 8 rfl (by kernel_rfl) rfl rfl (fun w' e' => y_idx T126.sl_22_5_1 rfl rfl ((B.r 1 rfl).addr (by omega)) (by omega) (by omega)) ?_
    obtain ⟨hb17, hR16⟩ := Rd.atY (B0_14.r 1 rfl) p (by omega) (by omega)
    refine m_y (v := .int .u8 (byt Xq p)) 9 rfl (by kernel_rfl) rfl rfl (fun w' e' => y_load T126.one_5 rfl ((hR16.ext0 e').cell (i := 0) rfl)) ?_
    refine m_y (v := .int .i64 (byt Xq p)) 10 rfl (by kernel_rfl) rfl rfl (fun w' e' => y_ii T126.und_5 T126.int_3_i64 rfl (IntWalk.i64_in _ (by omega))) ?_
    refine m_y (v := .int .i64 (byt Xq p)) 11 rfl (by kernel_rfl) rfl rfl (fun w' e' => y_assign rfl) ?_
    refine m_done (by kernel_rfl) (fun w18 e19 => ?_)
    replace B := B.ext0 e19
    clear e19
    clear B0_14 R15
    refine W_seq ?_
    refine W_region (by kernel_rfl) ?_
    refine s_y (v := .pointer (some ⟨bs, 0, none⟩)) rfl (y_move rfl) ?_
    refine s_y (v := .pointer (some ⟨bs, 0, none⟩)) rfl (y_nil rfl) ?_
    refine s_y (v := .pointer (some ⟨bs, 1, none⟩)) rfl (y_fld (o := 0) T126.fld_131_1_1 rfl) ?_
    refine s_y (v := .int .i64 p) rfl (y_load T126.one_3 rfl ((B.b 0 rfl).cell (j := 1) rfl)) ?_
    refine s_y (v := .int .i64 (p + 1)) rfl (y_add rfl rfl rfl (by omega)) ?_
    refine s_y (v := .pointer (some ⟨bs, 0, none⟩)) rfl (y_nil rfl) ?_
    refine s_y (v := .pointer (some ⟨bs, 1, none⟩)) rfl (y_fld (o := 0) T126.fld_131_1_1 rfl) ?_
    refine s_k0 rfl (k_stB (v := .int .i64 (p + 1)) (n := 1) (cs' := [.slice aq nq cq, .int .i64 (p + 1), .int .u64 sd]) T126.sz_3_1 rfl rfl rfl (B.b 0 rfl) (by simp [Value.cells, Value.oneCell']) (Nat.le_of_ble_eq_true rfl) rfl (fun w20 hU21 => ?_))
    replace B : Bu w (hasW [.blk bs [.slice aq nq cq, .int .i64 p, .int .u64 sd] 131]) w20 [.blk bs [.slice aq nq cq, .int .i64 (p + 1), .int .u64 sd] 131, .rd kY aq nq Xq] := B.upd [0] rfl hU21
    clear hU21
    refine s_nil ?_
    refine W_seq ?_
    refine W_region (by kernel_rfl) ?_
    refine s_y (v := .pointer (some ⟨bs, 0, none⟩)) rfl (y_move rfl) ?_
    refine s_y (v := .pointer (some ⟨bs, 0, none⟩)) rfl (y_move rfl) ?_
    refine s_y (v := .pointer (some ⟨bs, 0, none⟩)) rfl (y_nil rfl) ?_
    refine s_y (v := .pointer (some ⟨bs, 2, none⟩)) rfl (y_fld (o := 0) T126.fld_131_2_2 rfl) ?_
    refine s_y (v := .int .u64 sd) rfl (y_load T126.one_129 rfl ((B.b 0 rfl).cell (j := 2) rfl)) ?_
    refine s_y (v := .int .u64 (IntKind.u64.wrap (sd * 6364136223846793005))) rfl (y_wmul rfl rfl) ?_
    refine s_y (v := .int .i64 (byt Xq p)) rfl (y_move rfl) ?_
    refine s_y (v := .int .u64 (byt Xq p)) rfl (y_ii T126.und_3 T126.int_129_u64 rfl (IntWalk.u64_in _ (by omega))) ?_
    refine s_y (v := .int .u64 (IntKind.u64.wrap ((IntKind.u64.wrap (sd * 6364136223846793005)) + (byt Xq p)))) rfl (y_wadd rfl rfl) ?_
    refine s_y (v := .int .u64 (IntKind.u64.wrap ((IntKind.u64.wrap ((IntKind.u64.wrap (sd * 6364136223846793005)) + (byt Xq p))) + 1442695040888963407))) rfl (y_wadd rfl rfl) ?_
    refine s_y (v := .pointer (some ⟨bs, 0, none⟩)) rfl (y_nil rfl) ?_
    refine s_y (v := .pointer (some ⟨bs, 2, none⟩)) rfl (y_fld (o := 0) T126.fld_131_2_2 rfl) ?_
    refine s_k0 rfl (k_stB (v := .int .u64 (IntKind.u64.wrap ((IntKind.u64.wrap ((IntKind.u64.wrap (sd * 6364136223846793005)) + (byt Xq p))) + 1442695040888963407))) (n := 1) (cs' := [.slice aq nq cq, .int .i64 (p + 1), .int .u64 (IntKind.u64.wrap ((IntKind.u64.wrap ((IntKind.u64.wrap (sd * 6364136223846793005)) + (byt Xq p))) + 1442695040888963407))]) T126.sz_129_1 rfl rfl rfl (B.b 0 rfl) (by simp [Value.cells, Value.oneCell']) (Nat.le_of_ble_eq_true rfl) rfl (fun w22 hU23 => ?_))
    replace B : Bu w (hasW [.blk bs [.slice aq nq cq, .int .i64 p, .int .u64 sd] 131]) w22 [.blk bs [.slice aq nq cq, .int .i64 (p + 1), .int .u64 (IntKind.u64.wrap ((IntKind.u64.wrap ((IntKind.u64.wrap (sd * 6364136223846793005)) + (byt Xq p))) + 1442695040888963407))] 131, .rd kY aq nq Xq] := B.upd [0] rfl hU23
    clear hU23
    refine s_nil ?_
    refine W_seq ?_
    refine W_seq ?_
    have B0_28 := B
    refine W_draw (no) T126.mx (by kernel_rfl) (fun w26 e27 => ?_)
    have R29 := Ext.refl (no) w22
    replace R29 := R29.trans (Ext0.any e27)
    replace B := B.ext0 e27
    clear e27
    refine m_y (v := .pointer (some ⟨bs, 0, none⟩)) 0 rfl (by kernel_rfl) rfl rfl (fun w' e' => y_move rfl) ?_
    refine m_y (v := .pointer (some ⟨bs, 0, none⟩)) 1 rfl (by kernel_rfl) rfl rfl (fun w' e' => y_nil rfl) ?_
    refine m_y (v := .pointer (some ⟨bs, 1, none⟩)) 2 rfl (by kernel_rfl) rfl rfl (fun w' e' => y_fld (o := 0) T126.fld_131_1_1 rfl) ?_
    refine m_y (v := .int .i64 (p + 1)) 3 rfl (by kernel_rfl) rfl rfl (fun w' e' => y_load T126.one_3 rfl (((B0_28.b 0 rfl).ext0 e').cell (j := 1) rfl)) ?_
    refine m_y (v := .pointer (some ⟨bs, 0, none⟩)) 4 rfl (by kernel_rfl) rfl rfl (fun w' e' => y_move rfl) ?_
    refine m_y (v := .pointer (some ⟨bs, 0, none⟩)) 5 rfl (by kernel_rfl) rfl rfl (fun w' e' => y_nil rfl) ?_
    refine m_y (v := .pointer (some ⟨bs, 0, none⟩)) 6 rfl (by kernel_rfl) rfl rfl (fun w' e' => y_fld (o := 0) T126.fld_131_0_0 rfl) ?_
    refine m_y (v := .slice aq nq cq) 7 rfl (by kernel_rfl) rfl rfl (fun w' e' => y_load T126.one_22 rfl (((B0_28.b 0 rfl).ext0 e').cell (j := 0) rfl)) ?_
    refine m_y (v := .int .i64 ((nq : Nat) : Int)) 8 rfl (by kernel_rfl) rfl rfl (fun w' e' => y_len T126.sl_22_5_1 rfl rfl) ?_
    by_cases c30 : (p + 1) ≤ ((nq : Nat) : Int)
    · refine m_y (v := .bool true) 9 rfl (by kernel_rfl) rfl rfl (fun w' e' => y_leq rfl rfl (decide_eq_true c30)) ?_
      refine m_done (by kernel_rfl) (fun w31 e32 => ?_)
      replace B := B.ext0 e32
      clear e32
      clear B0_28 R29
      refine W_if_t (by decide) rfl ?_
      refine W_seq ?_
      refine W_region (by kernel_rfl) ?_
      refine s_y (v := .int .i64 (byt Xq p)) rfl (y_move rfl) ?_
      refine s_y (v := .int .i64 (byt Xq p)) rfl (y_assign rfl) ?_
      refine s_nil ?_
      refine W_ret ?_
      refine ret1 (v := .int .i64 (byt Xq p)) rfl rfl rfl ⟨_, rfl, ?_⟩
      have hby : bY Xq p = byt Xq p := bY_in hlq c7
      replace B : Bu w (hasW [.blk bs [.slice aq nq cq, .int .i64 p, .int .u64 sd] 131]) w31 [.blk bs [.slice aq nq cq, .int .i64 (p + 1), .int .u64 (nxS Xq p sd)] 131, .rd kY aq nq Xq] := B.blkEq 0 rfl (nx_cells hby)
      exact ⟨(congrArg (Value.int .i64) (nxV_in hlq c30 hby)), B.wrote [0] rfl rfl rfl⟩
    · refine m_y (v := .bool false) 9 rfl (by kernel_rfl) rfl rfl (fun w' e' => y_leq rfl rfl (decide_eq_false c30)) ?_
      refine m_done (by kernel_rfl) (fun w33 e34 => ?_)
      replace B := B.ext0 e34
      clear e34
      clear B0_28 R29
      refine W_if_f (by decide) rfl ?_
      refine W_skip ?_
      refine W_seq ?_
      refine W_region (by kernel_rfl) ?_
      refine s_y (v := .pointer (some ⟨bs, 0, none⟩)) rfl (y_move rfl) ?_
      refine s_y (v := .pointer (some ⟨bs, 0, none⟩)) rfl (y_nil rfl) ?_
      refine s_y (v := .pointer (some ⟨bs, 2, none⟩)) rfl (y_fld (o := 0) T126.fld_131_2_2 rfl) ?_
      refine s_y (v := .int .u64 (IntKind.u64.wrap ((IntKind.u64.wrap ((IntKind.u64.wrap (sd * 6364136223846793005)) + (byt Xq p))) + 1442695040888963407))) rfl (y_load T126.one_129 rfl ((B.b 0 rfl).cell (j := 2) rfl)) ?_
      refine s_y (v := .int .u64 ((IntKind.u64.wrap ((IntKind.u64.wrap ((IntKind.u64.wrap (sd * 6364136223846793005)) + (byt Xq p))) + 1442695040888963407)) / 1099511627776)) rfl (y_shr40 rfl rfl) ?_
      have hb35 := lo8_b ((IntKind.u64.wrap ((IntKind.u64.wrap ((IntKind.u64.wrap (sd * 6364136223846793005)) + (byt Xq p))) + 1442695040888963407)) / 1099511627776)
      refine s_y (v := .int .u64 (lo8 ((IntKind.u64.wrap ((IntKind.u64.wrap ((IntKind.u64.wrap (sd * 6364136223846793005)) + (byt Xq p))) + 1442695040888963407)) / 1099511627776))) rfl (y_and255 rfl rfl) ?_
      refine s_y (v := .int .i64 (lo8 ((IntKind.u64.wrap ((IntKind.u64.wrap ((IntKind.u64.wrap (sd * 6364136223846793005)) + (byt Xq p))) + 1442695040888963407)) / 1099511627776))) rfl (y_ii T126.und_129 T126.int_2_i64 rfl (IntWalk.i64_in _ (by omega))) ?_
      refine s_y (v := .int .i64 (lo8 ((IntKind.u64.wrap ((IntKind.u64.wrap ((IntKind.u64.wrap (sd * 6364136223846793005)) + (byt Xq p))) + 1442695040888963407)) / 1099511627776))) rfl (y_assign rfl) ?_
      refine s_nil ?_
      refine W_ret ?_
      refine ret1 (v := .int .i64 (lo8 ((IntKind.u64.wrap ((IntKind.u64.wrap ((IntKind.u64.wrap (sd * 6364136223846793005)) + (byt Xq p))) + 1442695040888963407)) / 1099511627776))) rfl rfl rfl ⟨_, rfl, ?_⟩
      have hby : bY Xq p = byt Xq p := bY_in hlq c7
      replace B : Bu w (hasW [.blk bs [.slice aq nq cq, .int .i64 p, .int .u64 sd] 131]) w33 [.blk bs [.slice aq nq cq, .int .i64 (p + 1), .int .u64 (nxS Xq p sd)] 131, .rd kY aq nq Xq] := B.blkEq 0 rfl (nx_cells hby)
      skip
      exact ⟨(congrArg (Value.int .i64) ((by unfold nxS; rw [hby] : lo8 ((IntKind.u64.wrap ((IntKind.u64.wrap ((IntKind.u64.wrap (sd * 6364136223846793005)) + (byt Xq p))) + 1442695040888963407)) / 1099511627776) = lo8 (nxS Xq p sd / 1099511627776)).trans (nxV_out hlq c30))), B.wrote [0] rfl rfl rfl⟩
  · refine m_y (v := .bool false) 9 rfl (by kernel_rfl) rfl rfl (fun w' e' => y_lss rfl rfl (decide_eq_false c7)) ?_
    refine m_done (by kernel_rfl) (fun w36 e37 => ?_)
    replace B := B.ext0 e37
    clear e37
    clear B0_5 R6
    refine W_if_f (by decide) rfl ?_
    refine W_skip ?_
    refine W_seq ?_
    refine W_region (by kernel_rfl) ?_
    refine s_y (v := .pointer (some ⟨bs, 0, none⟩)) rfl (y_move rfl) ?_
    refine s_y (v := .pointer (some ⟨bs, 0, none⟩)) rfl (y_nil rfl) ?_
    refine s_y (v := .pointer (some ⟨bs, 1, none⟩)) rfl (y_fld (o := 0) T126.fld_131_1_1 rfl) ?_
    refine s_y (v := .int .i64 p) rfl (y_load T126.one_3 rfl ((B.b 0 rfl).cell (j := 1) rfl)) ?_
    refine s_y (v := .int .i64 (p + 1)) rfl (y_add rfl rfl rfl (by omega)) ?_
    refine s_y (v := .pointer (some ⟨bs, 0, none⟩)) rfl (y_nil rfl) ?_
    refine s_y (v := .pointer (some ⟨bs, 1, none⟩)) rfl (y_fld (o := 0) T126.fld_131_1_1 rfl) ?_
    refine s_k0 rfl (k_stB (v := .int .i64 (p + 1)) (n := 1) (cs' := [.slice aq nq cq, .int .i64 (p + 1), .int .u64 sd]) T126.sz_3_1 rfl rfl rfl (B.b 0 rfl) (by simp [Value.cells, Value.oneCell']) (Nat.le_of_ble_eq_true rfl) rfl (fun w38 hU39 => ?_))
    replace B : Bu w (hasW [.blk bs [.slice aq nq cq, .int .i64 p, .int .u64 sd] 131]) w38 [.blk bs [.slice aq nq cq, .int .i64 (p + 1), .int .u64 sd] 131, .rd kY aq nq Xq] := B.upd [0] rfl hU39
    clear hU39
    refine s_nil ?_
    refine W_seq ?_
    refine W_region (by kernel_rfl) ?_
    refine s_y (v := .pointer (some ⟨bs, 0, none⟩)) rfl (y_move rfl) ?_
    refine s_y (v := .pointer (some ⟨bs, 0, none⟩)) rfl (y_move rfl) ?_
    refine s_y (v := .pointer (some ⟨bs, 0, none⟩)) rfl (y_nil rfl) ?_
    refine s_y (v := .pointer (some ⟨bs, 2, none⟩)) rfl (y_fld (o := 0) T126.fld_131_2_2 rfl) ?_
    refine s_y (v := .int .u64 sd) rfl (y_load T126.one_129 rfl ((B.b 0 rfl).cell (j := 2) rfl)) ?_
    refine s_y (v := .int .u64 (IntKind.u64.wrap (sd * 6364136223846793005))) rfl (y_wmul rfl rfl) ?_
    refine s_y (v := .int .i64 0) rfl (y_move rfl) ?_
    refine s_y (v := .int .u64 0) rfl (y_ii T126.und_3 T126.int_129_u64 rfl (IntWalk.u64_in _ (by omega))) ?_
    refine s_y (v := .int .u64 (IntKind.u64.wrap ((IntKind.u64.wrap (sd * 6364136223846793005)) + 0))) rfl (y_wadd rfl rfl) ?_
    refine s_y (v := .int .u64 (IntKind.u64.wrap ((IntKind.u64.wrap ((IntKind.u64.wrap (sd * 6364136223846793005)) + 0)) + 1442695040888963407))) rfl (y_wadd rfl rfl) ?_
    refine s_y (v := .pointer (some ⟨bs, 0, none⟩)) rfl (y_nil rfl) ?_
    refine s_y (v := .pointer (some ⟨bs, 2, none⟩)) rfl (y_fld (o := 0) T126.fld_131_2_2 rfl) ?_
    refine s_k0 rfl (k_stB (v := .int .u64 (IntKind.u64.wrap ((IntKind.u64.wrap ((IntKind.u64.wrap (sd * 6364136223846793005)) + 0)) + 1442695040888963407))) (n := 1) (cs' := [.slice aq nq cq, .int .i64 (p + 1), .int .u64 (IntKind.u64.wrap ((IntKind.u64.wrap ((IntKind.u64.wrap (sd * 6364136223846793005)) + 0)) + 1442695040888963407))]) T126.sz_129_1 rfl rfl rfl (B.b 0 rfl) (by simp [Value.cells, Value.oneCell']) (Nat.le_of_ble_eq_true rfl) rfl (fun w40 hU41 => ?_))
    replace B : Bu w (hasW [.blk bs [.slice aq nq cq, .int .i64 p, .int .u64 sd] 131]) w40 [.blk bs [.slice aq nq cq, .int .i64 (p + 1), .int .u64 (IntKind.u64.wrap ((IntKind.u64.wrap ((IntKind.u64.wrap (sd * 6364136223846793005)) + 0)) + 1442695040888963407))] 131, .rd kY aq nq Xq] := B.upd [0] rfl hU41
    clear hU41
    refine s_nil ?_
    refine W_seq ?_
    refine W_seq ?_
    have B0_46 := B
    refine W_draw (no) T126.mx (by kernel_rfl) (fun w44 e45 => ?_)
    have R47 := Ext.refl (no) w40
    replace R47 := R47.trans (Ext0.any e45)
    replace B := B.ext0 e45
    clear e45
    refine m_y (v := .pointer (some ⟨bs, 0, none⟩)) 0 rfl (by kernel_rfl) rfl rfl (fun w' e' => y_move rfl) ?_
    refine m_y (v := .pointer (some ⟨bs, 0, none⟩)) 1 rfl (by kernel_rfl) rfl rfl (fun w' e' => y_nil rfl) ?_
    refine m_y (v := .pointer (some ⟨bs, 1, none⟩)) 2 rfl (by kernel_rfl) rfl rfl (fun w' e' => y_fld (o := 0) T126.fld_131_1_1 rfl) ?_
    refine m_y (v := .int .i64 (p + 1)) 3 rfl (by kernel_rfl) rfl rfl (fun w' e' => y_load T126.one_3 rfl (((B0_46.b 0 rfl).ext0 e').cell (j := 1) rfl)) ?_
    refine m_y (v := .pointer (some ⟨bs, 0, none⟩)) 4 rfl (by kernel_rfl) rfl rfl (fun w' e' => y_move rfl) ?_
    refine m_y (v := .pointer (some ⟨bs, 0, none⟩)) 5 rfl (by kernel_rfl) rfl rfl (fun w' e' => y_nil rfl) ?_
    refine m_y (v := .pointer (some ⟨bs, 0, none⟩)) 6 rfl (by kernel_rfl) rfl rfl (fun w' e' => y_fld (o := 0) T126.fld_131_0_0 rfl) ?_
    refine m_y (v := .slice aq nq cq) 7 rfl (by kernel_rfl) rfl rfl (fun w' e' => y_load T126.one_22 rfl (((B0_46.b 0 rfl).ext0 e').cell (j := 0) rfl)) ?_
    refine m_y (v := .int .i64 ((nq : Nat) : Int)) 8 rfl (by kernel_rfl) rfl rfl (fun w' e' => y_len T126.sl_22_5_1 rfl rfl) ?_
    by_cases c48 : (p + 1) ≤ ((nq : Nat) : Int)
    · refine m_y (v := .bool true) 9 rfl (by kernel_rfl) rfl rfl (fun w' e' => y_leq rfl rfl (decide_eq_true c48)) ?_
      refine m_done (by kernel_rfl) (fun w49 e50 => ?_)
      replace B := B.ext0 e50
      clear e50
      clear B0_46 R47
      refine W_if_t (by decide) rfl ?_
      refine W_seq ?_
      refine W_region (by kernel_rfl) ?_
      refine s_y (v := .int .i64 0) rfl (y_move rfl) ?_
      refine s_y (v := .int .i64 0) rfl (y_assign rfl) ?_
      refine s_nil ?_
      refine W_ret ?_
      refine ret1 (v := .int .i64 0) rfl rfl rfl ⟨_, rfl, ?_⟩
      have hby : bY Xq p = 0 := bY_out hlq c7
      replace B : Bu w (hasW [.blk bs [.slice aq nq cq, .int .i64 p, .int .u64 sd] 131]) w49 [.blk bs [.slice aq nq cq, .int .i64 (p + 1), .int .u64 (nxS Xq p sd)] 131, .rd kY aq nq Xq] := B.blkEq 0 rfl (nx_cells hby)
      exact ⟨(congrArg (Value.int .i64) (nxV_in hlq c48 hby)), B.wrote [0] rfl rfl rfl⟩
    · refine m_y (v := .bool false) 9 rfl (by kernel_rfl) rfl rfl (fun w' e' => y_leq rfl rfl (decide_eq_false c48)) ?_
      refine m_done (by kernel_rfl) (fun w51 e52 => ?_)
      replace B := B.ext0 e52
      clear e52
      clear B0_46 R47
      refine W_if_f (by decide) rfl ?_
      refine W_skip ?_
      refine W_seq ?_
      refine W_region (by kernel_rfl) ?_
      refine s_y (v := .pointer (some ⟨bs, 0, none⟩)) rfl (y_move rfl) ?_
      refine s_y (v := .pointer (some ⟨bs, 0, none⟩)) rfl (y_nil rfl) ?_
      refine s_y (v := .pointer (some ⟨bs, 2, none⟩)) rfl (y_fld (o := 0) T126.fld_131_2_2 rfl) ?_
      refine s_y (v := .int .u64 (IntKind.u64.wrap ((IntKind.u64.wrap ((IntKind.u64.wrap (sd * 6364136223846793005)) + 0)) + 1442695040888963407))) rfl (y_load T126.one_129 rfl ((B.b 0 rfl).cell (j := 2) rfl)) ?_
      refine s_y (v := .int .u64 ((IntKind.u64.wrap ((IntKind.u64.wrap ((IntKind.u64.wrap (sd * 6364136223846793005)) + 0)) + 1442695040888963407)) / 1099511627776)) rfl (y_shr40 rfl rfl) ?_
      have hb53 := lo8_b ((IntKind.u64.wrap ((IntKind.u64.wrap ((IntKind.u64.wrap (sd * 6364136223846793005)) + 0)) + 1442695040888963407)) / 1099511627776)
      refine s_y (v := .int .u64 (lo8 ((IntKind.u64.wrap ((IntKind.u64.wrap ((IntKind.u64.wrap (sd * 6364136223846793005)) + 0)) + 1442695040888963407)) / 1099511627776))) rfl (y_and255 rfl rfl) ?_
      refine s_y (v := .int .i64 (lo8 ((IntKind.u64.wrap ((IntKind.u64.wrap ((IntKind.u64.wrap (sd * 6364136223846793005)) + 0)) + 1442695040888963407)) / 1099511627776))) rfl (y_ii T126.und_129 T126.int_2_i64 rfl (IntWalk.i64_in _ (by omega))) ?_
      refine s_y (v := .int .i64 (lo8 ((IntKind.u64.wrap ((IntKind.u64.wrap ((IntKind.u64.wrap (sd * 6364136223846793005)) + 0)) + 1442695040888963407)) / 1099511627776))) rfl (y_assign rfl) ?_
      refine s_nil ?_
      refine W_ret ?_
      refine ret1 (v := .int .i64 (lo8 ((IntKind.u64.wrap ((IntKind.u64.wrap ((IntKind.u64.wrap (sd * 6364136223846793005)) + 0)) + 1442695040888963407)) / 1099511627776))) rfl rfl rfl ⟨_, rfl, ?_⟩
      have hby : bY Xq p = 0 := bY_out hlq c7
      replace B : Bu w (hasW [.blk bs [.slice aq nq cq, .int .i64 p, .int .u64 sd] 131]) w51 [.blk bs [.slice aq nq cq, .int .i64 (p + 1), .int .u64 (nxS Xq p sd)] 131, .rd kY aq nq Xq] := B.blkEq 0 rfl (nx_cells hby)
      skip
      exact ⟨(congrArg (Value.int .i64) ((by unfold nxS; rw [hby] : lo8 ((IntKind.u64.wrap ((IntKind.u64.wrap ((IntKind.u64.wrap (sd * 6364136223846793005)) + 0)) + 1442695040888963407)) / 1099511627776) = lo8 (nxS Xq p sd / 1099511627776)).trans (nxV_out hlq c48))), B.wrote [0] rfl rfl rfl⟩
namespace T81
theorem mx : Try.prog.follows .mixedOrders = true := by kernel_rfl
theorem fn_126 : fnB Try.prog 126 = true := by kernel_rfl
end T81
set_option maxRecDepth 100000 in
set_option maxHeartbeats 4000000 in
theorem c_s_pick {bs : Nat} {n : Int} {aq : Option Addr} {nq cq : Nat} {Xq : List Nat} {p : Int} {w : World} (hp0 : 0 ≤ p) (hp1 : p ≤ 1000000) (hn0 : 2 ≤ n) (hn1 : n ≤ 200) (HA : All w [.blk bs [.slice aq nq cq, .int .i64 p, .int .u64 (sdY Xq p)] 131, .rd kY aq nq Xq]) (HP : Pw [.blk bs [.slice aq nq cq, .int .i64 p, .int .u64 (sdY Xq p)] 131, .rd kY aq nq Xq]) :
    Calls Try.prog 81 #[.pointer (some ⟨bs, 0, none⟩), .int .i64 n] w (Rt fun v w' => ∃ (uv : Int), v = .int .i64 uv ∧ uv = pk Xq n p ∧ Upd w w' [.blk bs [.slice aq nq cq, .int .i64 p, .int .u64 (sdY Xq p)] 131] [.blk bs [.slice aq nq cq, .int .i64 (p + 1), .int .u64 (sdY Xq (p + 1))] 131]) := by
  have B : Bu w (hasW [.blk bs [.slice aq nq cq, .int .i64 p, .int .u64 (sdY Xq p)] 131]) w [.blk bs [.slice aq nq cq, .int .i64 p, .int .u64 (sdY Xq p)] 131, .rd kY aq nq Xq] := Bu.initW (W := [.blk bs [.slice aq nq cq, .int .i64 p, .int .u64 (sdY Xq p)] 131]) (R := [.rd kY aq nq Xq]) HA HP rfl
  have hlq := (B.r 1 rfl).len
  refine calls_W (n := 20) Try.func81 rfl rfl (Nat.le_of_ble_eq_true rfl) ?_
  refine W_seq ?_
  refine W_region (by kernel_rfl) ?_
  refine s_y (v := .int .i64 0) rfl (y_assign rfl) ?_
  refine s_nil ?_
  refine W_seq ?_
  refine W_seq ?_
  refine W_region (by kernel_rfl) ?_
  refine s_y (v := .int .i64 n) rfl (y_move rfl) ?_
  have hk1 : ¬ (n ≤ 1) := (by omega)
  refine s_y (v := .bool false) rfl (y_leq rfl rfl (decide_eq_false hk1)) ?_
  refine s_nil ?_
  refine W_if_f (by decide) rfl ?_
  refine W_skip ?_
  refine W_seq ?_
  refine W_region (by kernel_rfl) ?_
  refine s_y (v := .pointer (some ⟨bs, 0, none⟩)) rfl (y_move rfl) ?_
  refine s_k rfl (k_call T81.fn_126 (c_s_next (by omega) (by omega) (B.all.pick [0, 1] rfl) (B.pw.pick [0, 1] rfl rfl)) rfl ?_)
  rintro _ w2 ⟨rfl, hU3⟩
  replace B : Bu w (hasW [.blk bs [.slice aq nq cq, .int .i64 p, .int .u64 (sdY Xq p)] 131]) w2 [.blk bs [.slice aq nq cq, .int .i64 (p + 1), .int .u64 (nxS Xq p (sdY Xq p))] 131, .rd kY aq nq Xq] := B.upd [0] rfl hU3
  clear hU3
  have hb4 := nxV_b (p := p) (sd := sdY Xq p) (X := Xq) (B.r 1 rfl).bytes
  refine s_y (v := .int .i64 (nxV Xq p (sdY Xq p))) rfl (y_assign rfl) ?_
  refine s_nil ?_
  refine W_seq ?_
  refine W_seq ?_
  refine W_region (by kernel_rfl) ?_
  refine s_y (v := .int .i64 n) rfl (y_move rfl) ?_
  have hk5 : ¬ (200 < n) := (by omega)
  refine s_y (v := .bool false) rfl (y_gtr rfl rfl (decide_eq_false hk5)) ?_
  refine s_nil ?_
  refine W_if_f (by decide) rfl ?_
  refine W_skip ?_
  refine W_seq ?_
  refine W_region (by kernel_rfl) ?_
  refine s_y (v := .int .i64 (nxV Xq p (sdY Xq p))) rfl (y_move rfl) ?_
  refine s_y (v := .int .i64 n) rfl (y_move rfl) ?_
  have hm6 := rem_b (x := nxV Xq p (sdY Xq p)) (m := n) (by omega) (by omega)
  refine s_y (v := .int .i64 ((nxV Xq p (sdY Xq p)) % n)) rfl (y_rem rfl rfl (by omega) (by omega) rfl) ?_
  refine s_y (v := .int .i64 ((nxV Xq p (sdY Xq p)) % n)) rfl (y_assign rfl) ?_
  refine s_nil ?_
  refine W_ret ?_
  refine ret1 (v := .int .i64 ((nxV Xq p (sdY Xq p)) % n)) rfl rfl rfl ⟨_, rfl, ?_⟩
  replace B : Bu w (hasW [.blk bs [.slice aq nq cq, .int .i64 p, .int .u64 (sdY Xq p)] 131]) w2 [.blk bs [.slice aq nq cq, .int .i64 (p + 1), .int .u64 (sdY Xq (p + 1))] 131, .rd kY aq nq Xq] := B.blkEq 0 rfl (sdY_cells hp0)
  exact ⟨_, rfl, rfl, B.wrote [0] rfl rfl rfl⟩
set_option maxRecDepth 100000 in
set_option maxHeartbeats 4000000 in
theorem c_s_pick2 {bs : Nat} {n : Int} {aq : Option Addr} {nq cq : Nat} {Xq : List Nat} {p : Int} {w : World} (hp0 : 0 ≤ p) (hp1 : p ≤ 990000) (hn0 : 201 ≤ n) (hn1 : n ≤ 65536) (HA : All w [.blk bs [.slice aq nq cq, .int .i64 p, .int .u64 (sdY Xq p)] 131, .rd kY aq nq Xq]) (HP : Pw [.blk bs [.slice aq nq cq, .int .i64 p, .int .u64 (sdY Xq p)] 131, .rd kY aq nq Xq]) :
    Calls Try.prog 81 #[.pointer (some ⟨bs, 0, none⟩), .int .i64 n] w (Rt fun v w' => ∃ (uv : Int), v = .int .i64 uv ∧ 0 ≤ uv ∧ uv < n ∧ Upd w w' [.blk bs [.slice aq nq cq, .int .i64 p, .int .u64 (sdY Xq p)] 131] [.blk bs [.slice aq nq cq, .int .i64 (p + 1 + 1), .int .u64 (sdY Xq (p + 1 + 1))] 131]) := by
  have B : Bu w (hasW [.blk bs [.slice aq nq cq, .int .i64 p, .int .u64 (sdY Xq p)] 131]) w [.blk bs [.slice aq nq cq, .int .i64 p, .int .u64 (sdY Xq p)] 131, .rd kY aq nq Xq] := Bu.initW (W := [.blk bs [.slice aq nq cq, .int .i64 p, .int .u64 (sdY Xq p)] 131]) (R := [.rd kY aq nq Xq]) HA HP rfl
  have hlq := (B.r 1 rfl).len
  refine calls_W (n := 20) Try.func81 rfl rfl (Nat.le_of_ble_eq_true rfl) ?_
  refine W_seq ?_
  refine W_region (by kernel_rfl) ?_
  refine s_y (v := .int .i64 0) rfl (y_assign rfl) ?_
  refine s_nil ?_
  refine W_seq ?_
  refine W_seq ?_
  refine W_region (by kernel_rfl) ?_
  refine s_y (v := .int .i64 n) rfl (y_move rfl) ?_
  have hk1 : ¬ (n ≤ 1) := (by omega)
  refine s_y (v := .bool false) rfl (y_leq rfl rfl (decide_eq_false hk1)) ?_
  refine s_nil ?_
  refine W_if_f (by decide) rfl ?_
  refine W_skip ?_
  refine W_seq ?_
  refine W_region (by kernel_rfl) ?_
  refine s_y (v := .pointer (some ⟨bs, 0, none⟩)) rfl (y_move rfl) ?_
  refine s_k rfl (k_call T81.fn_126 (c_s_next (by omega) (by omega) (B.all.pick [0, 1] rfl) (B.pw.pick [0, 1] rfl rfl)) rfl ?_)
  rintro _ w2 ⟨rfl, hU3⟩
  replace B : Bu w (hasW [.blk bs [.slice aq nq cq, .int .i64 p, .int .u64 (sdY Xq p)] 131]) w2 [.blk bs [.slice aq nq cq, .int .i64 (p + 1), .int .u64 (nxS Xq p (sdY Xq p))] 131, .rd kY aq nq Xq] := B.upd [0] rfl hU3
  clear hU3
  have hb4 := nxV_b (p := p) (sd := sdY Xq p) (X := Xq) (B.r 1 rfl).bytes
  refine s_y (v := .int .i64 (nxV Xq p (sdY Xq p))) rfl (y_assign rfl) ?_
  refine s_nil ?_
  refine W_seq ?_
  refine W_seq ?_
  refine W_region (by kernel_rfl) ?_
  refine s_y (v := .int .i64 n) rfl (y_move rfl) ?_
  have hk5 : 200 < n := (by omega)
  refine s_y (v := .bool true) rfl (y_gtr rfl rfl (decide_eq_true hk5)) ?_
  refine s_nil ?_
  refine W_if_t (by decide) rfl ?_
  refine W_region (by kernel_rfl) ?_
  refine s_y (v := .int .i64 (nxV Xq p (sdY Xq p))) rfl (y_move rfl) ?_
  refine s_y (v := .int .i64 ((nxV Xq p (sdY Xq p)) * 256)) rfl (y_mul rfl rfl rfl (by omega)) ?_
  refine s_y (v := .pointer (some ⟨bs, 0, none⟩)) rfl (y_move rfl) ?_
  refine s_k rfl (k_call T81.fn_126 (c_s_next (by omega) (by omega) (B.all.pick [0, 1] rfl) (B.pw.pick [0, 1] rfl rfl)) rfl ?_)
  rintro _ w6 ⟨rfl, hU7⟩
  replace B : Bu w (hasW [.blk bs [.slice aq nq cq, .int .i64 p, .int .u64 (sdY Xq p)] 131]) w6 [.blk bs [.slice aq nq cq, .int .i64 ((p + 1) + 1), .int .u64 (nxS Xq (p + 1) (nxS Xq p (sdY Xq p)))] 131, .rd kY aq nq Xq] := B.upd [0] rfl hU7
  clear hU7
  have hb8 := nxV_b (p := p + 1) (sd := nxS Xq p (sdY Xq p)) (X := Xq) (B.r 1 rfl).bytes
  refine s_y (v := .int .i64 (((nxV Xq p (sdY Xq p)) * 256) + (nxV Xq (p + 1) (nxS Xq p (sdY Xq p))))) rfl (y_add rfl rfl rfl (by omega)) ?_
  refine s_y (v := .int .i64 (((nxV Xq p (sdY Xq p)) * 256) + (nxV Xq (p + 1) (nxS Xq p (sdY Xq p))))) rfl (y_assign rfl) ?_
  refine s_nil ?_
  refine W_seq ?_
  refine W_region (by kernel_rfl) ?_
  refine s_y (v := .int .i64 (((nxV Xq p (sdY Xq p)) * 256) + (nxV Xq (p + 1) (nxS Xq p (sdY Xq p))))) rfl (y_move rfl) ?_
  refine s_y (v := .int .i64 n) rfl (y_move rfl) ?_
  have hm9 := rem_b (x := ((nxV Xq p (sdY Xq p)) * 256) + (nxV Xq (p + 1) (nxS Xq p (sdY Xq p)))) (m := n) (by omega) (by omega)
  refine s_y (v := .int .i64 ((((nxV Xq p (sdY Xq p)) * 256) + (nxV Xq (p + 1) (nxS Xq p (sdY Xq p)))) % n)) rfl (y_rem rfl rfl (by omega) (by omega) rfl) ?_
  refine s_y (v := .int .i64 ((((nxV Xq p (sdY Xq p)) * 256) + (nxV Xq (p + 1) (nxS Xq p (sdY Xq p)))) % n)) rfl (y_assign rfl) ?_
  refine s_nil ?_
  refine W_ret ?_
  refine ret1 (v := .int .i64 ((((nxV Xq p (sdY Xq p)) * 256) + (nxV Xq (p + 1) (nxS Xq p (sdY Xq p)))) % n)) rfl rfl rfl ⟨_, rfl, ?_⟩
  have hp0n : 0 ≤ p + 1 := by omega
  replace B : Bu w (hasW [.blk bs [.slice aq nq cq, .int .i64 p, .int .u64 (sdY Xq p)] 131]) w6 [.blk bs [.slice aq nq cq, .int .i64 ((p + 1) + 1), .int .u64 (sdY Xq (p + 1 + 1))] 131, .rd kY aq nq Xq] := B.blkEq 0 rfl (by rw [sdY_next hp0, sdY_next (show 0 ≤ p + 1 by omega)])
  exact ⟨_, rfl, (by omega), (by omega), B.wrote [0] rfl rfl rfl⟩
namespace T99
theorem mx : Try.prog.follows .mixedOrders = true := by kernel_rfl
theorem fn_81 : fnB Try.prog 81 = true := by kernel_rfl
end T99
set_option maxRecDepth 100000 in
set_option maxHeartbeats 4000000 in
theorem c_s_one {bs : Nat} {n : Int} {aq : Option Addr} {nq cq : Nat} {Xq : List Nat} {p : Int} {w : World} (hp0 : 0 ≤ p) (hp1 : p ≤ 1000000) (hn0 : 2 ≤ n) (hn1 : n ≤ 200) (HA : All w [.blk bs [.slice aq nq cq, .int .i64 p, .int .u64 (sdY Xq p)] 131, .rd kY aq nq Xq]) (HP : Pw [.blk bs [.slice aq nq cq, .int .i64 p, .int .u64 (sdY Xq p)] 131, .rd kY aq nq Xq]) :
    Calls Try.prog 99 #[.pointer (some ⟨bs, 0, none⟩), .int .i64 n] w (Rt fun v w' => ∃ (vb : Bool), v = .bool vb ∧ decide (pk Xq n p = 0) = vb ∧ Upd w w' [.blk bs [.slice aq nq cq, .int .i64 p, .int .u64 (sdY Xq p)] 131] [.blk bs [.slice aq nq cq, .int .i64 (p + 1), .int .u64 (sdY Xq (p + 1))] 131]) := by
  have B : Bu w (hasW [.blk bs [.slice aq nq cq, .int .i64 p, .int .u64 (sdY Xq p)] 131]) w [.blk bs [.slice aq nq cq, .int .i64 p, .int .u64 (sdY Xq p)] 131, .rd kY aq nq Xq] := Bu.initW (W := [.blk bs [.slice aq nq cq, .int .i64 p, .int .u64 (sdY Xq p)] 131]) (R := [.rd kY aq nq Xq]) HA HP rfl
  have hlq := (B.r 1 rfl).len
  refine calls_W (n := 9) Try.func99 rfl rfl (Nat.le_of_ble_eq_true rfl) ?_
  refine W_seq ?_
  refine W_region (by kernel_rfl) ?_
  refine s_y (v := .bool false) rfl (y_assign rfl) ?_
  refine s_nil ?_
  refine W_seq ?_
  refine W_region (by kernel_rfl) ?_
  refine s_y (v := .pointer (some ⟨bs, 0, none⟩)) rfl (y_move rfl) ?_
  refine s_y (v := .int .i64 n) rfl (y_move rfl) ?_
  refine s_k rfl (k_call T99.fn_81 (c_s_pick (by omega) (by omega) (by omega) (by omega) (B.all.pick [0, 1] rfl) (B.pw.pick [0, 1] rfl rfl)) rfl ?_)
  rintro _ w1 ⟨v3, rfl, hp4, hU2⟩
  replace B : Bu w (hasW [.blk bs [.slice aq nq cq, .int .i64 p, .int .u64 (sdY Xq p)] 131]) w1 [.blk bs [.slice aq nq cq, .int .i64 (p + 1), .int .u64 (sdY Xq (p + 1))] 131, .rd kY aq nq Xq] := B.upd [0] rfl hU2
  clear hU2
  have hb5 := pk_b Xq (n := n) p (by omega)
  rw [← hp4] at hb5
  by_cases c6 : v3 = 0
  · refine s_y (v := .bool true) rfl (y_eql rfl rfl (decide_eq_true c6)) ?_
    refine s_y (v := .bool true) rfl (y_assign rfl) ?_
    refine s_nil ?_
    refine W_ret ?_
    refine ret1 (v := .bool true) rfl rfl rfl ⟨_, rfl, ?_⟩
    exact ⟨_, rfl, (by rw [← hp4]; exact decide_eq_true c6), B.wrote [0] rfl rfl rfl⟩
  · refine s_y (v := .bool false) rfl (y_eql rfl rfl (decide_eq_false c6)) ?_
    refine s_y (v := .bool false) rfl (y_assign rfl) ?_
    refine s_nil ?_
    refine W_ret ?_
    refine ret1 (v := .bool false) rfl rfl rfl ⟨_, rfl, ?_⟩
    exact ⟨_, rfl, (by rw [← hp4]; exact decide_eq_false c6), B.wrote [0] rfl rfl rfl⟩
namespace T64
theorem mx : Try.prog.follows .mixedOrders = true := by kernel_rfl
theorem agg_26_5 : aggB Try.prog 26 5 = true := by kernel_rfl
theorem fld_26_0_0 : fldB Try.prog 26 0 0 = true := by kernel_rfl
theorem fld_26_1_1 : fldB Try.prog 26 1 1 = true := by kernel_rfl
theorem fld_26_3_3 : fldB Try.prog 26 3 3 = true := by kernel_rfl
theorem fld_26_4_4 : fldB Try.prog 26 4 4 = true := by kernel_rfl
theorem flt_34_f32 : Try.prog.underlying 34 = some (.float .f32) := by kernel_rfl
theorem fn_81 : fnB Try.prog 81 = true := by kernel_rfl
theorem fn_99 : fnB Try.prog 99 = true := by kernel_rfl
theorem one_2 : oneB Try.prog 2 = true := by kernel_rfl
theorem one_24 : oneB Try.prog 24 = true := by kernel_rfl
theorem slt_24 : SlT Try.prog 24 34 1 4 (.float .f32 0) := ⟨by kernel_rfl, by kernel_rfl, rfl, by decide⟩
theorem sz_2_1 : szB Try.prog 2 1 = true := by kernel_rfl
theorem sz_24_1 : szB Try.prog 24 1 = true := by kernel_rfl
theorem sz_26_5 : szB Try.prog 26 5 = true := by kernel_rfl
theorem und_2 : (Try.prog.underlying 2).isSome = true := by kernel_rfl
theorem zero_26 : zeroB Try.prog 26 (.agg #[.int .i64 0, .int .i64 0, .bool false, .slice none 0 0, .slice none 0 0]) := by unfold zeroB; kernel_rfl
end T64
set_option maxRecDepth 100000 in
set_option maxHeartbeats 4000000 in
theorem c_s_l02DrawOk {bs : Nat} {aq : Option Addr} {nq cq : Nat} {Xq : List Nat} {p : Int} {w : World} (hp0 : 0 ≤ p) (hp1 : p ≤ 1000) (HA : All w [.blk bs [.slice aq nq cq, .int .i64 p, .int .u64 (sdY Xq p)] 131, .rd kY aq nq Xq]) (HP : Pw [.blk bs [.slice aq nq cq, .int .i64 p, .int .u64 (sdY Xq p)] 131, .rd kY aq nq Xq]) :
    Calls Try.prog 64 #[.pointer (some ⟨bs, 0, none⟩)] w (Rt fun v w' => ∃ (wd : Int) (hi : Int) (vb : Bool) (pl : Bool) (pe : Int) (a1 : Option Addr) (n1 : Nat) (c1 : Nat) (a2 : Option Addr) (n2 : Nat) (c2 : Nat), v = .agg #[.int .i64 wd, .int .i64 hi, .bool vb, .slice a1 n1 c1, .slice a2 n2 c2] ∧ decide (pk Xq 2 (p + 1) = 0) = vb ∧ 3 ≤ wd ∧ wd ≤ 6 ∧ 3 ≤ hi ∧ hi ≤ 6 ∧ p ≤ pe ∧ pe ≤ p + 900 ∧ Upd w w' [.blk bs [.slice aq nq cq, .int .i64 p, .int .u64 (sdY Xq p)] 131] [.blk bs [.slice aq nq cq, .int .i64 pe, .int .u64 (sdY Xq pe)] 131, .ow kF a1 n1 c1 34 (dwSpL Xq pl (p + 1 + 1 + 1 + 1) (wd * hi)), .ow kF a2 n2 c2 34 (dwLsL Xq pl (p + 1 + 1 + 1 + 1) (wd * hi))]) := by
  have B : Bu w (hasW [.blk bs [.slice aq nq cq, .int .i64 p, .int .u64 (sdY Xq p)] 131]) w [.blk bs [.slice aq nq cq, .int .i64 p, .int .u64 (sdY Xq p)] 131, .rd kY aq nq Xq] := Bu.initW (W := [.blk bs [.slice aq nq cq, .int .i64 p, .int .u64 (sdY Xq p)] 131]) (R := [.rd kY aq nq Xq]) HA HP rfl
  have hlq := (B.r 1 rfl).len
  refine calls_W (n := 54) Try.func64 rfl rfl (Nat.le_of_ble_eq_true rfl) ?_
  refine W_seq ?_
  refine W_region (by kernel_rfl) ?_
  refine s_k rfl (k_allocN (z := (.agg #[.int .i64 0, .int .i64 0, .bool false, .slice none 0 0, .slice none 0 0])) (cs := [.int .i64 0, .int .i64 0, .bool false, .slice none 0 0, .slice none 0 0]) T64.zero_26 rfl (fun b1 w2 hN3 => ?_))
  replace B := B.new1 hN3
  clear hN3
  refine s_nil ?_
  refine W_seq ?_
  refine W_region (by kernel_rfl) ?_
  refine s_y (v := .pointer (some ⟨bs, 0, none⟩)) rfl (y_move rfl) ?_
  refine s_k rfl (k_call T64.fn_81 (c_s_pick (by omega) (by omega) (by omega) (by omega) (B.all.pick [1, 2] rfl) (B.pw.pick [1, 2] rfl rfl)) rfl ?_)
  rintro _ w4 ⟨v6, rfl, hp7, hU5⟩
  replace B : Bu w (hasW [.blk bs [.slice aq nq cq, .int .i64 p, .int .u64 (sdY Xq p)] 131]) w4 [.blk bs [.slice aq nq cq, .int .i64 (p + 1), .int .u64 (sdY Xq (p + 1))] 131, .blk b1 [.int .i64 0, .int .i64 0, .bool false, .slice none 0 0, .slice none 0 0] 26, .rd kY aq nq Xq] := B.upd [1] rfl hU5
  clear hU5
  have hb8 := pk_b Xq (n := 4) p (by omega)
  rw [← hp7] at hb8
  refine s_y (v := .int .i64 (3 + v6)) rfl (y_add rfl rfl rfl (by omega)) ?_
  refine s_y (v := .pointer (some ⟨bs, 0, none⟩)) rfl (y_move rfl) ?_
  refine s_k rfl (k_call T64.fn_99 (c_s_one (by omega) (by omega) (by omega) (by omega) (B.all.pick [0, 2] rfl) (B.pw.pick [0, 2] rfl rfl)) rfl ?_)
  rintro _ w9 ⟨vb11, rfl, hp12, hU10⟩
  replace B : Bu w (hasW [.blk bs [.slice aq nq cq, .int .i64 p, .int .u64 (sdY Xq p)] 131]) w9 [.blk bs [.slice aq nq cq, .int .i64 ((p + 1) + 1), .int .u64 (sdY Xq ((p + 1) + 1))] 131, .blk b1 [.int .i64 0, .int .i64 0, .bool false, .slice none 0 0, .slice none 0 0] 26, .rd kY aq nq Xq] := B.upd [0] rfl hU10
  clear hU10
  refine s_y (v := .agg #[.int .i64 (3 + v6), .int .i64 0, .bool vb11, .slice none 0 0, .slice none 0 0]) rfl (y_build (cells := #[.int .i64 (3 + v6), .int .i64 0, .bool vb11, .slice none 0 0, .slice none 0 0]) (by kernel_rfl)) ?_
  refine s_k rfl (k_allocN (z := (.agg #[.int .i64 0, .int .i64 0, .bool false, .slice none 0 0, .slice none 0 0])) (cs := [.int .i64 0, .int .i64 0, .bool false, .slice none 0 0, .slice none 0 0]) T64.zero_26 rfl (fun b13 w14 hN15 => ?_))
  replace B := B.new1 hN15
  clear hN15
  refine s_k0 rfl (k_stB (v := .agg #[.int .i64 (3 + v6), .int .i64 0, .bool vb11, .slice none 0 0, .slice none 0 0]) (n := 5) (cs' := [.int .i64 (3 + v6), .int .i64 0, .bool vb11, .slice none 0 0, .slice none 0 0]) T64.sz_26_5 rfl rfl rfl (B.b 0 rfl) (by simp [Value.cells, Value.oneCell']) (Nat.le_of_ble_eq_true rfl) rfl (fun w16 hU17 => ?_))
  replace B : Bu w (hasW [.blk bs [.slice aq nq cq, .int .i64 p, .int .u64 (sdY Xq p)] 131]) w16 [.blk b13 [.int .i64 (3 + v6), .int .i64 0, .bool vb11, .slice none 0 0, .slice none 0 0] 26, .blk bs [.slice aq nq cq, .int .i64 ((p + 1) + 1), .int .u64 (sdY Xq ((p + 1) + 1))] 131, .blk b1 [.int .i64 0, .int .i64 0, .bool false, .slice none 0 0, .slice none 0 0] 26, .rd kY aq nq Xq] := B.upd [0] rfl hU17
  clear hU17
  refine s_nil ?_
  refine W_seq ?_
  refine W_region (by kernel_rfl) ?_
  refine s_y (v := .pointer (some ⟨bs, 0, none⟩)) rfl (y_move rfl) ?_
  refine s_k rfl (k_call T64.fn_81 (c_s_pick (by omega) (by omega) (by omega) (by omega) (B.all.pick [1, 3] rfl) (B.pw.pick [1, 3] rfl rfl)) rfl ?_)
  rintro _ w18 ⟨v20, rfl, hp21, hU19⟩
  replace B : Bu w (hasW [.blk bs [.slice aq nq cq, .int .i64 p, .int .u64 (sdY Xq p)] 131]) w18 [.blk bs [.slice aq nq cq, .int .i64 (((p + 1) + 1) + 1), .int .u64 (sdY Xq (((p + 1) + 1) + 1))] 131, .blk b13 [.int .i64 (3 + v6), .int .i64 0, .bool vb11, .slice none 0 0, .slice none 0 0] 26, .blk b1 [.int .i64 0, .int .i64 0, .bool false, .slice none 0 0, .slice none 0 0] 26, .rd kY aq nq Xq] := B.upd [1] rfl hU19
  clear hU19
  have hb22 := pk_b Xq (n := 4) ((p + 1) + 1) (by omega)
  rw [← hp21] at hb22
  refine s_y (v := .int .i64 (3 + v20)) rfl (y_add rfl rfl rfl (by omega)) ?_
  refine s_y (v := .pointer (some ⟨b13, 1, none⟩)) rfl (y_fld (o := 0) T64.fld_26_1_1 rfl) ?_
  refine s_k0 rfl (k_stB (v := .int .i64 (3 + v20)) (n := 1) (cs' := [.int .i64 (3 + v6), .int .i64 (3 + v20), .bool vb11, .slice none 0 0, .slice none 0 0]) T64.sz_2_1 rfl rfl rfl (B.b 1 rfl) (by simp [Value.cells, Value.oneCell']) (Nat.le_of_ble_eq_true rfl) rfl (fun w23 hU24 => ?_))
  replace B : Bu w (hasW [.blk bs [.slice aq nq cq, .int .i64 p, .int .u64 (sdY Xq p)] 131]) w23 [.blk b13 [.int .i64 (3 + v6), .int .i64 (3 + v20), .bool vb11, .slice none 0 0, .slice none 0 0] 26, .blk bs [.slice aq nq cq, .int .i64 (((p + 1) + 1) + 1), .int .u64 (sdY Xq (((p + 1) + 1) + 1))] 131, .blk b1 [.int .i64 0, .int .i64 0, .bool false, .slice none 0 0, .slice none 0 0] 26, .rd kY aq nq Xq] := B.upd [1] rfl hU24
  clear hU24
  refine s_nil ?_
  refine W_seq ?_
  refine W_region (by kernel_rfl) ?_
  refine s_y (v := .pointer (some ⟨bs, 0, none⟩)) rfl (y_move rfl) ?_
  refine s_k rfl (k_call T64.fn_99 (c_s_one (by omega) (by omega) (by omega) (by omega) (B.all.pick [1, 3] rfl) (B.pw.pick [1, 3] rfl rfl)) rfl ?_)
  rintro _ w25 ⟨vb27, rfl, hp28, hU26⟩
  replace B : Bu w (hasW [.blk bs [.slice aq nq cq, .int .i64 p, .int .u64 (sdY Xq p)] 131]) w25 [.blk bs [.slice aq nq cq, .int .i64 ((((p + 1) + 1) + 1) + 1), .int .u64 (sdY Xq ((((p + 1) + 1) + 1) + 1))] 131, .blk b13 [.int .i64 (3 + v6), .int .i64 (3 + v20), .bool vb11, .slice none 0 0, .slice none 0 0] 26, .blk b1 [.int .i64 0, .int .i64 0, .bool false, .slice none 0 0, .slice none 0 0] 26, .rd kY aq nq Xq] := B.upd [1] rfl hU26
  clear hU26
  refine s_y (v := .bool vb27) rfl (y_assign rfl) ?_
  refine s_nil ?_
  refine W_seq ?_
  refine W_seq ?_
  refine W_region (by kernel_rfl) ?_
  refine s_y (v := .int .i64 0) rfl (y_assign rfl) ?_
  refine s_nil ?_
  refine W_block ?_
  have hwh := mul16 (a := (3 + v6)) (b := (3 + v20)) (by omega)
  refine W_loop (fun ρ' w' => ∃ (ρ1 : Env) (k : Int) (A1 : Option Addr) (N1 : Nat) (C1 : Nat) (A2 : Option Addr) (N2 : Nat) (C2 : Nat), ρ' = updL ρ1 [(0, .pointer (some ⟨bs, 0, none⟩)), (2, .pointer (some ⟨b1, 0, none⟩)), (3, .pointer (some ⟨b13, 0, none⟩)), (4, .bool vb27), (5, .int .i64 k)] ∧ Bu w (hasW [.blk bs [.slice aq nq cq, .int .i64 p, .int .u64 (sdY Xq p)] 131]) w' [.ow kF A1 N1 C1 34 (dwSpL Xq vb27 (p + 1 + 1 + 1 + 1) k), .ow kF A2 N2 C2 34 (dwLsL Xq vb27 (p + 1 + 1 + 1 + 1) k), .blk bs [.slice aq nq cq, .int .i64 (dwP Xq vb27 (p + 1 + 1 + 1 + 1) k), .int .u64 (sdY Xq (dwP Xq vb27 (p + 1 + 1 + 1 + 1) k))] 131, .blk b13 [.int .i64 (3 + v6), .int .i64 (3 + v20), .bool vb11, .slice A1 N1 C1, .slice A2 N2 C2] 26, .blk b1 [.int .i64 0, .int .i64 0, .bool false, .slice none 0 0, .slice none 0 0] 26, .rd kY aq nq Xq] ∧ (0 ≤ k) ∧ (k ≤ (3 + v6) * (3 + v20))) (fun ρ' _ => ((3 + v6) * (3 + v20) - iv (ρ' 5)).toNat) ?_ ?_
  · have hN29 := New.nilO w25 kF 34
    replace B := B.new1 hN29
    clear hN29
    have hN30 := New.nilO w25 kF 34
    replace B := B.new1 hN30
    clear hN30
    replace B : Bu w (hasW [.blk bs [.slice aq nq cq, .int .i64 p, .int .u64 (sdY Xq p)] 131]) w25 [.ow kF (none) 0 0 34 ([] : List Nat), .ow kF none 0 0 34 ([] : List Nat), .blk bs [.slice aq nq cq, .int .i64 (dwP Xq vb27 (p + 1 + 1 + 1 + 1) 0), .int .u64 (sdY Xq (dwP Xq vb27 (p + 1 + 1 + 1 + 1) 0))] 131, .blk b13 [.int .i64 (3 + v6), .int .i64 (3 + v20), .bool vb11, .slice none 0 0, .slice none 0 0] 26, .blk b1 [.int .i64 0, .int .i64 0, .bool false, .slice none 0 0, .slice none 0 0] 26, .rd kY aq nq Xq] := B.blkEq 2 rfl (pos_cells dwP_zero.symm)
    replace B : Bu w (hasW [.blk bs [.slice aq nq cq, .int .i64 p, .int .u64 (sdY Xq p)] 131]) w25 [.ow kF (none) 0 0 34 ([] : List Nat), .ow kF none 0 0 34 (dwSpL Xq vb27 (p + 1 + 1 + 1 + 1) 0), .blk bs [.slice aq nq cq, .int .i64 (dwP Xq vb27 (p + 1 + 1 + 1 + 1) 0), .int .u64 (sdY Xq (dwP Xq vb27 (p + 1 + 1 + 1 + 1) 0))] 131, .blk b13 [.int .i64 (3 + v6), .int .i64 (3 + v20), .bool vb11, .slice none 0 0, .slice none 0 0] 26, .blk b1 [.int .i64 0, .int .i64 0, .bool false, .slice none 0 0, .slice none 0 0] 26, .rd kY aq nq Xq] := B.castX 1 rfl rfl rfl
    replace B : Bu w (hasW [.blk bs [.slice aq nq cq, .int .i64 p, .int .u64 (sdY Xq p)] 131]) w25 [.ow kF (none) 0 0 34 (dwLsL Xq vb27 (p + 1 + 1 + 1 + 1) 0), .ow kF none 0 0 34 (dwSpL Xq vb27 (p + 1 + 1 + 1 + 1) 0), .blk bs [.slice aq nq cq, .int .i64 (dwP Xq vb27 (p + 1 + 1 + 1 + 1) 0), .int .u64 (sdY Xq (dwP Xq vb27 (p + 1 + 1 + 1 + 1) 0))] 131, .blk b13 [.int .i64 (3 + v6), .int .i64 (3 + v20), .bool vb11, .slice none 0 0, .slice none 0 0] 26, .blk b1 [.int .i64 0, .int .i64 0, .bool false, .slice none 0 0, .slice none 0 0] 26, .rd kY aq nq Xq] := B.castX 0 rfl rfl rfl
    exact ⟨_, 0, none, 0, 0, none, 0, 0, Fits.eq ⟨rfl, rfl, rfl, rfl, rfl, trivial⟩, (B.pick [1, 0, 2, 3, 4, 5] rfl rfl), (Int.le_refl _), (by omega)⟩
  · clear B; rintro _ w31 ⟨ρ32, k, A1, N1, C1, A2, N2, C2, rfl, B, h0k, h1k⟩
    have hdp := dwP_b Xq vb27 (p + 1 + 1 + 1 + 1) h0k
    have hN1 := (B.o 0 rfl).len
    rw [dwSpL_len] at hN1
    have hN2 := (B.o 1 rfl).len
    rw [dwLsL_len] at hN2
    refine W_seq ?_
    refine W_seq ?_
    refine W_region (by kernel_rfl) ?_
    refine s_y (v := .int .i64 k) rfl (y_move rfl) ?_
    refine s_y (v := .pointer (some ⟨b13, 0, none⟩)) rfl (y_fld (o := 0) T64.fld_26_0_0 rfl) ?_
    refine s_y (v := .int .i64 (3 + v6)) rfl (y_load T64.one_2 rfl ((B.b 3 rfl).cell (j := 0) rfl)) ?_
    refine s_y (v := .pointer (some ⟨b13, 1, none⟩)) rfl (y_fld (o := 0) T64.fld_26_1_1 rfl) ?_
    refine s_y (v := .int .i64 (3 + v20)) rfl (y_load T64.one_2 rfl ((B.b 3 rfl).cell (j := 1) rfl)) ?_
    have hm33 := mulb (a := 3 + v6) (b := 3 + v20) (by omega) (by omega) (by omega) (by omega)
    refine s_y (v := .int .i64 ((3 + v6) * (3 + v20))) rfl (y_mul rfl rfl rfl (by omega)) ?_
    by_cases c34 : k < ((3 + v6) * (3 + v20))
    · refine s_y (v := .bool true) rfl (y_lss rfl rfl (decide_eq_true c34)) ?_
      refine s_nil ?_
      refine W_if_t (by decide) rfl ?_
      refine W_skip ?_
      refine W_seq ?_
      refine W_block ?_
      refine W_seq ?_
      refine W_region (by kernel_rfl) ?_
      refine s_y (v := .float .f32 1056964608) rfl (y_assign rfl) ?_
      refine s_nil ?_
      refine W_seq ?_
      refine W_region (by kernel_rfl) ?_
      refine s_y (v := .float .f32 0) rfl (y_assign rfl) ?_
      refine s_nil ?_
      refine W_seq ?_
      refine W_seq ?_
      refine W_region (by kernel_rfl) ?_
      refine s_y (v := .bool vb27) rfl (y_move rfl) ?_
      refine s_y (v := .bool (!vb27)) rfl (y_not rfl rfl) ?_
      refine s_nil ?_
      cases vb27
      · refine W_if_t (by decide) rfl ?_
        refine W_seq ?_
        refine W_region (by kernel_rfl) ?_
        refine s_y (v := .pointer (some ⟨bs, 0, none⟩)) rfl (y_move rfl) ?_
        refine s_k rfl (k_call T64.fn_81 (c_s_pick (by omega) (by omega) (by omega) (by omega) (B.all.pick [2, 5] rfl) (B.pw.pick [2, 5] rfl rfl)) rfl ?_)
        rintro _ w35 ⟨v37, rfl, hp38, hU36⟩
        replace B : Bu w (hasW [.blk bs [.slice aq nq cq, .int .i64 p, .int .u64 (sdY Xq p)] 131]) w35 [.blk bs [.slice aq nq cq, .int .i64 ((dwP Xq false (p + 1 + 1 + 1 + 1) k) + 1), .int .u64 (sdY Xq ((dwP Xq false (p + 1 + 1 + 1 + 1) k) + 1))] 131, .ow kF A1 N1 C1 34 (dwSpL Xq false (p + 1 + 1 + 1 + 1) k), .ow kF A2 N2 C2 34 (dwLsL Xq false (p + 1 + 1 + 1 + 1) k), .blk b13 [.int .i64 (3 + v6), .int .i64 (3 + v20), .bool vb11, .slice A1 N1 C1, .slice A2 N2 C2] 26, .blk b1 [.int .i64 0, .int .i64 0, .bool false, .slice none 0 0, .slice none 0 0] 26, .rd kY aq nq Xq] := B.upd [2] rfl hU36
        clear hU36
        have hb39 := pk_b Xq (n := 9) (dwP Xq false (p + 1 + 1 + 1 + 1) k) (by omega)
        rw [← hp38] at hb39
        refine s_y (v := .float .f32 (FloatKind.nearest .f32 v37)) rfl (y_if T64.und_2 T64.flt_34_f32 rfl) ?_
        refine s_n rfl (n_arith (by decide) rfl rfl) ?_
        rintro _ w43 e44 ⟨r41, rfl, hr42⟩
        replace B := B.ext0 e44
        clear e44
        have hc45 := fopC hr42 (cn_nearest .f32 v37) (cnLit (k := .f32) (t := 1098907648) (by kernel_rfl) (by kernel_rfl))
        refine s_y (v := .float .f32 r41) rfl (y_assign rfl) ?_
        refine s_nil ?_
        refine W_seq ?_
        refine W_region (by kernel_rfl) ?_
        refine s_y (v := .pointer (some ⟨bs, 0, none⟩)) rfl (y_move rfl) ?_
        refine s_k rfl (k_call T64.fn_99 (c_s_one (by omega) (by omega) (by omega) (by omega) (B.all.pick [0, 5] rfl) (B.pw.pick [0, 5] rfl rfl)) rfl ?_)
        rintro _ w46 ⟨vb48, rfl, hp49, hU47⟩
        replace B : Bu w (hasW [.blk bs [.slice aq nq cq, .int .i64 p, .int .u64 (sdY Xq p)] 131]) w46 [.blk bs [.slice aq nq cq, .int .i64 (((dwP Xq false (p + 1 + 1 + 1 + 1) k) + 1) + 1), .int .u64 (sdY Xq (((dwP Xq false (p + 1 + 1 + 1 + 1) k) + 1) + 1))] 131, .ow kF A1 N1 C1 34 (dwSpL Xq false (p + 1 + 1 + 1 + 1) k), .ow kF A2 N2 C2 34 (dwLsL Xq false (p + 1 + 1 + 1 + 1) k), .blk b13 [.int .i64 (3 + v6), .int .i64 (3 + v20), .bool vb11, .slice A1 N1 C1, .slice A2 N2 C2] 26, .blk b1 [.int .i64 0, .int .i64 0, .bool false, .slice none 0 0, .slice none 0 0] 26, .rd kY aq nq Xq] := B.upd [0] rfl hU47
        clear hU47
        refine s_nil ?_
        cases vb48
        · refine W_if_f (by decide) rfl ?_
          refine W_skip ?_
          refine W_seq ?_
          refine W_region (by kernel_rfl) ?_
          refine s_y (v := .pointer (some ⟨b13, 3, none⟩)) rfl (y_fld (o := 0) T64.fld_26_3_3 rfl) ?_
          refine s_y (v := .slice A1 N1 C1) rfl (y_load T64.one_24 rfl ((B.b 3 rfl).cell (j := 3) rfl)) ?_
          refine s_y (v := .float .f32 r41) rfl (y_move rfl) ?_
          refine s_k rfl (k_bsliceO (k := kF) (n := 1) (cells := #[.float .f32 r41]) (X := [fop .quo .f32 (FloatKind.nearest .f32 v37) 1098907648]) T64.slt_24 (by decide) (by first | rfl | kernel_rfl) (reps_cons (c := [.float .f32 r41]) ⟨_, rfl, hc45⟩ (rfl : Reps kF [] [])) rfl (fun b50 w51 hN52 => ?_))
          replace B := B.new1 hN52
          clear hN52
          refine s_k rfl (k_appO (k := kF) T64.slt_24 rfl rfl rfl (B.o 2 rfl) (B.o 0 rfl).rd (by omega) (by unfold maxLen; omega) (fun a53 c54 w55 hU56 => ?_))
          replace B : Bu w (hasW [.blk bs [.slice aq nq cq, .int .i64 p, .int .u64 (sdY Xq p)] 131]) w55 [.ow kF a53 (N1 + 1) c54 34 ((dwSpL Xq false (p + 1 + 1 + 1 + 1) k) ++ ([fop .quo .f32 (FloatKind.nearest .f32 v37) 1098907648])), .ow kF (some ⟨b50, 0, none⟩) 1 1 34 ([fop .quo .f32 (FloatKind.nearest .f32 v37) 1098907648]), .blk bs [.slice aq nq cq, .int .i64 (((dwP Xq false (p + 1 + 1 + 1 + 1) k) + 1) + 1), .int .u64 (sdY Xq (((dwP Xq false (p + 1 + 1 + 1 + 1) k) + 1) + 1))] 131, .ow kF A2 N2 C2 34 (dwLsL Xq false (p + 1 + 1 + 1 + 1) k), .blk b13 [.int .i64 (3 + v6), .int .i64 (3 + v20), .bool vb11, .slice A1 N1 C1, .slice A2 N2 C2] 26, .blk b1 [.int .i64 0, .int .i64 0, .bool false, .slice none 0 0, .slice none 0 0] 26, .rd kY aq nq Xq] := B.upd [2] rfl hU56
          clear hU56
          refine s_y (v := .pointer (some ⟨b13, 3, none⟩)) rfl (y_fld (o := 0) T64.fld_26_3_3 rfl) ?_
          refine s_k0 rfl (k_stB (v := .slice a53 (N1 + 1) c54) (n := 1) (cs' := [.int .i64 (3 + v6), .int .i64 (3 + v20), .bool vb11, .slice a53 (N1 + 1) c54, .slice A2 N2 C2]) T64.sz_24_1 rfl rfl rfl (B.b 4 rfl) (by simp [Value.cells, Value.oneCell']) (Nat.le_of_ble_eq_true rfl) rfl (fun w57 hU58 => ?_))
          replace B : Bu w (hasW [.blk bs [.slice aq nq cq, .int .i64 p, .int .u64 (sdY Xq p)] 131]) w57 [.blk b13 [.int .i64 (3 + v6), .int .i64 (3 + v20), .bool vb11, .slice a53 (N1 + 1) c54, .slice A2 N2 C2] 26, .ow kF a53 (N1 + 1) c54 34 ((dwSpL Xq false (p + 1 + 1 + 1 + 1) k) ++ ([fop .quo .f32 (FloatKind.nearest .f32 v37) 1098907648])), .ow kF (some ⟨b50, 0, none⟩) 1 1 34 ([fop .quo .f32 (FloatKind.nearest .f32 v37) 1098907648]), .blk bs [.slice aq nq cq, .int .i64 (((dwP Xq false (p + 1 + 1 + 1 + 1) k) + 1) + 1), .int .u64 (sdY Xq (((dwP Xq false (p + 1 + 1 + 1 + 1) k) + 1) + 1))] 131, .ow kF A2 N2 C2 34 (dwLsL Xq false (p + 1 + 1 + 1 + 1) k), .blk b1 [.int .i64 0, .int .i64 0, .bool false, .slice none 0 0, .slice none 0 0] 26, .rd kY aq nq Xq] := B.upd [4] rfl hU58
          clear hU58
          refine s_nil ?_
          refine W_region (by kernel_rfl) ?_
          refine s_y (v := .pointer (some ⟨b13, 4, none⟩)) rfl (y_fld (o := 0) T64.fld_26_4_4 rfl) ?_
          refine s_y (v := .slice A2 N2 C2) rfl (y_load T64.one_24 rfl ((B.b 0 rfl).cell (j := 4) rfl)) ?_
          refine s_y (v := .float .f32 0) rfl (y_move rfl) ?_
          refine s_k rfl (k_bsliceO (k := kF) (n := 1) (cells := #[.float .f32 0]) (X := [0]) T64.slt_24 (by decide) (by first | rfl | kernel_rfl) (reps_cons (c := [.float .f32 0]) ⟨_, rfl, (cnLit (k := .f32) (t := 0) (by kernel_rfl) (by kernel_rfl))⟩ (rfl : Reps kF [] [])) rfl (fun b59 w60 hN61 => ?_))
          replace B := B.new1 hN61
          clear hN61
          refine s_k rfl (k_appO (k := kF) T64.slt_24 rfl rfl rfl (B.o 5 rfl) (B.o 0 rfl).rd (by omega) (by unfold maxLen; omega) (fun a62 c63 w64 hU65 => ?_))
          replace B : Bu w (hasW [.blk bs [.slice aq nq cq, .int .i64 p, .int .u64 (sdY Xq p)] 131]) w64 [.ow kF a62 (N2 + 1) c63 34 ((dwLsL Xq false (p + 1 + 1 + 1 + 1) k) ++ ([0])), .ow kF (some ⟨b59, 0, none⟩) 1 1 34 ([0]), .blk b13 [.int .i64 (3 + v6), .int .i64 (3 + v20), .bool vb11, .slice a53 (N1 + 1) c54, .slice A2 N2 C2] 26, .ow kF a53 (N1 + 1) c54 34 ((dwSpL Xq false (p + 1 + 1 + 1 + 1) k) ++ ([fop .quo .f32 (FloatKind.nearest .f32 v37) 1098907648])), .ow kF (some ⟨b50, 0, none⟩) 1 1 34 ([fop .quo .f32 (FloatKind.nearest .f32 v37) 1098907648]), .blk bs [.slice aq nq cq, .int .i64 (((dwP Xq false (p + 1 + 1 + 1 + 1) k) + 1) + 1), .int .u64 (sdY Xq (((dwP Xq false (p + 1 + 1 + 1 + 1) k) + 1) + 1))] 131, .blk b1 [.int .i64 0, .int .i64 0, .bool false, .slice none 0 0, .slice none 0 0] 26, .rd kY aq nq Xq] := B.upd [5] rfl hU65
          clear hU65
          refine s_y (v := .pointer (some ⟨b13, 4, none⟩)) rfl (y_fld (o := 0) T64.fld_26_4_4 rfl) ?_
          refine s_k0 rfl (k_stB (v := .slice a62 (N2 + 1) c63) (n := 1) (cs' := [.int .i64 (3 + v6), .int .i64 (3 + v20), .bool vb11, .slice a53 (N1 + 1) c54, .slice a62 (N2 + 1) c63]) T64.sz_24_1 rfl rfl rfl (B.b 2 rfl) (by simp [Value.cells, Value.oneCell']) (Nat.le_of_ble_eq_true rfl) rfl (fun w66 hU67 => ?_))
          replace B : Bu w (hasW [.blk bs [.slice aq nq cq, .int .i64 p, .int .u64 (sdY Xq p)] 131]) w66 [.blk b13 [.int .i64 (3 + v6), .int .i64 (3 + v20), .bool vb11, .slice a53 (N1 + 1) c54, .slice a62 (N2 + 1) c63] 26, .ow kF a62 (N2 + 1) c63 34 ((dwLsL Xq false (p + 1 + 1 + 1 + 1) k) ++ ([0])), .ow kF (some ⟨b59, 0, none⟩) 1 1 34 ([0]), .ow kF a53 (N1 + 1) c54 34 ((dwSpL Xq false (p + 1 + 1 + 1 + 1) k) ++ ([fop .quo .f32 (FloatKind.nearest .f32 v37) 1098907648])), .ow kF (some ⟨b50, 0, none⟩) 1 1 34 ([fop .quo .f32 (FloatKind.nearest .f32 v37) 1098907648]), .blk bs [.slice aq nq cq, .int .i64 (((dwP Xq false (p + 1 + 1 + 1 + 1) k) + 1) + 1), .int .u64 (sdY Xq (((dwP Xq false (p + 1 + 1 + 1 + 1) k) + 1) + 1))] 131, .blk b1 [.int .i64 0, .int .i64 0, .bool false, .slice none 0 0, .slice none 0 0] 26, .rd kY aq nq Xq] := B.upd [2] rfl hU67
          clear hU67
          refine s_nil ?_
          refine W_region (by kernel_rfl) ?_
          refine s_y (v := .int .i64 k) rfl (y_move rfl) ?_
          refine s_y (v := .int .i64 (k + 1)) rfl (y_add rfl rfl rfl (by omega)) ?_
          refine s_y (v := .int .i64 (k + 1)) rfl (y_assign rfl) ?_
          refine s_nil ?_
          subst hp38
          replace B : Bu w (hasW [.blk bs [.slice aq nq cq, .int .i64 p, .int .u64 (sdY Xq p)] 131]) w66 [.blk b13 [.int .i64 (3 + v6), .int .i64 (3 + v20), .bool vb11, .slice a53 (N1 + 1) c54, .slice a62 (N2 + 1) c63] 26, .ow kF a62 (N2 + 1) c63 34 ((dwLsL Xq false (p + 1 + 1 + 1 + 1) k) ++ ([0])), .ow kF (some ⟨b59, 0, none⟩) 1 1 34 ([0]), .ow kF a53 (N1 + 1) c54 34 ((dwSpL Xq false (p + 1 + 1 + 1 + 1) k) ++ ([fop .quo .f32 (FloatKind.nearest .f32 (pk Xq 9 (dwP Xq false (p + 1 + 1 + 1 + 1) k))) 1098907648])), .ow kF (some ⟨b50, 0, none⟩) 1 1 34 ([fop .quo .f32 (FloatKind.nearest .f32 (pk Xq 9 (dwP Xq false (p + 1 + 1 + 1 + 1) k))) 1098907648]), .blk bs [.slice aq nq cq, .int .i64 (dwP Xq false (p + 1 + 1 + 1 + 1) (k + 1)), .int .u64 (sdY Xq (dwP Xq false (p + 1 + 1 + 1 + 1) (k + 1)))] 131, .blk b1 [.int .i64 0, .int .i64 0, .bool false, .slice none 0 0, .slice none 0 0] 26, .rd kY aq nq Xq] := B.blkEq 5 rfl (pos_cells ((dw_no (q := dwP Xq false (p + 1 + 1 + 1 + 1) k) hp49).2.trans (dwP_next h0k)))
          replace B : Bu w (hasW [.blk bs [.slice aq nq cq, .int .i64 p, .int .u64 (sdY Xq p)] 131]) w66 [.blk b13 [.int .i64 (3 + v6), .int .i64 (3 + v20), .bool vb11, .slice a53 (N1 + 1) c54, .slice a62 (N2 + 1) c63] 26, .ow kF a62 (N2 + 1) c63 34 ((dwLsL Xq false (p + 1 + 1 + 1 + 1) k) ++ ([0])), .ow kF (some ⟨b59, 0, none⟩) 1 1 34 ([0]), .ow kF a53 (N1 + 1) c54 34 (dwSpL Xq false (p + 1 + 1 + 1 + 1) (k + 1)), .ow kF (some ⟨b50, 0, none⟩) 1 1 34 ([fop .quo .f32 (FloatKind.nearest .f32 (pk Xq 9 (dwP Xq false (p + 1 + 1 + 1 + 1) k))) 1098907648]), .blk bs [.slice aq nq cq, .int .i64 (dwP Xq false (p + 1 + 1 + 1 + 1) (k + 1)), .int .u64 (sdY Xq (dwP Xq false (p + 1 + 1 + 1 + 1) (k + 1)))] 131, .blk b1 [.int .i64 0, .int .i64 0, .bool false, .slice none 0 0, .slice none 0 0] 26, .rd kY aq nq Xq] := B.castX 3 rfl rfl (dwSpL_next h0k rfl)
          replace B : Bu w (hasW [.blk bs [.slice aq nq cq, .int .i64 p, .int .u64 (sdY Xq p)] 131]) w66 [.blk b13 [.int .i64 (3 + v6), .int .i64 (3 + v20), .bool vb11, .slice a53 (N1 + 1) c54, .slice a62 (N2 + 1) c63] 26, .ow kF a62 (N2 + 1) c63 34 (dwLsL Xq false (p + 1 + 1 + 1 + 1) (k + 1)), .ow kF (some ⟨b59, 0, none⟩) 1 1 34 ([0]), .ow kF a53 (N1 + 1) c54 34 (dwSpL Xq false (p + 1 + 1 + 1 + 1) (k + 1)), .ow kF (some ⟨b50, 0, none⟩) 1 1 34 ([fop .quo .f32 (FloatKind.nearest .f32 (pk Xq 9 (dwP Xq false (p + 1 + 1 + 1 + 1) k))) 1098907648]), .blk bs [.slice aq nq cq, .int .i64 (dwP Xq false (p + 1 + 1 + 1 + 1) (k + 1)), .int .u64 (sdY Xq (dwP Xq false (p + 1 + 1 + 1 + 1) (k + 1)))] 131, .blk b1 [.int .i64 0, .int .i64 0, .bool false, .slice none 0 0, .slice none 0 0] 26, .rd kY aq nq Xq] := B.castX 1 rfl rfl (dwLsL_next h0k (dw_no (q := dwP Xq false (p + 1 + 1 + 1 + 1) k) hp49).1)
          refine ⟨⟨_, k + 1, a53, N1 + 1, c54, a62, N2 + 1, c63, Fits.eq ⟨rfl, rfl, rfl, rfl, rfl, trivial⟩, (B.pick [3, 1, 5, 0, 6, 7] rfl rfl), (by omega), (by omega)⟩, ?_⟩
          show ((3 + v6) * (3 + v20) - (k + 1)).toNat < ((3 + v6) * (3 + v20) - k).toNat
          omega
        · refine W_if_t (by decide) rfl ?_
          refine W_region (by kernel_rfl) ?_
          refine s_y (v := .pointer (some ⟨bs, 0, none⟩)) rfl (y_move rfl) ?_
          refine s_k rfl (k_call T64.fn_81 (c_s_pick (by omega) (by omega) (by omega) (by omega) (B.all.pick [0, 5] rfl) (B.pw.pick [0, 5] rfl rfl)) rfl ?_)
          rintro _ w68 ⟨v70, rfl, hp71, hU69⟩
          replace B : Bu w (hasW [.blk bs [.slice aq nq cq, .int .i64 p, .int .u64 (sdY Xq p)] 131]) w68 [.blk bs [.slice aq nq cq, .int .i64 ((((dwP Xq false (p + 1 + 1 + 1 + 1) k) + 1) + 1) + 1), .int .u64 (sdY Xq ((((dwP Xq false (p + 1 + 1 + 1 + 1) k) + 1) + 1) + 1))] 131, .ow kF A1 N1 C1 34 (dwSpL Xq false (p + 1 + 1 + 1 + 1) k), .ow kF A2 N2 C2 34 (dwLsL Xq false (p + 1 + 1 + 1 + 1) k), .blk b13 [.int .i64 (3 + v6), .int .i64 (3 + v20), .bool vb11, .slice A1 N1 C1, .slice A2 N2 C2] 26, .blk b1 [.int .i64 0, .int .i64 0, .bool false, .slice none 0 0, .slice none 0 0] 26, .rd kY aq nq Xq] := B.upd [0] rfl hU69
          clear hU69
          have hb72 := pk_b Xq (n := 9) (((dwP Xq false (p + 1 + 1 + 1 + 1) k) + 1) + 1) (by omega)
          rw [← hp71] at hb72
          refine s_y (v := .float .f32 (FloatKind.nearest .f32 v70)) rfl (y_if T64.und_2 T64.flt_34_f32 rfl) ?_
          refine s_n rfl (n_arith (by decide) rfl rfl) ?_
          rintro _ w76 e77 ⟨r74, rfl, hr75⟩
          replace B := B.ext0 e77
          clear e77
          have hc78 := fopC hr75 (cn_nearest .f32 v70) (cnLit (k := .f32) (t := 1090519040) (by kernel_rfl) (by kernel_rfl))
          refine s_y (v := .float .f32 r74) rfl (y_assign rfl) ?_
          refine s_nil ?_
          refine W_seq ?_
          refine W_region (by kernel_rfl) ?_
          refine s_y (v := .pointer (some ⟨b13, 3, none⟩)) rfl (y_fld (o := 0) T64.fld_26_3_3 rfl) ?_
          refine s_y (v := .slice A1 N1 C1) rfl (y_load T64.one_24 rfl ((B.b 3 rfl).cell (j := 3) rfl)) ?_
          refine s_y (v := .float .f32 r41) rfl (y_move rfl) ?_
          refine s_k rfl (k_bsliceO (k := kF) (n := 1) (cells := #[.float .f32 r41]) (X := [fop .quo .f32 (FloatKind.nearest .f32 v37) 1098907648]) T64.slt_24 (by decide) (by first | rfl | kernel_rfl) (reps_cons (c := [.float .f32 r41]) ⟨_, rfl, hc45⟩ (rfl : Reps kF [] [])) rfl (fun b79 w80 hN81 => ?_))
          replace B := B.new1 hN81
          clear hN81
          refine s_k rfl (k_appO (k := kF) T64.slt_24 rfl rfl rfl (B.o 2 rfl) (B.o 0 rfl).rd (by omega) (by unfold maxLen; omega) (fun a82 c83 w84 hU85 => ?_))
          replace B : Bu w (hasW [.blk bs [.slice aq nq cq, .int .i64 p, .int .u64 (sdY Xq p)] 131]) w84 [.ow kF a82 (N1 + 1) c83 34 ((dwSpL Xq false (p + 1 + 1 + 1 + 1) k) ++ ([fop .quo .f32 (FloatKind.nearest .f32 v37) 1098907648])), .ow kF (some ⟨b79, 0, none⟩) 1 1 34 ([fop .quo .f32 (FloatKind.nearest .f32 v37) 1098907648]), .blk bs [.slice aq nq cq, .int .i64 ((((dwP Xq false (p + 1 + 1 + 1 + 1) k) + 1) + 1) + 1), .int .u64 (sdY Xq ((((dwP Xq false (p + 1 + 1 + 1 + 1) k) + 1) + 1) + 1))] 131, .ow kF A2 N2 C2 34 (dwLsL Xq false (p + 1 + 1 + 1 + 1) k), .blk b13 [.int .i64 (3 + v6), .int .i64 (3 + v20), .bool vb11, .slice A1 N1 C1, .slice A2 N2 C2] 26, .blk b1 [.int .i64 0, .int .i64 0, .bool false, .slice none 0 0, .slice none 0 0] 26, .rd kY aq nq Xq] := B.upd [2] rfl hU85
          clear hU85
          refine s_y (v := .pointer (some ⟨b13, 3, none⟩)) rfl (y_fld (o := 0) T64.fld_26_3_3 rfl) ?_
          refine s_k0 rfl (k_stB (v := .slice a82 (N1 + 1) c83) (n := 1) (cs' := [.int .i64 (3 + v6), .int .i64 (3 + v20), .bool vb11, .slice a82 (N1 + 1) c83, .slice A2 N2 C2]) T64.sz_24_1 rfl rfl rfl (B.b 4 rfl) (by simp [Value.cells, Value.oneCell']) (Nat.le_of_ble_eq_true rfl) rfl (fun w86 hU87 => ?_))
          replace B : Bu w (hasW [.blk bs [.slice aq nq cq, .int .i64 p, .int .u64 (sdY Xq p)] 131]) w86 [.blk b13 [.int .i64 (3 + v6), .int .i64 (3 + v20), .bool vb11, .slice a82 (N1 + 1) c83, .slice A2 N2 C2] 26, .ow kF a82 (N1 + 1) c83 34 ((dwSpL Xq false (p + 1 + 1 + 1 + 1) k) ++ ([fop .quo .f32 (FloatKind.nearest .f32 v37) 1098907648])), .ow kF (some ⟨b79, 0, none⟩) 1 1 34 ([fop .quo .f32 (FloatKind.nearest .f32 v37) 1098907648]), .blk bs [.slice aq nq cq, .int .i64 ((((dwP Xq false (p + 1 + 1 + 1 + 1) k) + 1) + 1) + 1), .int .u64 (sdY Xq ((((dwP Xq false (p + 1 + 1 + 1 + 1) k) + 1) + 1) + 1))] 131, .ow kF A2 N2 C2 34 (dwLsL Xq false (p + 1 + 1 + 1 + 1) k), .blk b1 [.int .i64 0, .int .i64 0, .bool false, .slice none 0 0, .slice none 0 0] 26, .rd kY aq nq Xq] := B.upd [4] rfl hU87
          clear hU87
          refine s_nil ?_
          refine W_region (by kernel_rfl) ?_
          refine s_y (v := .pointer (some ⟨b13, 4, none⟩)) rfl (y_fld (o := 0) T64.fld_26_4_4 rfl) ?_
          refine s_y (v := .slice A2 N2 C2) rfl (y_load T64.one_24 rfl ((B.b 0 rfl).cell (j := 4) rfl)) ?_
          refine s_y (v := .float .f32 r74) rfl (y_move rfl) ?_
          refine s_k rfl (k_bsliceO (k := kF) (n := 1) (cells := #[.float .f32 r74]) (X := [fop .quo .f32 (FloatKind.nearest .f32 v70) 1090519040]) T64.slt_24 (by decide) (by first | rfl | kernel_rfl) (reps_cons (c := [.float .f32 r74]) ⟨_, rfl, hc78⟩ (rfl : Reps kF [] [])) rfl (fun b88 w89 hN90 => ?_))
          replace B := B.new1 hN90
          clear hN90
          refine s_k rfl (k_appO (k := kF) T64.slt_24 rfl rfl rfl (B.o 5 rfl) (B.o 0 rfl).rd (by omega) (by unfold maxLen; omega) (fun a91 c92 w93 hU94 => ?_))
          replace B : Bu w (hasW [.blk bs [.slice aq nq cq, .int .i64 p, .int .u64 (sdY Xq p)] 131]) w93 [.ow kF a91 (N2 + 1) c92 34 ((dwLsL Xq false (p + 1 + 1 + 1 + 1) k) ++ ([fop .quo .f32 (FloatKind.nearest .f32 v70) 1090519040])), .ow kF (some ⟨b88, 0, none⟩) 1 1 34 ([fop .quo .f32 (FloatKind.nearest .f32 v70) 1090519040]), .blk b13 [.int .i64 (3 + v6), .int .i64 (3 + v20), .bool vb11, .slice a82 (N1 + 1) c83, .slice A2 N2 C2] 26, .ow kF a82 (N1 + 1) c83 34 ((dwSpL Xq false (p + 1 + 1 + 1 + 1) k) ++ ([fop .quo .f32 (FloatKind.nearest .f32 v37) 1098907648])), .ow kF (some ⟨b79, 0, none⟩) 1 1 34 ([fop .quo .f32 (FloatKind.nearest .f32 v37) 1098907648]), .blk bs [.slice aq nq cq, .int .i64 ((((dwP Xq false (p + 1 + 1 + 1 + 1) k) + 1) + 1) + 1), .int .u64 (sdY Xq ((((dwP Xq false (p + 1 + 1 + 1 + 1) k) + 1) + 1) + 1))] 131, .blk b1 [.int .i64 0, .int .i64 0, .bool false, .slice none 0 0, .slice none 0 0] 26, .rd kY aq nq Xq] := B.upd [5] rfl hU94
          clear hU94
          refine s_y (v := .pointer (some ⟨b13, 4, none⟩)) rfl (y_fld (o := 0) T64.fld_26_4_4 rfl) ?_
          refine s_k0 rfl (k_stB (v := .slice a91 (N2 + 1) c92) (n := 1) (cs' := [.int .i64 (3 + v6), .int .i64 (3 + v20), .bool vb11, .slice a82 (N1 + 1) c83, .slice a91 (N2 + 1) c92]) T64.sz_24_1 rfl rfl rfl (B.b 2 rfl) (by simp [Value.cells, Value.oneCell']) (Nat.le_of_ble_eq_true rfl) rfl (fun w95 hU96 => ?_))
          replace B : Bu w (hasW [.blk bs [.slice aq nq cq, .int .i64 p, .int .u64 (sdY Xq p)] 131]) w95 [.blk b13 [.int .i64 (3 + v6), .int .i64 (3 + v20), .bool vb11, .slice a82 (N1 + 1) c83, .slice a91 (N2 + 1) c92] 26, .ow kF a91 (N2 + 1) c92 34 ((dwLsL Xq false (p + 1 + 1 + 1 + 1) k) ++ ([fop .quo .f32 (FloatKind.nearest .f32 v70) 1090519040])), .ow kF (some ⟨b88, 0, none⟩) 1 1 34 ([fop .quo .f32 (FloatKind.nearest .f32 v70) 1090519040]), .ow kF a82 (N1 + 1) c83 34 ((dwSpL Xq false (p + 1 + 1 + 1 + 1) k) ++ ([fop .quo .f32 (FloatKind.nearest .f32 v37) 1098907648])), .ow kF (some ⟨b79, 0, none⟩) 1 1 34 ([fop .quo .f32 (FloatKind.nearest .f32 v37) 1098907648]), .blk bs [.slice aq nq cq, .int .i64 ((((dwP Xq false (p + 1 + 1 + 1 + 1) k) + 1) + 1) + 1), .int .u64 (sdY Xq ((((dwP Xq false (p + 1 + 1 + 1 + 1) k) + 1) + 1) + 1))] 131, .blk b1 [.int .i64 0, .int .i64 0, .bool false, .slice none 0 0, .slice none 0 0] 26, .rd kY aq nq Xq] := B.upd [2] rfl hU96
          clear hU96
          refine s_nil ?_
          refine W_region (by kernel_rfl) ?_
          refine s_y (v := .int .i64 k) rfl (y_move rfl) ?_
          refine s_y (v := .int .i64 (k + 1)) rfl (y_add rfl rfl rfl (by omega)) ?_
          refine s_y (v := .int .i64 (k + 1)) rfl (y_assign rfl) ?_
          refine s_nil ?_
          subst hp38
          subst hp71
          replace B : Bu w (hasW [.blk bs [.slice aq nq cq, .int .i64 p, .int .u64 (sdY Xq p)] 131]) w95 [.blk b13 [.int .i64 (3 + v6), .int .i64 (3 + v20), .bool vb11, .slice a82 (N1 + 1) c83, .slice a91 (N2 + 1) c92] 26, .ow kF a91 (N2 + 1) c92 34 ((dwLsL Xq false (p + 1 + 1 + 1 + 1) k) ++ ([fop .quo .f32 (FloatKind.nearest .f32 (pk Xq 9 (((dwP Xq false (p + 1 + 1 + 1 + 1) k) + 1) + 1))) 1090519040])), .ow kF (some ⟨b88, 0, none⟩) 1 1 34 ([fop .quo .f32 (FloatKind.nearest .f32 (pk Xq 9 (((dwP Xq false (p + 1 + 1 + 1 + 1) k) + 1) + 1))) 1090519040]), .ow kF a82 (N1 + 1) c83 34 ((dwSpL Xq false (p + 1 + 1 + 1 + 1) k) ++ ([fop .quo .f32 (FloatKind.nearest .f32 (pk Xq 9 (dwP Xq false (p + 1 + 1 + 1 + 1) k))) 1098907648])), .ow kF (some ⟨b79, 0, none⟩) 1 1 34 ([fop .quo .f32 (FloatKind.nearest .f32 (pk Xq 9 (dwP Xq false (p + 1 + 1 + 1 + 1) k))) 1098907648]), .blk bs [.slice aq nq cq, .int .i64 (dwP Xq false (p + 1 + 1 + 1 + 1) (k + 1)), .int .u64 (sdY Xq (dwP Xq false (p + 1 + 1 + 1 + 1) (k + 1)))] 131, .blk b1 [.int .i64 0, .int .i64 0, .bool false, .slice none 0 0, .slice none 0 0] 26, .rd kY aq nq Xq] := B.blkEq 5 rfl (pos_cells ((dw_yes (q := dwP Xq false (p + 1 + 1 + 1 + 1) k) hp49).2.trans (dwP_next h0k)))
          replace B : Bu w (hasW [.blk bs [.slice aq nq cq, .int .i64 p, .int .u64 (sdY Xq p)] 131]) w95 [.blk b13 [.int .i64 (3 + v6), .int .i64 (3 + v20), .bool vb11, .slice a82 (N1 + 1) c83, .slice a91 (N2 + 1) c92] 26, .ow kF a91 (N2 + 1) c92 34 ((dwLsL Xq false (p + 1 + 1 + 1 + 1) k) ++ ([fop .quo .f32 (FloatKind.nearest .f32 (pk Xq 9 (((dwP Xq false (p + 1 + 1 + 1 + 1) k) + 1) + 1))) 1090519040])), .ow kF (some ⟨b88, 0, none⟩) 1 1 34 ([fop .quo .f32 (FloatKind.nearest .f32 (pk Xq 9 (((dwP Xq false (p + 1 + 1 + 1 + 1) k) + 1) + 1))) 1090519040]), .ow kF a82 (N1 + 1) c83 34 (dwSpL Xq false (p + 1 + 1 + 1 + 1) (k + 1)), .ow kF (some ⟨b79, 0, none⟩) 1 1 34 ([fop .quo .f32 (FloatKind.nearest .f32 (pk Xq 9 (dwP Xq false (p + 1 + 1 + 1 + 1) k))) 1098907648]), .blk bs [.slice aq nq cq, .int .i64 (dwP Xq false (p + 1 + 1 + 1 + 1) (k + 1)), .int .u64 (sdY Xq (dwP Xq false (p + 1 + 1 + 1 + 1) (k + 1)))] 131, .blk b1 [.int .i64 0, .int .i64 0, .bool false, .slice none 0 0, .slice none 0 0] 26, .rd kY aq nq Xq] := B.castX 3 rfl rfl (dwSpL_next h0k rfl)
          replace B : Bu w (hasW [.blk bs [.slice aq nq cq, .int .i64 p, .int .u64 (sdY Xq p)] 131]) w95 [.blk b13 [.int .i64 (3 + v6), .int .i64 (3 + v20), .bool vb11, .slice a82 (N1 + 1) c83, .slice a91 (N2 + 1) c92] 26, .ow kF a91 (N2 + 1) c92 34 (dwLsL Xq false (p + 1 + 1 + 1 + 1) (k + 1)), .ow kF (some ⟨b88, 0, none⟩) 1 1 34 ([fop .quo .f32 (FloatKind.nearest .f32 (pk Xq 9 (((dwP Xq false (p + 1 + 1 + 1 + 1) k) + 1) + 1))) 1090519040]), .ow kF a82 (N1 + 1) c83 34 (dwSpL Xq false (p + 1 + 1 + 1 + 1) (k + 1)), .ow kF (some ⟨b79, 0, none⟩) 1 1 34 ([fop .quo .f32 (FloatKind.nearest .f32 (pk Xq 9 (dwP Xq false (p + 1 + 1 + 1 + 1) k))) 1098907648]), .blk bs [.slice aq nq cq, .int .i64 (dwP Xq false (p + 1 + 1 + 1 + 1) (k + 1)), .int .u64 (sdY Xq (dwP Xq false (p + 1 + 1 + 1 + 1) (k + 1)))] 131, .blk b1 [.int .i64 0, .int .i64 0, .bool false, .slice none 0 0, .slice none 0 0] 26, .rd kY aq nq Xq] := B.castX 1 rfl rfl (dwLsL_next h0k (dw_yes (q := dwP Xq false (p + 1 + 1 + 1 + 1) k) hp49).1)
          refine ⟨⟨_, k + 1, a82, N1 + 1, c83, a91, N2 + 1, c92, Fits.eq ⟨rfl, rfl, rfl, rfl, rfl, trivial⟩, (B.pick [3, 1, 5, 0, 6, 7] rfl rfl), (by omega), (by omega)⟩, ?_⟩
          show ((3 + v6) * (3 + v20) - (k + 1)).toNat < ((3 + v6) * (3 + v20) - k).toNat
          omega
      · refine W_if_f (by decide) rfl ?_
        refine W_skip ?_
        refine W_seq ?_
        refine W_region (by kernel_rfl) ?_
        refine s_y (v := .pointer (some ⟨b13, 3, none⟩)) rfl (y_fld (o := 0) T64.fld_26_3_3 rfl) ?_
        refine s_y (v := .slice A1 N1 C1) rfl (y_load T64.one_24 rfl ((B.b 3 rfl).cell (j := 3) rfl)) ?_
        refine s_y (v := .float .f32 1056964608) rfl (y_move rfl) ?_
        refine s_k rfl (k_bsliceO (k := kF) (n := 1) (cells := #[.float .f32 1056964608]) (X := [1056964608]) T64.slt_24 (by decide) (by first | rfl | kernel_rfl) (reps_cons (c := [.float .f32 1056964608]) ⟨_, rfl, (cnLit (k := .f32) (t := 1056964608) (by kernel_rfl) (by kernel_rfl))⟩ (rfl : Reps kF [] [])) rfl (fun b97 w98 hN99 => ?_))
        replace B := B.new1 hN99
        clear hN99
        refine s_k rfl (k_appO (k := kF) T64.slt_24 rfl rfl rfl (B.o 1 rfl) (B.o 0 rfl).rd (by omega) (by unfold maxLen; omega) (fun a100 c101 w102 hU103 => ?_))
        replace B : Bu w (hasW [.blk bs [.slice aq nq cq, .int .i64 p, .int .u64 (sdY Xq p)] 131]) w102 [.ow kF a100 (N1 + 1) c101 34 ((dwSpL Xq true (p + 1 + 1 + 1 + 1) k) ++ ([1056964608])), .ow kF (some ⟨b97, 0, none⟩) 1 1 34 ([1056964608]), .ow kF A2 N2 C2 34 (dwLsL Xq true (p + 1 + 1 + 1 + 1) k), .blk bs [.slice aq nq cq, .int .i64 (dwP Xq true (p + 1 + 1 + 1 + 1) k), .int .u64 (sdY Xq (dwP Xq true (p + 1 + 1 + 1 + 1) k))] 131, .blk b13 [.int .i64 (3 + v6), .int .i64 (3 + v20), .bool vb11, .slice A1 N1 C1, .slice A2 N2 C2] 26, .blk b1 [.int .i64 0, .int .i64 0, .bool false, .slice none 0 0, .slice none 0 0] 26, .rd kY aq nq Xq] := B.upd [1] rfl hU103
        clear hU103
        refine s_y (v := .pointer (some ⟨b13, 3, none⟩)) rfl (y_fld (o := 0) T64.fld_26_3_3 rfl) ?_
        refine s_k0 rfl (k_stB (v := .slice a100 (N1 + 1) c101) (n := 1) (cs' := [.int .i64 (3 + v6), .int .i64 (3 + v20), .bool vb11, .slice a100 (N1 + 1) c101, .slice A2 N2 C2]) T64.sz_24_1 rfl rfl rfl (B.b 4 rfl) (by simp [Value.cells, Value.oneCell']) (Nat.le_of_ble_eq_true rfl) rfl (fun w104 hU105 => ?_))
        replace B : Bu w (hasW [.blk bs [.slice aq nq cq, .int .i64 p, .int .u64 (sdY Xq p)] 131]) w104 [.blk b13 [.int .i64 (3 + v6), .int .i64 (3 + v20), .bool vb11, .slice a100 (N1 + 1) c101, .slice A2 N2 C2] 26, .ow kF a100 (N1 + 1) c101 34 ((dwSpL Xq true (p + 1 + 1 + 1 + 1) k) ++ ([1056964608])), .ow kF (some ⟨b97, 0, none⟩) 1 1 34 ([1056964608]), .ow kF A2 N2 C2 34 (dwLsL Xq true (p + 1 + 1 + 1 + 1) k), .blk bs [.slice aq nq cq, .int .i64 (dwP Xq true (p + 1 + 1 + 1 + 1) k), .int .u64 (sdY Xq (dwP Xq true (p + 1 + 1 + 1 + 1) k))] 131, .blk b1 [.int .i64 0, .int .i64 0, .bool false, .slice none 0 0, .slice none 0 0] 26, .rd kY aq nq Xq] := B.upd [4] rfl hU105
        clear hU105
        refine s_nil ?_
        refine W_region (by kernel_rfl) ?_
        refine s_y (v := .pointer (some ⟨b13, 4, none⟩)) rfl (y_fld (o := 0) T64.fld_26_4_4 rfl) ?_
        refine s_y (v := .slice A2 N2 C2) rfl (y_load T64.one_24 rfl ((B.b 0 rfl).cell (j := 4) rfl)) ?_
        refine s_y (v := .float .f32 0) rfl (y_move rfl) ?_
        refine s_k rfl (k_bsliceO (k := kF) (n := 1) (cells := #[.float .f32 0]) (X := [0]) T64.slt_24 (by decide) (by first | rfl | kernel_rfl) (reps_cons (c := [.float .f32 0]) ⟨_, rfl, (cnLit (k := .f32) (t := 0) (by kernel_rfl) (by kernel_rfl))⟩ (rfl : Reps kF [] [])) rfl (fun b106 w107 hN108 => ?_))
        replace B := B.new1 hN108
        clear hN108
        refine s_k rfl (k_appO (k := kF) T64.slt_24 rfl rfl rfl (B.o 4 rfl) (B.o 0 rfl).rd (by omega) (by unfold maxLen; omega) (fun a109 c110 w111 hU112 => ?_))
        replace B : Bu w (hasW [.blk bs [.slice aq nq cq, .int .i64 p, .int .u64 (sdY Xq p)] 131]) w111 [.ow kF a109 (N2 + 1) c110 34 ((dwLsL Xq true (p + 1 + 1 + 1 + 1) k) ++ ([0])), .ow kF (some ⟨b106, 0, none⟩) 1 1 34 ([0]), .blk b13 [.int .i64 (3 + v6), .int .i64 (3 + v20), .bool vb11, .slice a100 (N1 + 1) c101, .slice A2 N2 C2] 26, .ow kF a100 (N1 + 1) c101 34 ((dwSpL Xq true (p + 1 + 1 + 1 + 1) k) ++ ([1056964608])), .ow kF (some ⟨b97, 0, none⟩) 1 1 34 ([1056964608]), .blk bs [.slice aq nq cq, .int .i64 (dwP Xq true (p + 1 + 1 + 1 + 1) k), .int .u64 (sdY Xq (dwP Xq true (p + 1 + 1 + 1 + 1) k))] 131, .blk b1 [.int .i64 0, .int .i64 0, .bool false, .slice none 0 0, .slice none 0 0] 26, .rd kY aq nq Xq] := B.upd [4] rfl hU112
        clear hU112
        refine s_y (v := .pointer (some ⟨b13, 4, none⟩)) rfl (y_fld (o := 0) T64.fld_26_4_4 rfl) ?_
        refine s_k0 rfl (k_stB (v := .slice a109 (N2 + 1) c110) (n := 1) (cs' := [.int .i64 (3 + v6), .int .i64 (3 + v20), .bool vb11, .slice a100 (N1 + 1) c101, .slice a109 (N2 + 1) c110]) T64.sz_24_1 rfl rfl rfl (B.b 2 rfl) (by simp [Value.cells, Value.oneCell']) (Nat.le_of_ble_eq_true rfl) rfl (fun w113 hU114 => ?_))
        replace B : Bu w (hasW [.blk bs [.slice aq nq cq, .int .i64 p, .int .u64 (sdY Xq p)] 131]) w113 [.blk b13 [.int .i64 (3 + v6), .int .i64 (3 + v20), .bool vb11, .slice a100 (N1 + 1) c101, .slice a109 (N2 + 1) c110] 26, .ow kF a109 (N2 + 1) c110 34 ((dwLsL Xq true (p + 1 + 1 + 1 + 1) k) ++ ([0])), .ow kF (some ⟨b106, 0, none⟩) 1 1 34 ([0]), .ow kF a100 (N1 + 1) c101 34 ((dwSpL Xq true (p + 1 + 1 + 1 + 1) k) ++ ([1056964608])), .ow kF (some ⟨b97, 0, none⟩) 1 1 34 ([1056964608]), .blk bs [.slice aq nq cq, .int .i64 (dwP Xq true (p + 1 + 1 + 1 + 1) k), .int .u64 (sdY Xq (dwP Xq true (p + 1 + 1 + 1 + 1) k))] 131, .blk b1 [.int .i64 0, .int .i64 0, .bool false, .slice none 0 0, .slice none 0 0] 26, .rd kY aq nq Xq] := B.upd [2] rfl hU114
        clear hU114
        refine s_nil ?_
        refine W_region (by kernel_rfl) ?_
        refine s_y (v := .int .i64 k) rfl (y_move rfl) ?_
        refine s_y (v := .int .i64 (k + 1)) rfl (y_add rfl rfl rfl (by omega)) ?_
        refine s_y (v := .int .i64 (k + 1)) rfl (y_assign rfl) ?_
        refine s_nil ?_
        replace B : Bu w (hasW [.blk bs [.slice aq nq cq, .int .i64 p, .int .u64 (sdY Xq p)] 131]) w113 [.blk b13 [.int .i64 (3 + v6), .int .i64 (3 + v20), .bool vb11, .slice a100 (N1 + 1) c101, .slice a109 (N2 + 1) c110] 26, .ow kF a109 (N2 + 1) c110 34 ((dwLsL Xq true (p + 1 + 1 + 1 + 1) k) ++ ([0])), .ow kF (some ⟨b106, 0, none⟩) 1 1 34 ([0]), .ow kF a100 (N1 + 1) c101 34 ((dwSpL Xq true (p + 1 + 1 + 1 + 1) k) ++ ([1056964608])), .ow kF (some ⟨b97, 0, none⟩) 1 1 34 ([1056964608]), .blk bs [.slice aq nq cq, .int .i64 (dwP Xq true (p + 1 + 1 + 1 + 1) (k + 1)), .int .u64 (sdY Xq (dwP Xq true (p + 1 + 1 + 1 + 1) (k + 1)))] 131, .blk b1 [.int .i64 0, .int .i64 0, .bool false, .slice none 0 0, .slice none 0 0] 26, .rd kY aq nq Xq] := B.blkEq 5 rfl (pos_cells (dwP_next (plain := true) h0k))
        replace B : Bu w (hasW [.blk bs [.slice aq nq cq, .int .i64 p, .int .u64 (sdY Xq p)] 131]) w113 [.blk b13 [.int .i64 (3 + v6), .int .i64 (3 + v20), .bool vb11, .slice a100 (N1 + 1) c101, .slice a109 (N2 + 1) c110] 26, .ow kF a109 (N2 + 1) c110 34 ((dwLsL Xq true (p + 1 + 1 + 1 + 1) k) ++ ([0])), .ow kF (some ⟨b106, 0, none⟩) 1 1 34 ([0]), .ow kF a100 (N1 + 1) c101 34 (dwSpL Xq true (p + 1 + 1 + 1 + 1) (k + 1)), .ow kF (some ⟨b97, 0, none⟩) 1 1 34 ([1056964608]), .blk bs [.slice aq nq cq, .int .i64 (dwP Xq true (p + 1 + 1 + 1 + 1) (k + 1)), .int .u64 (sdY Xq (dwP Xq true (p + 1 + 1 + 1 + 1) (k + 1)))] 131, .blk b1 [.int .i64 0, .int .i64 0, .bool false, .slice none 0 0, .slice none 0 0] 26, .rd kY aq nq Xq] := B.castX 3 rfl rfl (dwSpL_next h0k rfl)
        replace B : Bu w (hasW [.blk bs [.slice aq nq cq, .int .i64 p, .int .u64 (sdY Xq p)] 131]) w113 [.blk b13 [.int .i64 (3 + v6), .int .i64 (3 + v20), .bool vb11, .slice a100 (N1 + 1) c101, .slice a109 (N2 + 1) c110] 26, .ow kF a109 (N2 + 1) c110 34 (dwLsL Xq true (p + 1 + 1 + 1 + 1) (k + 1)), .ow kF (some ⟨b106, 0, none⟩) 1 1 34 ([0]), .ow kF a100 (N1 + 1) c101 34 (dwSpL Xq true (p + 1 + 1 + 1 + 1) (k + 1)), .ow kF (some ⟨b97, 0, none⟩) 1 1 34 ([1056964608]), .blk bs [.slice aq nq cq, .int .i64 (dwP Xq true (p + 1 + 1 + 1 + 1) (k + 1)), .int .u64 (sdY Xq (dwP Xq true (p + 1 + 1 + 1 + 1) (k + 1)))] 131, .blk b1 [.int .i64 0, .int .i64 0, .bool false, .slice none 0 0, .slice none 0 0] 26, .rd kY aq nq Xq] := B.castX 1 rfl rfl (dwLsL_next h0k rfl)
        refine ⟨⟨_, k + 1, a100, N1 + 1, c101, a109, N2 + 1, c110, Fits.eq ⟨rfl, rfl, rfl, rfl, rfl, trivial⟩, (B.pick [3, 1, 5, 0, 6, 7] rfl rfl), (by omega), (by omega)⟩, ?_⟩
        show ((3 + v6) * (3 + v20) - (k + 1)).toNat < ((3 + v6) * (3 + v20) - k).toNat
        omega
    · refine s_y (v := .bool false) rfl (y_lss rfl rfl (decide_eq_false c34)) ?_
      refine s_nil ?_
      refine W_if_f (by decide) rfl ?_
      refine W_exit ?_
      refine W_seq ?_
      refine W_region (by kernel_rfl) ?_
      refine s_y (v := .agg #[.int .i64 (3 + v6), .int .i64 (3 + v20), .bool vb11, .slice A1 N1 C1, .slice A2 N2 C2]) rfl (y_loadn (b := b13) (o := 0) (vs := [.int .i64 (3 + v6), .int .i64 (3 + v20), .bool vb11, .slice A1 N1 C1, .slice A2 N2 C2]) T64.agg_26_5 rfl rfl ((B.b 3 rfl).cells (o := 0) rfl)) ?_
      refine s_k0 rfl (k_stB (v := .agg #[.int .i64 (3 + v6), .int .i64 (3 + v20), .bool vb11, .slice A1 N1 C1, .slice A2 N2 C2]) (n := 5) (cs' := [.int .i64 (3 + v6), .int .i64 (3 + v20), .bool vb11, .slice A1 N1 C1, .slice A2 N2 C2]) T64.sz_26_5 rfl rfl rfl (B.b 4 rfl) (by simp [Value.cells, Value.oneCell']) (Nat.le_of_ble_eq_true rfl) rfl (fun w115 hU116 => ?_))
      replace B : Bu w (hasW [.blk bs [.slice aq nq cq, .int .i64 p, .int .u64 (sdY Xq p)] 131]) w115 [.blk b1 [.int .i64 (3 + v6), .int .i64 (3 + v20), .bool vb11, .slice A1 N1 C1, .slice A2 N2 C2] 26, .ow kF A1 N1 C1 34 (dwSpL Xq vb27 (p + 1 + 1 + 1 + 1) k), .ow kF A2 N2 C2 34 (dwLsL Xq vb27 (p + 1 + 1 + 1 + 1) k), .blk bs [.slice aq nq cq, .int .i64 (dwP Xq vb27 (p + 1 + 1 + 1 + 1) k), .int .u64 (sdY Xq (dwP Xq vb27 (p + 1 + 1 + 1 + 1) k))] 131, .blk b13 [.int .i64 (3 + v6), .int .i64 (3 + v20), .bool vb11, .slice A1 N1 C1, .slice A2 N2 C2] 26, .rd kY aq nq Xq] := B.upd [4] rfl hU116
      clear hU116
      refine s_nil ?_
      refine W_ret ?_
      refine ret1 (v := .agg #[.int .i64 (3 + v6), .int .i64 (3 + v20), .bool vb11, .slice A1 N1 C1, .slice A2 N2 C2]) rfl rfl ⟨_, [.int .i64 (3 + v6), .int .i64 (3 + v20), .bool vb11, .slice A1 N1 C1, .slice A2 N2 C2], _, rfl, (B.b 0 rfl), T64.agg_26_5, rfl⟩ ⟨_, rfl, ?_⟩
      have hke : k = (3 + v6) * (3 + v20) := by omega
      subst hke
      have hdp := dwP_b Xq vb27 (p + 1 + 1 + 1 + 1) h0k
      exact ⟨_, _, _, _, _, _, _, _, _, _, _, rfl, hp12, (by omega), (by omega), (by omega), (by omega), (by omega), (by omega), B.wrote [3, 1, 2] rfl rfl rfl⟩
namespace T31
theorem mx : Try.prog.follows .mixedOrders = true := by kernel_rfl
theorem agg_26_5 : aggB Try.prog 26 5 = true := by kernel_rfl
theorem fn_63 : fnB Try.prog 63 = true := by kernel_rfl
theorem fn_64 : fnB Try.prog 64 = true := by kernel_rfl
theorem sz_26_5 : szB Try.prog 26 5 = true := by kernel_rfl
theorem zero_26 : zeroB Try.prog 26 (.agg #[.int .i64 0, .int .i64 0, .bool false, .slice none 0 0, .slice none 0 0]) := by unfold zeroB; kernel_rfl
end T31
set_option maxRecDepth 100000 in
set_option maxHeartbeats 4000000 in
theorem c_s_R8Sheet {aq : Option Addr} {nq : Nat} {cq : Nat} {Xq : List Nat} {w : World} (qq : Rd w kY aq nq Xq) :
    Calls Try.prog 31 #[.slice aq nq cq] w (Rt fun v w' => ∃ (wd : Int) (hi : Int) (vb : Bool) (a1 : Option Addr) (n1 : Nat) (c1 : Nat) (X1 : List Nat) (a2 : Option Addr) (n2 : Nat) (c2 : Nat) (X2 : List Nat), v = .agg #[.int .i64 wd, .int .i64 hi, .bool vb, .slice a1 n1 c1, .slice a2 n2 c2] ∧ wd ≤ 6 ∧ hi ≤ 6 ∧ validS wd hi X1 X2 = true ∧ shG (wd * hi) X1 X2 ∧ New w w' [.ow kF a1 n1 c1 34 X1, .ow kF a2 n2 c2 34 X2]) := by
  have hlq := qq.len
  have B : Bu w no w [.rd kY aq nq Xq] := Bu.ro (All.cons qq All.nil) rfl
  refine calls_W (n := 8) Try.func31 rfl rfl (Nat.le_of_ble_eq_true rfl) ?_
  refine W_seq ?_
  refine W_region (by kernel_rfl) ?_
  refine s_k rfl (k_allocN (z := (.agg #[.int .i64 0, .int .i64 0, .bool false, .slice none 0 0, .slice none 0 0])) (cs := [.int .i64 0, .int .i64 0, .bool false, .slice none 0 0, .slice none 0 0]) T31.zero_26 rfl (fun b1 w2 hN3 => ?_))
  replace B := B.new1 hN3
  clear hN3
  refine s_nil ?_
  refine W_seq ?_
  refine W_region (by kernel_rfl) ?_
  refine s_y (v := .slice aq nq cq) rfl (y_move rfl) ?_
  refine s_k rfl (k_call T31.fn_63 (c_s_l00From (B.r 1 rfl)) rfl ?_)
  rintro _ w4 ⟨b6, rfl, hN5⟩
  replace B := B.new1 hN5
  clear hN5
  refine s_y (v := .pointer (some ⟨b6, 0, none⟩)) rfl (y_assign rfl) ?_
  refine s_nil ?_
  refine W_seq ?_
  refine W_region (by kernel_rfl) ?_
  refine s_y (v := .pointer (some ⟨b6, 0, none⟩)) rfl (y_move rfl) ?_
  refine s_k rfl (k_call T31.fn_64 (c_s_l02DrawOk (by omega) (by omega) (B.all.pick [0, 2] rfl) (B.pw.pick [0, 2] rfl rfl)) rfl ?_)
  rintro _ w7 ⟨v9, v10, vb11, vb12, v13, a14, c15, c16, a17, c18, c19, rfl, hp20, hp21, hp22, hp23, hp24, hp25, hp26, hU8⟩
  replace B : Bu w no w7 [.blk b6 [.slice aq nq cq, .int .i64 v13, .int .u64 (sdY Xq v13)] 131, .ow kF a14 c15 c16 34 (dwSpL Xq vb12 (0 + 1 + 1 + 1 + 1) (v9 * v10)), .ow kF a17 c18 c19 34 (dwLsL Xq vb12 (0 + 1 + 1 + 1 + 1) (v9 * v10)), .blk b1 [.int .i64 0, .int .i64 0, .bool false, .slice none 0 0, .slice none 0 0] 26, .rd kY aq nq Xq] := B.upd [0] rfl hU8
  clear hU8
  refine s_k0 rfl (k_stB (v := .agg #[.int .i64 v9, .int .i64 v10, .bool vb11, .slice a14 c15 c16, .slice a17 c18 c19]) (n := 5) (cs' := [.int .i64 v9, .int .i64 v10, .bool vb11, .slice a14 c15 c16, .slice a17 c18 c19]) T31.sz_26_5 rfl rfl rfl (B.b 3 rfl) (by simp [Value.cells, Value.oneCell']) (Nat.le_of_ble_eq_true rfl) rfl (fun w27 hU28 => ?_))
  replace B : Bu w no w27 [.blk b1 [.int .i64 v9, .int .i64 v10, .bool vb11, .slice a14 c15 c16, .slice a17 c18 c19] 26, .blk b6 [.slice aq nq cq, .int .i64 v13, .int .u64 (sdY Xq v13)] 131, .ow kF a14 c15 c16 34 (dwSpL Xq vb12 (0 + 1 + 1 + 1 + 1) (v9 * v10)), .ow kF a17 c18 c19 34 (dwLsL Xq vb12 (0 + 1 + 1 + 1 + 1) (v9 * v10)), .rd kY aq nq Xq] := B.upd [3] rfl hU28
  clear hU28
  refine s_nil ?_
  refine W_ret ?_
  refine ret1 (v := .agg #[.int .i64 v9, .int .i64 v10, .bool vb11, .slice a14 c15 c16, .slice a17 c18 c19]) rfl rfl ⟨_, [.int .i64 v9, .int .i64 v10, .bool vb11, .slice a14 c15 c16, .slice a17 c18 c19], _, rfl, (B.b 0 rfl), T31.agg_26_5, rfl⟩ ⟨_, rfl, ?_⟩
  exact ⟨_, _, _, _, _, _, _, _, _, _, _, rfl, (by omega), (by omega), (dw_valid (by omega) (by omega) (by omega) (by omega)), dw_grid, B.give [2, 3] rfl rfl rfl⟩
namespace T92
theorem mx : Try.prog.follows .mixedOrders = true := by kernel_rfl
theorem agg_30_3 : aggB Try.prog 30 3 = true := by kernel_rfl
theorem slt_24 : SlT Try.prog 24 34 1 4 (.float .f32 0) := ⟨by kernel_rfl, by kernel_rfl, rfl, by decide⟩
theorem sz_30_3 : szB Try.prog 30 3 = true := by kernel_rfl
theorem zero_30 : zeroB Try.prog 30 (.agg #[.slice none 0 0, .slice none 0 0, .slice none 0 0]) := by unfold zeroB; kernel_rfl
end T92
set_option maxRecDepth 100000 in
set_option maxHeartbeats 4000000 in
theorem c_s_l02Zero {n : Int} {w : World} (n0 : 0 ≤ n) (n1 : n ≤ 100000) :
    Calls Try.prog 92 #[.int .i64 n] w (Rt fun v w' => ∃ (a1 : Option Addr) (c1 : Nat) (a2 : Option Addr) (c2 : Nat) (a3 : Option Addr) (c3 : Nat), v = .agg #[.slice a1 (Int.toNat n) c1, .slice a2 (Int.toNat n) c2, .slice a3 (Int.toNat n) c3] ∧ New w w' [.ow kF a1 (Int.toNat n) c1 34 (List.replicate (Int.toNat n) 0), .ow kF a2 (Int.toNat n) c2 34 (List.replicate (Int.toNat n) 0), .ow kF a3 (Int.toNat n) c3 34 (List.replicate (Int.toNat n) 0)]) := by
  have B : Bu w no w [] := Bu.ro All.nil rfl
  refine calls_W (n := 10) Try.func92 rfl rfl (Nat.le_of_ble_eq_true rfl) ?_
  refine W_seq ?_
  refine W_region (by kernel_rfl) ?_
  refine s_k rfl (k_allocN (z := (.agg #[.slice none 0 0, .slice none 0 0, .slice none 0 0])) (cs := [.slice none 0 0, .slice none 0 0, .slice none 0 0]) T92.zero_30 rfl (fun b1 w2 hN3 => ?_))
  replace B := B.new1 hN3
  clear hN3
  refine s_nil ?_
  refine W_seq ?_
  have B0_6 := B
  refine W_drawI (no) (fun ρ' w' => (∃ (ρ1 : Env) (b14 : Nat) (b21 : Nat) (b24 : Nat), ρ' = updL ρ1 [(2, .pointer (some ⟨b1, 0, none⟩))] ∧ Bu w no w' [.ow kF (some ⟨b14, 0, none⟩) ((n).toNat) ((n).toNat) 34 (List.replicate (n).toNat 0), .ow kF (some ⟨b21, 0, none⟩) ((n).toNat) ((n).toNat) 34 (List.replicate (n).toNat 0), .ow kF (some ⟨b24, 0, none⟩) ((n).toNat) ((n).toNat) 34 (List.replicate (n).toNat 0), .blk b1 [.slice (some ⟨b14, 0, none⟩) ((n).toNat) ((n).toNat), .slice (some ⟨b21, 0, none⟩) ((n).toNat) ((n).toNat), .slice (some ⟨b24, 0, none⟩) ((n).toNat) ((n).toNat)] 30])) T92.mx (by kernel_rfl) (fun w4 e5 => ?_) ?_
  · have R7 := Ext.refl (no) w2
    replace R7 := R7.trans (Ext0.any e5)
    replace B := B.ext0 e5
    clear e5
    refine m_y (v := .int .i64 n) 0 rfl (by kernel_rfl) rfl rfl (fun w' e' => y_move rfl) ?_
    refine m_y (v := .int .i64 n) 2 rfl (by kernel_rfl) rfl rfl (fun w' e' => y_move rfl) ?_
    refine m_y (v := .int .i64 n) 4 rfl (by kernel_rfl) rfl rfl (fun w' e' => y_move rfl) ?_
    refine m_three 1 3 5 (by kernel_rfl) rfl rfl rfl rfl rfl rfl rfl rfl rfl (fun w8 e9 => ?_) (fun w10 e11 => ?_) (fun w12 e13 => ?_)
    · replace R7 := R7.trans (Ext0.any e9)
      replace B := B.ext0 e9
      clear e9
      refine k_mkO (k := kF) (z0 := 0) T92.slt_24 ⟨0, rfl, cn_zero⟩ rfl rfl (by omega) (by omega) (by omega) (fun b14 w15 hN16 => ?_)
      replace R7 := R7.trans (Ext0.any hN16.ext)
      replace B := B.new1 hN16
      clear hN16
      refine ⟨fun _ => R7, ?_⟩
      refine m_two 3 5 (by kernel_rfl) rfl rfl rfl rfl rfl rfl (fun w17 e18 => ?_) (fun w19 e20 => ?_)
      · replace R7 := R7.trans (Ext0.any e18)
        replace B := B.ext0 e18
        clear e18
        refine k_mkO (k := kF) (z0 := 0) T92.slt_24 ⟨0, rfl, cn_zero⟩ rfl rfl (by omega) (by omega) (by omega) (fun b21 w22 hN23 => ?_)
        replace R7 := R7.trans (Ext0.any hN23.ext)
        replace B := B.new1 hN23
        clear hN23
        refine ⟨fun _ => R7, ?_⟩
        refine m_k 5 [6, 7] rfl (by kernel_rfl) rfl rfl (fun w27 e28 => ?_)
        replace R7 := R7.trans (Ext0.any e28)
        replace B := B.ext0 e28
        clear e28
        refine k_mkO (k := kF) (z0 := 0) T92.slt_24 ⟨0, rfl, cn_zero⟩ rfl rfl (by omega) (by omega) (by omega) (fun b24 w25 hN26 => ?_)
        replace R7 := R7.trans (Ext0.any hN26.ext)
        replace B := B.new1 hN26
        clear hN26
        refine ⟨fun _ => R7, ?_⟩
        refine m_y (v := .agg #[.slice (some ⟨b14, 0, none⟩) ((n).toNat) ((n).toNat), .slice (some ⟨b21, 0, none⟩) ((n).toNat) ((n).toNat), .slice (some ⟨b24, 0, none⟩) ((n).toNat) ((n).toNat)]) 6 rfl (by kernel_rfl) rfl rfl (fun w' e' => y_build (cells := #[.slice (some ⟨b14, 0, none⟩) ((n).toNat) ((n).toNat), .slice (some ⟨b21, 0, none⟩) ((n).toNat) ((n).toNat), .slice (some ⟨b24, 0, none⟩) ((n).toNat) ((n).toNat)]) (by kernel_rfl)) ?_
        refine m_kt 7 [] rfl (by kernel_rfl) rfl rfl (by kernel_rfl) (fun w31 e32 => ?_)
        replace R7 := R7.trans (Ext0.any e32)
        replace B := B.ext0 e32
        clear e32
        refine k_stB (v := .agg #[.slice (some ⟨b14, 0, none⟩) ((n).toNat) ((n).toNat), .slice (some ⟨b21, 0, none⟩) ((n).toNat) ((n).toNat), .slice (some ⟨b24, 0, none⟩) ((n).toNat) ((n).toNat)]) (n := 3) (cs' := [.slice (some ⟨b14, 0, none⟩) ((n).toNat) ((n).toNat), .slice (some ⟨b21, 0, none⟩) ((n).toNat) ((n).toNat), .slice (some ⟨b24, 0, none⟩) ((n).toNat) ((n).toNat)]) T92.sz_30_3 rfl rfl rfl (B.b 3 rfl) (by simp [Value.cells, Value.oneCell']) (Nat.le_of_ble_eq_true rfl) rfl (fun w29 hU30 => ?_)
        clear R7
        replace B : Bu w no w29 [.blk b1 [.slice (some ⟨b14, 0, none⟩) ((n).toNat) ((n).toNat), .slice (some ⟨b21, 0, none⟩) ((n).toNat) ((n).toNat), .slice (some ⟨b24, 0, none⟩) ((n).toNat) ((n).toNat)] 30, .ow kF (some ⟨b24, 0, none⟩) ((n).toNat) ((n).toNat) 34 (List.replicate (n).toNat 0), .ow kF (some ⟨b21, 0, none⟩) ((n).toNat) ((n).toNat) 34 (List.replicate (n).toNat 0), .ow kF (some ⟨b14, 0, none⟩) ((n).toNat) ((n).toNat) 34 (List.replicate (n).toNat 0)] := B.upd [3] rfl hU30
        clear hU30
        refine m_done (by kernel_rfl) (fun w33 e34 => ?_)
        replace B := B.ext0 e34
        clear e34
        clear B0_6
        exact ⟨_, b14, b21, b24, Fits.eq ⟨rfl, trivial⟩, B.pick [3, 2, 1, 0] rfl rfl⟩
      · replace R7 := R7.trans (Ext0.any e20)
        replace B := B.ext0 e20
        clear e20
        refine k_mkO (k := kF) (z0 := 0) T92.slt_24 ⟨0, rfl, cn_zero⟩ rfl rfl (by omega) (by omega) (by omega) (fun b35 w36 hN37 => ?_)
        replace R7 := R7.trans (Ext0.any hN37.ext)
        replace B := B.new1 hN37
        clear hN37
        refine ⟨fun _ => R7, ?_⟩
        refine m_k 3 [6, 7] rfl (by kernel_rfl) rfl rfl (fun w41 e42 => ?_)
        replace R7 := R7.trans (Ext0.any e42)
        replace B := B.ext0 e42
        clear e42
        refine k_mkO (k := kF) (z0 := 0) T92.slt_24 ⟨0, rfl, cn_zero⟩ rfl rfl (by omega) (by omega) (by omega) (fun b38 w39 hN40 => ?_)
        replace R7 := R7.trans (Ext0.any hN40.ext)
        replace B := B.new1 hN40
        clear hN40
        refine ⟨fun _ => R7, ?_⟩
        refine m_y (v := .agg #[.slice (some ⟨b14, 0, none⟩) ((n).toNat) ((n).toNat), .slice (some ⟨b38, 0, none⟩) ((n).toNat) ((n).toNat), .slice (some ⟨b35, 0, none⟩) ((n).toNat) ((n).toNat)]) 6 rfl (by kernel_rfl) rfl rfl (fun w' e' => y_build (cells := #[.slice (some ⟨b14, 0, none⟩) ((n).toNat) ((n).toNat), .slice (some ⟨b38, 0, none⟩) ((n).toNat) ((n).toNat), .slice (some ⟨b35, 0, none⟩) ((n).toNat) ((n).toNat)]) (by kernel_rfl)) ?_
        refine m_kt 7 [] rfl (by kernel_rfl) rfl rfl (by kernel_rfl) (fun w45 e46 => ?_)
        replace R7 := R7.trans (Ext0.any e46)
        replace B := B.ext0 e46
        clear e46
        refine k_stB (v := .agg #[.slice (some ⟨b14, 0, none⟩) ((n).toNat) ((n).toNat), .slice (some ⟨b38, 0, none⟩) ((n).toNat) ((n).toNat), .slice (some ⟨b35, 0, none⟩) ((n).toNat) ((n).toNat)]) (n := 3) (cs' := [.slice (some ⟨b14, 0, none⟩) ((n).toNat) ((n).toNat), .slice (some ⟨b38, 0, none⟩) ((n).toNat) ((n).toNat), .slice (some ⟨b35, 0, none⟩) ((n).toNat) ((n).toNat)]) T92.sz_30_3 rfl rfl rfl (B.b 3 rfl) (by simp [Value.cells, Value.oneCell']) (Nat.le_of_ble_eq_true rfl) rfl (fun w43 hU44 => ?_)
        clear R7
        replace B : Bu w no w43 [.blk b1 [.slice (some ⟨b14, 0, none⟩) ((n).toNat) ((n).toNat), .slice (some ⟨b38, 0, none⟩) ((n).toNat) ((n).toNat), .slice (some ⟨b35, 0, none⟩) ((n).toNat) ((n).toNat)] 30, .ow kF (some ⟨b38, 0, none⟩) ((n).toNat) ((n).toNat) 34 (List.replicate (n).toNat 0), .ow kF (some ⟨b35, 0, none⟩) ((n).toNat) ((n).toNat) 34 (List.replicate (n).toNat 0), .ow kF (some ⟨b14, 0, none⟩) ((n).toNat) ((n).toNat) 34 (List.replicate (n).toNat 0)] := B.upd [3] rfl hU44
        clear hU44
        refine m_done (by kernel_rfl) (fun w47 e48 => ?_)
        replace B := B.ext0 e48
        clear e48
        clear B0_6
        exact ⟨_, b14, b38, b35, Fits.eq ⟨rfl, trivial⟩, B.pick [3, 1, 2, 0] rfl rfl⟩
    · replace R7 := R7.trans (Ext0.any e11)
      replace B := B.ext0 e11
      clear e11
      refine k_mkO (k := kF) (z0 := 0) T92.slt_24 ⟨0, rfl, cn_zero⟩ rfl rfl (by omega) (by omega) (by omega) (fun b49 w50 hN51 => ?_)
      replace R7 := R7.trans (Ext0.any hN51.ext)
      replace B := B.new1 hN51
      clear hN51
      refine ⟨fun _ => R7, ?_⟩
      refine m_two 1 5 (by kernel_rfl) rfl rfl rfl rfl rfl rfl (fun w52 e53 => ?_) (fun w54 e55 => ?_)
      · replace R7 := R7.trans (Ext0.any e53)
        replace B := B.ext0 e53
        clear e53
        refine k_mkO (k := kF) (z0 := 0) T92.slt_24 ⟨0, rfl, cn_zero⟩ rfl rfl (by omega) (by omega) (by omega) (fun b56 w57 hN58 => ?_)
        replace R7 := R7.trans (Ext0.any hN58.ext)
        replace B := B.new1 hN58
        clear hN58
        refine ⟨fun _ => R7, ?_⟩
        refine m_k 5 [6, 7] rfl (by kernel_rfl) rfl rfl (fun w62 e63 => ?_)
        replace R7 := R7.trans (Ext0.any e63)
        replace B := B.ext0 e63
        clear e63
        refine k_mkO (k := kF) (z0 := 0) T92.slt_24 ⟨0, rfl, cn_zero⟩ rfl rfl (by omega) (by omega) (by omega) (fun b59 w60 hN61 => ?_)
        replace R7 := R7.trans (Ext0.any hN61.ext)
        replace B := B.new1 hN61
        clear hN61
        refine ⟨fun _ => R7, ?_⟩
        refine m_y (v := .agg #[.slice (some ⟨b56, 0, none⟩) ((n).toNat) ((n).toNat), .slice (some ⟨b49, 0, none⟩) ((n).toNat) ((n).toNat), .slice (some ⟨b59, 0, none⟩) ((n).toNat) ((n).toNat)]) 6 rfl (by kernel_rfl) rfl rfl (fun w' e' => y_build (cells := #[.slice (some ⟨b56, 0, none⟩) ((n).toNat) ((n).toNat), .slice (some ⟨b49, 0, none⟩) ((n).toNat) ((n).toNat), .slice (some ⟨b59, 0, none⟩) ((n).toNat) ((n).toNat)]) (by kernel_rfl)) ?_
        refine m_kt 7 [] rfl (by kernel_rfl) rfl rfl (by kernel_rfl) (fun w66 e67 => ?_)
        replace R7 := R7.trans (Ext0.any e67)
        replace B := B.ext0 e67
        clear e67
        refine k_stB (v := .agg #[.slice (some ⟨b56, 0, none⟩) ((n).toNat) ((n).toNat), .slice (some ⟨b49, 0, none⟩) ((n).toNat) ((n).toNat), .slice (some ⟨b59, 0, none⟩) ((n).toNat) ((n).toNat)]) (n := 3) (cs' := [.slice (some ⟨b56, 0, none⟩) ((n).toNat) ((n).toNat), .slice (some ⟨b49, 0, none⟩) ((n).toNat) ((n).toNat), .slice (some ⟨b59, 0, none⟩) ((n).toNat) ((n).toNat)]) T92.sz_30_3 rfl rfl rfl (B.b 3 rfl) (by simp [Value.cells, Value.oneCell']) (Nat.le_of_ble_eq_true rfl) rfl (fun w64 hU65 => ?_)
        clear R7
        replace B : Bu w no w64 [.blk b1 [.slice (some ⟨b56, 0, none⟩) ((n).toNat) ((n).toNat), .slice (some ⟨b49, 0, none⟩) ((n).toNat) ((n).toNat), .slice (some ⟨b59, 0, none⟩) ((n).toNat) ((n).toNat)] 30, .ow kF (some ⟨b59, 0, none⟩) ((n).toNat) ((n).toNat) 34 (List.replicate (n).toNat 0), .ow kF (some ⟨b56, 0, none⟩) ((n).toNat) ((n).toNat) 34 (List.replicate (n).toNat 0), .ow kF (some ⟨b49, 0, none⟩) ((n).toNat) ((n).toNat) 34 (List.replicate (n).toNat 0)] := B.upd [3] rfl hU65
        clear hU65
        refine m_done (by kernel_rfl) (fun w68 e69 => ?_)
        replace B := B.ext0 e69
        clear e69
        clear B0_6
        exact ⟨_, b56, b49, b59, Fits.eq ⟨rfl, trivial⟩, B.pick [2, 3, 1, 0] rfl rfl⟩
      · replace R7 := R7.trans (Ext0.any e55)
        replace B := B.ext0 e55
        clear e55
        refine k_mkO (k := kF) (z0 := 0) T92.slt_24 ⟨0, rfl, cn_zero⟩ rfl rfl (by omega) (by omega) (by omega) (fun b70 w71 hN72 => ?_)
        replace R7 := R7.trans (Ext0.any hN72.ext)
        replace B := B.new1 hN72
        clear hN72
        refine ⟨fun _ => R7, ?_⟩
        refine m_k 1 [6, 7] rfl (by kernel_rfl) rfl rfl (fun w76 e77 => ?_)
        replace R7 := R7.trans (Ext0.any e77)
        replace B := B.ext0 e77
        clear e77
        refine k_mkO (k := kF) (z0 := 0) T92.slt_24 ⟨0, rfl, cn_zero⟩ rfl rfl (by omega) (by omega) (by omega) (fun b73 w74 hN75 => ?_)
        replace R7 := R7.trans (Ext0.any hN75.ext)
        replace B := B.new1 hN75
        clear hN75
        refine ⟨fun _ => R7, ?_⟩
        refine m_y (v := .agg #[.slice (some ⟨b73, 0, none⟩) ((n).toNat) ((n).toNat), .slice (some ⟨b49, 0, none⟩) ((n).toNat) ((n).toNat), .slice (some ⟨b70, 0, none⟩) ((n).toNat) ((n).toNat)]) 6 rfl (by kernel_rfl) rfl rfl (fun w' e' => y_build (cells := #[.slice (some ⟨b73, 0, none⟩) ((n).toNat) ((n).toNat), .slice (some ⟨b49, 0, none⟩) ((n).toNat) ((n).toNat), .slice (some ⟨b70, 0, none⟩) ((n).toNat) ((n).toNat)]) (by kernel_rfl)) ?_
        refine m_kt 7 [] rfl (by kernel_rfl) rfl rfl (by kernel_rfl) (fun w80 e81 => ?_)
        replace R7 := R7.trans (Ext0.any e81)
        replace B := B.ext0 e81
        clear e81
        refine k_stB (v := .agg #[.slice (some ⟨b73, 0, none⟩) ((n).toNat) ((n).toNat), .slice (some ⟨b49, 0, none⟩) ((n).toNat) ((n).toNat), .slice (some ⟨b70, 0, none⟩) ((n).toNat) ((n).toNat)]) (n := 3) (cs' := [.slice (some ⟨b73, 0, none⟩) ((n).toNat) ((n).toNat), .slice (some ⟨b49, 0, none⟩) ((n).toNat) ((n).toNat), .slice (some ⟨b70, 0, none⟩) ((n).toNat) ((n).toNat)]) T92.sz_30_3 rfl rfl rfl (B.b 3 rfl) (by simp [Value.cells, Value.oneCell']) (Nat.le_of_ble_eq_true rfl) rfl (fun w78 hU79 => ?_)
        clear R7
        replace B : Bu w no w78 [.blk b1 [.slice (some ⟨b73, 0, none⟩) ((n).toNat) ((n).toNat), .slice (some ⟨b49, 0, none⟩) ((n).toNat) ((n).toNat), .slice (some ⟨b70, 0, none⟩) ((n).toNat) ((n).toNat)] 30, .ow kF (some ⟨b73, 0, none⟩) ((n).toNat) ((n).toNat) 34 (List.replicate (n).toNat 0), .ow kF (some ⟨b70, 0, none⟩) ((n).toNat) ((n).toNat) 34 (List.replicate (n).toNat 0), .ow kF (some ⟨b49, 0, none⟩) ((n).toNat) ((n).toNat) 34 (List.replicate (n).toNat 0)] := B.upd [3] rfl hU79
        clear hU79
        refine m_done (by kernel_rfl) (fun w82 e83 => ?_)
        replace B := B.ext0 e83
        clear e83
        clear B0_6
        exact ⟨_, b73, b49, b70, Fits.eq ⟨rfl, trivial⟩, B.pick [1, 3, 2, 0] rfl rfl⟩
    · replace R7 := R7.trans (Ext0.any e13)
      replace B := B.ext0 e13
      clear e13
      refine k_mkO (k := kF) (z0 := 0) T92.slt_24 ⟨0, rfl, cn_zero⟩ rfl rfl (by omega) (by omega) (by omega) (fun b84 w85 hN86 => ?_)
      replace R7 := R7.trans (Ext0.any hN86.ext)
      replace B := B.new1 hN86
      clear hN86
      refine ⟨fun _ => R7, ?_⟩
      refine m_two 1 3 (by kernel_rfl) rfl rfl rfl rfl rfl rfl (fun w87 e88 => ?_) (fun w89 e90 => ?_)
      · replace R7 := R7.trans (Ext0.any e88)
        replace B := B.ext0 e88
        clear e88
        refine k_mkO (k := kF) (z0 := 0) T92.slt_24 ⟨0, rfl, cn_zero⟩ rfl rfl (by omega) (by omega) (by omega) (fun b91 w92 hN93 => ?_)
        replace R7 := R7.trans (Ext0.any hN93.ext)
        replace B := B.new1 hN93
        clear hN93
        refine ⟨fun _ => R7, ?_⟩
        refine m_k 3 [6, 7] rfl (by kernel_rfl) rfl rfl (fun w97 e98 => ?_)
        replace R7 := R7.trans (Ext0.any e98)
        replace B := B.ext0 e98
        clear e98
        refine k_mkO (k := kF) (z0 := 0) T92.slt_24 ⟨0, rfl, cn_zero⟩ rfl rfl (by omega) (by omega) (by omega) (fun b94 w95 hN96 => ?_)
        replace R7 := R7.trans (Ext0.any hN96.ext)
        replace B := B.new1 hN96
        clear hN96
        refine ⟨fun _ => R7, ?_⟩
        refine m_y (v := .agg #[.slice (some ⟨b91, 0, none⟩) ((n).toNat) ((n).toNat), .slice (some ⟨b94, 0, none⟩) ((n).toNat) ((n).toNat), .slice (some ⟨b84, 0, none⟩) ((n).toNat) ((n).toNat)]) 6 rfl (by kernel_rfl) rfl rfl (fun w' e' => y_build (cells := #[.slice (some ⟨b91, 0, none⟩) ((n).toNat) ((n).toNat), .slice (some ⟨b94, 0, none⟩) ((n).toNat) ((n).toNat), .slice (some ⟨b84, 0, none⟩) ((n).toNat) ((n).toNat)]) (by kernel_rfl)) ?_
        refine m_kt 7 [] rfl (by kernel_rfl) rfl rfl (by kernel_rfl) (fun w101 e102 => ?_)
        replace R7 := R7.trans (Ext0.any e102)
        replace B := B.ext0 e102
        clear e102
        refine k_stB (v := .agg #[.slice (some ⟨b91, 0, none⟩) ((n).toNat) ((n).toNat), .slice (some ⟨b94, 0, none⟩) ((n).toNat) ((n).toNat), .slice (some ⟨b84, 0, none⟩) ((n).toNat) ((n).toNat)]) (n := 3) (cs' := [.slice (some ⟨b91, 0, none⟩) ((n).toNat) ((n).toNat), .slice (some ⟨b94, 0, none⟩) ((n).toNat) ((n).toNat), .slice (some ⟨b84, 0, none⟩) ((n).toNat) ((n).toNat)]) T92.sz_30_3 rfl rfl rfl (B.b 3 rfl) (by simp [Value.cells, Value.oneCell']) (Nat.le_of_ble_eq_true rfl) rfl (fun w99 hU100 => ?_)
        clear R7
        replace B : Bu w no w99 [.blk b1 [.slice (some ⟨b91, 0, none⟩) ((n).toNat) ((n).toNat), .slice (some ⟨b94, 0, none⟩) ((n).toNat) ((n).toNat), .slice (some ⟨b84, 0, none⟩) ((n).toNat) ((n).toNat)] 30, .ow kF (some ⟨b94, 0, none⟩) ((n).toNat) ((n).toNat) 34 (List.replicate (n).toNat 0), .ow kF (some ⟨b91, 0, none⟩) ((n).toNat) ((n).toNat) 34 (List.replicate (n).toNat 0), .ow kF (some ⟨b84, 0, none⟩) ((n).toNat) ((n).toNat) 34 (List.replicate (n).toNat 0)] := B.upd [3] rfl hU100
        clear hU100
        refine m_done (by kernel_rfl) (fun w103 e104 => ?_)
        replace B := B.ext0 e104
        clear e104
        clear B0_6
        exact ⟨_, b91, b94, b84, Fits.eq ⟨rfl, trivial⟩, B.pick [2, 1, 3, 0] rfl rfl⟩
      · replace R7 := R7.trans (Ext0.any e90)
        replace B := B.ext0 e90
        clear e90
        refine k_mkO (k := kF) (z0 := 0) T92.slt_24 ⟨0, rfl, cn_zero⟩ rfl rfl (by omega) (by omega) (by omega) (fun b105 w106 hN107 => ?_)
        replace R7 := R7.trans (Ext0.any hN107.ext)
        replace B := B.new1 hN107
        clear hN107
        refine ⟨fun _ => R7, ?_⟩
        refine m_k 1 [6, 7] rfl (by kernel_rfl) rfl rfl (fun w111 e112 => ?_)
        replace R7 := R7.trans (Ext0.any e112)
        replace B := B.ext0 e112
        clear e112
        refine k_mkO (k := kF) (z0 := 0) T92.slt_24 ⟨0, rfl, cn_zero⟩ rfl rfl (by omega) (by omega) (by omega) (fun b108 w109 hN110 => ?_)
        replace R7 := R7.trans (Ext0.any hN110.ext)
        replace B := B.new1 hN110
        clear hN110
        refine ⟨fun _ => R7, ?_⟩
        refine m_y (v := .agg #[.slice (some ⟨b108, 0, none⟩) ((n).toNat) ((n).toNat), .slice (some ⟨b105, 0, none⟩) ((n).toNat) ((n).toNat), .slice (some ⟨b84, 0, none⟩) ((n).toNat) ((n).toNat)]) 6 rfl (by kernel_rfl) rfl rfl (fun w' e' => y_build (cells := #[.slice (some ⟨b108, 0, none⟩) ((n).toNat) ((n).toNat), .slice (some ⟨b105, 0, none⟩) ((n).toNat) ((n).toNat), .slice (some ⟨b84, 0, none⟩) ((n).toNat) ((n).toNat)]) (by kernel_rfl)) ?_
        refine m_kt 7 [] rfl (by kernel_rfl) rfl rfl (by kernel_rfl) (fun w115 e116 => ?_)
        replace R7 := R7.trans (Ext0.any e116)
        replace B := B.ext0 e116
        clear e116
        refine k_stB (v := .agg #[.slice (some ⟨b108, 0, none⟩) ((n).toNat) ((n).toNat), .slice (some ⟨b105, 0, none⟩) ((n).toNat) ((n).toNat), .slice (some ⟨b84, 0, none⟩) ((n).toNat) ((n).toNat)]) (n := 3) (cs' := [.slice (some ⟨b108, 0, none⟩) ((n).toNat) ((n).toNat), .slice (some ⟨b105, 0, none⟩) ((n).toNat) ((n).toNat), .slice (some ⟨b84, 0, none⟩) ((n).toNat) ((n).toNat)]) T92.sz_30_3 rfl rfl rfl (B.b 3 rfl) (by simp [Value.cells, Value.oneCell']) (Nat.le_of_ble_eq_true rfl) rfl (fun w113 hU114 => ?_)
        clear R7
        replace B : Bu w no w113 [.blk b1 [.slice (some ⟨b108, 0, none⟩) ((n).toNat) ((n).toNat), .slice (some ⟨b105, 0, none⟩) ((n).toNat) ((n).toNat), .slice (some ⟨b84, 0, none⟩) ((n).toNat) ((n).toNat)] 30, .ow kF (some ⟨b108, 0, none⟩) ((n).toNat) ((n).toNat) 34 (List.replicate (n).toNat 0), .ow kF (some ⟨b105, 0, none⟩) ((n).toNat) ((n).toNat) 34 (List.replicate (n).toNat 0), .ow kF (some ⟨b84, 0, none⟩) ((n).toNat) ((n).toNat) 34 (List.replicate (n).toNat 0)] := B.upd [3] rfl hU114
        clear hU114
        refine m_done (by kernel_rfl) (fun w117 e118 => ?_)
        replace B := B.ext0 e118
        clear e118
        clear B0_6
        exact ⟨_, b108, b105, b84, Fits.eq ⟨rfl, trivial⟩, B.pick [1, 2, 3, 0] rfl rfl⟩
  · clear B; rintro _ w119 (⟨ρ120, b14, b21, b24, rfl, B⟩)
    refine W_ret ?_
    refine ret1 (v := .agg #[.slice (some ⟨b14, 0, none⟩) ((n).toNat) ((n).toNat), .slice (some ⟨b21, 0, none⟩) ((n).toNat) ((n).toNat), .slice (some ⟨b24, 0, none⟩) ((n).toNat) ((n).toNat)]) rfl rfl ⟨_, [.slice (some ⟨b14, 0, none⟩) ((n).toNat) ((n).toNat), .slice (some ⟨b21, 0, none⟩) ((n).toNat) ((n).toNat), .slice (some ⟨b24, 0, none⟩) ((n).toNat) ((n).toNat)], _, rfl, (B.b 3 rfl), T92.agg_30_3, rfl⟩ ⟨_, rfl, ?_⟩
    exact ⟨_, _, _, _, _, _, rfl, B.give [0, 1, 2] rfl rfl rfl⟩
end Go.Proofs.Ytgohmocjjmkepaa
