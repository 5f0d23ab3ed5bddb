/- Walks: what the functions under FnWaves do (part 1). Printed by a program of this claim's author. -/
import Derived.Test.YtgohmocjjmkepaaBw1
set_option linter.unusedSimpArgs false
set_option linter.unusedVariables false
open Go.Wv
namespace Go.Proofs.Ytgohmocjjmkepaa
open Go.Proofs
namespace T22
theorem mx : Try.prog.follows .mixedOrders = true := by kernel_rfl
theorem sl_22_5_1 : slB Try.prog 22 5 1 = true := by kernel_rfl
end T22
set_option maxRecDepth 100000 in
set_option maxHeartbeats 4000000 in
theorem c_l_r8Long {aq : Option Addr} {nq : Nat} {cq : Nat} {Xq : List Nat} {ar : Option Addr} {nr : Nat} {cr : Nat} {Xr : List Nat} {w : World} (qq : Rd w kY aq nq Xq) (qr : Rd w kY ar nr Xr) (gq : nq ≤ 9223372036854775807) (gr : nr ≤ 9223372036854775807) :
    Calls Try.prog 22 #[.slice aq nq cq, .slice ar nr cr] w (Rt fun v w' => v = .bool ((decide (48 < (nq : Int)) || decide (48 < (nr : Int)))) ∧ Ext0 w w') := by
  have hlq := qq.len
  have hlr := qr.len
  have B : Bu w no w [.rd kY aq nq Xq, .rd kY ar nr Xr] := Bu.ro (All.cons qq (All.cons qr All.nil)) rfl
  refine calls_W (n := 13) Try.func22 rfl rfl (Nat.le_of_ble_eq_true rfl) ?_
  refine W_seq ?_
  refine W_region (by kernel_rfl) ?_
  refine s_y (v := .bool false) rfl (y_assign rfl) ?_
  refine s_nil ?_
  refine W_seq ?_
  refine W_region (by kernel_rfl) ?_
  refine s_y (v := .slice aq nq cq) rfl (y_move rfl) ?_
  refine s_y (v := .int .i64 ((nq : Nat) : Int)) rfl (y_len T22.sl_22_5_1 rfl rfl) ?_
  by_cases c1 : 48 < ((nq : Nat) : Int)
  · refine s_y (v := .bool true) rfl (y_gtr rfl rfl (decide_eq_true c1)) ?_
    refine s_y (v := .bool true) rfl (y_move rfl) ?_
    refine s_skip rfl ?_
    refine s_skip rfl ?_
    refine s_skip rfl ?_
    refine s_y (v := .bool true) rfl (y_pick_t rfl rfl) ?_
    refine s_y (v := .bool true) rfl (y_assign rfl) ?_
    refine s_nil ?_
    refine W_ret ?_
    refine ret1 (v := .bool true) rfl rfl rfl ⟨_, rfl, ?_⟩
    exact ⟨congrArg Value.bool (by simp only [(decide_eq_true c1), Bool.and_true, Bool.true_and, Bool.and_false, Bool.false_and, Bool.not_true, Bool.not_false, Bool.or_true, Bool.true_or, Bool.or_false, Bool.false_or]), B.ext⟩
  · refine s_y (v := .bool false) rfl (y_gtr rfl rfl (decide_eq_false c1)) ?_
    refine s_y (v := .bool false) rfl (y_move rfl) ?_
    refine s_y (v := .slice ar nr cr) rfl (y_move rfl) ?_
    refine s_y (v := .int .i64 ((nr : Nat) : Int)) rfl (y_len T22.sl_22_5_1 rfl rfl) ?_
    by_cases c2 : 48 < ((nr : Nat) : Int)
    · refine s_y (v := .bool true) rfl (y_gtr rfl rfl (decide_eq_true c2)) ?_
      refine s_y (v := .bool true) rfl (y_pick_f rfl rfl) ?_
      refine s_y (v := .bool true) rfl (y_assign rfl) ?_
      refine s_nil ?_
      refine W_ret ?_
      refine ret1 (v := .bool true) rfl rfl rfl ⟨_, rfl, ?_⟩
      exact ⟨congrArg Value.bool (by simp only [(decide_eq_false c1), (decide_eq_true c2), Bool.and_true, Bool.true_and, Bool.and_false, Bool.false_and, Bool.not_true, Bool.not_false, Bool.or_true, Bool.true_or, Bool.or_false, Bool.false_or]), B.ext⟩
    · refine s_y (v := .bool false) rfl (y_gtr rfl rfl (decide_eq_false c2)) ?_
      refine s_y (v := .bool false) rfl (y_pick_f rfl rfl) ?_
      refine s_y (v := .bool false) rfl (y_assign rfl) ?_
      refine s_nil ?_
      refine W_ret ?_
      refine ret1 (v := .bool false) rfl rfl rfl ⟨_, rfl, ?_⟩
      exact ⟨congrArg Value.bool (by simp only [(decide_eq_false c1), (decide_eq_false c2), Bool.and_true, Bool.true_and, Bool.and_false, Bool.false_and, Bool.not_true, Bool.not_false, Bool.or_true, Bool.true_or, Bool.or_false, Bool.false_or]), B.ext⟩
namespace T63
theorem mx : Try.prog.follows .mixedOrders = true := by kernel_rfl
end T63
set_option maxRecDepth 100000 in
set_option maxHeartbeats 4000000 in
theorem c_s_l00From {aq : Option Addr} {nq : Nat} {cq : Nat} {Xq : List Nat} {w : World} (qq : Rd w kY aq nq Xq) :
    Calls Try.prog 63 #[.slice aq nq cq] w (Rt fun v w' => ∃ b, v = .pointer (some ⟨b, 0, none⟩) ∧ New w w' [.blk b [.slice aq nq cq, .int .i64 0, .int .u64 0] 131]) := by
  have hlq := qq.len
  have B : Bu w no w [.rd kY aq nq Xq] := Bu.ro (All.cons qq All.nil) rfl
  refine calls_W (n := 6) Try.func63 rfl rfl (Nat.le_of_ble_eq_true rfl) ?_
  refine W_seq ?_
  refine W_region (by kernel_rfl) ?_
  refine s_y (v := .pointer none) rfl (y_assign rfl) ?_
  refine s_nil ?_
  refine W_seq ?_
  refine W_region (by kernel_rfl) ?_
  refine s_y (v := .slice aq nq cq) rfl (y_move rfl) ?_
  refine s_y (v := .agg #[.slice aq nq cq, .int .i64 0, .int .u64 0]) rfl (y_build (cells := #[.slice aq nq cq, .int .i64 0, .int .u64 0]) (by kernel_rfl)) ?_
  refine s_k rfl (k_boxN (v := .agg #[.slice aq nq cq, .int .i64 0, .int .u64 0]) (cs := [.slice aq nq cq, .int .i64 0, .int .u64 0]) rfl rfl (fun b1 w2 hN3 => ?_))
  replace B := B.new1 hN3
  clear hN3
  refine s_y (v := .pointer (some ⟨b1, 0, none⟩)) rfl (y_assign rfl) ?_
  refine s_nil ?_
  refine W_ret ?_
  refine ret1 (v := .pointer (some ⟨b1, 0, none⟩)) rfl rfl rfl ⟨_, rfl, ?_⟩
  exact ⟨_, rfl, B.give [0] rfl rfl rfl⟩
namespace T126
theorem mx : Try.prog.follows .mixedOrders = true := by kernel_rfl
theorem fld_131_0_0 : fldB Try.prog 131 0 0 = true := by kernel_rfl
theorem fld_131_1_1 : fldB Try.prog 131 1 1 = true := by kernel_rfl
theorem fld_131_2_2 : fldB Try.prog 131 2 2 = true := by kernel_rfl
theorem int_129_u64 : Try.prog.underlying 129 = some (.int .u64) := by kernel_rfl
theorem int_2_i64 : Try.prog.underlying 2 = some (.int .i64) := by kernel_rfl
theorem int_3_i64 : Try.prog.underlying 3 = some (.int .i64) := by kernel_rfl
theorem one_129 : oneB Try.prog 129 = true := by kernel_rfl
theorem one_22 : oneB Try.prog 22 = true := by kernel_rfl
theorem one_3 : oneB Try.prog 3 = true := by kernel_rfl
theorem one_5 : oneB Try.prog 5 = true := by kernel_rfl
theorem sl_22_5_1 : slB Try.prog 22 5 1 = true := by kernel_rfl
theorem sz_129_1 : szB Try.prog 129 1 = true := by kernel_rfl
theorem sz_3_1 : szB Try.prog 3 1 = true := by kernel_rfl
theorem und_129 : (Try.prog.underlying 129).isSome = true := by kernel_rfl
theorem und_3 : (Try.prog.underlying 3).isSome = true := by kernel_rfl
theorem und_5 : (Try.prog.underlying 5).isSome = true := by kernel_rfl
end T126
set_option maxRecDepth 100000 in
set_option maxHeartbeats 4000000 in
theorem c_s_next {bs : Nat} {aq : Option Addr} {nq cq : Nat} {Xq : List Nat} {p sd : Int} {w : World} (hp0 : 0 ≤ p) (hp1 : p ≤ 1000000) (HA : All w [.blk bs [.slice aq nq cq, .int .i64 p, .int .u64 sd] 131, .rd kY aq nq Xq]) (HP : Pw [.blk bs [.slice aq nq cq, .int .i64 p, .int .u64 sd] 131, .rd kY aq nq Xq]) :
    Calls Try.prog 126 #[.pointer (some ⟨bs, 0, none⟩)] w (Rt fun v w' => v = .int .i64 (nxV Xq p sd) ∧ Upd w w' [.blk bs [.slice aq nq cq, .int .i64 p, .int .u64 sd] 131] [.blk bs [.slice aq nq cq, .int .i64 (p + 1), .int .u64 (nxS Xq p sd)] 131]) := by
  have B : Bu w (hasW [.blk bs [.slice aq nq cq, .int .i64 p, .int .u64 sd] 131]) w [.blk bs [.slice aq nq cq, .int .i64 p, .int .u64 sd] 131, .rd kY aq nq Xq] := Bu.initW (W := [.blk bs [.slice aq nq cq, .int .i64 p, .int .u64 sd] 131]) (R := [.rd kY aq nq Xq]) HA HP rfl
  have hlq := (B.r 1 rfl).len
  refine calls_W (n := 62) Try.func126 rfl rfl (Nat.le_of_ble_eq_true rfl) ?_
  refine W_seq ?_
  refine W_region (by kernel_rfl) ?_
  refine s_y (v := .int .i64 0) rfl (y_assign rfl) ?_
  refine s_nil ?_
  refine W_seq ?_
  refine W_region (by kernel_rfl) ?_
  refine s_y (v := .int .i64 0) rfl (y_assign rfl) ?_
  refine s_nil ?_
  refine W_seq ?_
  refine W_seq ?_
  have B0_5 := B
  refine W_draw (no) T126.mx (by kernel_rfl) (fun w3 e4 => ?_)
  have R6 := Ext.refl (no) w
  replace R6 := R6.trans (Ext0.any e4)
  replace B := B.ext0 e4
  clear e4
  refine m_y (v := .pointer (some ⟨bs, 0, none⟩)) 0 rfl (by kernel_rfl) rfl rfl (fun w' e' => y_move rfl) ?_
  refine m_y (v := .pointer (some ⟨bs, 0, none⟩)) 1 rfl (by kernel_rfl) rfl rfl (fun w' e' => y_nil rfl) ?_
  refine m_y (v := .pointer (some ⟨bs, 1, none⟩)) 2 rfl (by kernel_rfl) rfl rfl (fun w' e' => y_fld (o := 0) T126.fld_131_1_1 rfl) ?_
  refine m_y (v := .int .i64 p) 3 rfl (by kernel_rfl) rfl rfl (fun w' e' => y_load T126.one_3 rfl (((B0_5.b 0 rfl).ext0 e').cell (j := 1) rfl)) ?_
  refine m_y (v := .pointer (some ⟨bs, 0, none⟩)) 4 rfl (by kernel_rfl) rfl rfl (fun w' e' => y_move rfl) ?_
  refine m_y (v := .pointer (some ⟨bs, 0, none⟩)) 5 rfl (by kernel_rfl) rfl rfl (fun w' e' => y_nil rfl) ?_
  refine m_y (v := .pointer (some ⟨bs, 0, none⟩)) 6 rfl (by kernel_rfl) rfl rfl (fun w' e' => y_fld (o := 0) T126.fld_131_0_0 rfl) ?_
  refine m_y (v := .slice aq nq cq) 7 rfl (by kernel_rfl) rfl rfl (fun w' e' => y_load T126.one_22 rfl (((B0_5.b 0 rfl).ext0 e').cell (j := 0) rfl)) ?_
  refine m_y (v := .int .i64 ((nq : Nat) : Int)) 8 rfl (by kernel_rfl) rfl rfl (fun w' e' => y_len T126.sl_22_5_1 rfl rfl) ?_
  by_cases c7 : p < ((nq : Nat) : Int)
  · refine m_y (v := .bool true) 9 rfl (by kernel_rfl) rfl rfl (fun w' e' => y_lss rfl rfl (decide_eq_true c7)) ?_
    refine m_done (by kernel_rfl) (fun w8 e9 => ?_)
    replace B := B.ext0 e9
    clear e9
    clear B0_5 R6
    refine W_if_t (by decide) rfl ?_
    have B0_14 := B
    refine W_draw (no) T126.mx (by kernel_rfl) (fun w12 e13 => ?_)
    have R15 := Ext.refl (no) w8
    replace R15 := R15.trans (Ext0.any e13)
    replace B := B.ext0 e13
    clear e13
    refine m_y (v := .pointer (some ⟨bs, 0, none⟩)) 0 rfl (by kernel_rfl) rfl rfl (fun w' e' => y_move rfl) ?_
    refine m_y (v := .pointer (some ⟨bs, 0, none⟩)) 1 rfl (by kernel_rfl) rfl rfl (fun w' e' => y_nil rfl) ?_
    refine m_y (v := .pointer (some ⟨bs, 0, none⟩)) 2 rfl (by kernel_rfl) rfl rfl (fun w' e' => y_fld (o := 0) T126.fld_131_0_0 rfl) ?_
    refine m_y (v := .slice aq nq cq) 3 rfl (by kernel_rfl) rfl rfl (fun w' e' => y_load T126.one_22 rfl (((B0_14.b 0 rfl).ext0 e').cell (j := 0) rfl)) ?_
    refine m_y (v := .pointer (some ⟨bs, 0, none⟩)) 4 rfl (by kernel_rfl) rfl rfl (fun w' e' => y_move rfl) ?_
    refine m_y (v := .pointer (some ⟨bs, 0, none⟩)) 5 rfl (by kernel_rfl) rfl rfl (fun w' e' => y_nil rfl) ?_
    refine m_y (v := .pointer (some ⟨bs, 1, none⟩)) 6 rfl (by kernel_rfl) rfl rfl (fun w' e' => y_fld (o := 0) T126.fld_131_1_1 rfl) ?_
    refine m_y (v := .int .i64 p) 7 rfl (by kernel_rfl) rfl rfl (fun w' e' => y_load T126.one_3 rfl (((B0_14.b 0 rfl).ext0 e').cell (j := 1) rfl)) ?_
    refine m_y (v := .pointer (some (sat aq ((p).toNat * 1)))) 8 rfl (by kernel_rfl) rfl rfl (fun w' e' => y_idx T126.sl_22_5_1 rfl rfl ((B.r 1 rfl).addr (by omega)) (by omega) (by omega)) ?_
    obtain ⟨hb17, hR16⟩ := Rd.atY (B0_14.r 1 rfl) p (by omega) (by omega)
    refine m_y (v := .int .u8 (byt Xq p)) 9 rfl (by kernel_rfl) rfl rfl (fun w' e' => y_load T126.one_5 rfl ((hR16.ext0 e').cell (i := 0) rfl)) ?_
    refine m_y (v := .int .i64 (byt Xq p)) 10 rfl (by kernel_rfl) rfl rfl (fun w' e' => y_ii T126.und_5 T126.int_3_i64 rfl (IntWalk.i64_in _ (by omega))) ?_
    refine m_y (v := .int .i64 (byt Xq p)) 11 rfl (by kernel_rfl) rfl rfl (fun w' e' => y_assign rfl) ?_
    refine m_done (by kernel_rfl) (fun w18 e19 => ?_)
    replace B := B.ext0 e19
    clear e19
    clear B0_14 R15
    refine W_seq ?_
    refine W_region (by kernel_rfl) ?_
    refine s_y (v := .pointer (some ⟨bs, 0, none⟩)) rfl (y_move rfl) ?_
    refine s_y (v := .pointer (some ⟨bs, 0, none⟩)) rfl (y_nil rfl) ?_
    refine s_y (v := .pointer (some ⟨bs, 1, none⟩)) rfl (y_fld (o := 0) T126.fld_131_1_1 rfl) ?_
    refine s_y (v := .int .i64 p) rfl (y_load T126.one_3 rfl ((B.b 0 rfl).cell (j := 1) rfl)) ?_
    refine s_y (v := .int .i64 (p + 1)) rfl (y_add rfl rfl rfl (by omega)) ?_
    refine s_y (v := .pointer (some ⟨bs, 0, none⟩)) rfl (y_nil rfl) ?_
    refine s_y (v := .pointer (some ⟨bs, 1, none⟩)) rfl (y_fld (o := 0) T126.fld_131_1_1 rfl) ?_
    refine s_k0 rfl (k_stB (v := .int .i64 (p + 1)) (n := 1) (cs' := [.slice aq nq cq, .int .i64 (p + 1), .int .u64 sd]) T126.sz_3_1 rfl rfl rfl (B.b 0 rfl) (by simp [Value.cells, Value.oneCell']) (Nat.le_of_ble_eq_true rfl) rfl (fun w20 hU21 => ?_))
    replace B : Bu w (hasW [.blk bs [.slice aq nq cq, .int .i64 p, .int .u64 sd] 131]) w20 [.blk bs [.slice aq nq cq, .int .i64 (p + 1), .int .u64 sd] 131, .rd kY aq nq Xq] := B.upd [0] rfl hU21
    clear hU21
    refine s_nil ?_
    refine W_seq ?_
    refine W_region (by kernel_rfl) ?_
    refine s_y (v := .pointer (some ⟨bs, 0, none⟩)) rfl (y_move rfl) ?_
    refine s_y (v := .pointer (some ⟨bs, 0, none⟩)) rfl (y_move rfl) ?_
    refine s_y (v := .pointer (some ⟨bs, 0, none⟩)) rfl (y_nil rfl) ?_
    refine s_y (v := .pointer (some ⟨bs, 2, none⟩)) rfl (y_fld (o := 0) T126.fld_131_2_2 rfl) ?_
    refine s_y (v := .int .u64 sd) rfl (y_load T126.one_129 rfl ((B.b 0 rfl).cell (j := 2) rfl)) ?_
    refine s_y (v := .int .u64 (IntKind.u64.wrap (sd * 6364136223846793005))) rfl (y_wmul rfl rfl) ?_
    refine s_y (v := .int .i64 (byt Xq p)) rfl (y_move rfl) ?_
    refine s_y (v := .int .u64 (byt Xq p)) rfl (y_ii T126.und_3 T126.int_129_u64 rfl (IntWalk.u64_in _ (by omega))) ?_
    refine s_y (v := .int .u64 (IntKind.u64.wrap ((IntKind.u64.wrap (sd * 6364136223846793005)) + (byt Xq p)))) rfl (y_wadd rfl rfl) ?_
    refine s_y (v := .int .u64 (IntKind.u64.wrap ((IntKind.u64.wrap ((IntKind.u64.wrap (sd * 6364136223846793005)) + (byt Xq p))) + 1442695040888963407))) rfl (y_wadd rfl rfl) ?_
    refine s_y (v := .pointer (some ⟨bs, 0, none⟩)) rfl (y_nil rfl) ?_
    refine s_y (v := .pointer (some ⟨bs, 2, none⟩)) rfl (y_fld (o := 0) T126.fld_131_2_2 rfl) ?_
    refine s_k0 rfl (k_stB (v := .int .u64 (IntKind.u64.wrap ((IntKind.u64.wrap ((IntKind.u64.wrap (sd * 6364136223846793005)) + (byt Xq p))) + 1442695040888963407))) (n := 1) (cs' := [.slice aq nq cq, .int .i64 (p + 1), .int .u64 (IntKind.u64.wrap ((IntKind.u64.wrap ((IntKind.u64.wrap (sd * 6364136223846793005)) + (byt Xq p))) + 1442695040888963407))]) T126.sz_129_1 rfl rfl rfl (B.b 0 rfl) (by simp [Value.cells, Value.oneCell']) (Nat.le_of_ble_eq_true rfl) rfl (fun w22 hU23 => ?_))
    replace B : Bu w (hasW [.blk bs [.slice aq nq cq, .int .i64 p, .int .u64 sd] 131]) w22 [.blk bs [.slice aq nq cq, .int .i64 (p + 1), .int .u64 (IntKind.u64.wrap ((IntKind.u64.wrap ((IntKind.u64.wrap (sd * 6364136223846793005)) + (byt Xq p))) + 1442695040888963407))] 131, .rd kY aq nq Xq] := B.upd [0] rfl hU23
    clear hU23
    refine s_nil ?_
    refine W_seq ?_
    refine W_seq ?_
    have B0_28 := B
    refine W_draw (no) T126.mx (by kernel_rfl) (fun w26 e27 => ?_)
    have R29 := Ext.refl (no) w22
    replace R29 := R29.trans (Ext0.any e27)
    replace B := B.ext0 e27
    clear e27
    refine m_y (v := .pointer (some ⟨bs, 0, none⟩)) 0 rfl (by kernel_rfl) rfl rfl (fun w' e' => y_move rfl) ?_
    refine m_y (v := .pointer (some ⟨bs, 0, none⟩)) 1 rfl (by kernel_rfl) rfl rfl (fun w' e' => y_nil rfl) ?_
    refine m_y (v := .pointer (some ⟨bs, 1, none⟩)) 2 rfl (by kernel_rfl) rfl rfl (fun w' e' => y_fld (o := 0) T126.fld_131_1_1 rfl) ?_
    refine m_y (v := .int .i64 (p + 1)) 3 rfl (by kernel_rfl) rfl rfl (fun w' e' => y_load T126.one_3 rfl (((B0_28.b 0 rfl).ext0 e').cell (j := 1) rfl)) ?_
    refine m_y (v := .pointer (some ⟨bs, 0, none⟩)) 4 rfl (by kernel_rfl) rfl rfl (fun w' e' => y_move rfl) ?_
    refine m_y (v := .pointer (some ⟨bs, 0, none⟩)) 5 rfl (by kernel_rfl) rfl rfl (fun w' e' => y_nil rfl) ?_
    refine m_y (v := .pointer (some ⟨bs, 0, none⟩)) 6 rfl (by kernel_rfl) rfl rfl (fun w' e' => y_fld (o := 0) T126.fld_131_0_0 rfl) ?_
    refine m_y (v := .slice aq nq cq) 7 rfl (by kernel_rfl) rfl rfl (fun w' e' => y_load T126.one_22 rfl (((B0_28.b 0 rfl).ext0 e').cell (j := 0) rfl)) ?_
    refine m_y (v := .int .i64 ((nq : Nat) : Int)) 8 rfl (by kernel_rfl) rfl rfl (fun w' e' => y_len T126.sl_22_5_1 rfl rfl) ?_
    by_cases c30 : (p + 1) ≤ ((nq : Nat) : Int)
    · refine m_y (v := .bool true) 9 rfl (by kernel_rfl) rfl rfl (fun w' e' => y_leq rfl rfl (decide_eq_true c30)) ?_
      refine m_done (by kernel_rfl) (fun w31 e32 => ?_)
      replace B := B.ext0 e32
      clear e32
      clear B0_28 R29
      refine W_if_t (by decide) rfl ?_
      refine W_seq ?_
      refine W_region (by kernel_rfl) ?_
      refine s_y (v := .int .i64 (byt Xq p)) rfl (y_move rfl) ?_
      refine s_y (v := .int .i64 (byt Xq p)) rfl (y_assign rfl) ?_
      refine s_nil ?_
      refine W_ret ?_
      refine ret1 (v := .int .i64 (byt Xq p)) rfl rfl rfl ⟨_, rfl, ?_⟩
      have hby : bY Xq p = byt Xq p := bY_in hlq c7
      replace B : Bu w (hasW [.blk bs [.slice aq nq cq, .int .i64 p, .int .u64 sd] 131]) w31 [.blk bs [.slice aq nq cq, .int .i64 (p + 1), .int .u64 (nxS Xq p sd)] 131, .rd kY aq nq Xq] := B.blkEq 0 rfl (nx_cells hby)
      exact ⟨(congrArg (Value.int .i64) (nxV_in hlq c30 hby)), B.wrote [0] rfl rfl rfl⟩
    · refine m_y (v := .bool false) 9 rfl (by kernel_rfl) rfl rfl (fun w' e' => y_leq rfl rfl (decide_eq_false c30)) ?_
      refine m_done (by kernel_rfl) (fun w33 e34 => ?_)
      replace B := B.ext0 e34
      clear e34
      clear B0_28 R29
      refine W_if_f (by decide) rfl ?_
      refine W_skip ?_
      refine W_seq ?_
      refine W_region (by kernel_rfl) ?_
      refine s_y (v := .pointer (some ⟨bs, 0, none⟩)) rfl (y_move rfl) ?_
      refine s_y (v := .pointer (some ⟨bs, 0, none⟩)) rfl (y_nil rfl) ?_
      refine s_y (v := .pointer (some ⟨bs, 2, none⟩)) rfl (y_fld (o := 0) T126.fld_131_2_2 rfl) ?_
      refine s_y (v := .int .u64 (IntKind.u64.wrap ((IntKind.u64.wrap ((IntKind.u64.wrap (sd * 6364136223846793005)) + (byt Xq p))) + 1442695040888963407))) rfl (y_load T126.one_129 rfl ((B.b 0 rfl).cell (j := 2) rfl)) ?_
      refine s_y (v := .int .u64 ((IntKind.u64.wrap ((IntKind.u64.wrap ((IntKind.u64.wrap (sd * 6364136223846793005)) + (byt Xq p))) + 1442695040888963407)) / 1099511627776)) rfl (y_shr40 rfl rfl) ?_
      have hb35 := lo8_b ((IntKind.u64.wrap ((IntKind.u64.wrap ((IntKind.u64.wrap (sd * 6364136223846793005)) + (byt Xq p))) + 1442695040888963407)) / 1099511627776)
      refine s_y (v := .int .u64 (lo8 ((IntKind.u64.wrap ((IntKind.u64.wrap ((IntKind.u64.wrap (sd * 6364136223846793005)) + (byt Xq p))) + 1442695040888963407)) / 1099511627776))) rfl (y_and255 rfl rfl) ?_
      refine s_y (v := .int .i64 (lo8 ((IntKind.u64.wrap ((IntKind.u64.wrap ((IntKind.u64.wrap (sd * 6364136223846793005)) + (byt Xq p))) + 1442695040888963407)) / 1099511627776))) rfl (y_ii T126.und_129 T126.int_2_i64 rfl (IntWalk.i64_in _ (by omega))) ?_
      refine s_y (v := .int .i64 (lo8 ((IntKind.u64.wrap ((IntKind.u64.wrap ((IntKind.u64.wrap (sd * 6364136223846793005)) + (byt Xq p))) + 1442695040888963407)) / 1099511627776))) rfl (y_assign rfl) ?_
      refine s_nil ?_
      refine W_ret ?_
      refine ret1 (v := .int .i64 (lo8 ((IntKind.u64.wrap ((IntKind.u64.wrap ((IntKind.u64.wrap (sd * 6364136223846793005)) + (byt Xq p))) + 1442695040888963407)) / 1099511627776))) rfl rfl rfl ⟨_, rfl, ?_⟩
      have hby : bY Xq p = byt Xq p := bY_in hlq c7
      replace B : Bu w (hasW [.blk bs [.slice aq nq cq, .int .i64 p, .int .u64 sd] 131]) w33 [.blk bs [.slice aq nq cq, .int .i64 (p + 1), .int .u64 (nxS Xq p sd)] 131, .rd kY aq nq Xq] := B.blkEq 0 rfl (nx_cells hby)
      skip
      exact ⟨(congrArg (Value.int .i64) ((by unfold nxS; rw [hby] : lo8 ((IntKind.u64.wrap ((IntKind.u64.wrap ((IntKind.u64.wrap (sd * 6364136223846793005)) + (byt Xq p))) + 1442695040888963407)) / 1099511627776) = lo8 (nxS Xq p sd / 1099511627776)).trans (nxV_out hlq c30))), B.wrote [0] rfl rfl rfl⟩
  · refine m_y (v := .bool false) 9 rfl (by kernel_rfl) rfl rfl (fun w' e' => y_lss rfl rfl (decide_eq_false c7)) ?_
    refine m_done (by kernel_rfl) (fun w36 e37 => ?_)
    replace B := B.ext0 e37
    clear e37
    clear B0_5 R6
    refine W_if_f (by decide) rfl ?_
    refine W_skip ?_
    refine W_seq ?_
    refine W_region (by kernel_rfl) ?_
    refine s_y (v := .pointer (some ⟨bs, 0, none⟩)) rfl (y_move rfl) ?_
    refine s_y (v := .pointer (some ⟨bs, 0, none⟩)) rfl (y_nil rfl) ?_
    refine s_y (v := .pointer (some ⟨bs, 1, none⟩)) rfl (y_fld (o := 0) T126.fld_131_1_1 rfl) ?_
    refine s_y (v := .int .i64 p) rfl (y_load T126.one_3 rfl ((B.b 0 rfl).cell (j := 1) rfl)) ?_
    refine s_y (v := .int .i64 (p + 1)) rfl (y_add rfl rfl rfl (by omega)) ?_
    refine s_y (v := .pointer (some ⟨bs, 0, none⟩)) rfl (y_nil rfl) ?_
    refine s_y (v := .pointer (some ⟨bs, 1, none⟩)) rfl (y_fld (o := 0) T126.fld_131_1_1 rfl) ?_
    refine s_k0 rfl (k_stB (v := .int .i64 (p + 1)) (n := 1) (cs' := [.slice aq nq cq, .int .i64 (p + 1), .int .u64 sd]) T126.sz_3_1 rfl rfl rfl (B.b 0 rfl) (by simp [Value.cells, Value.oneCell']) (Nat.le_of_ble_eq_true rfl) rfl (fun w38 hU39 => ?_))
    replace B : Bu w (hasW [.blk bs [.slice aq nq cq, .int .i64 p, .int .u64 sd] 131]) w38 [.blk bs [.slice aq nq cq, .int .i64 (p + 1), .int .u64 sd] 131, .rd kY aq nq Xq] := B.upd [0] rfl hU39
    clear hU39
    refine s_nil ?_
    refine W_seq ?_
    refine W_region (by kernel_rfl) ?_
    refine s_y (v := .pointer (some ⟨bs, 0, none⟩)) rfl (y_move rfl) ?_
    refine s_y (v := .pointer (some ⟨bs, 0, none⟩)) rfl (y_move rfl) ?_
    refine s_y (v := .pointer (some ⟨bs, 0, none⟩)) rfl (y_nil rfl) ?_
    refine s_y (v := .pointer (some ⟨bs, 2, none⟩)) rfl (y_fld (o := 0) T126.fld_131_2_2 rfl) ?_
    refine s_y (v := .int .u64 sd) rfl (y_load T126.one_129 rfl ((B.b 0 rfl).cell (j := 2) rfl)) ?_
    refine s_y (v := .int .u64 (IntKind.u64.wrap (sd * 6364136223846793005))) rfl (y_wmul rfl rfl) ?_
    refine s_y (v := .int .i64 0) rfl (y_move rfl) ?_
    refine s_y (v := .int .u64 0) rfl (y_ii T126.und_3 T126.int_129_u64 rfl (IntWalk.u64_in _ (by omega))) ?_
    refine s_y (v := .int .u64 (IntKind.u64.wrap ((IntKind.u64.wrap (sd * 6364136223846793005)) + 0))) rfl (y_wadd rfl rfl) ?_
    refine s_y (v := .int .u64 (IntKind.u64.wrap ((IntKind.u64.wrap ((IntKind.u64.wrap (sd * 6364136223846793005)) + 0)) + 1442695040888963407))) rfl (y_wadd rfl rfl) ?_
    refine s_y (v := .pointer (some ⟨bs, 0, none⟩)) rfl (y_nil rfl) ?_
    refine s_y (v := .pointer (some ⟨bs, 2, none⟩)) rfl (y_fld (o := 0) T126.fld_131_2_2 rfl) ?_
    refine s_k0 rfl (k_stB (v := .int .u64 (IntKind.u64.wrap ((IntKind.u64.wrap ((IntKind.u64.wrap (sd * 6364136223846793005)) + 0)) + 1442695040888963407))) (n := 1) (cs' := [.slice aq nq cq, .int .i64 (p + 1), .int .u64 (IntKind.u64.wrap ((IntKind.u64.wrap ((IntKind.u64.wrap (sd * 6364136223846793005)) + 0)) + 1442695040888963407))]) T126.sz_129_1 rfl rfl rfl (B.b 0 rfl) (by simp [Value.cells, Value.oneCell']) (Nat.le_of_ble_eq_true rfl) rfl (fun w40 hU41 => ?_))
    replace B : Bu w (hasW [.blk bs [.slice aq nq cq, .int .i64 p, .int .u64 sd] 131]) w40 [.blk bs [.slice aq nq cq, .int .i64 (p + 1), .int .u64 (IntKind.u64.wrap ((IntKind.u64.wrap ((IntKind.u64.wrap (sd * 6364136223846793005)) + 0)) + 1442695040888963407))] 131, .rd kY aq nq Xq] := B.upd [0] rfl hU41
    clear hU41
    refine s_nil ?_
    refine W_seq ?_
    refine W_seq ?_
    have B0_46 := B
    refine W_draw (no) T126.mx (by kernel_rfl) (fun w44 e45 => ?_)
    have R47 := Ext.refl (no) w40
    replace R47 := R47.trans (Ext0.any e45)
    replace B := B.ext0 e45
    clear e45
    refine m_y (v := .pointer (some ⟨bs, 0, none⟩)) 0 rfl (by kernel_rfl) rfl rfl (fun w' e' => y_move rfl) ?_
    refine m_y (v := .pointer (some ⟨bs, 0, none⟩)) 1 rfl (by kernel_rfl) rfl rfl (fun w' e' => y_nil rfl) ?_
    refine m_y (v := .pointer (some ⟨bs, 1, none⟩)) 2 rfl (by kernel_rfl) rfl rfl (fun w' e' => y_fld (o := 0) T126.fld_131_1_1 rfl) ?_
    refine m_y (v := .int .i64 (p + 1)) 3 rfl (by kernel_rfl) rfl rfl (fun w' e' => y_load T126.one_3 rfl (((B0_46.b 0 rfl).ext0 e').cell (j := 1) rfl)) ?_
    refine m_y (v := .pointer (some ⟨bs, 0, none⟩)) 4 rfl (by kernel_rfl) rfl rfl (fun w' e' => y_move rfl) ?_
    refine m_y (v := .pointer (some ⟨bs, 0, none⟩)) 5 rfl (by kernel_rfl) rfl rfl (fun w' e' => y_nil rfl) ?_
    refine m_y (v := .pointer (some ⟨bs, 0, none⟩)) 6 rfl (by kernel_rfl) rfl rfl (fun w' e' => y_fld (o := 0) T126.fld_131_0_0 rfl) ?_
    refine m_y (v := .slice aq nq cq) 7 rfl (by kernel_rfl) rfl rfl (fun w' e' => y_load T126.one_22 rfl (((B0_46.b 0 rfl).ext0 e').cell (j := 0) rfl)) ?_
    refine m_y (v := .int .i64 ((nq : Nat) : Int)) 8 rfl (by kernel_rfl) rfl rfl (fun w' e' => y_len T126.sl_22_5_1 rfl rfl) ?_
    by_cases c48 : (p + 1) ≤ ((nq : Nat) : Int)
    · refine m_y (v := .bool true) 9 rfl (by kernel_rfl) rfl rfl (fun w' e' => y_leq rfl rfl (decide_eq_true c48)) ?_
      refine m_done (by kernel_rfl) (fun w49 e50 => ?_)
      replace B := B.ext0 e50
      clear e50
      clear B0_46 R47
      refine W_if_t (by decide) rfl ?_
      refine W_seq ?_
      refine W_region (by kernel_rfl) ?_
      refine s_y (v := .int .i64 0) rfl (y_move rfl) ?_
      refine s_y (v := .int .i64 0) rfl (y_assign rfl) ?_
      refine s_nil ?_
      refine W_ret ?_
      refine ret1 (v := .int .i64 0) rfl rfl rfl ⟨_, rfl, ?_⟩
      have hby : bY Xq p = 0 := bY_out hlq c7
      replace B : Bu w (hasW [.blk bs [.slice aq nq cq, .int .i64 p, .int .u64 sd] 131]) w49 [.blk bs [.slice aq nq cq, .int .i64 (p + 1), .int .u64 (nxS Xq p sd)] 131, .rd kY aq nq Xq] := B.blkEq 0 rfl (nx_cells hby)
      exact ⟨(congrArg (Value.int .i64) (nxV_in hlq c48 hby)), B.wrote [0] rfl rfl rfl⟩
    · refine m_y (v := .bool false) 9 rfl (by kernel_rfl) rfl rfl (fun w' e' => y_leq rfl rfl (decide_eq_false c48)) ?_
      refine m_done (by kernel_rfl) (fun w51 e52 => ?_)
      replace B := B.ext0 e52
      clear e52
      clear B0_46 R47
      refine W_if_f (by decide) rfl ?_
      refine W_skip ?_
      refine W_seq ?_
      refine W_region (by kernel_rfl) ?_
      refine s_y (v := .pointer (some ⟨bs, 0, none⟩)) rfl (y_move rfl) ?_
      refine s_y (v := .pointer (some ⟨bs, 0, none⟩)) rfl (y_nil rfl) ?_
      refine s_y (v := .pointer (some ⟨bs, 2, none⟩)) rfl (y_fld (o := 0) T126.fld_131_2_2 rfl) ?_
      refine s_y (v := .int .u64 (IntKind.u64.wrap ((IntKind.u64.wrap ((IntKind.u64.wrap (sd * 6364136223846793005)) + 0)) + 1442695040888963407))) rfl (y_load T126.one_129 rfl ((B.b 0 rfl).cell (j := 2) rfl)) ?_
      refine s_y (v := .int .u64 ((IntKind.u64.wrap ((IntKind.u64.wrap ((IntKind.u64.wrap (sd * 6364136223846793005)) + 0)) + 1442695040888963407)) / 1099511627776)) rfl (y_shr40 rfl rfl) ?_
      have hb53 := lo8_b ((IntKind.u64.wrap ((IntKind.u64.wrap ((IntKind.u64.wrap (sd * 6364136223846793005)) + 0)) + 1442695040888963407)) / 1099511627776)
      refine s_y (v := .int .u64 (lo8 ((IntKind.u64.wrap ((IntKind.u64.wrap ((IntKind.u64.wrap (sd * 6364136223846793005)) + 0)) + 1442695040888963407)) / 1099511627776))) rfl (y_and255 rfl rfl) ?_
      refine s_y (v := .int .i64 (lo8 ((IntKind.u64.wrap ((IntKind.u64.wrap ((IntKind.u64.wrap (sd * 6364136223846793005)) + 0)) + 1442695040888963407)) / 1099511627776))) rfl (y_ii T126.und_129 T126.int_2_i64 rfl (IntWalk.i64_in _ (by omega))) ?_
      refine s_y (v := .int .i64 (lo8 ((IntKind.u64.wrap ((IntKind.u64.wrap ((IntKind.u64.wrap (sd * 6364136223846793005)) + 0)) + 1442695040888963407)) / 1099511627776))) rfl (y_assign rfl) ?_
      refine s_nil ?_
      refine W_ret ?_
      refine ret1 (v := .int .i64 (lo8 ((IntKind.u64.wrap ((IntKind.u64.wrap ((IntKind.u64.wrap (sd * 6364136223846793005)) + 0)) + 1442695040888963407)) / 1099511627776))) rfl rfl rfl ⟨_, rfl, ?_⟩
      have hby : bY Xq p = 0 := bY_out hlq c7
      replace B : Bu w (hasW [.blk bs [.slice aq nq cq, .int .i64 p, .int .u64 sd] 131]) w51 [.blk bs [.slice aq nq cq, .int .i64 (p + 1), .int .u64 (nxS Xq p sd)] 131, .rd kY aq nq Xq] := B.blkEq 0 rfl (nx_cells hby)
      skip
      exact ⟨(congrArg (Value.int .i64) ((by unfold nxS; rw [hby] : lo8 ((IntKind.u64.wrap ((IntKind.u64.wrap ((IntKind.u64.wrap (sd * 6364136223846793005)) + 0)) + 1442695040888963407)) / 1099511627776) = lo8 (nxS Xq p sd / 1099511627776)).trans (nxV_out hlq c48))), B.wrote [0] rfl rfl rfl⟩
namespace T81
theorem mx : Try.prog.follows .mixedOrders = true := by kernel_rfl
theorem fn_126 : fnB Try.prog 126 = true := by kernel_rfl
end T81
set_option maxRecDepth 100000 in
set_option maxHeartbeats 4000000 in
theorem c_s_pick {bs : Nat} {n : Int} {aq : Option Addr} {nq cq : Nat} {Xq : List Nat} {p : Int} {w : World} (hp0 : 0 ≤ p) (hp1 : p ≤ 1000000) (hn0 : 2 ≤ n) (hn1 : n ≤ 200) (HA : All w [.blk bs [.slice aq nq cq, .int .i64 p, .int .u64 (sdY Xq p)] 131, .rd kY aq nq Xq]) (HP : Pw [.blk bs [.slice aq nq cq, .int .i64 p, .int .u64 (sdY Xq p)] 131, .rd kY aq nq Xq]) :
    Calls Try.prog 81 #[.pointer (some ⟨bs, 0, none⟩), .int .i64 n] w (Rt fun v w' => ∃ (uv : Int), v = .int .i64 uv ∧ uv = pk Xq n p ∧ Upd w w' [.blk bs [.slice aq nq cq, .int .i64 p, .int .u64 (sdY Xq p)] 131] [.blk bs [.slice aq nq cq, .int .i64 (p + 1), .int .u64 (sdY Xq (p + 1))] 131]) := by
  have B : Bu w (hasW [.blk bs [.slice aq nq cq, .int .i64 p, .int .u64 (sdY Xq p)] 131]) w [.blk bs [.slice aq nq cq, .int .i64 p, .int .u64 (sdY Xq p)] 131, .rd kY aq nq Xq] := Bu.initW (W := [.blk bs [.slice aq nq cq, .int .i64 p, .int .u64 (sdY Xq p)] 131]) (R := [.rd kY aq nq Xq]) HA HP rfl
  have hlq := (B.r 1 rfl).len
  refine calls_W (n := 20) Try.func81 rfl rfl (Nat.le_of_ble_eq_true rfl) ?_
  refine W_seq ?_
  refine W_region (by kernel_rfl) ?_
  refine s_y (v := .int .i64 0) rfl (y_assign rfl) ?_
  refine s_nil ?_
  refine W_seq ?_
  refine W_seq ?_
  refine W_region (by kernel_rfl) ?_
  refine s_y (v := .int .i64 n) rfl (y_move rfl) ?_
  have hk1 : ¬ (n ≤ 1) := (by omega)
  refine s_y (v := .bool false) rfl (y_leq rfl rfl (decide_eq_false hk1)) ?_
  refine s_nil ?_
  refine W_if_f (by decide) rfl ?_
  refine W_skip ?_
  refine W_seq ?_
  refine W_region (by kernel_rfl) ?_
  refine s_y (v := .pointer (some ⟨bs, 0, none⟩)) rfl (y_move rfl) ?_
  refine s_k rfl (k_call T81.fn_126 (c_s_next (by omega) (by omega) (B.all.pick [0, 1] rfl) (B.pw.pick [0, 1] rfl rfl)) rfl ?_)
  rintro _ w2 ⟨rfl, hU3⟩
  replace B : Bu w (hasW [.blk bs [.slice aq nq cq, .int .i64 p, .int .u64 (sdY Xq p)] 131]) w2 [.blk bs [.slice aq nq cq, .int .i64 (p + 1), .int .u64 (nxS Xq p (sdY Xq p))] 131, .rd kY aq nq Xq] := B.upd [0] rfl hU3
  clear hU3
  have hb4 := nxV_b (p := p) (sd := sdY Xq p) (X := Xq) (B.r 1 rfl).bytes
  refine s_y (v := .int .i64 (nxV Xq p (sdY Xq p))) rfl (y_assign rfl) ?_
  refine s_nil ?_
  refine W_seq ?_
  refine W_seq ?_
  refine W_region (by kernel_rfl) ?_
  refine s_y (v := .int .i64 n) rfl (y_move rfl) ?_
  have hk5 : ¬ (200 < n) := (by omega)
  refine s_y (v := .bool false) rfl (y_gtr rfl rfl (decide_eq_false hk5)) ?_
  refine s_nil ?_
  refine W_if_f (by decide) rfl ?_
  refine W_skip ?_
  refine W_seq ?_
  refine W_region (by kernel_rfl) ?_
  refine s_y (v := .int .i64 (nxV Xq p (sdY Xq p))) rfl (y_move rfl) ?_
  refine s_y (v := .int .i64 n) rfl (y_move rfl) ?_
  have hm6 := rem_b (x := nxV Xq p (sdY Xq p)) (m := n) (by omega) (by omega)
  refine s_y (v := .int .i64 ((nxV Xq p (sdY Xq p)) % n)) rfl (y_rem rfl rfl (by omega) (by omega) rfl) ?_
  refine s_y (v := .int .i64 ((nxV Xq p (sdY Xq p)) % n)) rfl (y_assign rfl) ?_
  refine s_nil ?_
  refine W_ret ?_
  refine ret1 (v := .int .i64 ((nxV Xq p (sdY Xq p)) % n)) rfl rfl rfl ⟨_, rfl, ?_⟩
  replace B : Bu w (hasW [.blk bs [.slice aq nq cq, .int .i64 p, .int .u64 (sdY Xq p)] 131]) w2 [.blk bs [.slice aq nq cq, .int .i64 (p + 1), .int .u64 (sdY Xq (p + 1))] 131, .rd kY aq nq Xq] := B.blkEq 0 rfl (sdY_cells hp0)
  exact ⟨_, rfl, rfl, B.wrote [0] rfl rfl rfl⟩
set_option maxRecDepth 100000 in
set_option maxHeartbeats 4000000 in
theorem c_s_pick2 {bs : Nat} {n : Int} {aq : Option Addr} {nq cq : Nat} {Xq : List Nat} {p : Int} {w : World} (hp0 : 0 ≤ p) (hp1 : p ≤ 990000) (hn0 : 201 ≤ n) (hn1 : n ≤ 65536) (HA : All w [.blk bs [.slice aq nq cq, .int .i64 p, .int .u64 (sdY Xq p)] 131, .rd kY aq nq Xq]) (HP : Pw [.blk bs [.slice aq nq cq, .int .i64 p, .int .u64 (sdY Xq p)] 131, .rd kY aq nq Xq]) :
    Calls Try.prog 81 #[.pointer (some ⟨bs, 0, none⟩), .int .i64 n] w (Rt fun v w' => ∃ (uv : Int), v = .int .i64 uv ∧ 0 ≤ uv ∧ uv < n ∧ Upd w w' [.blk bs [.slice aq nq cq, .int .i64 p, .int .u64 (sdY Xq p)] 131] [.blk bs [.slice aq nq cq, .int .i64 (p + 1 + 1), .int .u64 (sdY Xq (p + 1 + 1))] 131]) := by
  have B : Bu w (hasW [.blk bs [.slice aq nq cq, .int .i64 p, .int .u64 (sdY Xq p)] 131]) w [.blk bs [.slice aq nq cq, .int .i64 p, .int .u64 (sdY Xq p)] 131, .rd kY aq nq Xq] := Bu.initW (W := [.blk bs [.slice aq nq cq, .int .i64 p, .int .u64 (sdY Xq p)] 131]) (R := [.rd kY aq nq Xq]) HA HP rfl
  have hlq := (B.r 1 rfl).len
  refine calls_W (n := 20) Try.func81 rfl rfl (Nat.le_of_ble_eq_true rfl) ?_
  refine W_seq ?_
  refine W_region (by kernel_rfl) ?_
  refine s_y (v := .int .i64 0) rfl (y_assign rfl) ?_
  refine s_nil ?_
  refine W_seq ?_
  refine W_seq ?_
  refine W_region (by kernel_rfl) ?_
  refine s_y (v := .int .i64 n) rfl (y_move rfl) ?_
  have hk1 : ¬ (n ≤ 1) := (by omega)
  refine s_y (v := .bool false) rfl (y_leq rfl rfl (decide_eq_false hk1)) ?_
  refine s_nil ?_
  refine W_if_f (by decide) rfl ?_
  refine W_skip ?_
  refine W_seq ?_
  refine W_region (by kernel_rfl) ?_
  refine s_y (v := .pointer (some ⟨bs, 0, none⟩)) rfl (y_move rfl) ?_
  refine s_k rfl (k_call T81.fn_126 (c_s_next (by omega) (by omega) (B.all.pick [0, 1] rfl) (B.pw.pick [0, 1] rfl rfl)) rfl ?_)
  rintro _ w2 ⟨rfl, hU3⟩
  replace B : Bu w (hasW [.blk bs [.slice aq nq cq, .int .i64 p, .int .u64 (sdY Xq p)] 131]) w2 [.blk bs [.slice aq nq cq, .int .i64 (p + 1), .int .u64 (nxS Xq p (sdY Xq p))] 131, .rd kY aq nq Xq] := B.upd [0] rfl hU3
  clear hU3
  have hb4 := nxV_b (p := p) (sd := sdY Xq p) (X := Xq) (B.r 1 rfl).bytes
  refine s_y (v := .int .i64 (nxV Xq p (sdY Xq p))) rfl (y_assign rfl) ?_
  refine s_nil ?_
  refine W_seq ?_
  refine W_seq ?_
  refine W_region (by kernel_rfl) ?_
  refine s_y (v := .int .i64 n) rfl (y_move rfl) ?_
  have hk5 : 200 < n := (by omega)
  refine s_y (v := .bool true) rfl (y_gtr rfl rfl (decide_eq_true hk5)) ?_
  refine s_nil ?_
  refine W_if_t (by decide) rfl ?_
  refine W_region (by kernel_rfl) ?_
  refine s_y (v := .int .i64 (nxV Xq p (sdY Xq p))) rfl (y_move rfl) ?_
  refine s_y (v := .int .i64 ((nxV Xq p (sdY Xq p)) * 256)) rfl (y_mul rfl rfl rfl (by omega)) ?_
  refine s_y (v := .pointer (some ⟨bs, 0, none⟩)) rfl (y_move rfl) ?_
  refine s_k rfl (k_call T81.fn_126 (c_s_next (by omega) (by omega) (B.all.pick [0, 1] rfl) (B.pw.pick [0, 1] rfl rfl)) rfl ?_)
  rintro _ w6 ⟨rfl, hU7⟩
  replace B : Bu w (hasW [.blk bs [.slice aq nq cq, .int .i64 p, .int .u64 (sdY Xq p)] 131]) w6 [.blk bs [.slice aq nq cq, .int .i64 ((p + 1) + 1), .int .u64 (nxS Xq (p + 1) (nxS Xq p (sdY Xq p)))] 131, .rd kY aq nq Xq] := B.upd [0] rfl hU7
  clear hU7
  have hb8 := nxV_b (p := p + 1) (sd := nxS Xq p (sdY Xq p)) (X := Xq) (B.r 1 rfl).bytes
  refine s_y (v := .int .i64 (((nxV Xq p (sdY Xq p)) * 256) + (nxV Xq (p + 1) (nxS Xq p (sdY Xq p))))) rfl (y_add rfl rfl rfl (by omega)) ?_
  refine s_y (v := .int .i64 (((nxV Xq p (sdY Xq p)) * 256) + (nxV Xq (p + 1) (nxS Xq p (sdY Xq p))))) rfl (y_assign rfl) ?_
  refine s_nil ?_
  refine W_seq ?_
  refine W_region (by kernel_rfl) ?_
  refine s_y (v := .int .i64 (((nxV Xq p (sdY Xq p)) * 256) + (nxV Xq (p + 1) (nxS Xq p (sdY Xq p))))) rfl (y_move rfl) ?_
  refine s_y (v := .int .i64 n) rfl (y_move rfl) ?_
  have hm9 := rem_b (x := ((nxV Xq p (sdY Xq p)) * 256) + (nxV Xq (p + 1) (nxS Xq p (sdY Xq p)))) (m := n) (by omega) (by omega)
  refine s_y (v := .int .i64 ((((nxV Xq p (sdY Xq p)) * 256) + (nxV Xq (p + 1) (nxS Xq p (sdY Xq p)))) % n)) rfl (y_rem rfl rfl (by omega) (by omega) rfl) ?_
  refine s_y (v := .int .i64 ((((nxV Xq p (sdY Xq p)) * 256) + (nxV Xq (p + 1) (nxS Xq p (sdY Xq p)))) % n)) rfl (y_assign rfl) ?_
  refine s_nil ?_
  refine W_ret ?_
  refine ret1 (v := .int .i64 ((((nxV Xq p (sdY Xq p)) * 256) + (nxV Xq (p + 1) (nxS Xq p (sdY Xq p)))) % n)) rfl rfl rfl ⟨_, rfl, ?_⟩
  have hp0n : 0 ≤ p + 1 := by omega
  replace B : Bu w (hasW [.blk bs [.slice aq nq cq, .int .i64 p, .int .u64 (sdY Xq p)] 131]) w6 [.blk bs [.slice aq nq cq, .int .i64 ((p + 1) + 1), .int .u64 (sdY Xq (p + 1 + 1))] 131, .rd kY aq nq Xq] := B.blkEq 0 rfl (by rw [sdY_next hp0, sdY_next (show 0 ≤ p + 1 by omega)])
  exact ⟨_, rfl, (by omega), (by omega), B.wrote [0] rfl rfl rfl⟩
namespace T23
theorem mx : Try.prog.follows .mixedOrders = true := by kernel_rfl
theorem agg_44_6 : aggB Try.prog 44 6 = true := by kernel_rfl
theorem fld_44_1_1 : fldB Try.prog 44 1 1 = true := by kernel_rfl
theorem fld_44_2_2 : fldB Try.prog 44 2 2 = true := by kernel_rfl
theorem fld_44_3_3 : fldB Try.prog 44 3 3 = true := by kernel_rfl
theorem fld_44_4_4 : fldB Try.prog 44 4 4 = true := by kernel_rfl
theorem fld_44_5_5 : fldB Try.prog 44 5 5 = true := by kernel_rfl
theorem flt_34_f32 : Try.prog.underlying 34 = some (.float .f32) := by kernel_rfl
theorem fn_63 : fnB Try.prog 63 = true := by kernel_rfl
theorem fn_81 : fnB Try.prog 81 = true := by kernel_rfl
theorem sz_2_1 : szB Try.prog 2 1 = true := by kernel_rfl
theorem sz_34_1 : szB Try.prog 34 1 = true := by kernel_rfl
theorem sz_44_6 : szB Try.prog 44 6 = true := by kernel_rfl
theorem und_2 : (Try.prog.underlying 2).isSome = true := by kernel_rfl
theorem zero_44 : zeroB Try.prog 44 (.agg #[.int .i64 0, .int .i64 0, .int .i64 0, .float .f32 0, .float .f32 0, .int .i64 0]) := by unfold zeroB; kernel_rfl
end T23
set_option maxRecDepth 100000 in
set_option maxHeartbeats 4000000 in
theorem c_s_R8Wave {aq : Option Addr} {nq : Nat} {cq : Nat} {Xq : List Nat} {w : World} (qq : Rd w kY aq nq Xq) :
    Calls Try.prog 23 #[.slice aq nq cq] w (Rt fun v w' => ∃ (kd : Int) (tt : Int) (ln : Int) (r1 : Nat) (r2 : Nat) (sd : Int) (pu : Int) (pv : Int), v = .agg #[.int .i64 kd, .int .i64 tt, .int .i64 ln, .float .f32 r1, .float .f32 r2, .int .i64 sd] ∧ 0 ≤ kd ∧ kd ≤ 4 ∧ 0 ≤ tt ∧ tt ≤ 5 ∧ 1 ≤ ln ∧ ln ≤ 8 ∧ 0 ≤ sd ∧ sd ≤ 999 ∧ 0 ≤ pu ∧ pu < 9 ∧ 0 ≤ pv ∧ pv < 9 ∧ Cn .f32 r1 (twT pu) ∧ Cn .f32 r2 (szT pv) ∧ Ext0 w w') := by
  have hlq := qq.len
  have B : Bu w no w [.rd kY aq nq Xq] := Bu.ro (All.cons qq All.nil) rfl
  refine calls_W (n := 33) Try.func23 rfl rfl (Nat.le_of_ble_eq_true rfl) ?_
  refine W_seq ?_
  refine W_region (by kernel_rfl) ?_
  refine s_k rfl (k_allocN (z := (.agg #[.int .i64 0, .int .i64 0, .int .i64 0, .float .f32 0, .float .f32 0, .int .i64 0])) (cs := [.int .i64 0, .int .i64 0, .int .i64 0, .float .f32 0, .float .f32 0, .int .i64 0]) T23.zero_44 rfl (fun b1 w2 hN3 => ?_))
  replace B := B.new1 hN3
  clear hN3
  refine s_nil ?_
  refine W_seq ?_
  refine W_region (by kernel_rfl) ?_
  refine s_y (v := .slice aq nq cq) rfl (y_move rfl) ?_
  refine s_k rfl (k_call T23.fn_63 (c_s_l00From (B.r 1 rfl)) rfl ?_)
  rintro _ w4 ⟨b6, rfl, hN5⟩
  replace B := B.new1 hN5
  clear hN5
  refine s_y (v := .pointer (some ⟨b6, 0, none⟩)) rfl (y_assign rfl) ?_
  refine s_nil ?_
  refine W_seq ?_
  refine W_region (by kernel_rfl) ?_
  refine s_y (v := .pointer (some ⟨b6, 0, none⟩)) rfl (y_move rfl) ?_
  refine s_k rfl (k_call T23.fn_81 (c_s_pick (by omega) (by omega) (by omega) (by omega) (B.all.pick [0, 2] rfl) (B.pw.pick [0, 2] rfl rfl)) rfl ?_)
  rintro _ w7 ⟨v9, rfl, hp10, hU8⟩
  replace B : Bu w no w7 [.blk b6 [.slice aq nq cq, .int .i64 (0 + 1), .int .u64 (sdY Xq (0 + 1))] 131, .blk b1 [.int .i64 0, .int .i64 0, .int .i64 0, .float .f32 0, .float .f32 0, .int .i64 0] 44, .rd kY aq nq Xq] := B.upd [0] rfl hU8
  clear hU8
  have hb11 := pk_b Xq (n := 5) 0 (by omega)
  rw [← hp10] at hb11
  refine s_y (v := .agg #[.int .i64 v9, .int .i64 0, .int .i64 0, .float .f32 0, .float .f32 0, .int .i64 0]) rfl (y_build (cells := #[.int .i64 v9, .int .i64 0, .int .i64 0, .float .f32 0, .float .f32 0, .int .i64 0]) (by kernel_rfl)) ?_
  refine s_k rfl (k_allocN (z := (.agg #[.int .i64 0, .int .i64 0, .int .i64 0, .float .f32 0, .float .f32 0, .int .i64 0])) (cs := [.int .i64 0, .int .i64 0, .int .i64 0, .float .f32 0, .float .f32 0, .int .i64 0]) T23.zero_44 rfl (fun b12 w13 hN14 => ?_))
  replace B := B.new1 hN14
  clear hN14
  refine s_k0 rfl (k_stB (v := .agg #[.int .i64 v9, .int .i64 0, .int .i64 0, .float .f32 0, .float .f32 0, .int .i64 0]) (n := 6) (cs' := [.int .i64 v9, .int .i64 0, .int .i64 0, .float .f32 0, .float .f32 0, .int .i64 0]) T23.sz_44_6 rfl rfl rfl (B.b 0 rfl) (by simp [Value.cells, Value.oneCell']) (Nat.le_of_ble_eq_true rfl) rfl (fun w15 hU16 => ?_))
  replace B : Bu w no w15 [.blk b12 [.int .i64 v9, .int .i64 0, .int .i64 0, .float .f32 0, .float .f32 0, .int .i64 0] 44, .blk b6 [.slice aq nq cq, .int .i64 (0 + 1), .int .u64 (sdY Xq (0 + 1))] 131, .blk b1 [.int .i64 0, .int .i64 0, .int .i64 0, .float .f32 0, .float .f32 0, .int .i64 0] 44, .rd kY aq nq Xq] := B.upd [0] rfl hU16
  clear hU16
  refine s_nil ?_
  refine W_seq ?_
  refine W_region (by kernel_rfl) ?_
  refine s_y (v := .pointer (some ⟨b6, 0, none⟩)) rfl (y_move rfl) ?_
  refine s_k rfl (k_call T23.fn_81 (c_s_pick (by omega) (by omega) (by omega) (by omega) (B.all.pick [1, 3] rfl) (B.pw.pick [1, 3] rfl rfl)) rfl ?_)
  rintro _ w17 ⟨v19, rfl, hp20, hU18⟩
  replace B : Bu w no w17 [.blk b6 [.slice aq nq cq, .int .i64 ((0 + 1) + 1), .int .u64 (sdY Xq ((0 + 1) + 1))] 131, .blk b12 [.int .i64 v9, .int .i64 0, .int .i64 0, .float .f32 0, .float .f32 0, .int .i64 0] 44, .blk b1 [.int .i64 0, .int .i64 0, .int .i64 0, .float .f32 0, .float .f32 0, .int .i64 0] 44, .rd kY aq nq Xq] := B.upd [1] rfl hU18
  clear hU18
  have hb21 := pk_b Xq (n := 6) (0 + 1) (by omega)
  rw [← hp20] at hb21
  refine s_y (v := .pointer (some ⟨b12, 1, none⟩)) rfl (y_fld (o := 0) T23.fld_44_1_1 rfl) ?_
  refine s_k0 rfl (k_stB (v := .int .i64 v19) (n := 1) (cs' := [.int .i64 v9, .int .i64 v19, .int .i64 0, .float .f32 0, .float .f32 0, .int .i64 0]) T23.sz_2_1 rfl rfl rfl (B.b 1 rfl) (by simp [Value.cells, Value.oneCell']) (Nat.le_of_ble_eq_true rfl) rfl (fun w22 hU23 => ?_))
  replace B : Bu w no w22 [.blk b12 [.int .i64 v9, .int .i64 v19, .int .i64 0, .float .f32 0, .float .f32 0, .int .i64 0] 44, .blk b6 [.slice aq nq cq, .int .i64 ((0 + 1) + 1), .int .u64 (sdY Xq ((0 + 1) + 1))] 131, .blk b1 [.int .i64 0, .int .i64 0, .int .i64 0, .float .f32 0, .float .f32 0, .int .i64 0] 44, .rd kY aq nq Xq] := B.upd [1] rfl hU23
  clear hU23
  refine s_nil ?_
  refine W_seq ?_
  refine W_region (by kernel_rfl) ?_
  refine s_y (v := .pointer (some ⟨b6, 0, none⟩)) rfl (y_move rfl) ?_
  refine s_k rfl (k_call T23.fn_81 (c_s_pick (by omega) (by omega) (by omega) (by omega) (B.all.pick [1, 3] rfl) (B.pw.pick [1, 3] rfl rfl)) rfl ?_)
  rintro _ w24 ⟨v26, rfl, hp27, hU25⟩
  replace B : Bu w no w24 [.blk b6 [.slice aq nq cq, .int .i64 (((0 + 1) + 1) + 1), .int .u64 (sdY Xq (((0 + 1) + 1) + 1))] 131, .blk b12 [.int .i64 v9, .int .i64 v19, .int .i64 0, .float .f32 0, .float .f32 0, .int .i64 0] 44, .blk b1 [.int .i64 0, .int .i64 0, .int .i64 0, .float .f32 0, .float .f32 0, .int .i64 0] 44, .rd kY aq nq Xq] := B.upd [1] rfl hU25
  clear hU25
  have hb28 := pk_b Xq (n := 8) ((0 + 1) + 1) (by omega)
  rw [← hp27] at hb28
  refine s_y (v := .int .i64 (1 + v26)) rfl (y_add rfl rfl rfl (by omega)) ?_
  refine s_y (v := .pointer (some ⟨b12, 2, none⟩)) rfl (y_fld (o := 0) T23.fld_44_2_2 rfl) ?_
  refine s_k0 rfl (k_stB (v := .int .i64 (1 + v26)) (n := 1) (cs' := [.int .i64 v9, .int .i64 v19, .int .i64 (1 + v26), .float .f32 0, .float .f32 0, .int .i64 0]) T23.sz_2_1 rfl rfl rfl (B.b 1 rfl) (by simp [Value.cells, Value.oneCell']) (Nat.le_of_ble_eq_true rfl) rfl (fun w29 hU30 => ?_))
  replace B : Bu w no w29 [.blk b12 [.int .i64 v9, .int .i64 v19, .int .i64 (1 + v26), .float .f32 0, .float .f32 0, .int .i64 0] 44, .blk b6 [.slice aq nq cq, .int .i64 (((0 + 1) + 1) + 1), .int .u64 (sdY Xq (((0 + 1) + 1) + 1))] 131, .blk b1 [.int .i64 0, .int .i64 0, .int .i64 0, .float .f32 0, .float .f32 0, .int .i64 0] 44, .rd kY aq nq Xq] := B.upd [1] rfl hU30
  clear hU30
  refine s_nil ?_
  refine W_seq ?_
  refine W_region (by kernel_rfl) ?_
  refine s_y (v := .pointer (some ⟨b6, 0, none⟩)) rfl (y_move rfl) ?_
  refine s_k rfl (k_call T23.fn_81 (c_s_pick (by omega) (by omega) (by omega) (by omega) (B.all.pick [1, 3] rfl) (B.pw.pick [1, 3] rfl rfl)) rfl ?_)
  rintro _ w31 ⟨v33, rfl, hp34, hU32⟩
  replace B : Bu w no w31 [.blk b6 [.slice aq nq cq, .int .i64 ((((0 + 1) + 1) + 1) + 1), .int .u64 (sdY Xq ((((0 + 1) + 1) + 1) + 1))] 131, .blk b12 [.int .i64 v9, .int .i64 v19, .int .i64 (1 + v26), .float .f32 0, .float .f32 0, .int .i64 0] 44, .blk b1 [.int .i64 0, .int .i64 0, .int .i64 0, .float .f32 0, .float .f32 0, .int .i64 0] 44, .rd kY aq nq Xq] := B.upd [1] rfl hU32
  clear hU32
  have hb35 := pk_b Xq (n := 9) (((0 + 1) + 1) + 1) (by omega)
  rw [← hp34] at hb35
  refine s_y (v := .int .i64 (v33 - 4)) rfl (y_sub rfl rfl rfl (by omega)) ?_
  refine s_y (v := .float .f32 (FloatKind.nearest .f32 (v33 - 4))) rfl (y_if T23.und_2 T23.flt_34_f32 rfl) ?_
  refine s_n rfl (n_arith (by decide) rfl rfl) ?_
  rintro _ w39 e40 ⟨r37, rfl, hr38⟩
  replace B := B.ext0 e40
  clear e40
  have hc41 := fopC hr38 (cn_nearest .f32 (v33 - 4)) (cnLit (k := .f32) (t := 1098907648) (by kernel_rfl) (by kernel_rfl))
  refine s_y (v := .pointer (some ⟨b12, 3, none⟩)) rfl (y_fld (o := 0) T23.fld_44_3_3 rfl) ?_
  refine s_k0 rfl (k_stB (v := .float .f32 r37) (n := 1) (cs' := [.int .i64 v9, .int .i64 v19, .int .i64 (1 + v26), .float .f32 r37, .float .f32 0, .int .i64 0]) T23.sz_34_1 rfl rfl rfl (B.b 1 rfl) (by simp [Value.cells, Value.oneCell']) (Nat.le_of_ble_eq_true rfl) rfl (fun w42 hU43 => ?_))
  replace B : Bu w no w42 [.blk b12 [.int .i64 v9, .int .i64 v19, .int .i64 (1 + v26), .float .f32 r37, .float .f32 0, .int .i64 0] 44, .blk b6 [.slice aq nq cq, .int .i64 ((((0 + 1) + 1) + 1) + 1), .int .u64 (sdY Xq ((((0 + 1) + 1) + 1) + 1))] 131, .blk b1 [.int .i64 0, .int .i64 0, .int .i64 0, .float .f32 0, .float .f32 0, .int .i64 0] 44, .rd kY aq nq Xq] := B.upd [1] rfl hU43
  clear hU43
  refine s_nil ?_
  refine W_seq ?_
  refine W_region (by kernel_rfl) ?_
  refine s_y (v := .pointer (some ⟨b6, 0, none⟩)) rfl (y_move rfl) ?_
  refine s_k rfl (k_call T23.fn_81 (c_s_pick (by omega) (by omega) (by omega) (by omega) (B.all.pick [1, 3] rfl) (B.pw.pick [1, 3] rfl rfl)) rfl ?_)
  rintro _ w44 ⟨v46, rfl, hp47, hU45⟩
  replace B : Bu w no w44 [.blk b6 [.slice aq nq cq, .int .i64 (((((0 + 1) + 1) + 1) + 1) + 1), .int .u64 (sdY Xq (((((0 + 1) + 1) + 1) + 1) + 1))] 131, .blk b12 [.int .i64 v9, .int .i64 v19, .int .i64 (1 + v26), .float .f32 r37, .float .f32 0, .int .i64 0] 44, .blk b1 [.int .i64 0, .int .i64 0, .int .i64 0, .float .f32 0, .float .f32 0, .int .i64 0] 44, .rd kY aq nq Xq] := B.upd [1] rfl hU45
  clear hU45
  have hb48 := pk_b Xq (n := 9) ((((0 + 1) + 1) + 1) + 1) (by omega)
  rw [← hp47] at hb48
  refine s_y (v := .int .i64 (v46 - 4)) rfl (y_sub rfl rfl rfl (by omega)) ?_
  refine s_y (v := .float .f32 (FloatKind.nearest .f32 (v46 - 4))) rfl (y_if T23.und_2 T23.flt_34_f32 rfl) ?_
  refine s_n rfl (n_arith (by decide) rfl rfl) ?_
  rintro _ w52 e53 ⟨r50, rfl, hr51⟩
  replace B := B.ext0 e53
  clear e53
  have hc54 := fopC hr51 (cn_nearest .f32 (v46 - 4)) (cnLit (k := .f32) (t := 1073741824) (by kernel_rfl) (by kernel_rfl))
  refine s_y (v := .pointer (some ⟨b12, 4, none⟩)) rfl (y_fld (o := 0) T23.fld_44_4_4 rfl) ?_
  refine s_k0 rfl (k_stB (v := .float .f32 r50) (n := 1) (cs' := [.int .i64 v9, .int .i64 v19, .int .i64 (1 + v26), .float .f32 r37, .float .f32 r50, .int .i64 0]) T23.sz_34_1 rfl rfl rfl (B.b 1 rfl) (by simp [Value.cells, Value.oneCell']) (Nat.le_of_ble_eq_true rfl) rfl (fun w55 hU56 => ?_))
  replace B : Bu w no w55 [.blk b12 [.int .i64 v9, .int .i64 v19, .int .i64 (1 + v26), .float .f32 r37, .float .f32 r50, .int .i64 0] 44, .blk b6 [.slice aq nq cq, .int .i64 (((((0 + 1) + 1) + 1) + 1) + 1), .int .u64 (sdY Xq (((((0 + 1) + 1) + 1) + 1) + 1))] 131, .blk b1 [.int .i64 0, .int .i64 0, .int .i64 0, .float .f32 0, .float .f32 0, .int .i64 0] 44, .rd kY aq nq Xq] := B.upd [1] rfl hU56
  clear hU56
  refine s_nil ?_
  refine W_seq ?_
  refine W_region (by kernel_rfl) ?_
  refine s_y (v := .pointer (some ⟨b6, 0, none⟩)) rfl (y_move rfl) ?_
  refine s_k rfl (k_call T23.fn_81 (c_s_pick2 (by omega) (by omega) (by omega) (by omega) (B.all.pick [1, 3] rfl) (B.pw.pick [1, 3] rfl rfl)) rfl ?_)
  rintro _ w57 ⟨v59, rfl, hp60, hp61, hU58⟩
  replace B : Bu w no w57 [.blk b6 [.slice aq nq cq, .int .i64 ((((((0 + 1) + 1) + 1) + 1) + 1) + 1 + 1), .int .u64 (sdY Xq ((((((0 + 1) + 1) + 1) + 1) + 1) + 1 + 1))] 131, .blk b12 [.int .i64 v9, .int .i64 v19, .int .i64 (1 + v26), .float .f32 r37, .float .f32 r50, .int .i64 0] 44, .blk b1 [.int .i64 0, .int .i64 0, .int .i64 0, .float .f32 0, .float .f32 0, .int .i64 0] 44, .rd kY aq nq Xq] := B.upd [1] rfl hU58
  clear hU58
  refine s_y (v := .pointer (some ⟨b12, 5, none⟩)) rfl (y_fld (o := 0) T23.fld_44_5_5 rfl) ?_
  refine s_k0 rfl (k_stB (v := .int .i64 v59) (n := 1) (cs' := [.int .i64 v9, .int .i64 v19, .int .i64 (1 + v26), .float .f32 r37, .float .f32 r50, .int .i64 v59]) T23.sz_2_1 rfl rfl rfl (B.b 1 rfl) (by simp [Value.cells, Value.oneCell']) (Nat.le_of_ble_eq_true rfl) rfl (fun w62 hU63 => ?_))
  replace B : Bu w no w62 [.blk b12 [.int .i64 v9, .int .i64 v19, .int .i64 (1 + v26), .float .f32 r37, .float .f32 r50, .int .i64 v59] 44, .blk b6 [.slice aq nq cq, .int .i64 ((((((0 + 1) + 1) + 1) + 1) + 1) + 1 + 1), .int .u64 (sdY Xq ((((((0 + 1) + 1) + 1) + 1) + 1) + 1 + 1))] 131, .blk b1 [.int .i64 0, .int .i64 0, .int .i64 0, .float .f32 0, .float .f32 0, .int .i64 0] 44, .rd kY aq nq Xq] := B.upd [1] rfl hU63
  clear hU63
  refine s_nil ?_
  refine W_seq ?_
  refine W_region (by kernel_rfl) ?_
  refine s_y (v := .agg #[.int .i64 v9, .int .i64 v19, .int .i64 (1 + v26), .float .f32 r37, .float .f32 r50, .int .i64 v59]) rfl (y_loadn (b := b12) (o := 0) (vs := [.int .i64 v9, .int .i64 v19, .int .i64 (1 + v26), .float .f32 r37, .float .f32 r50, .int .i64 v59]) T23.agg_44_6 rfl rfl ((B.b 0 rfl).cells (o := 0) rfl)) ?_
  refine s_k0 rfl (k_stB (v := .agg #[.int .i64 v9, .int .i64 v19, .int .i64 (1 + v26), .float .f32 r37, .float .f32 r50, .int .i64 v59]) (n := 6) (cs' := [.int .i64 v9, .int .i64 v19, .int .i64 (1 + v26), .float .f32 r37, .float .f32 r50, .int .i64 v59]) T23.sz_44_6 rfl rfl rfl (B.b 2 rfl) (by simp [Value.cells, Value.oneCell']) (Nat.le_of_ble_eq_true rfl) rfl (fun w64 hU65 => ?_))
  replace B : Bu w no w64 [.blk b1 [.int .i64 v9, .int .i64 v19, .int .i64 (1 + v26), .float .f32 r37, .float .f32 r50, .int .i64 v59] 44, .blk b12 [.int .i64 v9, .int .i64 v19, .int .i64 (1 + v26), .float .f32 r37, .float .f32 r50, .int .i64 v59] 44, .blk b6 [.slice aq nq cq, .int .i64 ((((((0 + 1) + 1) + 1) + 1) + 1) + 1 + 1), .int .u64 (sdY Xq ((((((0 + 1) + 1) + 1) + 1) + 1) + 1 + 1))] 131, .rd kY aq nq Xq] := B.upd [2] rfl hU65
  clear hU65
  refine s_nil ?_
  refine W_ret ?_
  refine ret1 (v := .agg #[.int .i64 v9, .int .i64 v19, .int .i64 (1 + v26), .float .f32 r37, .float .f32 r50, .int .i64 v59]) rfl rfl ⟨_, [.int .i64 v9, .int .i64 v19, .int .i64 (1 + v26), .float .f32 r37, .float .f32 r50, .int .i64 v59], _, rfl, (B.b 0 rfl), T23.agg_44_6, rfl⟩ ⟨_, rfl, ?_⟩
  exact ⟨_, _, _, _, _, _, _, _, rfl, (by omega), (by omega), (by omega), (by omega), (by omega), (by omega), (by omega), (by omega), (by omega), (by omega), (by omega), (by omega), hc41, hc54, B.ext⟩
namespace T24
theorem mx : Try.prog.follows .mixedOrders = true := by kernel_rfl
theorem int_2_i64 : Try.prog.underlying 2 = some (.int .i64) := by kernel_rfl
theorem one_5 : oneB Try.prog 5 = true := by kernel_rfl
theorem sl_22_5_1 : slB Try.prog 22 5 1 = true := by kernel_rfl
theorem und_5 : (Try.prog.underlying 5).isSome = true := by kernel_rfl
end T24
set_option maxRecDepth 100000 in
set_option maxHeartbeats 4000000 in
theorem c_l_r8At {aq : Option Addr} {nq : Nat} {cq : Nat} {Xq : List Nat} {k : Int} {n : Int} {w : World} (qq : Rd w kY aq nq Xq) (k0 : 0 ≤ k) (n0 : 1 ≤ n) (gq : nq ≤ 9223372036854775807) :
    Calls Try.prog 24 #[.slice aq nq cq, .int .i64 k, .int .i64 n] w (Rt fun v w' => ∃ uv : Int, v = .int .i64 uv ∧ uv = r8A Xq k n ∧ Ext0 w w') := by
  have hlq := qq.len
  have B : Bu w no w [.rd kY aq nq Xq] := Bu.ro (All.cons qq All.nil) rfl
  refine calls_W (n := 22) Try.func24 rfl rfl (Nat.le_of_ble_eq_true rfl) ?_
  refine W_seq ?_
  refine W_region (by kernel_rfl) ?_
  refine s_y (v := .int .i64 0) rfl (y_assign rfl) ?_
  refine s_nil ?_
  refine W_seq ?_
  refine W_seq ?_
  refine W_region (by kernel_rfl) ?_
  refine s_y (v := .int .i64 n) rfl (y_move rfl) ?_
  by_cases c1 : n ≤ 1
  · refine s_y (v := .bool true) rfl (y_leq rfl rfl (decide_eq_true c1)) ?_
    refine s_y (v := .bool true) rfl (y_move rfl) ?_
    refine s_skip rfl ?_
    refine s_skip rfl ?_
    refine s_skip rfl ?_
    refine s_skip rfl ?_
    refine s_y (v := .bool true) rfl (y_pick_t rfl rfl) ?_
    refine s_nil ?_
    refine W_if_t (by decide) rfl ?_
    refine W_seq ?_
    refine W_region (by kernel_rfl) ?_
    refine s_y (v := .int .i64 0) rfl (y_assign rfl) ?_
    refine s_nil ?_
    refine W_ret ?_
    refine ret1 (v := .int .i64 0) rfl rfl rfl ⟨_, rfl, ?_⟩
    exact ⟨_, rfl, (r8A_zero hlq (by omega)).symm, B.ext⟩
  · refine s_y (v := .bool false) rfl (y_leq rfl rfl (decide_eq_false c1)) ?_
    refine s_y (v := .bool false) rfl (y_move rfl) ?_
    refine s_y (v := .int .i64 k) rfl (y_move rfl) ?_
    refine s_y (v := .slice aq nq cq) rfl (y_move rfl) ?_
    refine s_y (v := .int .i64 ((nq : Nat) : Int)) rfl (y_len T24.sl_22_5_1 rfl rfl) ?_
    by_cases c2 : ((nq : Nat) : Int) ≤ k
    · refine s_y (v := .bool true) rfl (y_geq rfl rfl (decide_eq_true c2)) ?_
      refine s_y (v := .bool true) rfl (y_pick_f rfl rfl) ?_
      refine s_nil ?_
      refine W_if_t (by decide) rfl ?_
      refine W_seq ?_
      refine W_region (by kernel_rfl) ?_
      refine s_y (v := .int .i64 0) rfl (y_assign rfl) ?_
      refine s_nil ?_
      refine W_ret ?_
      refine ret1 (v := .int .i64 0) rfl rfl rfl ⟨_, rfl, ?_⟩
      exact ⟨_, rfl, (r8A_zero hlq (by omega)).symm, B.ext⟩
    · refine s_y (v := .bool false) rfl (y_geq rfl rfl (decide_eq_false c2)) ?_
      refine s_y (v := .bool false) rfl (y_pick_f rfl rfl) ?_
      refine s_nil ?_
      refine W_if_f (by decide) rfl ?_
      refine W_skip ?_
      refine W_seq ?_
      refine W_region (by kernel_rfl) ?_
      refine s_y (v := .slice aq nq cq) rfl (y_move rfl) ?_
      refine s_y (v := .int .i64 k) rfl (y_move rfl) ?_
      refine s_y (v := .pointer (some (sat aq ((k).toNat * 1)))) rfl (y_idx T24.sl_22_5_1 rfl rfl ((B.r 0 rfl).addr (by omega)) (by omega) (by omega)) ?_
      obtain ⟨hb4, hR3⟩ := Rd.atY (B.r 0 rfl) k (by omega) (by omega)
      refine s_y (v := .int .u8 (byt Xq k)) rfl (y_load T24.one_5 rfl (hR3.cell (i := 0) rfl)) ?_
      refine s_y (v := .int .i64 (byt Xq k)) rfl (y_ii T24.und_5 T24.int_2_i64 rfl (IntWalk.i64_in _ (by omega))) ?_
      refine s_y (v := .int .i64 n) rfl (y_move rfl) ?_
      have hm5 := rem_b (x := byt Xq k) (m := n) (by omega) (by omega)
      refine s_y (v := .int .i64 ((byt Xq k) % n)) rfl (y_rem rfl rfl (by omega) (by omega) rfl) ?_
      refine s_y (v := .int .i64 ((byt Xq k) % n)) rfl (y_assign rfl) ?_
      refine s_nil ?_
      refine W_ret ?_
      refine ret1 (v := .int .i64 ((byt Xq k) % n)) rfl rfl rfl ⟨_, rfl, ?_⟩
      exact ⟨_, rfl, (r8A_at hlq (by omega) (by omega)).symm, B.ext⟩
namespace T84
theorem mx : Try.prog.follows .mixedOrders = true := by kernel_rfl
theorem fn_74 : fnB Try.prog 74 = true := by kernel_rfl
end T84
set_option maxRecDepth 100000 in
set_option maxHeartbeats 4000000 in
theorem c_i_isTick {n : Int} {w : World} :
    Calls Try.prog 84 #[.int .i64 n] w (Rt fun v w' => v = .bool (isTick n) ∧ Ext0 w w') := by
  have B : Bu w no w [] := Bu.ro All.nil rfl
  refine calls_W (n := 5) Try.func84 rfl rfl (Nat.le_of_ble_eq_true rfl) ?_
  refine W_seq ?_
  refine W_region (by kernel_rfl) ?_
  refine s_y (v := .bool false) rfl (y_assign rfl) ?_
  refine s_nil ?_
  refine W_seq ?_
  refine W_region (by kernel_rfl) ?_
  refine s_y (v := .int .i64 n) rfl (y_move rfl) ?_
  refine s_k rfl (k_call T84.fn_74 (c_i_within) rfl ?_)
  rintro v3 w1 ⟨hv4, e2⟩
  replace B := B.ext0 e2
  clear e2
  by_cases c5 : within n 0 1000000 = true
  · have hb6 := within_b c5
    obtain rfl : v3 = .bool true := hv4.trans (congrArg Value.bool c5)
    refine s_y (v := .bool true) rfl (y_assign rfl) ?_
    refine s_nil ?_
    refine W_ret ?_
    refine ret1 (v := .bool true) rfl rfl rfl ⟨_, rfl, ?_⟩
    exact ⟨congrArg Value.bool (by simp [isTick, *]), B.ext⟩
  · obtain rfl : v3 = .bool false := hv4.trans (congrArg Value.bool (Bool.eq_false_iff.2 c5))
    refine s_y (v := .bool false) rfl (y_assign rfl) ?_
    refine s_nil ?_
    refine W_ret ?_
    refine ret1 (v := .bool false) rfl rfl rfl ⟨_, rfl, ?_⟩
    exact ⟨congrArg Value.bool (by simp [isTick, *]), B.ext⟩
namespace T85
theorem mx : Try.prog.follows .mixedOrders = true := by kernel_rfl
end T85
set_option maxRecDepth 100000 in
set_option maxHeartbeats 4000000 in
theorem c_i_IsFinite {x : Nat} {X : Nat} {w : World} (hx : Cn .f32 x X) :
    Calls Try.prog 85 #[.float .f32 x] w (Rt fun v w' => v = .bool (finB X) ∧ Ext0 w w') := by
  have B : Bu w no w [] := Bu.ro All.nil rfl
  refine calls_W (n := 7) Try.func85 rfl rfl (Nat.le_of_ble_eq_true rfl) ?_
  refine W_seq ?_
  refine W_region (by kernel_rfl) ?_
  refine s_y (v := .bool false) rfl (y_assign rfl) ?_
  refine s_nil ?_
  refine W_seq ?_
  refine W_region (by kernel_rfl) ?_
  refine s_y (v := .float .f32 x) rfl (y_move rfl) ?_
  refine s_y (v := .float .f32 x) rfl (y_move rfl) ?_
  refine s_n rfl (n_arith (by decide) rfl rfl) ?_
  rintro _ w4 e5 ⟨r2, rfl, hr3⟩
  replace B := B.ext0 e5
  clear e5
  have hc6 := fopC hr3 hx hx
  by_cases c7 : feq .f32 (fop .sub .f32 X X) 0 = true
  · refine s_y (v := .bool true) rfl (y_feql rfl rfl (feqC hc6 (cnLit (k := .f32) (t := 0) (by kernel_rfl) (by kernel_rfl)) c7)) ?_
    refine s_y (v := .bool true) rfl (y_assign rfl) ?_
    refine s_nil ?_
    refine W_ret ?_
    refine ret1 (v := .bool true) rfl rfl rfl ⟨_, rfl, ?_⟩
    exact ⟨congrArg Value.bool (by simp_all [finB]), B.ext⟩
  · refine s_y (v := .bool false) rfl (y_feql rfl rfl (feqC hc6 (cnLit (k := .f32) (t := 0) (by kernel_rfl) (by kernel_rfl)) (Bool.eq_false_iff.2 c7))) ?_
    refine s_y (v := .bool false) rfl (y_assign rfl) ?_
    refine s_nil ?_
    refine W_ret ?_
    refine ret1 (v := .bool false) rfl rfl rfl ⟨_, rfl, ?_⟩
    exact ⟨congrArg Value.bool (by simp_all [finB]), B.ext⟩
namespace T86
theorem mx : Try.prog.follows .mixedOrders = true := by kernel_rfl
theorem fn_74 : fnB Try.prog 74 = true := by kernel_rfl
end T86
set_option maxRecDepth 100000 in
set_option maxHeartbeats 4000000 in
theorem c_i_isSeed {n : Int} {w : World} :
    Calls Try.prog 86 #[.int .i64 n] w (Rt fun v w' => v = .bool (isSeed n) ∧ Ext0 w w') := by
  have B : Bu w no w [] := Bu.ro All.nil rfl
  refine calls_W (n := 5) Try.func86 rfl rfl (Nat.le_of_ble_eq_true rfl) ?_
  refine W_seq ?_
  refine W_region (by kernel_rfl) ?_
  refine s_y (v := .bool false) rfl (y_assign rfl) ?_
  refine s_nil ?_
  refine W_seq ?_
  refine W_region (by kernel_rfl) ?_
  refine s_y (v := .int .i64 n) rfl (y_move rfl) ?_
  refine s_k rfl (k_call T86.fn_74 (c_i_within) rfl ?_)
  rintro v3 w1 ⟨hv4, e2⟩
  replace B := B.ext0 e2
  clear e2
  by_cases c5 : within n 0 2147483647 = true
  · have hb6 := within_b c5
    obtain rfl : v3 = .bool true := hv4.trans (congrArg Value.bool c5)
    refine s_y (v := .bool true) rfl (y_assign rfl) ?_
    refine s_nil ?_
    refine W_ret ?_
    refine ret1 (v := .bool true) rfl rfl rfl ⟨_, rfl, ?_⟩
    exact ⟨congrArg Value.bool (by simp [isSeed, *]), B.ext⟩
  · obtain rfl : v3 = .bool false := hv4.trans (congrArg Value.bool (Bool.eq_false_iff.2 c5))
    refine s_y (v := .bool false) rfl (y_assign rfl) ?_
    refine s_nil ?_
    refine W_ret ?_
    refine ret1 (v := .bool false) rfl rfl rfl ⟨_, rfl, ?_⟩
    exact ⟨congrArg Value.bool (by simp [isSeed, *]), B.ext⟩
namespace T27
theorem mx : Try.prog.follows .mixedOrders = true := by kernel_rfl
theorem fld_44_0_0 : fldB Try.prog 44 0 0 = true := by kernel_rfl
theorem fld_44_1_1 : fldB Try.prog 44 1 1 = true := by kernel_rfl
theorem fld_44_2_2 : fldB Try.prog 44 2 2 = true := by kernel_rfl
theorem fld_44_3_3 : fldB Try.prog 44 3 3 = true := by kernel_rfl
theorem fld_44_5_5 : fldB Try.prog 44 5 5 = true := by kernel_rfl
theorem fn_74 : fnB Try.prog 74 = true := by kernel_rfl
theorem fn_84 : fnB Try.prog 84 = true := by kernel_rfl
theorem fn_85 : fnB Try.prog 85 = true := by kernel_rfl
theorem fn_86 : fnB Try.prog 86 = true := by kernel_rfl
theorem one_2 : oneB Try.prog 2 = true := by kernel_rfl
theorem one_34 : oneB Try.prog 34 = true := by kernel_rfl
end T27
set_option maxRecDepth 100000 in
set_option maxHeartbeats 4000000 in
theorem c_i_ValidWave {kd : Int} {tt : Int} {ln : Int} {tn : Nat} {TN : Nat} {sz : Nat} {SZ : Nat} {sd : Int} {w : World} (htn : Cn .f32 tn TN) (hsz : Cn .f32 sz SZ) :
    Calls Try.prog 27 #[.agg #[.int .i64 kd, .int .i64 tt, .int .i64 ln, .float .f32 tn, .float .f32 sz, .int .i64 sd]] w (Rt fun v w' => v = .bool (validW kd tt ln TN sd) ∧ Ext0 w w') := by
  have B : Bu w no w [] := Bu.ro All.nil rfl
  refine calls_W (n := 26) Try.func27 rfl rfl (Nat.le_of_ble_eq_true rfl) ?_
  refine W_seq ?_
  refine W_region (by kernel_rfl) ?_
  refine s_k rfl (k_boxN (v := .agg #[.int .i64 kd, .int .i64 tt, .int .i64 ln, .float .f32 tn, .float .f32 sz, .int .i64 sd]) (cs := [.int .i64 kd, .int .i64 tt, .int .i64 ln, .float .f32 tn, .float .f32 sz, .int .i64 sd]) rfl rfl (fun b1 w2 hN3 => ?_))
  replace B := B.new1 hN3
  clear hN3
  refine s_y (v := .bool false) rfl (y_assign rfl) ?_
  refine s_nil ?_
  refine W_seq ?_
  refine W_region (by kernel_rfl) ?_
  refine s_y (v := .pointer (some ⟨b1, 0, none⟩)) rfl (y_fld (o := 0) T27.fld_44_0_0 rfl) ?_
  refine s_y (v := .int .i64 kd) rfl (y_load T27.one_2 rfl ((B.b 0 rfl).cell (j := 0) rfl)) ?_
  refine s_k rfl (k_call T27.fn_74 (c_i_within) rfl ?_)
  rintro v6 w4 ⟨hv7, e5⟩
  replace B := B.ext0 e5
  clear e5
  by_cases c8 : within kd 0 4 = true
  · have hb9 := within_b c8
    obtain rfl : v6 = .bool true := hv7.trans (congrArg Value.bool c8)
    refine s_y (v := .bool true) rfl (y_move rfl) ?_
    refine s_y (v := .pointer (some ⟨b1, 1, none⟩)) rfl (y_fld (o := 0) T27.fld_44_1_1 rfl) ?_
    refine s_y (v := .int .i64 tt) rfl (y_load T27.one_2 rfl ((B.b 0 rfl).cell (j := 1) rfl)) ?_
    refine s_k rfl (k_call T27.fn_84 (c_i_isTick) rfl ?_)
    rintro v12 w10 ⟨hv13, e11⟩
    replace B := B.ext0 e11
    clear e11
    by_cases c14 : isTick tt = true
    · have hb15 := isTick_b c14
      obtain rfl : v12 = .bool true := hv13.trans (congrArg Value.bool c14)
      refine s_y (v := .bool true) rfl (y_pick_t rfl rfl) ?_
      refine s_y (v := .bool true) rfl (y_move rfl) ?_
      refine s_y (v := .pointer (some ⟨b1, 2, none⟩)) rfl (y_fld (o := 0) T27.fld_44_2_2 rfl) ?_
      refine s_y (v := .int .i64 ln) rfl (y_load T27.one_2 rfl ((B.b 0 rfl).cell (j := 2) rfl)) ?_
      refine s_k rfl (k_call T27.fn_74 (c_i_within) rfl ?_)
      rintro v18 w16 ⟨hv19, e17⟩
      replace B := B.ext0 e17
      clear e17
      by_cases c20 : within ln 1 1000000 = true
      · have hb21 := within_b c20
        obtain rfl : v18 = .bool true := hv19.trans (congrArg Value.bool c20)
        refine s_y (v := .bool true) rfl (y_pick_t rfl rfl) ?_
        refine s_y (v := .bool true) rfl (y_move rfl) ?_
        refine s_y (v := .pointer (some ⟨b1, 3, none⟩)) rfl (y_fld (o := 0) T27.fld_44_3_3 rfl) ?_
        refine s_y (v := .float .f32 tn) rfl (y_load T27.one_34 rfl ((B.b 0 rfl).cell (j := 3) rfl)) ?_
        refine s_k rfl (k_call T27.fn_85 (c_i_IsFinite htn) rfl ?_)
        rintro v24 w22 ⟨hv25, e23⟩
        replace B := B.ext0 e23
        clear e23
        by_cases c26 : finB TN = true
        · obtain rfl : v24 = .bool true := hv25.trans (congrArg Value.bool c26)
          refine s_y (v := .bool true) rfl (y_pick_t rfl rfl) ?_
          refine s_y (v := .bool true) rfl (y_move rfl) ?_
          refine s_y (v := .pointer (some ⟨b1, 5, none⟩)) rfl (y_fld (o := 0) T27.fld_44_5_5 rfl) ?_
          refine s_y (v := .int .i64 sd) rfl (y_load T27.one_2 rfl ((B.b 0 rfl).cell (j := 5) rfl)) ?_
          refine s_k rfl (k_call T27.fn_86 (c_i_isSeed) rfl ?_)
          rintro v29 w27 ⟨hv30, e28⟩
          replace B := B.ext0 e28
          clear e28
          by_cases c31 : isSeed sd = true
          · have hb32 := isSeed_b c31
            obtain rfl : v29 = .bool true := hv30.trans (congrArg Value.bool c31)
            refine s_y (v := .bool true) rfl (y_pick_t rfl rfl) ?_
            refine s_y (v := .bool true) rfl (y_assign rfl) ?_
            refine s_nil ?_
            refine W_ret ?_
            refine ret1 (v := .bool true) rfl rfl rfl ⟨_, rfl, ?_⟩
            exact ⟨congrArg Value.bool (by simp [validW, *]), B.ext⟩
          · obtain rfl : v29 = .bool false := hv30.trans (congrArg Value.bool (Bool.eq_false_iff.2 c31))
            refine s_y (v := .bool false) rfl (y_pick_t rfl rfl) ?_
            refine s_y (v := .bool false) rfl (y_assign rfl) ?_
            refine s_nil ?_
            refine W_ret ?_
            refine ret1 (v := .bool false) rfl rfl rfl ⟨_, rfl, ?_⟩
            exact ⟨congrArg Value.bool (by simp [validW, *]), B.ext⟩
        · obtain rfl : v24 = .bool false := hv25.trans (congrArg Value.bool (Bool.eq_false_iff.2 c26))
          refine s_y (v := .bool false) rfl (y_pick_t rfl rfl) ?_
          refine s_y (v := .bool false) rfl (y_move rfl) ?_
          refine s_skip rfl ?_
          refine s_skip rfl ?_
          refine s_skip rfl ?_
          refine s_y (v := .bool false) rfl (y_pick_f rfl rfl) ?_
          refine s_y (v := .bool false) rfl (y_assign rfl) ?_
          refine s_nil ?_
          refine W_ret ?_
          refine ret1 (v := .bool false) rfl rfl rfl ⟨_, rfl, ?_⟩
          exact ⟨congrArg Value.bool (by simp [validW, *]), B.ext⟩
      · obtain rfl : v18 = .bool false := hv19.trans (congrArg Value.bool (Bool.eq_false_iff.2 c20))
        refine s_y (v := .bool false) rfl (y_pick_t rfl rfl) ?_
        refine s_y (v := .bool false) rfl (y_move rfl) ?_
        refine s_skip rfl ?_
        refine s_skip rfl ?_
        refine s_skip rfl ?_
        refine s_y (v := .bool false) rfl (y_pick_f rfl rfl) ?_
        refine s_y (v := .bool false) rfl (y_move rfl) ?_
        refine s_skip rfl ?_
        refine s_skip rfl ?_
        refine s_skip rfl ?_
        refine s_y (v := .bool false) rfl (y_pick_f rfl rfl) ?_
        refine s_y (v := .bool false) rfl (y_assign rfl) ?_
        refine s_nil ?_
        refine W_ret ?_
        refine ret1 (v := .bool false) rfl rfl rfl ⟨_, rfl, ?_⟩
        exact ⟨congrArg Value.bool (by simp [validW, *]), B.ext⟩
    · obtain rfl : v12 = .bool false := hv13.trans (congrArg Value.bool (Bool.eq_false_iff.2 c14))
      refine s_y (v := .bool false) rfl (y_pick_t rfl rfl) ?_
      refine s_y (v := .bool false) rfl (y_move rfl) ?_
      refine s_skip rfl ?_
      refine s_skip rfl ?_
      refine s_skip rfl ?_
      refine s_y (v := .bool false) rfl (y_pick_f rfl rfl) ?_
      refine s_y (v := .bool false) rfl (y_move rfl) ?_
      refine s_skip rfl ?_
      refine s_skip rfl ?_
      refine s_skip rfl ?_
      refine s_y (v := .bool false) rfl (y_pick_f rfl rfl) ?_
      refine s_y (v := .bool false) rfl (y_move rfl) ?_
      refine s_skip rfl ?_
      refine s_skip rfl ?_
      refine s_skip rfl ?_
      refine s_y (v := .bool false) rfl (y_pick_f rfl rfl) ?_
      refine s_y (v := .bool false) rfl (y_assign rfl) ?_
      refine s_nil ?_
      refine W_ret ?_
      refine ret1 (v := .bool false) rfl rfl rfl ⟨_, rfl, ?_⟩
      exact ⟨congrArg Value.bool (by simp [validW, *]), B.ext⟩
  · obtain rfl : v6 = .bool false := hv7.trans (congrArg Value.bool (Bool.eq_false_iff.2 c8))
    refine s_y (v := .bool false) rfl (y_move rfl) ?_
    refine s_skip rfl ?_
    refine s_skip rfl ?_
    refine s_skip rfl ?_
    refine s_y (v := .bool false) rfl (y_pick_f rfl rfl) ?_
    refine s_y (v := .bool false) rfl (y_move rfl) ?_
    refine s_skip rfl ?_
    refine s_skip rfl ?_
    refine s_skip rfl ?_
    refine s_y (v := .bool false) rfl (y_pick_f rfl rfl) ?_
    refine s_y (v := .bool false) rfl (y_move rfl) ?_
    refine s_skip rfl ?_
    refine s_skip rfl ?_
    refine s_skip rfl ?_
    refine s_y (v := .bool false) rfl (y_pick_f rfl rfl) ?_
    refine s_y (v := .bool false) rfl (y_move rfl) ?_
    refine s_skip rfl ?_
    refine s_skip rfl ?_
    refine s_skip rfl ?_
    refine s_y (v := .bool false) rfl (y_pick_f rfl rfl) ?_
    refine s_y (v := .bool false) rfl (y_assign rfl) ?_
    refine s_nil ?_
    refine W_ret ?_
    refine ret1 (v := .bool false) rfl rfl rfl ⟨_, rfl, ?_⟩
    exact ⟨congrArg Value.bool (by simp [validW, *]), B.ext⟩
namespace T82
theorem mx : Try.prog.follows .mixedOrders = true := by kernel_rfl
theorem fn_74 : fnB Try.prog 74 = true := by kernel_rfl
theorem fn_84 : fnB Try.prog 84 = true := by kernel_rfl
end T82
set_option maxRecDepth 100000 in
set_option maxHeartbeats 4000000 in
theorem c_i_areTicks {a : Int} {n : Int} {w : World} (ha : a ≤ 9000000000000000000) :
    Calls Try.prog 82 #[.int .i64 a, .int .i64 n] w (Rt fun v w' => v = .bool (ticksB a n) ∧ Ext0 w w') := by
  have B : Bu w no w [] := Bu.ro All.nil rfl
  refine calls_W (n := 22) Try.func82 rfl rfl (Nat.le_of_ble_eq_true rfl) ?_
  refine W_seq ?_
  refine W_region (by kernel_rfl) ?_
  refine s_y (v := .bool false) rfl (y_assign rfl) ?_
  refine s_nil ?_
  refine W_seq ?_
  refine W_region (by kernel_rfl) ?_
  refine s_y (v := .int .i64 a) rfl (y_move rfl) ?_
  refine s_k rfl (k_call T82.fn_84 (c_i_isTick) rfl ?_)
  rintro v3 w1 ⟨hv4, e2⟩
  replace B := B.ext0 e2
  clear e2
  by_cases c5 : isTick a = true
  · have hb6 := isTick_b c5
    obtain rfl : v3 = .bool true := hv4.trans (congrArg Value.bool c5)
    refine s_y (v := .bool true) rfl (y_move rfl) ?_
    refine s_y (v := .int .i64 n) rfl (y_move rfl) ?_
    refine s_k rfl (k_call T82.fn_74 (c_i_within) rfl ?_)
    rintro v9 w7 ⟨hv10, e8⟩
    replace B := B.ext0 e8
    clear e8
    by_cases c11 : within n 0 64 = true
    · have hb12 := within_b c11
      obtain rfl : v9 = .bool true := hv10.trans (congrArg Value.bool c11)
      refine s_y (v := .bool true) rfl (y_pick_t rfl rfl) ?_
      refine s_y (v := .bool true) rfl (y_move rfl) ?_
      refine s_y (v := .int .i64 n) rfl (y_move rfl) ?_
      by_cases c13 : n = 0
      · refine s_y (v := .bool true) rfl (y_eql rfl rfl (decide_eq_true c13)) ?_
        refine s_y (v := .bool true) rfl (y_move rfl) ?_
        refine s_skip rfl ?_
        refine s_skip rfl ?_
        refine s_skip rfl ?_
        refine s_skip rfl ?_
        refine s_skip rfl ?_
        refine s_y (v := .bool true) rfl (y_pick_t rfl rfl) ?_
        refine s_y (v := .bool true) rfl (y_pick_t rfl rfl) ?_
        refine s_y (v := .bool true) rfl (y_assign rfl) ?_
        refine s_nil ?_
        refine W_ret ?_
        refine ret1 (v := .bool true) rfl rfl rfl ⟨_, rfl, ?_⟩
        exact ⟨congrArg Value.bool (by simp only [ticksB, c5, c11, (decide_eq_true c13), Bool.and_true, Bool.true_and, Bool.and_false, Bool.false_and, Bool.not_true, Bool.not_false, Bool.or_true, Bool.true_or, Bool.or_false, Bool.false_or]), B.ext⟩
      · refine s_y (v := .bool false) rfl (y_eql rfl rfl (decide_eq_false c13)) ?_
        refine s_y (v := .bool false) rfl (y_move rfl) ?_
        refine s_y (v := .int .i64 a) rfl (y_move rfl) ?_
        refine s_y (v := .int .i64 n) rfl (y_move rfl) ?_
        refine s_y (v := .int .i64 (a + n)) rfl (y_add rfl rfl rfl (by omega)) ?_
        refine s_y (v := .int .i64 ((a + n) - 1)) rfl (y_sub rfl rfl rfl (by omega)) ?_
        refine s_k rfl (k_call T82.fn_84 (c_i_isTick) rfl ?_)
        rintro v16 w14 ⟨hv17, e15⟩
        replace B := B.ext0 e15
        clear e15
        by_cases c18 : isTick ((a + n) - 1) = true
        · have hb19 := isTick_b c18
          obtain rfl : v16 = .bool true := hv17.trans (congrArg Value.bool c18)
          refine s_y (v := .bool true) rfl (y_pick_f rfl rfl) ?_
          refine s_y (v := .bool true) rfl (y_pick_t rfl rfl) ?_
          refine s_y (v := .bool true) rfl (y_assign rfl) ?_
          refine s_nil ?_
          refine W_ret ?_
          refine ret1 (v := .bool true) rfl rfl rfl ⟨_, rfl, ?_⟩
          exact ⟨congrArg Value.bool (by simp only [ticksB, c5, c11, (decide_eq_false c13), c18, Bool.and_true, Bool.true_and, Bool.and_false, Bool.false_and, Bool.not_true, Bool.not_false, Bool.or_true, Bool.true_or, Bool.or_false, Bool.false_or]), B.ext⟩
        · obtain rfl : v16 = .bool false := hv17.trans (congrArg Value.bool (Bool.eq_false_iff.2 c18))
          refine s_y (v := .bool false) rfl (y_pick_f rfl rfl) ?_
          refine s_y (v := .bool false) rfl (y_pick_t rfl rfl) ?_
          refine s_y (v := .bool false) rfl (y_assign rfl) ?_
          refine s_nil ?_
          refine W_ret ?_
          refine ret1 (v := .bool false) rfl rfl rfl ⟨_, rfl, ?_⟩
          exact ⟨congrArg Value.bool (by simp only [ticksB, c5, c11, (decide_eq_false c13), (Bool.eq_false_iff.2 c18), Bool.and_true, Bool.true_and, Bool.and_false, Bool.false_and, Bool.not_true, Bool.not_false, Bool.or_true, Bool.true_or, Bool.or_false, Bool.false_or]), B.ext⟩
    · obtain rfl : v9 = .bool false := hv10.trans (congrArg Value.bool (Bool.eq_false_iff.2 c11))
      refine s_y (v := .bool false) rfl (y_pick_t rfl rfl) ?_
      refine s_y (v := .bool false) rfl (y_move rfl) ?_
      refine s_skip rfl ?_
      refine s_skip rfl ?_
      refine s_skip rfl ?_
      refine s_skip rfl ?_
      refine s_skip rfl ?_
      refine s_skip rfl ?_
      refine s_skip rfl ?_
      refine s_skip rfl ?_
      refine s_skip rfl ?_
      refine s_y (v := .bool false) rfl (y_pick_f rfl rfl) ?_
      refine s_y (v := .bool false) rfl (y_assign rfl) ?_
      refine s_nil ?_
      refine W_ret ?_
      refine ret1 (v := .bool false) rfl rfl rfl ⟨_, rfl, ?_⟩
      exact ⟨congrArg Value.bool (by simp only [ticksB, c5, (Bool.eq_false_iff.2 c11), Bool.and_true, Bool.true_and, Bool.and_false, Bool.false_and, Bool.not_true, Bool.not_false, Bool.or_true, Bool.true_or, Bool.or_false, Bool.false_or]), B.ext⟩
  · obtain rfl : v3 = .bool false := hv4.trans (congrArg Value.bool (Bool.eq_false_iff.2 c5))
    refine s_y (v := .bool false) rfl (y_move rfl) ?_
    refine s_skip rfl ?_
    refine s_skip rfl ?_
    refine s_y (v := .bool false) rfl (y_pick_f rfl rfl) ?_
    refine s_y (v := .bool false) rfl (y_move rfl) ?_
    refine s_skip rfl ?_
    refine s_skip rfl ?_
    refine s_skip rfl ?_
    refine s_skip rfl ?_
    refine s_skip rfl ?_
    refine s_skip rfl ?_
    refine s_skip rfl ?_
    refine s_skip rfl ?_
    refine s_skip rfl ?_
    refine s_y (v := .bool false) rfl (y_pick_f rfl rfl) ?_
    refine s_y (v := .bool false) rfl (y_assign rfl) ?_
    refine s_nil ?_
    refine W_ret ?_
    refine ret1 (v := .bool false) rfl rfl rfl ⟨_, rfl, ?_⟩
    exact ⟨congrArg Value.bool (by simp only [ticksB, (Bool.eq_false_iff.2 c5), Bool.and_true, Bool.true_and, Bool.and_false, Bool.false_and, Bool.not_true, Bool.not_false, Bool.or_true, Bool.true_or, Bool.or_false, Bool.false_or]), B.ext⟩
namespace T146
theorem mx : Try.prog.follows .mixedOrders = true := by kernel_rfl
theorem d64b_152 : from64B Try.prog 152 := ⟨_, Try.func152, by kernel_rfl, by kernel_rfl, by kernel_rfl, by kernel_rfl⟩
end T146
set_option maxRecDepth 100000 in
set_option maxHeartbeats 4000000 in
theorem c_m_NaN  {w : World} :
    Calls Try.prog 146 #[] w (Rt fun v w' => (∃ r, v = .float .f64 r ∧ Cn .f64 r (can .f64 (Int.toNat 9221120237041090561))) ∧ Ext0 w w') := by
  have B : Bu w no w [] := Bu.ro All.nil rfl
  refine calls_W (n := 2) Try.func146 rfl rfl (Nat.le_of_ble_eq_true rfl) ?_
  refine W_seq ?_
  refine W_region (by kernel_rfl) ?_
  refine s_y (v := .float .f64 0) rfl (y_assign rfl) ?_
  refine s_nil ?_
  refine W_seq ?_
  refine W_region (by kernel_rfl) ?_
  refine s_k rfl (k_from64 T146.d64b_152 rfl ?_)
  refine s_y (v := .float .f64 (Int.toNat 9221120237041090561)) rfl (y_assign rfl) ?_
  refine s_nil ?_
  refine W_ret ?_
  refine ret1 (v := .float .f64 (Int.toNat 9221120237041090561)) rfl rfl rfl ⟨_, rfl, ?_⟩
  exact ⟨⟨_, rfl, (cnR (show Int.toNat 9221120237041090561 < wid .f64 by first | exact u64_wid _ | decide))⟩, B.ext⟩
namespace T147
theorem mx : Try.prog.follows .mixedOrders = true := by kernel_rfl
theorem d64b_152 : from64B Try.prog 152 := ⟨_, Try.func152, by kernel_rfl, by kernel_rfl, by kernel_rfl, by kernel_rfl⟩
theorem f64b_129 : f64bitsB Try.prog 129 := ⟨_, Try.func129, by kernel_rfl, by kernel_rfl, by kernel_rfl, by kernel_rfl⟩
end T147
set_option maxRecDepth 100000 in
set_option maxHeartbeats 4000000 in
theorem c_m_Abs {x : Nat} {X : Nat} {w : World} (hx : Cn .f64 x X) (hn : nanb .f64 X = false) :
    Calls Try.prog 147 #[.float .f64 x] w (Rt fun v w' => (∃ r, v = .float .f64 r ∧ Cn .f64 r (can .f64 (absT X))) ∧ Ext0 w w') := by
  have B : Bu w no w [] := Bu.ro All.nil rfl
  refine calls_W (n := 7) Try.func147 rfl rfl (Nat.le_of_ble_eq_true rfl) ?_
  refine W_seq ?_
  refine W_region (by kernel_rfl) ?_
  refine s_y (v := .float .f64 0) rfl (y_assign rfl) ?_
  refine s_nil ?_
  refine W_seq ?_
  refine W_region (by kernel_rfl) ?_
  refine s_y (v := .float .f64 x) rfl (y_move rfl) ?_
  refine s_k rfl (k_f64bits T147.f64b_129 rfl ?_)
  refine s_y (v := .int .u64 (IntKind.u64.wrap ((BitVec.ofInt IntKind.u64.bits ((x : Nat) : Int) &&& ~~~ BitVec.ofInt IntKind.u64.bits 9223372036854775808).toNat : Int))) rfl (y_andn rfl rfl) ?_
  refine s_k rfl (k_from64 T147.d64b_152 rfl ?_)
  refine s_y (v := .float .f64 (Int.toNat (IntKind.u64.wrap ((BitVec.ofInt IntKind.u64.bits ((x : Nat) : Int) &&& ~~~ BitVec.ofInt IntKind.u64.bits 9223372036854775808).toNat : Int)))) rfl (y_assign rfl) ?_
  refine s_nil ?_
  refine W_ret ?_
  refine ret1 (v := .float .f64 (Int.toNat (IntKind.u64.wrap ((BitVec.ofInt IntKind.u64.bits ((x : Nat) : Int) &&& ~~~ BitVec.ofInt IntKind.u64.bits 9223372036854775808).toNat : Int)))) rfl rfl rfl ⟨_, rfl, ?_⟩
  exact ⟨⟨_, rfl, cnT (cnR (show Int.toNat (IntKind.u64.wrap ((BitVec.ofInt IntKind.u64.bits ((x : Nat) : Int) &&& ~~~ BitVec.ofInt IntKind.u64.bits 9223372036854775808).toNat : Int)) < wid .f64 by first | exact u64_wid _ | decide)) (by rw [can_eq hx hn]; rfl)⟩, B.ext⟩
namespace T153
theorem mx : Try.prog.follows .mixedOrders = true := by kernel_rfl
theorem flt_53_f64 : Try.prog.underlying 53 = some (.float .f64) := by kernel_rfl
theorem int_2_i64 : Try.prog.underlying 2 = some (.int .i64) := by kernel_rfl
theorem und_2 : (Try.prog.underlying 2).isSome = true := by kernel_rfl
theorem und_53 : (Try.prog.underlying 53).isSome = true := by kernel_rfl
end T153
set_option maxRecDepth 100000 in
set_option maxHeartbeats 4000000 in
theorem c_i_fraction {x : Nat} {X : Nat} {w : World} (hx : Cn .f64 x X) (hok : okI X = true) :
    Calls Try.prog 153 #[.float .f64 x] w (Rt fun v w' => (∃ r, v = .float .f64 r ∧ Cn .f64 r (frT X)) ∧ Ext0 w w') := by
  have B : Bu w no w [] := Bu.ro All.nil rfl
  refine calls_W (n := 14) Try.func153 rfl rfl (Nat.le_of_ble_eq_true rfl) ?_
  refine W_seq ?_
  refine W_region (by kernel_rfl) ?_
  refine s_y (v := .float .f64 0) rfl (y_assign rfl) ?_
  refine s_nil ?_
  refine W_seq ?_
  refine W_region (by kernel_rfl) ?_
  refine s_y (v := .float .f64 x) rfl (y_move rfl) ?_
  refine s_y (v := .float .f64 x) rfl (y_move rfl) ?_
  refine s_y (v := .int .i64 (itv X)) rfl (y_fi T153.und_53 T153.int_2_i64 rfl hx hok) ?_
  refine s_y (v := .float .f64 (FloatKind.nearest .f64 (itv X))) rfl (y_if T153.und_2 T153.flt_53_f64 rfl) ?_
  refine s_n rfl (n_arith (by decide) rfl rfl) ?_
  rintro _ w4 e5 ⟨r2, rfl, hr3⟩
  replace B := B.ext0 e5
  clear e5
  have hc6 := fopC hr3 hx (cn_nearest .f64 (itv X))
  refine s_y (v := .float .f64 r2) rfl (y_assign rfl) ?_
  refine s_nil ?_
  refine W_seq ?_
  refine W_seq ?_
  refine W_region (by kernel_rfl) ?_
  refine s_y (v := .float .f64 r2) rfl (y_move rfl) ?_
  by_cases c7 : flt .f64 (fop .sub .f64 X (FloatKind.nearest .f64 (itv X))) 0 = true
  · refine s_y (v := .bool true) rfl (y_flss rfl rfl (fltC hc6 (cnLit (k := .f64) (t := 0) (by kernel_rfl) (by kernel_rfl)) c7)) ?_
    refine s_nil ?_
    refine W_if_t (by decide) rfl ?_
    refine W_region (by kernel_rfl) ?_
    refine s_y (v := .float .f64 r2) rfl (y_move rfl) ?_
    refine s_n rfl (n_arith (by decide) rfl rfl) ?_
    rintro _ w11 e12 ⟨r9, rfl, hr10⟩
    replace B := B.ext0 e12
    clear e12
    have hc13 := fopC hr10 hc6 (cnLit (k := .f64) (t := 4607182418800017408) (by kernel_rfl) (by kernel_rfl))
    refine s_y (v := .float .f64 r9) rfl (y_assign rfl) ?_
    refine s_nil ?_
    refine W_seq ?_
    refine W_region (by kernel_rfl) ?_
    refine s_y (v := .float .f64 r9) rfl (y_move rfl) ?_
    refine s_y (v := .float .f64 r9) rfl (y_assign rfl) ?_
    refine s_nil ?_
    refine W_ret ?_
    refine ret1 (v := .float .f64 r9) rfl rfl rfl ⟨_, rfl, ?_⟩
    exact ⟨⟨_, rfl, cnT hc13 (frT_1 c7)⟩, B.ext⟩
  · refine s_y (v := .bool false) rfl (y_flss rfl rfl (fltC hc6 (cnLit (k := .f64) (t := 0) (by kernel_rfl) (by kernel_rfl)) (Bool.eq_false_iff.2 c7))) ?_
    refine s_nil ?_
    refine W_if_f (by decide) rfl ?_
    refine W_skip ?_
    refine W_seq ?_
    refine W_region (by kernel_rfl) ?_
    refine s_y (v := .float .f64 r2) rfl (y_move rfl) ?_
    refine s_y (v := .float .f64 r2) rfl (y_assign rfl) ?_
    refine s_nil ?_
    refine W_ret ?_
    refine ret1 (v := .float .f64 r2) rfl rfl rfl ⟨_, rfl, ?_⟩
    exact ⟨⟨_, rfl, cnT hc6 (frT_2 c7)⟩, B.ext⟩
namespace T148
theorem mx : Try.prog.follows .mixedOrders = true := by kernel_rfl
theorem fn_153 : fnB Try.prog 153 = true := by kernel_rfl
end T148
set_option maxRecDepth 100000 in
set_option maxHeartbeats 4000000 in
theorem c_i_sine {x : Nat} {X : Nat} {w : World} (hx : Cn .f64 x X) (hok : okI X = true) :
    Calls Try.prog 148 #[.float .f64 x] w (Rt fun v w' => (∃ r, v = .float .f64 r ∧ Cn .f64 r (sinT X)) ∧ Ext0 w w') := by
  have B : Bu w no w [] := Bu.ro All.nil rfl
  refine calls_W (n := 48) Try.func148 rfl rfl (Nat.le_of_ble_eq_true rfl) ?_
  refine W_seq ?_
  refine W_region (by kernel_rfl) ?_
  refine s_y (v := .float .f64 0) rfl (y_assign rfl) ?_
  refine s_nil ?_
  refine W_seq ?_
  refine W_region (by kernel_rfl) ?_
  refine s_y (v := .float .f64 x) rfl (y_move rfl) ?_
  refine s_k rfl (k_call T148.fn_153 (c_i_fraction hx hok) rfl ?_)
  rintro _ w1 ⟨⟨r3, rfl, hr4⟩, e2⟩
  replace B := B.ext0 e2
  clear e2
  refine s_y (v := .float .f64 r3) rfl (y_assign rfl) ?_
  refine s_nil ?_
  refine W_seq ?_
  refine W_region (by kernel_rfl) ?_
  refine s_y (v := .float .f64 r3) rfl (y_move rfl) ?_
  by_cases c5 : fge .f64 (frT X) 4602678819172646912 = true
  · refine s_y (v := .bool true) rfl (y_fgeq rfl rfl (fgeC hr4 (cnLit (k := .f64) (t := 4602678819172646912) (by kernel_rfl) (by kernel_rfl)) c5)) ?_
    refine s_y (v := .bool true) rfl (y_assign rfl) ?_
    refine s_nil ?_
    refine W_seq ?_
    refine W_seq ?_
    refine W_region (by kernel_rfl) ?_
    refine s_y (v := .bool true) rfl (y_move rfl) ?_
    refine s_nil ?_
    refine W_if_t (by decide) rfl ?_
    refine W_region (by kernel_rfl) ?_
    refine s_y (v := .float .f64 r3) rfl (y_move rfl) ?_
    refine s_n rfl (n_arith (by decide) rfl rfl) ?_
    rintro _ w9 e10 ⟨r7, rfl, hr8⟩
    replace B := B.ext0 e10
    clear e10
    have hc11 := fopC hr8 hr4 (cnLit (k := .f64) (t := 4602678819172646912) (by kernel_rfl) (by kernel_rfl))
    refine s_y (v := .float .f64 r7) rfl (y_assign rfl) ?_
    refine s_nil ?_
    refine W_seq ?_
    refine W_seq ?_
    refine W_region (by kernel_rfl) ?_
    refine s_y (v := .float .f64 r7) rfl (y_move rfl) ?_
    by_cases c12 : fgt .f64 (fop .sub .f64 (frT X) 4602678819172646912) 4598175219545276416 = true
    · refine s_y (v := .bool true) rfl (y_fgtr rfl rfl (fgtC hc11 (cnLit (k := .f64) (t := 4598175219545276416) (by kernel_rfl) (by kernel_rfl)) c12)) ?_
      refine s_nil ?_
      refine W_if_t (by decide) rfl ?_
      refine W_region (by kernel_rfl) ?_
      refine s_y (v := .float .f64 r7) rfl (y_move rfl) ?_
      refine s_n rfl (n_arith (by decide) rfl rfl) ?_
      rintro _ w16 e17 ⟨r14, rfl, hr15⟩
      replace B := B.ext0 e17
      clear e17
      have hc18 := fopC hr15 (cnLit (k := .f64) (t := 4602678819172646912) (by kernel_rfl) (by kernel_rfl)) hc11
      refine s_y (v := .float .f64 r14) rfl (y_assign rfl) ?_
      refine s_nil ?_
      refine W_seq ?_
      refine W_region (by kernel_rfl) ?_
      refine s_y (v := .float .f64 r14) rfl (y_move rfl) ?_
      refine s_n rfl (n_arith (by decide) rfl rfl) ?_
      rintro _ w22 e23 ⟨r20, rfl, hr21⟩
      replace B := B.ext0 e23
      clear e23
      have hc24 := fopC hr21 hc18 (cnLit (k := .f64) (t := 4618760256179416344) (by kernel_rfl) (by kernel_rfl))
      refine s_y (v := .float .f64 r20) rfl (y_assign rfl) ?_
      refine s_nil ?_
      refine W_seq ?_
      refine W_region (by kernel_rfl) ?_
      refine s_y (v := .float .f64 r20) rfl (y_move rfl) ?_
      refine s_y (v := .float .f64 r20) rfl (y_move rfl) ?_
      refine s_n rfl (n_arith (by decide) rfl rfl) ?_
      rintro _ w28 e29 ⟨r26, rfl, hr27⟩
      replace B := B.ext0 e29
      clear e29
      have hc30 := fopC hr27 hc24 hc24
      refine s_y (v := .float .f64 r26) rfl (y_assign rfl) ?_
      refine s_nil ?_
      refine W_seq ?_
      refine W_region (by kernel_rfl) ?_
      refine s_y (v := .float .f64 4607182418800017408) rfl (y_assign rfl) ?_
      refine s_nil ?_
      refine W_seq ?_
      refine W_seq ?_
      refine W_region (by kernel_rfl) ?_
      refine s_y (v := .float .f64 4620693217682128896) rfl (y_assign rfl) ?_
      refine s_nil ?_
      refine W_block ?_
      refine W_loop (fun ρ' w' => ∃ (ρ1 : Env) (i : Nat) (rk : Nat) (rp : Nat), ρ' = updL ρ1 [(2, .float .f64 0), (4, .bool true), (5, .float .f64 r20), (6, .float .f64 r26), (7, .float .f64 rp), (8, .float .f64 rk)] ∧ Bu w no w' [] ∧ (i ≤ 8) ∧ (Cn .f64 rk (kT i)) ∧ (Cn .f64 rp (pT (fop .mul .f64 (fop .mul .f64 (fop .sub .f64 4602678819172646912 (fop .sub .f64 (frT X) 4602678819172646912)) 4618760256179416344) (fop .mul .f64 (fop .sub .f64 4602678819172646912 (fop .sub .f64 (frT X) 4602678819172646912)) 4618760256179416344)) i))) (fun ρ' _ => kmea (ρ' 8)) ?_ ?_
      · exact ⟨_, 0, 4620693217682128896, 4607182418800017408, Fits.eq ⟨rfl, rfl, rfl, rfl, rfl, rfl, trivial⟩, B, (by omega), (cnLit (k := .f64) (t := 4620693217682128896) (by kernel_rfl) (by kernel_rfl)), (cnLit (k := .f64) (t := 4607182418800017408) (by kernel_rfl) (by kernel_rfl))⟩
      · clear B; rintro _ w31 ⟨ρ32, i, rk, rp, rfl, B, hi8, hk, hp⟩
        refine W_seq ?_
        refine W_seq ?_
        refine W_region (by kernel_rfl) ?_
        refine s_y (v := .float .f64 rk) rfl (y_move rfl) ?_
        by_cases c33 : fge .f64 (kT i) 4607182418800017408 = true
        · refine s_y (v := .bool true) rfl (y_fgeq rfl rfl (fgeC hk (cnLit (k := .f64) (t := 4607182418800017408) (by kernel_rfl) (by kernel_rfl)) c33)) ?_
          refine s_nil ?_
          refine W_if_t (by decide) rfl ?_
          refine W_skip ?_
          refine W_seq ?_
          refine W_block ?_
          refine W_region (by kernel_rfl) ?_
          refine s_y (v := .float .f64 r26) rfl (y_move rfl) ?_
          refine s_y (v := .float .f64 rp) rfl (y_move rfl) ?_
          refine s_n rfl (n_arith (by decide) rfl rfl) ?_
          rintro _ w37 e38 ⟨r35, rfl, hr36⟩
          replace B := B.ext0 e38
          clear e38
          have hc39 := fopC hr36 hc30 hp
          refine s_y (v := .float .f64 rk) rfl (y_move rfl) ?_
          refine s_n rfl (n_arith (by decide) rfl rfl) ?_
          rintro _ w43 e44 ⟨r41, rfl, hr42⟩
          replace B := B.ext0 e44
          clear e44
          have hc45 := fopC hr42 (cnLit (k := .f64) (t := 4611686018427387904) (by kernel_rfl) (by kernel_rfl)) hk
          refine s_y (v := .float .f64 rk) rfl (y_move rfl) ?_
          refine s_n rfl (n_arith (by decide) rfl rfl) ?_
          rintro _ w49 e50 ⟨r47, rfl, hr48⟩
          replace B := B.ext0 e50
          clear e50
          have hc51 := fopC hr48 (cnLit (k := .f64) (t := 4611686018427387904) (by kernel_rfl) (by kernel_rfl)) hk
          refine s_n rfl (n_arith (by decide) rfl rfl) ?_
          rintro _ w55 e56 ⟨r53, rfl, hr54⟩
          replace B := B.ext0 e56
          clear e56
          have hc57 := fopC hr54 hc51 (cnLit (k := .f64) (t := 4607182418800017408) (by kernel_rfl) (by kernel_rfl))
          refine s_n rfl (n_arith (by decide) rfl rfl) ?_
          rintro _ w61 e62 ⟨r59, rfl, hr60⟩
          replace B := B.ext0 e62
          clear e62
          have hc63 := fopC hr60 hc45 hc57
          refine s_n rfl (n_arith (by decide) rfl rfl) ?_
          rintro _ w67 e68 ⟨r65, rfl, hr66⟩
          replace B := B.ext0 e68
          clear e68
          have hc69 := fopC hr66 hc39 hc63
          refine s_n rfl (n_arith (by decide) rfl rfl) ?_
          rintro _ w73 e74 ⟨r71, rfl, hr72⟩
          replace B := B.ext0 e74
          clear e74
          have hc75 := fopC hr72 (cnLit (k := .f64) (t := 4607182418800017408) (by kernel_rfl) (by kernel_rfl)) hc69
          refine s_y (v := .float .f64 r71) rfl (y_assign rfl) ?_
          refine s_nil ?_
          refine W_region (by kernel_rfl) ?_
          refine s_y (v := .float .f64 rk) rfl (y_move rfl) ?_
          refine s_n rfl (n_arith (by decide) rfl rfl) ?_
          rintro _ w79 e80 ⟨r77, rfl, hr78⟩
          replace B := B.ext0 e80
          clear e80
          have hc81 := fopC hr78 hk (cnLit (k := .f64) (t := 4607182418800017408) (by kernel_rfl) (by kernel_rfl))
          refine s_y (v := .float .f64 r77) rfl (y_assign rfl) ?_
          refine s_nil ?_
          have hlt := kT_lt hi8 c33
          refine ⟨⟨_, i + 1, r77, r71, Fits.eq ⟨rfl, rfl, rfl, rfl, rfl, rfl, trivial⟩, B, (by omega), hc81, hc75⟩, ?_⟩
          exact kidx_step hk hc81 hlt
        · refine s_y (v := .bool false) rfl (y_fgeq rfl rfl (fgeC hk (cnLit (k := .f64) (t := 4607182418800017408) (by kernel_rfl) (by kernel_rfl)) (Bool.eq_false_iff.2 c33))) ?_
          refine s_nil ?_
          refine W_if_f (by decide) rfl ?_
          refine W_exit ?_
          obtain rfl := kT_end hi8 c33
          refine W_seq ?_
          refine W_seq ?_
          refine W_region (by kernel_rfl) ?_
          refine s_y (v := .bool true) rfl (y_move rfl) ?_
          refine s_nil ?_
          refine W_if_t (by decide) rfl ?_
          refine W_seq ?_
          refine W_region (by kernel_rfl) ?_
          refine s_y (v := .float .f64 r20) rfl (y_move rfl) ?_
          refine s_y (v := .float .f64 rp) rfl (y_move rfl) ?_
          refine s_n rfl (n_arith (by decide) rfl rfl) ?_
          rintro _ w85 e86 ⟨r83, rfl, hr84⟩
          replace B := B.ext0 e86
          clear e86
          have hc87 := fopC hr84 hc24 hp
          refine s_y (v := .float .f64 (Op.negFloat .f64 r83)) rfl (y_fneg rfl) ?_
          refine s_y (v := .float .f64 (Op.negFloat .f64 r83)) rfl (y_assign rfl) ?_
          refine s_nil ?_
          refine W_ret ?_
          refine ret1 (v := .float .f64 (Op.negFloat .f64 r83)) rfl rfl rfl ⟨_, rfl, ?_⟩
          exact ⟨⟨_, rfl, cnT (negC hc87) (sinT_1 c5 (folT_1 c12))⟩, B.ext⟩
    · refine s_y (v := .bool false) rfl (y_fgtr rfl rfl (fgtC hc11 (cnLit (k := .f64) (t := 4598175219545276416) (by kernel_rfl) (by kernel_rfl)) (Bool.eq_false_iff.2 c12))) ?_
      refine s_nil ?_
      refine W_if_f (by decide) rfl ?_
      refine W_skip ?_
      refine W_seq ?_
      refine W_region (by kernel_rfl) ?_
      refine s_y (v := .float .f64 r7) rfl (y_move rfl) ?_
      refine s_n rfl (n_arith (by decide) rfl rfl) ?_
      rintro _ w91 e92 ⟨r89, rfl, hr90⟩
      replace B := B.ext0 e92
      clear e92
      have hc93 := fopC hr90 hc11 (cnLit (k := .f64) (t := 4618760256179416344) (by kernel_rfl) (by kernel_rfl))
      refine s_y (v := .float .f64 r89) rfl (y_assign rfl) ?_
      refine s_nil ?_
      refine W_seq ?_
      refine W_region (by kernel_rfl) ?_
      refine s_y (v := .float .f64 r89) rfl (y_move rfl) ?_
      refine s_y (v := .float .f64 r89) rfl (y_move rfl) ?_
      refine s_n rfl (n_arith (by decide) rfl rfl) ?_
      rintro _ w97 e98 ⟨r95, rfl, hr96⟩
      replace B := B.ext0 e98
      clear e98
      have hc99 := fopC hr96 hc93 hc93
      refine s_y (v := .float .f64 r95) rfl (y_assign rfl) ?_
      refine s_nil ?_
      refine W_seq ?_
      refine W_region (by kernel_rfl) ?_
      refine s_y (v := .float .f64 4607182418800017408) rfl (y_assign rfl) ?_
      refine s_nil ?_
      refine W_seq ?_
      refine W_seq ?_
      refine W_region (by kernel_rfl) ?_
      refine s_y (v := .float .f64 4620693217682128896) rfl (y_assign rfl) ?_
      refine s_nil ?_
      refine W_block ?_
      refine W_loop (fun ρ' w' => ∃ (ρ1 : Env) (i : Nat) (rk : Nat) (rp : Nat), ρ' = updL ρ1 [(2, .float .f64 0), (4, .bool true), (5, .float .f64 r89), (6, .float .f64 r95), (7, .float .f64 rp), (8, .float .f64 rk)] ∧ Bu w no w' [] ∧ (i ≤ 8) ∧ (Cn .f64 rk (kT i)) ∧ (Cn .f64 rp (pT (fop .mul .f64 (fop .mul .f64 (fop .sub .f64 (frT X) 4602678819172646912) 4618760256179416344) (fop .mul .f64 (fop .sub .f64 (frT X) 4602678819172646912) 4618760256179416344)) i))) (fun ρ' _ => kmea (ρ' 8)) ?_ ?_
      · exact ⟨_, 0, 4620693217682128896, 4607182418800017408, Fits.eq ⟨rfl, rfl, rfl, rfl, rfl, rfl, trivial⟩, B, (by omega), (cnLit (k := .f64) (t := 4620693217682128896) (by kernel_rfl) (by kernel_rfl)), (cnLit (k := .f64) (t := 4607182418800017408) (by kernel_rfl) (by kernel_rfl))⟩
      · clear B; rintro _ w100 ⟨ρ101, i, rk, rp, rfl, B, hi8, hk, hp⟩
        refine W_seq ?_
        refine W_seq ?_
        refine W_region (by kernel_rfl) ?_
        refine s_y (v := .float .f64 rk) rfl (y_move rfl) ?_
        by_cases c102 : fge .f64 (kT i) 4607182418800017408 = true
        · refine s_y (v := .bool true) rfl (y_fgeq rfl rfl (fgeC hk (cnLit (k := .f64) (t := 4607182418800017408) (by kernel_rfl) (by kernel_rfl)) c102)) ?_
          refine s_nil ?_
          refine W_if_t (by decide) rfl ?_
          refine W_skip ?_
          refine W_seq ?_
          refine W_block ?_
          refine W_region (by kernel_rfl) ?_
          refine s_y (v := .float .f64 r95) rfl (y_move rfl) ?_
          refine s_y (v := .float .f64 rp) rfl (y_move rfl) ?_
          refine s_n rfl (n_arith (by decide) rfl rfl) ?_
          rintro _ w106 e107 ⟨r104, rfl, hr105⟩
          replace B := B.ext0 e107
          clear e107
          have hc108 := fopC hr105 hc99 hp
          refine s_y (v := .float .f64 rk) rfl (y_move rfl) ?_
          refine s_n rfl (n_arith (by decide) rfl rfl) ?_
          rintro _ w112 e113 ⟨r110, rfl, hr111⟩
          replace B := B.ext0 e113
          clear e113
          have hc114 := fopC hr111 (cnLit (k := .f64) (t := 4611686018427387904) (by kernel_rfl) (by kernel_rfl)) hk
          refine s_y (v := .float .f64 rk) rfl (y_move rfl) ?_
          refine s_n rfl (n_arith (by decide) rfl rfl) ?_
          rintro _ w118 e119 ⟨r116, rfl, hr117⟩
          replace B := B.ext0 e119
          clear e119
          have hc120 := fopC hr117 (cnLit (k := .f64) (t := 4611686018427387904) (by kernel_rfl) (by kernel_rfl)) hk
          refine s_n rfl (n_arith (by decide) rfl rfl) ?_
          rintro _ w124 e125 ⟨r122, rfl, hr123⟩
          replace B := B.ext0 e125
          clear e125
          have hc126 := fopC hr123 hc120 (cnLit (k := .f64) (t := 4607182418800017408) (by kernel_rfl) (by kernel_rfl))
          refine s_n rfl (n_arith (by decide) rfl rfl) ?_
          rintro _ w130 e131 ⟨r128, rfl, hr129⟩
          replace B := B.ext0 e131
          clear e131
          have hc132 := fopC hr129 hc114 hc126
          refine s_n rfl (n_arith (by decide) rfl rfl) ?_
          rintro _ w136 e137 ⟨r134, rfl, hr135⟩
          replace B := B.ext0 e137
          clear e137
          have hc138 := fopC hr135 hc108 hc132
          refine s_n rfl (n_arith (by decide) rfl rfl) ?_
          rintro _ w142 e143 ⟨r140, rfl, hr141⟩
          replace B := B.ext0 e143
          clear e143
          have hc144 := fopC hr141 (cnLit (k := .f64) (t := 4607182418800017408) (by kernel_rfl) (by kernel_rfl)) hc138
          refine s_y (v := .float .f64 r140) rfl (y_assign rfl) ?_
          refine s_nil ?_
          refine W_region (by kernel_rfl) ?_
          refine s_y (v := .float .f64 rk) rfl (y_move rfl) ?_
          refine s_n rfl (n_arith (by decide) rfl rfl) ?_
          rintro _ w148 e149 ⟨r146, rfl, hr147⟩
          replace B := B.ext0 e149
          clear e149
          have hc150 := fopC hr147 hk (cnLit (k := .f64) (t := 4607182418800017408) (by kernel_rfl) (by kernel_rfl))
          refine s_y (v := .float .f64 r146) rfl (y_assign rfl) ?_
          refine s_nil ?_
          have hlt := kT_lt hi8 c102
          refine ⟨⟨_, i + 1, r146, r140, Fits.eq ⟨rfl, rfl, rfl, rfl, rfl, rfl, trivial⟩, B, (by omega), hc150, hc144⟩, ?_⟩
          exact kidx_step hk hc150 hlt
        · refine s_y (v := .bool false) rfl (y_fgeq rfl rfl (fgeC hk (cnLit (k := .f64) (t := 4607182418800017408) (by kernel_rfl) (by kernel_rfl)) (Bool.eq_false_iff.2 c102))) ?_
          refine s_nil ?_
          refine W_if_f (by decide) rfl ?_
          refine W_exit ?_
          obtain rfl := kT_end hi8 c102
          refine W_seq ?_
          refine W_seq ?_
          refine W_region (by kernel_rfl) ?_
          refine s_y (v := .bool true) rfl (y_move rfl) ?_
          refine s_nil ?_
          refine W_if_t (by decide) rfl ?_
          refine W_seq ?_
          refine W_region (by kernel_rfl) ?_
          refine s_y (v := .float .f64 r89) rfl (y_move rfl) ?_
          refine s_y (v := .float .f64 rp) rfl (y_move rfl) ?_
          refine s_n rfl (n_arith (by decide) rfl rfl) ?_
          rintro _ w154 e155 ⟨r152, rfl, hr153⟩
          replace B := B.ext0 e155
          clear e155
          have hc156 := fopC hr153 hc93 hp
          refine s_y (v := .float .f64 (Op.negFloat .f64 r152)) rfl (y_fneg rfl) ?_
          refine s_y (v := .float .f64 (Op.negFloat .f64 r152)) rfl (y_assign rfl) ?_
          refine s_nil ?_
          refine W_ret ?_
          refine ret1 (v := .float .f64 (Op.negFloat .f64 r152)) rfl rfl rfl ⟨_, rfl, ?_⟩
          exact ⟨⟨_, rfl, cnT (negC hc156) (sinT_1 c5 (folT_2 c12))⟩, B.ext⟩
  · refine s_y (v := .bool false) rfl (y_fgeq rfl rfl (fgeC hr4 (cnLit (k := .f64) (t := 4602678819172646912) (by kernel_rfl) (by kernel_rfl)) (Bool.eq_false_iff.2 c5))) ?_
    refine s_y (v := .bool false) rfl (y_assign rfl) ?_
    refine s_nil ?_
    refine W_seq ?_
    refine W_seq ?_
    refine W_region (by kernel_rfl) ?_
    refine s_y (v := .bool false) rfl (y_move rfl) ?_
    refine s_nil ?_
    refine W_if_f (by decide) rfl ?_
    refine W_skip ?_
    refine W_seq ?_
    refine W_seq ?_
    refine W_region (by kernel_rfl) ?_
    refine s_y (v := .float .f64 r3) rfl (y_move rfl) ?_
    by_cases c157 : fgt .f64 (frT X) 4598175219545276416 = true
    · refine s_y (v := .bool true) rfl (y_fgtr rfl rfl (fgtC hr4 (cnLit (k := .f64) (t := 4598175219545276416) (by kernel_rfl) (by kernel_rfl)) c157)) ?_
      refine s_nil ?_
      refine W_if_t (by decide) rfl ?_
      refine W_region (by kernel_rfl) ?_
      refine s_y (v := .float .f64 r3) rfl (y_move rfl) ?_
      refine s_n rfl (n_arith (by decide) rfl rfl) ?_
      rintro _ w161 e162 ⟨r159, rfl, hr160⟩
      replace B := B.ext0 e162
      clear e162
      have hc163 := fopC hr160 (cnLit (k := .f64) (t := 4602678819172646912) (by kernel_rfl) (by kernel_rfl)) hr4
      refine s_y (v := .float .f64 r159) rfl (y_assign rfl) ?_
      refine s_nil ?_
      refine W_seq ?_
      refine W_region (by kernel_rfl) ?_
      refine s_y (v := .float .f64 r159) rfl (y_move rfl) ?_
      refine s_n rfl (n_arith (by decide) rfl rfl) ?_
      rintro _ w167 e168 ⟨r165, rfl, hr166⟩
      replace B := B.ext0 e168
      clear e168
      have hc169 := fopC hr166 hc163 (cnLit (k := .f64) (t := 4618760256179416344) (by kernel_rfl) (by kernel_rfl))
      refine s_y (v := .float .f64 r165) rfl (y_assign rfl) ?_
      refine s_nil ?_
      refine W_seq ?_
      refine W_region (by kernel_rfl) ?_
      refine s_y (v := .float .f64 r165) rfl (y_move rfl) ?_
      refine s_y (v := .float .f64 r165) rfl (y_move rfl) ?_
      refine s_n rfl (n_arith (by decide) rfl rfl) ?_
      rintro _ w173 e174 ⟨r171, rfl, hr172⟩
      replace B := B.ext0 e174
      clear e174
      have hc175 := fopC hr172 hc169 hc169
      refine s_y (v := .float .f64 r171) rfl (y_assign rfl) ?_
      refine s_nil ?_
      refine W_seq ?_
      refine W_region (by kernel_rfl) ?_
      refine s_y (v := .float .f64 4607182418800017408) rfl (y_assign rfl) ?_
      refine s_nil ?_
      refine W_seq ?_
      refine W_seq ?_
      refine W_region (by kernel_rfl) ?_
      refine s_y (v := .float .f64 4620693217682128896) rfl (y_assign rfl) ?_
      refine s_nil ?_
      refine W_block ?_
      refine W_loop (fun ρ' w' => ∃ (ρ1 : Env) (i : Nat) (rk : Nat) (rp : Nat), ρ' = updL ρ1 [(2, .float .f64 0), (4, .bool false), (5, .float .f64 r165), (6, .float .f64 r171), (7, .float .f64 rp), (8, .float .f64 rk)] ∧ Bu w no w' [] ∧ (i ≤ 8) ∧ (Cn .f64 rk (kT i)) ∧ (Cn .f64 rp (pT (fop .mul .f64 (fop .mul .f64 (fop .sub .f64 4602678819172646912 (frT X)) 4618760256179416344) (fop .mul .f64 (fop .sub .f64 4602678819172646912 (frT X)) 4618760256179416344)) i))) (fun ρ' _ => kmea (ρ' 8)) ?_ ?_
      · exact ⟨_, 0, 4620693217682128896, 4607182418800017408, Fits.eq ⟨rfl, rfl, rfl, rfl, rfl, rfl, trivial⟩, B, (by omega), (cnLit (k := .f64) (t := 4620693217682128896) (by kernel_rfl) (by kernel_rfl)), (cnLit (k := .f64) (t := 4607182418800017408) (by kernel_rfl) (by kernel_rfl))⟩
      · clear B; rintro _ w176 ⟨ρ177, i, rk, rp, rfl, B, hi8, hk, hp⟩
        refine W_seq ?_
        refine W_seq ?_
        refine W_region (by kernel_rfl) ?_
        refine s_y (v := .float .f64 rk) rfl (y_move rfl) ?_
        by_cases c178 : fge .f64 (kT i) 4607182418800017408 = true
        · refine s_y (v := .bool true) rfl (y_fgeq rfl rfl (fgeC hk (cnLit (k := .f64) (t := 4607182418800017408) (by kernel_rfl) (by kernel_rfl)) c178)) ?_
          refine s_nil ?_
          refine W_if_t (by decide) rfl ?_
          refine W_skip ?_
          refine W_seq ?_
          refine W_block ?_
          refine W_region (by kernel_rfl) ?_
          refine s_y (v := .float .f64 r171) rfl (y_move rfl) ?_
          refine s_y (v := .float .f64 rp) rfl (y_move rfl) ?_
          refine s_n rfl (n_arith (by decide) rfl rfl) ?_
          rintro _ w182 e183 ⟨r180, rfl, hr181⟩
          replace B := B.ext0 e183
          clear e183
          have hc184 := fopC hr181 hc175 hp
          refine s_y (v := .float .f64 rk) rfl (y_move rfl) ?_
          refine s_n rfl (n_arith (by decide) rfl rfl) ?_
          rintro _ w188 e189 ⟨r186, rfl, hr187⟩
          replace B := B.ext0 e189
          clear e189
          have hc190 := fopC hr187 (cnLit (k := .f64) (t := 4611686018427387904) (by kernel_rfl) (by kernel_rfl)) hk
          refine s_y (v := .float .f64 rk) rfl (y_move rfl) ?_
          refine s_n rfl (n_arith (by decide) rfl rfl) ?_
          rintro _ w194 e195 ⟨r192, rfl, hr193⟩
          replace B := B.ext0 e195
          clear e195
          have hc196 := fopC hr193 (cnLit (k := .f64) (t := 4611686018427387904) (by kernel_rfl) (by kernel_rfl)) hk
          refine s_n rfl (n_arith (by decide) rfl rfl) ?_
          rintro _ w200 e201 ⟨r198, rfl, hr199⟩
          replace B := B.ext0 e201
          clear e201
          have hc202 := fopC hr199 hc196 (cnLit (k := .f64) (t := 4607182418800017408) (by kernel_rfl) (by kernel_rfl))
          refine s_n rfl (n_arith (by decide) rfl rfl) ?_
          rintro _ w206 e207 ⟨r204, rfl, hr205⟩
          replace B := B.ext0 e207
          clear e207
          have hc208 := fopC hr205 hc190 hc202
          refine s_n rfl (n_arith (by decide) rfl rfl) ?_
          rintro _ w212 e213 ⟨r210, rfl, hr211⟩
          replace B := B.ext0 e213
          clear e213
          have hc214 := fopC hr211 hc184 hc208
          refine s_n rfl (n_arith (by decide) rfl rfl) ?_
          rintro _ w218 e219 ⟨r216, rfl, hr217⟩
          replace B := B.ext0 e219
          clear e219
          have hc220 := fopC hr217 (cnLit (k := .f64) (t := 4607182418800017408) (by kernel_rfl) (by kernel_rfl)) hc214
          refine s_y (v := .float .f64 r216) rfl (y_assign rfl) ?_
          refine s_nil ?_
          refine W_region (by kernel_rfl) ?_
          refine s_y (v := .float .f64 rk) rfl (y_move rfl) ?_
          refine s_n rfl (n_arith (by decide) rfl rfl) ?_
          rintro _ w224 e225 ⟨r222, rfl, hr223⟩
          replace B := B.ext0 e225
          clear e225
          have hc226 := fopC hr223 hk (cnLit (k := .f64) (t := 4607182418800017408) (by kernel_rfl) (by kernel_rfl))
          refine s_y (v := .float .f64 r222) rfl (y_assign rfl) ?_
          refine s_nil ?_
          have hlt := kT_lt hi8 c178
          refine ⟨⟨_, i + 1, r222, r216, Fits.eq ⟨rfl, rfl, rfl, rfl, rfl, rfl, trivial⟩, B, (by omega), hc226, hc220⟩, ?_⟩
          exact kidx_step hk hc226 hlt
        · refine s_y (v := .bool false) rfl (y_fgeq rfl rfl (fgeC hk (cnLit (k := .f64) (t := 4607182418800017408) (by kernel_rfl) (by kernel_rfl)) (Bool.eq_false_iff.2 c178))) ?_
          refine s_nil ?_
          refine W_if_f (by decide) rfl ?_
          refine W_exit ?_
          obtain rfl := kT_end hi8 c178
          refine W_seq ?_
          refine W_seq ?_
          refine W_region (by kernel_rfl) ?_
          refine s_y (v := .bool false) rfl (y_move rfl) ?_
          refine s_nil ?_
          refine W_if_f (by decide) rfl ?_
          refine W_skip ?_
          refine W_seq ?_
          refine W_region (by kernel_rfl) ?_
          refine s_y (v := .float .f64 r165) rfl (y_move rfl) ?_
          refine s_y (v := .float .f64 rp) rfl (y_move rfl) ?_
          refine s_n rfl (n_arith (by decide) rfl rfl) ?_
          rintro _ w230 e231 ⟨r228, rfl, hr229⟩
          replace B := B.ext0 e231
          clear e231
          have hc232 := fopC hr229 hc169 hp
          refine s_y (v := .float .f64 r228) rfl (y_assign rfl) ?_
          refine s_nil ?_
          refine W_ret ?_
          refine ret1 (v := .float .f64 r228) rfl rfl rfl ⟨_, rfl, ?_⟩
          exact ⟨⟨_, rfl, cnT hc232 (sinT_2 c5 (folT_1 c157))⟩, B.ext⟩
    · refine s_y (v := .bool false) rfl (y_fgtr rfl rfl (fgtC hr4 (cnLit (k := .f64) (t := 4598175219545276416) (by kernel_rfl) (by kernel_rfl)) (Bool.eq_false_iff.2 c157))) ?_
      refine s_nil ?_
      refine W_if_f (by decide) rfl ?_
      refine W_skip ?_
      refine W_seq ?_
      refine W_region (by kernel_rfl) ?_
      refine s_y (v := .float .f64 r3) rfl (y_move rfl) ?_
      refine s_n rfl (n_arith (by decide) rfl rfl) ?_
      rintro _ w236 e237 ⟨r234, rfl, hr235⟩
      replace B := B.ext0 e237
      clear e237
      have hc238 := fopC hr235 hr4 (cnLit (k := .f64) (t := 4618760256179416344) (by kernel_rfl) (by kernel_rfl))
      refine s_y (v := .float .f64 r234) rfl (y_assign rfl) ?_
      refine s_nil ?_
      refine W_seq ?_
      refine W_region (by kernel_rfl) ?_
      refine s_y (v := .float .f64 r234) rfl (y_move rfl) ?_
      refine s_y (v := .float .f64 r234) rfl (y_move rfl) ?_
      refine s_n rfl (n_arith (by decide) rfl rfl) ?_
      rintro _ w242 e243 ⟨r240, rfl, hr241⟩
      replace B := B.ext0 e243
      clear e243
      have hc244 := fopC hr241 hc238 hc238
      refine s_y (v := .float .f64 r240) rfl (y_assign rfl) ?_
      refine s_nil ?_
      refine W_seq ?_
      refine W_region (by kernel_rfl) ?_
      refine s_y (v := .float .f64 4607182418800017408) rfl (y_assign rfl) ?_
      refine s_nil ?_
      refine W_seq ?_
      refine W_seq ?_
      refine W_region (by kernel_rfl) ?_
      refine s_y (v := .float .f64 4620693217682128896) rfl (y_assign rfl) ?_
      refine s_nil ?_
      refine W_block ?_
      refine W_loop (fun ρ' w' => ∃ (ρ1 : Env) (i : Nat) (rk : Nat) (rp : Nat), ρ' = updL ρ1 [(2, .float .f64 0), (4, .bool false), (5, .float .f64 r234), (6, .float .f64 r240), (7, .float .f64 rp), (8, .float .f64 rk)] ∧ Bu w no w' [] ∧ (i ≤ 8) ∧ (Cn .f64 rk (kT i)) ∧ (Cn .f64 rp (pT (fop .mul .f64 (fop .mul .f64 (frT X) 4618760256179416344) (fop .mul .f64 (frT X) 4618760256179416344)) i))) (fun ρ' _ => kmea (ρ' 8)) ?_ ?_
      · exact ⟨_, 0, 4620693217682128896, 4607182418800017408, Fits.eq ⟨rfl, rfl, rfl, rfl, rfl, rfl, trivial⟩, B, (by omega), (cnLit (k := .f64) (t := 4620693217682128896) (by kernel_rfl) (by kernel_rfl)), (cnLit (k := .f64) (t := 4607182418800017408) (by kernel_rfl) (by kernel_rfl))⟩
      · clear B; rintro _ w245 ⟨ρ246, i, rk, rp, rfl, B, hi8, hk, hp⟩
        refine W_seq ?_
        refine W_seq ?_
        refine W_region (by kernel_rfl) ?_
        refine s_y (v := .float .f64 rk) rfl (y_move rfl) ?_
        by_cases c247 : fge .f64 (kT i) 4607182418800017408 = true
        · refine s_y (v := .bool true) rfl (y_fgeq rfl rfl (fgeC hk (cnLit (k := .f64) (t := 4607182418800017408) (by kernel_rfl) (by kernel_rfl)) c247)) ?_
          refine s_nil ?_
          refine W_if_t (by decide) rfl ?_
          refine W_skip ?_
          refine W_seq ?_
          refine W_block ?_
          refine W_region (by kernel_rfl) ?_
          refine s_y (v := .float .f64 r240) rfl (y_move rfl) ?_
          refine s_y (v := .float .f64 rp) rfl (y_move rfl) ?_
          refine s_n rfl (n_arith (by decide) rfl rfl) ?_
          rintro _ w251 e252 ⟨r249, rfl, hr250⟩
          replace B := B.ext0 e252
          clear e252
          have hc253 := fopC hr250 hc244 hp
          refine s_y (v := .float .f64 rk) rfl (y_move rfl) ?_
          refine s_n rfl (n_arith (by decide) rfl rfl) ?_
          rintro _ w257 e258 ⟨r255, rfl, hr256⟩
          replace B := B.ext0 e258
          clear e258
          have hc259 := fopC hr256 (cnLit (k := .f64) (t := 4611686018427387904) (by kernel_rfl) (by kernel_rfl)) hk
          refine s_y (v := .float .f64 rk) rfl (y_move rfl) ?_
          refine s_n rfl (n_arith (by decide) rfl rfl) ?_
          rintro _ w263 e264 ⟨r261, rfl, hr262⟩
          replace B := B.ext0 e264
          clear e264
          have hc265 := fopC hr262 (cnLit (k := .f64) (t := 4611686018427387904) (by kernel_rfl) (by kernel_rfl)) hk
          refine s_n rfl (n_arith (by decide) rfl rfl) ?_
          rintro _ w269 e270 ⟨r267, rfl, hr268⟩
          replace B := B.ext0 e270
          clear e270
          have hc271 := fopC hr268 hc265 (cnLit (k := .f64) (t := 4607182418800017408) (by kernel_rfl) (by kernel_rfl))
          refine s_n rfl (n_arith (by decide) rfl rfl) ?_
          rintro _ w275 e276 ⟨r273, rfl, hr274⟩
          replace B := B.ext0 e276
          clear e276
          have hc277 := fopC hr274 hc259 hc271
          refine s_n rfl (n_arith (by decide) rfl rfl) ?_
          rintro _ w281 e282 ⟨r279, rfl, hr280⟩
          replace B := B.ext0 e282
          clear e282
          have hc283 := fopC hr280 hc253 hc277
          refine s_n rfl (n_arith (by decide) rfl rfl) ?_
          rintro _ w287 e288 ⟨r285, rfl, hr286⟩
          replace B := B.ext0 e288
          clear e288
          have hc289 := fopC hr286 (cnLit (k := .f64) (t := 4607182418800017408) (by kernel_rfl) (by kernel_rfl)) hc283
          refine s_y (v := .float .f64 r285) rfl (y_assign rfl) ?_
          refine s_nil ?_
          refine W_region (by kernel_rfl) ?_
          refine s_y (v := .float .f64 rk) rfl (y_move rfl) ?_
          refine s_n rfl (n_arith (by decide) rfl rfl) ?_
          rintro _ w293 e294 ⟨r291, rfl, hr292⟩
          replace B := B.ext0 e294
          clear e294
          have hc295 := fopC hr292 hk (cnLit (k := .f64) (t := 4607182418800017408) (by kernel_rfl) (by kernel_rfl))
          refine s_y (v := .float .f64 r291) rfl (y_assign rfl) ?_
          refine s_nil ?_
          have hlt := kT_lt hi8 c247
          refine ⟨⟨_, i + 1, r291, r285, Fits.eq ⟨rfl, rfl, rfl, rfl, rfl, rfl, trivial⟩, B, (by omega), hc295, hc289⟩, ?_⟩
          exact kidx_step hk hc295 hlt
        · refine s_y (v := .bool false) rfl (y_fgeq rfl rfl (fgeC hk (cnLit (k := .f64) (t := 4607182418800017408) (by kernel_rfl) (by kernel_rfl)) (Bool.eq_false_iff.2 c247))) ?_
          refine s_nil ?_
          refine W_if_f (by decide) rfl ?_
          refine W_exit ?_
          obtain rfl := kT_end hi8 c247
          refine W_seq ?_
          refine W_seq ?_
          refine W_region (by kernel_rfl) ?_
          refine s_y (v := .bool false) rfl (y_move rfl) ?_
          refine s_nil ?_
          refine W_if_f (by decide) rfl ?_
          refine W_skip ?_
          refine W_seq ?_
          refine W_region (by kernel_rfl) ?_
          refine s_y (v := .float .f64 r234) rfl (y_move rfl) ?_
          refine s_y (v := .float .f64 rp) rfl (y_move rfl) ?_
          refine s_n rfl (n_arith (by decide) rfl rfl) ?_
          rintro _ w299 e300 ⟨r297, rfl, hr298⟩
          replace B := B.ext0 e300
          clear e300
          have hc301 := fopC hr298 hc238 hp
          refine s_y (v := .float .f64 r297) rfl (y_assign rfl) ?_
          refine s_nil ?_
          refine W_ret ?_
          refine ret1 (v := .float .f64 r297) rfl rfl rfl ⟨_, rfl, ?_⟩
          exact ⟨⟨_, rfl, cnT hc301 (sinT_2 c5 (folT_2 c157))⟩, B.ext⟩
namespace T128
theorem mx : Try.prog.follows .mixedOrders = true := by kernel_rfl
theorem flt_34_f32 : Try.prog.underlying 34 = some (.float .f32) := by kernel_rfl
theorem flt_53_f64 : Try.prog.underlying 53 = some (.float .f64) := by kernel_rfl
theorem fn_147 : fnB Try.prog 147 = true := by kernel_rfl
theorem fn_148 : fnB Try.prog 148 = true := by kernel_rfl
theorem fn_85 : fnB Try.prog 85 = true := by kernel_rfl
theorem und_34 : (Try.prog.underlying 34).isSome = true := by kernel_rfl
theorem und_53 : (Try.prog.underlying 53).isSome = true := by kernel_rfl
end T128
set_option maxRecDepth 100000 in
set_option maxHeartbeats 4000000 in
theorem c_i_SineTurns {x : Nat} {X : Nat} {w : World} (hx : Cn .f32 x X) (hok : sinOK X = true) :
    Calls Try.prog 128 #[.float .f32 x] w (Rt fun v w' => (∃ r, v = .float .f32 r ∧ Cn .f32 r (SN X)) ∧ Ext0 w w') := by
  have B : Bu w no w [] := Bu.ro All.nil rfl
  refine calls_W (n := 16) Try.func128 rfl rfl (Nat.le_of_ble_eq_true rfl) ?_
  refine W_seq ?_
  refine W_region (by kernel_rfl) ?_
  refine s_y (v := .float .f32 0) rfl (y_assign rfl) ?_
  refine s_nil ?_
  refine W_seq ?_
  refine W_seq ?_
  refine W_region (by kernel_rfl) ?_
  refine s_y (v := .float .f32 x) rfl (y_move rfl) ?_
  refine s_k rfl (k_call T128.fn_85 (c_i_IsFinite hx) rfl ?_)
  rintro v3 w1 ⟨hv4, e2⟩
  replace B := B.ext0 e2
  clear e2
  have hk5 : finB X = true := (sinOK_all hok).1
  obtain rfl : v3 = .bool true := hv4.trans (congrArg Value.bool hk5)
  refine s_y (v := .bool false) rfl (y_not rfl rfl) ?_
  refine s_nil ?_
  refine W_if_f (by decide) rfl ?_
  refine W_skip ?_
  refine W_seq ?_
  refine W_seq ?_
  refine W_region (by kernel_rfl) ?_
  refine s_y (v := .float .f32 x) rfl (y_move rfl) ?_
  refine s_n rfl (n_wide T128.und_34 T128.flt_53_f64 rfl) ?_
  rintro _ w8 e9 ⟨r6, rfl, hr7⟩
  replace B := B.ext0 e9
  clear e9
  have hc10 := wideC hr7 hx
  refine s_k rfl (k_call T128.fn_147 (c_m_Abs hc10 ((sinOK_all hok).2.2.2.2)) rfl ?_)
  rintro _ w11 ⟨⟨r13, rfl, hr14⟩, e12⟩
  replace B := B.ext0 e12
  clear e12
  have hk15 : ¬ (fge .f64 (can .f64 (absT (widen X))) 4841369599423283200 = true) := (sinOK_all hok).2.1
  refine s_y (v := .bool false) rfl (y_fgeq rfl rfl (fgeC hr14 (cnLit (k := .f64) (t := 4841369599423283200) (by kernel_rfl) (by kernel_rfl)) (Bool.eq_false_iff.2 hk15))) ?_
  refine s_nil ?_
  refine W_if_f (by decide) rfl ?_
  refine W_skip ?_
  refine W_seq ?_
  refine W_region (by kernel_rfl) ?_
  refine s_y (v := .float .f32 x) rfl (y_move rfl) ?_
  refine s_n rfl (n_wide T128.und_34 T128.flt_53_f64 rfl) ?_
  rintro _ w18 e19 ⟨r16, rfl, hr17⟩
  replace B := B.ext0 e19
  clear e19
  have hc20 := wideC hr17 hx
  refine s_k rfl (k_call T128.fn_148 (c_i_sine hc20 ((sinOK_all hok).2.2.1)) rfl ?_)
  rintro _ w21 ⟨⟨r23, rfl, hr24⟩, e22⟩
  replace B := B.ext0 e22
  clear e22
  refine s_n rfl (n_narrow T128.und_53 T128.flt_34_f32 rfl hr24 (sinOK_all hok).2.2.2.1) ?_
  rintro _ w27 e28 ⟨r25, rfl, hr26⟩
  replace B := B.ext0 e28
  clear e28
  refine s_y (v := .float .f32 r25) rfl (y_assign rfl) ?_
  refine s_nil ?_
  refine W_ret ?_
  refine ret1 (v := .float .f32 r25) rfl rfl rfl ⟨_, rfl, ?_⟩
  exact ⟨⟨_, rfl, hr26⟩, B.ext⟩
namespace T127
theorem mx : Try.prog.follows .mixedOrders = true := by kernel_rfl
theorem fld_44_3_3 : fldB Try.prog 44 3 3 = true := by kernel_rfl
theorem fld_44_4_4 : fldB Try.prog 44 4 4 = true := by kernel_rfl
theorem flt_34_f32 : Try.prog.underlying 34 = some (.float .f32) := by kernel_rfl
theorem flt_53_f64 : Try.prog.underlying 53 = some (.float .f64) := by kernel_rfl
theorem fn_128 : fnB Try.prog 128 = true := by kernel_rfl
theorem one_34 : oneB Try.prog 34 = true := by kernel_rfl
theorem und_2 : (Try.prog.underlying 2).isSome = true := by kernel_rfl
theorem und_34 : (Try.prog.underlying 34).isSome = true := by kernel_rfl
theorem und_53 : (Try.prog.underlying 53).isSome = true := by kernel_rfl
end T127
set_option maxRecDepth 100000 in
set_option maxHeartbeats 4000000 in
theorem c_i_toneAt {kd : Int} {tt : Int} {ln : Int} {tn : Nat} {TN : Nat} {sz : Nat} {SZ : Nat} {sd : Int} {t : Int} {w : World} (htn : Cn .f32 tn TN) (hsz : Cn .f32 sz SZ) (h0 : 0 ≤ t) (h1 : t ≤ 2000000) (hok : tonOK TN t = true) :
    Calls Try.prog 127 #[.agg #[.int .i64 kd, .int .i64 tt, .int .i64 ln, .float .f32 tn, .float .f32 sz, .int .i64 sd], .int .i64 t] w (Rt fun v w' => (∃ r, v = .float .f32 r ∧ Cn .f32 r (tonT TN SZ t)) ∧ Ext0 w w') := by
  have B : Bu w no w [] := Bu.ro All.nil rfl
  refine calls_W (n := 16) Try.func127 rfl rfl (Nat.le_of_ble_eq_true rfl) ?_
  refine W_seq ?_
  refine W_region (by kernel_rfl) ?_
  refine s_k rfl (k_boxN (v := .agg #[.int .i64 kd, .int .i64 tt, .int .i64 ln, .float .f32 tn, .float .f32 sz, .int .i64 sd]) (cs := [.int .i64 kd, .int .i64 tt, .int .i64 ln, .float .f32 tn, .float .f32 sz, .int .i64 sd]) rfl rfl (fun b1 w2 hN3 => ?_))
  replace B := B.new1 hN3
  clear hN3
  refine s_y (v := .float .f32 0) rfl (y_assign rfl) ?_
  refine s_nil ?_
  refine W_seq ?_
  have B0_8 := B
  refine W_draw (no) T127.mx (by kernel_rfl) (fun w6 e7 => ?_)
  have R9 := Ext.refl (no) w2
  replace R9 := R9.trans (Ext0.any e7)
  replace B := B.ext0 e7
  clear e7
  refine m_y (v := .pointer (some ⟨b1, 4, none⟩)) 0 rfl (by kernel_rfl) rfl rfl (fun w' e' => y_fld (o := 0) T127.fld_44_4_4 rfl) ?_
  refine m_y (v := .float .f32 sz) 1 rfl (by kernel_rfl) rfl rfl (fun w' e' => y_load T127.one_34 rfl (((B0_8.b 0 rfl).ext0 e').cell (j := 4) rfl)) ?_
  refine m_y (v := .int .i64 t) 2 rfl (by kernel_rfl) rfl rfl (fun w' e' => y_move rfl) ?_
  refine m_y (v := .float .f64 (FloatKind.nearest .f64 t)) 3 rfl (by kernel_rfl) rfl rfl (fun w' e' => y_if T127.und_2 T127.flt_53_f64 rfl) ?_
  refine m_y (v := .pointer (some ⟨b1, 3, none⟩)) 4 rfl (by kernel_rfl) rfl rfl (fun w' e' => y_fld (o := 0) T127.fld_44_3_3 rfl) ?_
  refine m_y (v := .float .f32 tn) 5 rfl (by kernel_rfl) rfl rfl (fun w' e' => y_load T127.one_34 rfl (((B0_8.b 0 rfl).ext0 e').cell (j := 3) rfl)) ?_
  refine m_n 6 [7, 8, 9, 10, 11] rfl (by kernel_rfl) rfl rfl (fun w' e' => n_wide T127.und_34 T127.flt_53_f64 rfl) ?_
  rintro _ ⟨r10, rfl, hr11⟩
  have hc14 := wideC hr11 htn
  refine m_n 7 [8, 9, 10, 11] rfl (by kernel_rfl) rfl rfl (fun w' e' => n_arith (by decide) rfl rfl) ?_
  rintro _ ⟨r16, rfl, hr17⟩
  have hc20 := fopC hr17 (cn_nearest .f64 t) hc14
  refine m_n 8 [9, 10, 11] rfl (by kernel_rfl) rfl rfl (fun w' e' => n_narrow T127.und_53 T127.flt_34_f32 rfl hc20 (tonOK_all hok).1) ?_
  rintro _ ⟨r21, rfl, hr22⟩
  refine m_k 9 [10, 11] rfl (by kernel_rfl) rfl rfl (fun w25 e26 => ?_)
  replace R9 := R9.trans (Ext0.any e26)
  replace B := B.ext0 e26
  clear e26
  refine k_call T127.fn_128 (c_i_SineTurns hr22 ((tonOK_all hok).2)) rfl ?_
  rintro _ w27 ⟨⟨r29, rfl, hr30⟩, e28⟩
  replace R9 := R9.trans (Ext0.any e28)
  replace B := B.ext0 e28
  clear e28
  refine ⟨fun _ => R9, ?_⟩
  refine m_n 10 [11] rfl (by kernel_rfl) rfl rfl (fun w' e' => n_arith (by decide) rfl rfl) ?_
  rintro _ ⟨r32, rfl, hr33⟩
  have hc36 := fopC hr33 hsz hr30
  refine m_y (v := .float .f32 r32) 11 rfl (by kernel_rfl) rfl rfl (fun w' e' => y_assign rfl) ?_
  refine m_done (by kernel_rfl) (fun w37 e38 => ?_)
  replace B := B.ext0 e38
  clear e38
  clear B0_8 R9
  refine W_ret ?_
  refine ret1 (v := .float .f32 r32) rfl rfl rfl ⟨_, rfl, ?_⟩
  exact ⟨⟨_, rfl, hc36⟩, B.ext⟩
namespace T88
theorem mx : Try.prog.follows .mixedOrders = true := by kernel_rfl
end T88
set_option maxRecDepth 100000 in
set_option maxHeartbeats 4000000 in
theorem c_i_nextSeed {x : Int} {w : World} (h0 : 0 ≤ x) (h1 : x ≤ 2147483647) :
    Calls Try.prog 88 #[.int .i64 x] w (Rt fun v w' => v = .int .i64 (nextS x) ∧ Ext0 w w') := by
  have B : Bu w no w [] := Bu.ro All.nil rfl
  refine calls_W (n := 7) Try.func88 rfl rfl (Nat.le_of_ble_eq_true rfl) ?_
  refine W_seq ?_
  refine W_region (by kernel_rfl) ?_
  refine s_y (v := .int .i64 0) rfl (y_assign rfl) ?_
  refine s_nil ?_
  refine W_seq ?_
  refine W_region (by kernel_rfl) ?_
  refine s_y (v := .int .i64 x) rfl (y_move rfl) ?_
  refine s_y (v := .int .i64 (1103515245 * x)) rfl (y_mul rfl rfl rfl (by omega)) ?_
  refine s_y (v := .int .i64 ((1103515245 * x) + 12345)) rfl (y_add rfl rfl rfl (by omega)) ?_
  refine s_y (v := .int .i64 (((1103515245 * x) + 12345) % 2147483648)) rfl (y_rem rfl rfl (by omega) (by omega) rfl) ?_
  refine s_y (v := .int .i64 (((1103515245 * x) + 12345) % 2147483648)) rfl (y_assign rfl) ?_
  refine s_nil ?_
  refine W_ret ?_
  refine ret1 (v := .int .i64 (((1103515245 * x) + 12345) % 2147483648)) rfl rfl rfl ⟨_, rfl, ?_⟩
  exact ⟨rfl, B.ext⟩
namespace T83
theorem mx : Try.prog.follows .mixedOrders = true := by kernel_rfl
theorem agg_44_6 : aggB Try.prog 44 6 = true := by kernel_rfl
theorem fld_44_0_0 : fldB Try.prog 44 0 0 = true := by kernel_rfl
theorem fld_44_1_1 : fldB Try.prog 44 1 1 = true := by kernel_rfl
theorem fld_44_2_2 : fldB Try.prog 44 2 2 = true := by kernel_rfl
theorem fld_44_4_4 : fldB Try.prog 44 4 4 = true := by kernel_rfl
theorem fld_44_5_5 : fldB Try.prog 44 5 5 = true := by kernel_rfl
theorem flt_34_f32 : Try.prog.underlying 34 = some (.float .f32) := by kernel_rfl
theorem fn_127 : fnB Try.prog 127 = true := by kernel_rfl
theorem fn_128 : fnB Try.prog 128 = true := by kernel_rfl
theorem fn_88 : fnB Try.prog 88 = true := by kernel_rfl
theorem one_2 : oneB Try.prog 2 = true := by kernel_rfl
theorem one_34 : oneB Try.prog 34 = true := by kernel_rfl
theorem und_2 : (Try.prog.underlying 2).isSome = true := by kernel_rfl
end T83
set_option maxRecDepth 100000 in
set_option maxHeartbeats 4000000 in
theorem c_i_waveAt {kd : Int} {tt : Int} {ln : Int} {tn : Nat} {TN : Nat} {sz : Nat} {SZ : Nat} {sd : Int} {st : Int} {w : World} (htn : Cn .f32 tn TN) (hsz : Cn .f32 sz SZ) (hst0 : 0 ≤ st) (hst1 : st ≤ 1000100) (hk0 : 0 ≤ kd) (hk1 : kd ≤ 4) (ht0 : 0 ≤ tt) (ht1 : tt ≤ 1000000) (hl0 : 1 ≤ ln) (hl1 : ln ≤ 1000000) (hs0 : 0 ≤ sd) (hs1 : sd ≤ 2147483647) (hok : wavOK kd tt ln TN st) :
    Calls Try.prog 83 #[.agg #[.int .i64 kd, .int .i64 tt, .int .i64 ln, .float .f32 tn, .float .f32 sz, .int .i64 sd], .int .i64 st] w (Rt fun v w' => (∃ r, v = .float .f32 r ∧ Cn .f32 r (wavT kd tt ln TN SZ sd st)) ∧ Ext0 w w') := by
  have B : Bu w no w [] := Bu.ro All.nil rfl
  refine calls_W (n := 92) Try.func83 rfl rfl (Nat.le_of_ble_eq_true rfl) ?_
  refine W_seq ?_
  refine W_region (by kernel_rfl) ?_
  refine s_k rfl (k_boxN (v := .agg #[.int .i64 kd, .int .i64 tt, .int .i64 ln, .float .f32 tn, .float .f32 sz, .int .i64 sd]) (cs := [.int .i64 kd, .int .i64 tt, .int .i64 ln, .float .f32 tn, .float .f32 sz, .int .i64 sd]) rfl rfl (fun b1 w2 hN3 => ?_))
  replace B := B.new1 hN3
  clear hN3
  refine s_y (v := .float .f32 0) rfl (y_assign rfl) ?_
  refine s_nil ?_
  refine W_seq ?_
  refine W_region (by kernel_rfl) ?_
  refine s_y (v := .int .i64 st) rfl (y_move rfl) ?_
  refine s_y (v := .pointer (some ⟨b1, 1, none⟩)) rfl (y_fld (o := 0) T83.fld_44_1_1 rfl) ?_
  refine s_y (v := .int .i64 tt) rfl (y_load T83.one_2 rfl ((B.b 0 rfl).cell (j := 1) rfl)) ?_
  refine s_y (v := .int .i64 (st - tt)) rfl (y_sub rfl rfl rfl (by omega)) ?_
  refine s_y (v := .int .i64 (st - tt)) rfl (y_assign rfl) ?_
  refine s_nil ?_
  refine W_seq ?_
  refine W_seq ?_
  refine W_region (by kernel_rfl) ?_
  refine s_y (v := .int .i64 (st - tt)) rfl (y_move rfl) ?_
  by_cases c4 : (st - tt) < 0
  · refine s_y (v := .bool true) rfl (y_lss rfl rfl (decide_eq_true c4)) ?_
    refine s_y (v := .bool true) rfl (y_move rfl) ?_
    refine s_skip rfl ?_
    refine s_skip rfl ?_
    refine s_skip rfl ?_
    refine s_skip rfl ?_
    refine s_skip rfl ?_
    refine s_skip rfl ?_
    refine s_skip rfl ?_
    refine s_skip rfl ?_
    refine s_skip rfl ?_
    refine s_skip rfl ?_
    refine s_skip rfl ?_
    refine s_skip rfl ?_
    refine s_skip rfl ?_
    refine s_skip rfl ?_
    refine s_y (v := .bool true) rfl (y_pick_t rfl rfl) ?_
    refine s_nil ?_
    refine W_if_t (by decide) rfl ?_
    refine W_seq ?_
    refine W_region (by kernel_rfl) ?_
    refine s_y (v := .float .f32 0) rfl (y_assign rfl) ?_
    refine s_nil ?_
    refine W_ret ?_
    refine ret1 (v := .float .f32 0) rfl rfl rfl ⟨_, rfl, ?_⟩
    exact ⟨⟨_, rfl, cnT (cnLit (k := .f32) (t := 0) (by kernel_rfl) (by kernel_rfl)) (by first | (exfalso; omega) | (unfold wavT burT burA noiT; rw [if_pos (by omega)]) | (unfold wavT burT burA noiT; rw [if_neg (by omega), if_pos (by omega)]) | (unfold wavT burT burA noiT; rw [if_neg (by omega), if_neg (by omega), if_pos (by omega)]) | (unfold wavT burT burA noiT; rw [if_neg (by omega), if_neg (by omega), if_neg (by omega), if_pos (by omega)]) | (unfold wavT burT burA noiT; rw [if_neg (by omega), if_neg (by omega), if_neg (by omega), if_neg (by omega), if_pos (by omega), if_pos (by omega)]) | (unfold wavT burT burA noiT; rw [if_neg (by omega), if_neg (by omega), if_neg (by omega), if_neg (by omega), if_pos (by omega), if_neg (by omega)]) | (unfold wavT burT burA noiT; rw [if_neg (by omega), if_neg (by omega), if_neg (by omega), if_neg (by omega), if_neg (by omega)]))⟩, B.ext⟩
  · refine s_y (v := .bool false) rfl (y_lss rfl rfl (decide_eq_false c4)) ?_
    refine s_y (v := .bool false) rfl (y_move rfl) ?_
    refine s_y (v := .int .i64 (st - tt)) rfl (y_move rfl) ?_
    refine s_y (v := .pointer (some ⟨b1, 2, none⟩)) rfl (y_fld (o := 0) T83.fld_44_2_2 rfl) ?_
    refine s_y (v := .int .i64 ln) rfl (y_load T83.one_2 rfl ((B.b 0 rfl).cell (j := 2) rfl)) ?_
    by_cases c5 : ln ≤ (st - tt)
    · refine s_y (v := .bool true) rfl (y_geq rfl rfl (decide_eq_true c5)) ?_
      refine s_y (v := .bool true) rfl (y_move rfl) ?_
      refine s_y (v := .pointer (some ⟨b1, 0, none⟩)) rfl (y_fld (o := 0) T83.fld_44_0_0 rfl) ?_
      refine s_y (v := .int .i64 kd) rfl (y_load T83.one_2 rfl ((B.b 0 rfl).cell (j := 0) rfl)) ?_
      by_cases c6 : kd ≠ 1
      · refine s_y (v := .bool true) rfl (y_neq rfl rfl (decide_eq_true c6)) ?_
        refine s_y (v := .bool true) rfl (y_pick_t rfl rfl) ?_
        refine s_y (v := .bool true) rfl (y_move rfl) ?_
        refine s_y (v := .pointer (some ⟨b1, 0, none⟩)) rfl (y_fld (o := 0) T83.fld_44_0_0 rfl) ?_
        refine s_y (v := .int .i64 kd) rfl (y_load T83.one_2 rfl ((B.b 0 rfl).cell (j := 0) rfl)) ?_
        by_cases c7 : kd ≠ 3
        · refine s_y (v := .bool true) rfl (y_neq rfl rfl (decide_eq_true c7)) ?_
          refine s_y (v := .bool true) rfl (y_pick_t rfl rfl) ?_
          refine s_y (v := .bool true) rfl (y_pick_f rfl rfl) ?_
          refine s_nil ?_
          refine W_if_t (by decide) rfl ?_
          refine W_seq ?_
          refine W_region (by kernel_rfl) ?_
          refine s_y (v := .float .f32 0) rfl (y_assign rfl) ?_
          refine s_nil ?_
          refine W_ret ?_
          refine ret1 (v := .float .f32 0) rfl rfl rfl ⟨_, rfl, ?_⟩
          exact ⟨⟨_, rfl, cnT (cnLit (k := .f32) (t := 0) (by kernel_rfl) (by kernel_rfl)) (by first | (exfalso; omega) | (unfold wavT burT burA noiT; rw [if_pos (by omega)]) | (unfold wavT burT burA noiT; rw [if_neg (by omega), if_pos (by omega)]) | (unfold wavT burT burA noiT; rw [if_neg (by omega), if_neg (by omega), if_pos (by omega)]) | (unfold wavT burT burA noiT; rw [if_neg (by omega), if_neg (by omega), if_neg (by omega), if_pos (by omega)]) | (unfold wavT burT burA noiT; rw [if_neg (by omega), if_neg (by omega), if_neg (by omega), if_neg (by omega), if_pos (by omega), if_pos (by omega)]) | (unfold wavT burT burA noiT; rw [if_neg (by omega), if_neg (by omega), if_neg (by omega), if_neg (by omega), if_pos (by omega), if_neg (by omega)]) | (unfold wavT burT burA noiT; rw [if_neg (by omega), if_neg (by omega), if_neg (by omega), if_neg (by omega), if_neg (by omega)]))⟩, B.ext⟩
        · refine s_y (v := .bool false) rfl (y_neq rfl rfl (decide_eq_false c7)) ?_
          refine s_y (v := .bool false) rfl (y_pick_t rfl rfl) ?_
          refine s_y (v := .bool false) rfl (y_pick_f rfl rfl) ?_
          refine s_nil ?_
          refine W_if_f (by decide) rfl ?_
          refine W_skip ?_
          refine W_seq ?_
          refine W_seq ?_
          refine W_region (by kernel_rfl) ?_
          refine s_y (v := .pointer (some ⟨b1, 0, none⟩)) rfl (y_fld (o := 0) T83.fld_44_0_0 rfl) ?_
          refine s_y (v := .int .i64 kd) rfl (y_load T83.one_2 rfl ((B.b 0 rfl).cell (j := 0) rfl)) ?_
          refine s_nil ?_
          refine W_block ?_
          refine W_seq ?_
          refine W_region (by kernel_rfl) ?_
          by_cases c8 : kd = 0
          · refine s_y (v := .bool true) rfl (y_eql rfl rfl (decide_eq_true c8)) ?_
            refine s_y (v := .bool true) rfl (y_assign rfl) ?_
            refine s_nil ?_
            refine W_if_t (by decide) rfl ?_
            refine W_seq ?_
            refine W_region (by kernel_rfl) ?_
            refine s_y (v := .pointer (some ⟨b1, 4, none⟩)) rfl (y_fld (o := 0) T83.fld_44_4_4 rfl) ?_
            refine s_y (v := .float .f32 sz) rfl (y_load T83.one_34 rfl ((B.b 0 rfl).cell (j := 4) rfl)) ?_
            refine s_y (v := .float .f32 sz) rfl (y_assign rfl) ?_
            refine s_nil ?_
            refine W_ret ?_
            refine ret1 (v := .float .f32 sz) rfl rfl rfl ⟨_, rfl, ?_⟩
            exact ⟨⟨_, rfl, cnT hsz (by first | (exfalso; omega) | (unfold wavT burT burA noiT; rw [if_pos (by omega)]) | (unfold wavT burT burA noiT; rw [if_neg (by omega), if_pos (by omega)]) | (unfold wavT burT burA noiT; rw [if_neg (by omega), if_neg (by omega), if_pos (by omega)]) | (unfold wavT burT burA noiT; rw [if_neg (by omega), if_neg (by omega), if_neg (by omega), if_pos (by omega)]) | (unfold wavT burT burA noiT; rw [if_neg (by omega), if_neg (by omega), if_neg (by omega), if_neg (by omega), if_pos (by omega), if_pos (by omega)]) | (unfold wavT burT burA noiT; rw [if_neg (by omega), if_neg (by omega), if_neg (by omega), if_neg (by omega), if_pos (by omega), if_neg (by omega)]) | (unfold wavT burT burA noiT; rw [if_neg (by omega), if_neg (by omega), if_neg (by omega), if_neg (by omega), if_neg (by omega)]))⟩, B.ext⟩
          · refine s_y (v := .bool false) rfl (y_eql rfl rfl (decide_eq_false c8)) ?_
            refine s_y (v := .bool false) rfl (y_assign rfl) ?_
            refine s_nil ?_
            refine W_if_f (by decide) rfl ?_
            refine W_seq ?_
            refine W_region (by kernel_rfl) ?_
            by_cases c9 : kd = 1
            · refine s_y (v := .bool true) rfl (y_eql rfl rfl (decide_eq_true c9)) ?_
              refine s_y (v := .bool true) rfl (y_assign rfl) ?_
              refine s_nil ?_
              refine W_if_t (by decide) rfl ?_
              refine W_seq ?_
              refine W_region (by kernel_rfl) ?_
              refine s_y (v := .agg #[.int .i64 kd, .int .i64 tt, .int .i64 ln, .float .f32 tn, .float .f32 sz, .int .i64 sd]) rfl (y_loadn (b := b1) (o := 0) (vs := [.int .i64 kd, .int .i64 tt, .int .i64 ln, .float .f32 tn, .float .f32 sz, .int .i64 sd]) T83.agg_44_6 rfl rfl ((B.b 0 rfl).cells (o := 0) rfl)) ?_
              refine s_y (v := .int .i64 (st - tt)) rfl (y_move rfl) ?_
              refine s_k rfl (k_call T83.fn_127 (c_i_toneAt htn hsz (by omega) (by omega) ((hok (by omega)).1 (by omega))) rfl ?_)
              rintro _ w10 ⟨⟨r12, rfl, hr13⟩, e11⟩
              replace B := B.ext0 e11
              clear e11
              refine s_y (v := .float .f32 r12) rfl (y_assign rfl) ?_
              refine s_nil ?_
              refine W_ret ?_
              refine ret1 (v := .float .f32 r12) rfl rfl rfl ⟨_, rfl, ?_⟩
              exact ⟨⟨_, rfl, cnT hr13 (by first | (exfalso; omega) | (unfold wavT burT burA noiT; rw [if_pos (by omega)]) | (unfold wavT burT burA noiT; rw [if_neg (by omega), if_pos (by omega)]) | (unfold wavT burT burA noiT; rw [if_neg (by omega), if_neg (by omega), if_pos (by omega)]) | (unfold wavT burT burA noiT; rw [if_neg (by omega), if_neg (by omega), if_neg (by omega), if_pos (by omega)]) | (unfold wavT burT burA noiT; rw [if_neg (by omega), if_neg (by omega), if_neg (by omega), if_neg (by omega), if_pos (by omega), if_pos (by omega)]) | (unfold wavT burT burA noiT; rw [if_neg (by omega), if_neg (by omega), if_neg (by omega), if_neg (by omega), if_pos (by omega), if_neg (by omega)]) | (unfold wavT burT burA noiT; rw [if_neg (by omega), if_neg (by omega), if_neg (by omega), if_neg (by omega), if_neg (by omega)]))⟩, B.ext⟩
            · refine s_y (v := .bool false) rfl (y_eql rfl rfl (decide_eq_false c9)) ?_
              refine s_y (v := .bool false) rfl (y_assign rfl) ?_
              refine s_nil ?_
              refine W_if_f (by decide) rfl ?_
              refine W_seq ?_
              refine W_region (by kernel_rfl) ?_
              by_cases c14 : kd = 2
              · refine s_y (v := .bool true) rfl (y_eql rfl rfl (decide_eq_true c14)) ?_
                refine s_y (v := .bool true) rfl (y_assign rfl) ?_
                refine s_nil ?_
                refine W_if_t (by decide) rfl ?_
                refine W_seq ?_
                refine W_region (by kernel_rfl) ?_
                refine s_y (v := .int .i64 (st - tt)) rfl (y_move rfl) ?_
                refine s_y (v := .float .f32 (FloatKind.nearest .f32 (st - tt))) rfl (y_if T83.und_2 T83.flt_34_f32 rfl) ?_
                refine s_y (v := .pointer (some ⟨b1, 2, none⟩)) rfl (y_fld (o := 0) T83.fld_44_2_2 rfl) ?_
                refine s_y (v := .int .i64 ln) rfl (y_load T83.one_2 rfl ((B.b 0 rfl).cell (j := 2) rfl)) ?_
                refine s_y (v := .float .f32 (FloatKind.nearest .f32 ln)) rfl (y_if T83.und_2 T83.flt_34_f32 rfl) ?_
                refine s_n rfl (n_arith (by decide) rfl rfl) ?_
                rintro _ w18 e19 ⟨r16, rfl, hr17⟩
                replace B := B.ext0 e19
                clear e19
                have hc20 := fopC hr17 (cn_nearest .f32 (st - tt)) (cn_nearest .f32 ln)
                refine s_n rfl (n_arith (by decide) rfl rfl) ?_
                rintro _ w24 e25 ⟨r22, rfl, hr23⟩
                replace B := B.ext0 e25
                clear e25
                have hc26 := fopC hr23 (cnLit (k := .f32) (t := 1048576000) (by kernel_rfl) (by kernel_rfl)) hc20
                refine s_k rfl (k_call T83.fn_128 (c_i_SineTurns hc26 (((hok (by omega)).2 (by omega) (by omega)).2)) rfl ?_)
                rintro _ w27 ⟨⟨r29, rfl, hr30⟩, e28⟩
                replace B := B.ext0 e28
                clear e28
                refine s_n rfl (n_arith (by decide) rfl rfl) ?_
                rintro _ w34 e35 ⟨r32, rfl, hr33⟩
                replace B := B.ext0 e35
                clear e35
                have hc36 := fopC hr33 hr30 (cnLit (k := .f32) (t := 1073741824) (by kernel_rfl) (by kernel_rfl))
                refine s_y (v := .float .f32 r32) rfl (y_assign rfl) ?_
                refine s_nil ?_
                refine W_seq ?_
                refine W_region (by kernel_rfl) ?_
                refine s_y (v := .agg #[.int .i64 kd, .int .i64 tt, .int .i64 ln, .float .f32 tn, .float .f32 sz, .int .i64 sd]) rfl (y_loadn (b := b1) (o := 0) (vs := [.int .i64 kd, .int .i64 tt, .int .i64 ln, .float .f32 tn, .float .f32 sz, .int .i64 sd]) T83.agg_44_6 rfl rfl ((B.b 0 rfl).cells (o := 0) rfl)) ?_
                refine s_y (v := .int .i64 (st - tt)) rfl (y_move rfl) ?_
                refine s_k rfl (k_call T83.fn_127 (c_i_toneAt htn hsz (by omega) (by omega) (((hok (by omega)).2 (by omega) (by omega)).1)) rfl ?_)
                rintro _ w37 ⟨⟨r39, rfl, hr40⟩, e38⟩
                replace B := B.ext0 e38
                clear e38
                refine s_y (v := .float .f32 r32) rfl (y_move rfl) ?_
                refine s_n rfl (n_arith (by decide) rfl rfl) ?_
                rintro _ w44 e45 ⟨r42, rfl, hr43⟩
                replace B := B.ext0 e45
                clear e45
                have hc46 := fopC hr43 (cnLit (k := .f32) (t := 1056964608) (by kernel_rfl) (by kernel_rfl)) hc36
                refine s_n rfl (n_arith (by decide) rfl rfl) ?_
                rintro _ w50 e51 ⟨r48, rfl, hr49⟩
                replace B := B.ext0 e51
                clear e51
                have hc52 := fopC hr49 hr40 hc46
                refine s_y (v := .float .f32 r48) rfl (y_assign rfl) ?_
                refine s_nil ?_
                refine W_ret ?_
                refine ret1 (v := .float .f32 r48) rfl rfl rfl ⟨_, rfl, ?_⟩
                exact ⟨⟨_, rfl, cnT hc52 (by first | (exfalso; omega) | (unfold wavT burT burA noiT; rw [if_pos (by omega)]) | (unfold wavT burT burA noiT; rw [if_neg (by omega), if_pos (by omega)]) | (unfold wavT burT burA noiT; rw [if_neg (by omega), if_neg (by omega), if_pos (by omega)]) | (unfold wavT burT burA noiT; rw [if_neg (by omega), if_neg (by omega), if_neg (by omega), if_pos (by omega)]) | (unfold wavT burT burA noiT; rw [if_neg (by omega), if_neg (by omega), if_neg (by omega), if_neg (by omega), if_pos (by omega), if_pos (by omega)]) | (unfold wavT burT burA noiT; rw [if_neg (by omega), if_neg (by omega), if_neg (by omega), if_neg (by omega), if_pos (by omega), if_neg (by omega)]) | (unfold wavT burT burA noiT; rw [if_neg (by omega), if_neg (by omega), if_neg (by omega), if_neg (by omega), if_neg (by omega)]))⟩, B.ext⟩
              · refine s_y (v := .bool false) rfl (y_eql rfl rfl (decide_eq_false c14)) ?_
                refine s_y (v := .bool false) rfl (y_assign rfl) ?_
                refine s_nil ?_
                refine W_if_f (by decide) rfl ?_
                refine W_seq ?_
                refine W_region (by kernel_rfl) ?_
                by_cases c53 : kd = 3
                · refine s_y (v := .bool true) rfl (y_eql rfl rfl (decide_eq_true c53)) ?_
                  refine s_y (v := .bool true) rfl (y_assign rfl) ?_
                  refine s_nil ?_
                  refine W_if_t (by decide) rfl ?_
                  refine W_seq ?_
                  refine W_seq ?_
                  refine W_region (by kernel_rfl) ?_
                  refine s_y (v := .int .i64 (st - tt)) rfl (y_move rfl) ?_
                  refine s_y (v := .pointer (some ⟨b1, 2, none⟩)) rfl (y_fld (o := 0) T83.fld_44_2_2 rfl) ?_
                  refine s_y (v := .int .i64 ln) rfl (y_load T83.one_2 rfl ((B.b 0 rfl).cell (j := 2) rfl)) ?_
                  refine s_y (v := .bool true) rfl (y_geq rfl rfl (decide_eq_true c5)) ?_
                  refine s_nil ?_
                  refine W_if_t (by decide) rfl ?_
                  refine W_seq ?_
                  refine W_region (by kernel_rfl) ?_
                  refine s_y (v := .pointer (some ⟨b1, 4, none⟩)) rfl (y_fld (o := 0) T83.fld_44_4_4 rfl) ?_
                  refine s_y (v := .float .f32 sz) rfl (y_load T83.one_34 rfl ((B.b 0 rfl).cell (j := 4) rfl)) ?_
                  refine s_y (v := .float .f32 sz) rfl (y_assign rfl) ?_
                  refine s_nil ?_
                  refine W_ret ?_
                  refine ret1 (v := .float .f32 sz) rfl rfl rfl ⟨_, rfl, ?_⟩
                  exact ⟨⟨_, rfl, cnT hsz (by first | (exfalso; omega) | (unfold wavT burT burA noiT; rw [if_pos (by omega)]) | (unfold wavT burT burA noiT; rw [if_neg (by omega), if_pos (by omega)]) | (unfold wavT burT burA noiT; rw [if_neg (by omega), if_neg (by omega), if_pos (by omega)]) | (unfold wavT burT burA noiT; rw [if_neg (by omega), if_neg (by omega), if_neg (by omega), if_pos (by omega)]) | (unfold wavT burT burA noiT; rw [if_neg (by omega), if_neg (by omega), if_neg (by omega), if_neg (by omega), if_pos (by omega), if_pos (by omega)]) | (unfold wavT burT burA noiT; rw [if_neg (by omega), if_neg (by omega), if_neg (by omega), if_neg (by omega), if_pos (by omega), if_neg (by omega)]) | (unfold wavT burT burA noiT; rw [if_neg (by omega), if_neg (by omega), if_neg (by omega), if_neg (by omega), if_neg (by omega)]))⟩, B.ext⟩
                · refine s_y (v := .bool false) rfl (y_eql rfl rfl (decide_eq_false c53)) ?_
                  refine s_y (v := .bool false) rfl (y_assign rfl) ?_
                  refine s_nil ?_
                  refine W_if_f (by decide) rfl ?_
                  refine W_skip ?_
                  refine W_seq ?_
                  refine W_region (by kernel_rfl) ?_
                  refine s_y (v := .pointer (some ⟨b1, 5, none⟩)) rfl (y_fld (o := 0) T83.fld_44_5_5 rfl) ?_
                  refine s_y (v := .int .i64 sd) rfl (y_load T83.one_2 rfl ((B.b 0 rfl).cell (j := 5) rfl)) ?_
                  refine s_y (v := .int .i64 st) rfl (y_move rfl) ?_
                  refine s_y (v := .int .i64 (40503 * st)) rfl (y_mul rfl rfl rfl (by omega)) ?_
                  refine s_y (v := .int .i64 (sd + (40503 * st))) rfl (y_add rfl rfl rfl (by omega)) ?_
                  refine s_y (v := .int .i64 ((sd + (40503 * st)) % 2147483648)) rfl (y_rem rfl rfl (by omega) (by omega) rfl) ?_
                  refine s_k rfl (k_call T83.fn_88 (c_i_nextSeed (by omega) (by omega)) rfl ?_)
                  rintro _ w54 ⟨rfl, e55⟩
                  replace B := B.ext0 e55
                  clear e55
                  have hns56 := nextS_b ((sd + (40503 * st)) % 2147483648)
                  refine s_k rfl (k_call T83.fn_88 (c_i_nextSeed (by omega) (by omega)) rfl ?_)
                  rintro _ w57 ⟨rfl, e58⟩
                  replace B := B.ext0 e58
                  clear e58
                  have hns59 := nextS_b (nextS ((sd + (40503 * st)) % 2147483648))
                  refine s_y (v := .int .i64 ((nextS (nextS ((sd + (40503 * st)) % 2147483648))) / 65536)) rfl (y_quo rfl rfl (by omega) (by omega) (by omega) rfl) ?_
                  refine s_y (v := .int .i64 ((nextS (nextS ((sd + (40503 * st)) % 2147483648))) / 65536)) rfl (y_assign rfl) ?_
                  refine s_nil ?_
                  refine W_seq ?_
                  refine W_region (by kernel_rfl) ?_
                  refine s_y (v := .pointer (some ⟨b1, 4, none⟩)) rfl (y_fld (o := 0) T83.fld_44_4_4 rfl) ?_
                  refine s_y (v := .float .f32 sz) rfl (y_load T83.one_34 rfl ((B.b 0 rfl).cell (j := 4) rfl)) ?_
                  refine s_y (v := .int .i64 ((nextS (nextS ((sd + (40503 * st)) % 2147483648))) / 65536)) rfl (y_move rfl) ?_
                  refine s_y (v := .float .f32 (FloatKind.nearest .f32 ((nextS (nextS ((sd + (40503 * st)) % 2147483648))) / 65536))) rfl (y_if T83.und_2 T83.flt_34_f32 rfl) ?_
                  refine s_n rfl (n_arith (by decide) rfl rfl) ?_
                  rintro _ w63 e64 ⟨r61, rfl, hr62⟩
                  replace B := B.ext0 e64
                  clear e64
                  have hc65 := fopC hr62 (cn_nearest .f32 ((nextS (nextS ((sd + (40503 * st)) % 2147483648))) / 65536)) (cnLit (k := .f32) (t := 1182793728) (by kernel_rfl) (by kernel_rfl))
                  refine s_n rfl (n_arith (by decide) rfl rfl) ?_
                  rintro _ w69 e70 ⟨r67, rfl, hr68⟩
                  replace B := B.ext0 e70
                  clear e70
                  have hc71 := fopC hr68 hc65 (cnLit (k := .f32) (t := 1182793728) (by kernel_rfl) (by kernel_rfl))
                  refine s_n rfl (n_arith (by decide) rfl rfl) ?_
                  rintro _ w75 e76 ⟨r73, rfl, hr74⟩
                  replace B := B.ext0 e76
                  clear e76
                  have hc77 := fopC hr74 hsz hc71
                  refine s_y (v := .float .f32 r73) rfl (y_assign rfl) ?_
                  refine s_nil ?_
                  refine W_ret ?_
                  refine ret1 (v := .float .f32 r73) rfl rfl rfl ⟨_, rfl, ?_⟩
                  exact ⟨⟨_, rfl, cnT hc77 (by first | (exfalso; omega) | (unfold wavT burT burA noiT; rw [if_pos (by omega)]) | (unfold wavT burT burA noiT; rw [if_neg (by omega), if_pos (by omega)]) | (unfold wavT burT burA noiT; rw [if_neg (by omega), if_neg (by omega), if_pos (by omega)]) | (unfold wavT burT burA noiT; rw [if_neg (by omega), if_neg (by omega), if_neg (by omega), if_pos (by omega)]) | (unfold wavT burT burA noiT; rw [if_neg (by omega), if_neg (by omega), if_neg (by omega), if_neg (by omega), if_pos (by omega), if_pos (by omega)]) | (unfold wavT burT burA noiT; rw [if_neg (by omega), if_neg (by omega), if_neg (by omega), if_neg (by omega), if_pos (by omega), if_neg (by omega)]) | (unfold wavT burT burA noiT; rw [if_neg (by omega), if_neg (by omega), if_neg (by omega), if_neg (by omega), if_neg (by omega)]))⟩, B.ext⟩
      · refine s_y (v := .bool false) rfl (y_neq rfl rfl (decide_eq_false c6)) ?_
        refine s_y (v := .bool false) rfl (y_pick_t rfl rfl) ?_
        refine s_y (v := .bool false) rfl (y_move rfl) ?_
        refine s_skip rfl ?_
        refine s_skip rfl ?_
        refine s_skip rfl ?_
        refine s_y (v := .bool false) rfl (y_pick_f rfl rfl) ?_
        refine s_y (v := .bool false) rfl (y_pick_f rfl rfl) ?_
        refine s_nil ?_
        refine W_if_f (by decide) rfl ?_
        refine W_skip ?_
        refine W_seq ?_
        refine W_seq ?_
        refine W_region (by kernel_rfl) ?_
        refine s_y (v := .pointer (some ⟨b1, 0, none⟩)) rfl (y_fld (o := 0) T83.fld_44_0_0 rfl) ?_
        refine s_y (v := .int .i64 kd) rfl (y_load T83.one_2 rfl ((B.b 0 rfl).cell (j := 0) rfl)) ?_
        refine s_nil ?_
        refine W_block ?_
        refine W_seq ?_
        refine W_region (by kernel_rfl) ?_
        by_cases c78 : kd = 0
        · refine s_y (v := .bool true) rfl (y_eql rfl rfl (decide_eq_true c78)) ?_
          refine s_y (v := .bool true) rfl (y_assign rfl) ?_
          refine s_nil ?_
          refine W_if_t (by decide) rfl ?_
          refine W_seq ?_
          refine W_region (by kernel_rfl) ?_
          refine s_y (v := .pointer (some ⟨b1, 4, none⟩)) rfl (y_fld (o := 0) T83.fld_44_4_4 rfl) ?_
          refine s_y (v := .float .f32 sz) rfl (y_load T83.one_34 rfl ((B.b 0 rfl).cell (j := 4) rfl)) ?_
          refine s_y (v := .float .f32 sz) rfl (y_assign rfl) ?_
          refine s_nil ?_
          refine W_ret ?_
          refine ret1 (v := .float .f32 sz) rfl rfl rfl ⟨_, rfl, ?_⟩
          exact ⟨⟨_, rfl, cnT hsz (by first | (exfalso; omega) | (unfold wavT burT burA noiT; rw [if_pos (by omega)]) | (unfold wavT burT burA noiT; rw [if_neg (by omega), if_pos (by omega)]) | (unfold wavT burT burA noiT; rw [if_neg (by omega), if_neg (by omega), if_pos (by omega)]) | (unfold wavT burT burA noiT; rw [if_neg (by omega), if_neg (by omega), if_neg (by omega), if_pos (by omega)]) | (unfold wavT burT burA noiT; rw [if_neg (by omega), if_neg (by omega), if_neg (by omega), if_neg (by omega), if_pos (by omega), if_pos (by omega)]) | (unfold wavT burT burA noiT; rw [if_neg (by omega), if_neg (by omega), if_neg (by omega), if_neg (by omega), if_pos (by omega), if_neg (by omega)]) | (unfold wavT burT burA noiT; rw [if_neg (by omega), if_neg (by omega), if_neg (by omega), if_neg (by omega), if_neg (by omega)]))⟩, B.ext⟩
        · refine s_y (v := .bool false) rfl (y_eql rfl rfl (decide_eq_false c78)) ?_
          refine s_y (v := .bool false) rfl (y_assign rfl) ?_
          refine s_nil ?_
          refine W_if_f (by decide) rfl ?_
          refine W_seq ?_
          refine W_region (by kernel_rfl) ?_
          by_cases c79 : kd = 1
          · refine s_y (v := .bool true) rfl (y_eql rfl rfl (decide_eq_true c79)) ?_
            refine s_y (v := .bool true) rfl (y_assign rfl) ?_
            refine s_nil ?_
            refine W_if_t (by decide) rfl ?_
            refine W_seq ?_
            refine W_region (by kernel_rfl) ?_
            refine s_y (v := .agg #[.int .i64 kd, .int .i64 tt, .int .i64 ln, .float .f32 tn, .float .f32 sz, .int .i64 sd]) rfl (y_loadn (b := b1) (o := 0) (vs := [.int .i64 kd, .int .i64 tt, .int .i64 ln, .float .f32 tn, .float .f32 sz, .int .i64 sd]) T83.agg_44_6 rfl rfl ((B.b 0 rfl).cells (o := 0) rfl)) ?_
            refine s_y (v := .int .i64 (st - tt)) rfl (y_move rfl) ?_
            refine s_k rfl (k_call T83.fn_127 (c_i_toneAt htn hsz (by omega) (by omega) ((hok (by omega)).1 (by omega))) rfl ?_)
            rintro _ w80 ⟨⟨r82, rfl, hr83⟩, e81⟩
            replace B := B.ext0 e81
            clear e81
            refine s_y (v := .float .f32 r82) rfl (y_assign rfl) ?_
            refine s_nil ?_
            refine W_ret ?_
            refine ret1 (v := .float .f32 r82) rfl rfl rfl ⟨_, rfl, ?_⟩
            exact ⟨⟨_, rfl, cnT hr83 (by first | (exfalso; omega) | (unfold wavT burT burA noiT; rw [if_pos (by omega)]) | (unfold wavT burT burA noiT; rw [if_neg (by omega), if_pos (by omega)]) | (unfold wavT burT burA noiT; rw [if_neg (by omega), if_neg (by omega), if_pos (by omega)]) | (unfold wavT burT burA noiT; rw [if_neg (by omega), if_neg (by omega), if_neg (by omega), if_pos (by omega)]) | (unfold wavT burT burA noiT; rw [if_neg (by omega), if_neg (by omega), if_neg (by omega), if_neg (by omega), if_pos (by omega), if_pos (by omega)]) | (unfold wavT burT burA noiT; rw [if_neg (by omega), if_neg (by omega), if_neg (by omega), if_neg (by omega), if_pos (by omega), if_neg (by omega)]) | (unfold wavT burT burA noiT; rw [if_neg (by omega), if_neg (by omega), if_neg (by omega), if_neg (by omega), if_neg (by omega)]))⟩, B.ext⟩
          · refine s_y (v := .bool false) rfl (y_eql rfl rfl (decide_eq_false c79)) ?_
            refine s_y (v := .bool false) rfl (y_assign rfl) ?_
            refine s_nil ?_
            refine W_if_f (by decide) rfl ?_
            refine W_seq ?_
            refine W_region (by kernel_rfl) ?_
            by_cases c84 : kd = 2
            · refine s_y (v := .bool true) rfl (y_eql rfl rfl (decide_eq_true c84)) ?_
              refine s_y (v := .bool true) rfl (y_assign rfl) ?_
              refine s_nil ?_
              refine W_if_t (by decide) rfl ?_
              refine W_seq ?_
              refine W_region (by kernel_rfl) ?_
              refine s_y (v := .int .i64 (st - tt)) rfl (y_move rfl) ?_
              refine s_y (v := .float .f32 (FloatKind.nearest .f32 (st - tt))) rfl (y_if T83.und_2 T83.flt_34_f32 rfl) ?_
              refine s_y (v := .pointer (some ⟨b1, 2, none⟩)) rfl (y_fld (o := 0) T83.fld_44_2_2 rfl) ?_
              refine s_y (v := .int .i64 ln) rfl (y_load T83.one_2 rfl ((B.b 0 rfl).cell (j := 2) rfl)) ?_
              refine s_y (v := .float .f32 (FloatKind.nearest .f32 ln)) rfl (y_if T83.und_2 T83.flt_34_f32 rfl) ?_
              refine s_n rfl (n_arith (by decide) rfl rfl) ?_
              rintro _ w88 e89 ⟨r86, rfl, hr87⟩
              replace B := B.ext0 e89
              clear e89
              have hc90 := fopC hr87 (cn_nearest .f32 (st - tt)) (cn_nearest .f32 ln)
              refine s_n rfl (n_arith (by decide) rfl rfl) ?_
              rintro _ w94 e95 ⟨r92, rfl, hr93⟩
              replace B := B.ext0 e95
              clear e95
              have hc96 := fopC hr93 (cnLit (k := .f32) (t := 1048576000) (by kernel_rfl) (by kernel_rfl)) hc90
              refine s_k rfl (k_call T83.fn_128 (c_i_SineTurns hc96 (((hok (by omega)).2 (by omega) (by omega)).2)) rfl ?_)
              rintro _ w97 ⟨⟨r99, rfl, hr100⟩, e98⟩
              replace B := B.ext0 e98
              clear e98
              refine s_n rfl (n_arith (by decide) rfl rfl) ?_
              rintro _ w104 e105 ⟨r102, rfl, hr103⟩
              replace B := B.ext0 e105
              clear e105
              have hc106 := fopC hr103 hr100 (cnLit (k := .f32) (t := 1073741824) (by kernel_rfl) (by kernel_rfl))
              refine s_y (v := .float .f32 r102) rfl (y_assign rfl) ?_
              refine s_nil ?_
              refine W_seq ?_
              refine W_region (by kernel_rfl) ?_
              refine s_y (v := .agg #[.int .i64 kd, .int .i64 tt, .int .i64 ln, .float .f32 tn, .float .f32 sz, .int .i64 sd]) rfl (y_loadn (b := b1) (o := 0) (vs := [.int .i64 kd, .int .i64 tt, .int .i64 ln, .float .f32 tn, .float .f32 sz, .int .i64 sd]) T83.agg_44_6 rfl rfl ((B.b 0 rfl).cells (o := 0) rfl)) ?_
              refine s_y (v := .int .i64 (st - tt)) rfl (y_move rfl) ?_
              refine s_k rfl (k_call T83.fn_127 (c_i_toneAt htn hsz (by omega) (by omega) (((hok (by omega)).2 (by omega) (by omega)).1)) rfl ?_)
              rintro _ w107 ⟨⟨r109, rfl, hr110⟩, e108⟩
              replace B := B.ext0 e108
              clear e108
              refine s_y (v := .float .f32 r102) rfl (y_move rfl) ?_
              refine s_n rfl (n_arith (by decide) rfl rfl) ?_
              rintro _ w114 e115 ⟨r112, rfl, hr113⟩
              replace B := B.ext0 e115
              clear e115
              have hc116 := fopC hr113 (cnLit (k := .f32) (t := 1056964608) (by kernel_rfl) (by kernel_rfl)) hc106
              refine s_n rfl (n_arith (by decide) rfl rfl) ?_
              rintro _ w120 e121 ⟨r118, rfl, hr119⟩
              replace B := B.ext0 e121
              clear e121
              have hc122 := fopC hr119 hr110 hc116
              refine s_y (v := .float .f32 r118) rfl (y_assign rfl) ?_
              refine s_nil ?_
              refine W_ret ?_
              refine ret1 (v := .float .f32 r118) rfl rfl rfl ⟨_, rfl, ?_⟩
              exact ⟨⟨_, rfl, cnT hc122 (by first | (exfalso; omega) | (unfold wavT burT burA noiT; rw [if_pos (by omega)]) | (unfold wavT burT burA noiT; rw [if_neg (by omega), if_pos (by omega)]) | (unfold wavT burT burA noiT; rw [if_neg (by omega), if_neg (by omega), if_pos (by omega)]) | (unfold wavT burT burA noiT; rw [if_neg (by omega), if_neg (by omega), if_neg (by omega), if_pos (by omega)]) | (unfold wavT burT burA noiT; rw [if_neg (by omega), if_neg (by omega), if_neg (by omega), if_neg (by omega), if_pos (by omega), if_pos (by omega)]) | (unfold wavT burT burA noiT; rw [if_neg (by omega), if_neg (by omega), if_neg (by omega), if_neg (by omega), if_pos (by omega), if_neg (by omega)]) | (unfold wavT burT burA noiT; rw [if_neg (by omega), if_neg (by omega), if_neg (by omega), if_neg (by omega), if_neg (by omega)]))⟩, B.ext⟩
            · refine s_y (v := .bool false) rfl (y_eql rfl rfl (decide_eq_false c84)) ?_
              refine s_y (v := .bool false) rfl (y_assign rfl) ?_
              refine s_nil ?_
              refine W_if_f (by decide) rfl ?_
              refine W_seq ?_
              refine W_region (by kernel_rfl) ?_
              by_cases c123 : kd = 3
              · refine s_y (v := .bool true) rfl (y_eql rfl rfl (decide_eq_true c123)) ?_
                refine s_y (v := .bool true) rfl (y_assign rfl) ?_
                refine s_nil ?_
                refine W_if_t (by decide) rfl ?_
                refine W_seq ?_
                refine W_seq ?_
                refine W_region (by kernel_rfl) ?_
                refine s_y (v := .int .i64 (st - tt)) rfl (y_move rfl) ?_
                refine s_y (v := .pointer (some ⟨b1, 2, none⟩)) rfl (y_fld (o := 0) T83.fld_44_2_2 rfl) ?_
                refine s_y (v := .int .i64 ln) rfl (y_load T83.one_2 rfl ((B.b 0 rfl).cell (j := 2) rfl)) ?_
                refine s_y (v := .bool true) rfl (y_geq rfl rfl (decide_eq_true c5)) ?_
                refine s_nil ?_
                refine W_if_t (by decide) rfl ?_
                refine W_seq ?_
                refine W_region (by kernel_rfl) ?_
                refine s_y (v := .pointer (some ⟨b1, 4, none⟩)) rfl (y_fld (o := 0) T83.fld_44_4_4 rfl) ?_
                refine s_y (v := .float .f32 sz) rfl (y_load T83.one_34 rfl ((B.b 0 rfl).cell (j := 4) rfl)) ?_
                refine s_y (v := .float .f32 sz) rfl (y_assign rfl) ?_
                refine s_nil ?_
                refine W_ret ?_
                refine ret1 (v := .float .f32 sz) rfl rfl rfl ⟨_, rfl, ?_⟩
                exact ⟨⟨_, rfl, cnT hsz (by first | (exfalso; omega) | (unfold wavT burT burA noiT; rw [if_pos (by omega)]) | (unfold wavT burT burA noiT; rw [if_neg (by omega), if_pos (by omega)]) | (unfold wavT burT burA noiT; rw [if_neg (by omega), if_neg (by omega), if_pos (by omega)]) | (unfold wavT burT burA noiT; rw [if_neg (by omega), if_neg (by omega), if_neg (by omega), if_pos (by omega)]) | (unfold wavT burT burA noiT; rw [if_neg (by omega), if_neg (by omega), if_neg (by omega), if_neg (by omega), if_pos (by omega), if_pos (by omega)]) | (unfold wavT burT burA noiT; rw [if_neg (by omega), if_neg (by omega), if_neg (by omega), if_neg (by omega), if_pos (by omega), if_neg (by omega)]) | (unfold wavT burT burA noiT; rw [if_neg (by omega), if_neg (by omega), if_neg (by omega), if_neg (by omega), if_neg (by omega)]))⟩, B.ext⟩
              · refine s_y (v := .bool false) rfl (y_eql rfl rfl (decide_eq_false c123)) ?_
                refine s_y (v := .bool false) rfl (y_assign rfl) ?_
                refine s_nil ?_
                refine W_if_f (by decide) rfl ?_
                refine W_skip ?_
                refine W_seq ?_
                refine W_region (by kernel_rfl) ?_
                refine s_y (v := .pointer (some ⟨b1, 5, none⟩)) rfl (y_fld (o := 0) T83.fld_44_5_5 rfl) ?_
                refine s_y (v := .int .i64 sd) rfl (y_load T83.one_2 rfl ((B.b 0 rfl).cell (j := 5) rfl)) ?_
                refine s_y (v := .int .i64 st) rfl (y_move rfl) ?_
                refine s_y (v := .int .i64 (40503 * st)) rfl (y_mul rfl rfl rfl (by omega)) ?_
                refine s_y (v := .int .i64 (sd + (40503 * st))) rfl (y_add rfl rfl rfl (by omega)) ?_
                refine s_y (v := .int .i64 ((sd + (40503 * st)) % 2147483648)) rfl (y_rem rfl rfl (by omega) (by omega) rfl) ?_
                refine s_k rfl (k_call T83.fn_88 (c_i_nextSeed (by omega) (by omega)) rfl ?_)
                rintro _ w124 ⟨rfl, e125⟩
                replace B := B.ext0 e125
                clear e125
                have hns126 := nextS_b ((sd + (40503 * st)) % 2147483648)
                refine s_k rfl (k_call T83.fn_88 (c_i_nextSeed (by omega) (by omega)) rfl ?_)
                rintro _ w127 ⟨rfl, e128⟩
                replace B := B.ext0 e128
                clear e128
                have hns129 := nextS_b (nextS ((sd + (40503 * st)) % 2147483648))
                refine s_y (v := .int .i64 ((nextS (nextS ((sd + (40503 * st)) % 2147483648))) / 65536)) rfl (y_quo rfl rfl (by omega) (by omega) (by omega) rfl) ?_
                refine s_y (v := .int .i64 ((nextS (nextS ((sd + (40503 * st)) % 2147483648))) / 65536)) rfl (y_assign rfl) ?_
                refine s_nil ?_
                refine W_seq ?_
                refine W_region (by kernel_rfl) ?_
                refine s_y (v := .pointer (some ⟨b1, 4, none⟩)) rfl (y_fld (o := 0) T83.fld_44_4_4 rfl) ?_
                refine s_y (v := .float .f32 sz) rfl (y_load T83.one_34 rfl ((B.b 0 rfl).cell (j := 4) rfl)) ?_
                refine s_y (v := .int .i64 ((nextS (nextS ((sd + (40503 * st)) % 2147483648))) / 65536)) rfl (y_move rfl) ?_
                refine s_y (v := .float .f32 (FloatKind.nearest .f32 ((nextS (nextS ((sd + (40503 * st)) % 2147483648))) / 65536))) rfl (y_if T83.und_2 T83.flt_34_f32 rfl) ?_
                refine s_n rfl (n_arith (by decide) rfl rfl) ?_
                rintro _ w133 e134 ⟨r131, rfl, hr132⟩
                replace B := B.ext0 e134
                clear e134
                have hc135 := fopC hr132 (cn_nearest .f32 ((nextS (nextS ((sd + (40503 * st)) % 2147483648))) / 65536)) (cnLit (k := .f32) (t := 1182793728) (by kernel_rfl) (by kernel_rfl))
                refine s_n rfl (n_arith (by decide) rfl rfl) ?_
                rintro _ w139 e140 ⟨r137, rfl, hr138⟩
                replace B := B.ext0 e140
                clear e140
                have hc141 := fopC hr138 hc135 (cnLit (k := .f32) (t := 1182793728) (by kernel_rfl) (by kernel_rfl))
                refine s_n rfl (n_arith (by decide) rfl rfl) ?_
                rintro _ w145 e146 ⟨r143, rfl, hr144⟩
                replace B := B.ext0 e146
                clear e146
                have hc147 := fopC hr144 hsz hc141
                refine s_y (v := .float .f32 r143) rfl (y_assign rfl) ?_
                refine s_nil ?_
                refine W_ret ?_
                refine ret1 (v := .float .f32 r143) rfl rfl rfl ⟨_, rfl, ?_⟩
                exact ⟨⟨_, rfl, cnT hc147 (by first | (exfalso; omega) | (unfold wavT burT burA noiT; rw [if_pos (by omega)]) | (unfold wavT burT burA noiT; rw [if_neg (by omega), if_pos (by omega)]) | (unfold wavT burT burA noiT; rw [if_neg (by omega), if_neg (by omega), if_pos (by omega)]) | (unfold wavT burT burA noiT; rw [if_neg (by omega), if_neg (by omega), if_neg (by omega), if_pos (by omega)]) | (unfold wavT burT burA noiT; rw [if_neg (by omega), if_neg (by omega), if_neg (by omega), if_neg (by omega), if_pos (by omega), if_pos (by omega)]) | (unfold wavT burT burA noiT; rw [if_neg (by omega), if_neg (by omega), if_neg (by omega), if_neg (by omega), if_pos (by omega), if_neg (by omega)]) | (unfold wavT burT burA noiT; rw [if_neg (by omega), if_neg (by omega), if_neg (by omega), if_neg (by omega), if_neg (by omega)]))⟩, B.ext⟩
    · refine s_y (v := .bool false) rfl (y_geq rfl rfl (decide_eq_false c5)) ?_
      refine s_y (v := .bool false) rfl (y_move rfl) ?_
      refine s_skip rfl ?_
      refine s_skip rfl ?_
      refine s_skip rfl ?_
      refine s_y (v := .bool false) rfl (y_pick_f rfl rfl) ?_
      refine s_y (v := .bool false) rfl (y_move rfl) ?_
      refine s_skip rfl ?_
      refine s_skip rfl ?_
      refine s_skip rfl ?_
      refine s_y (v := .bool false) rfl (y_pick_f rfl rfl) ?_
      refine s_y (v := .bool false) rfl (y_pick_f rfl rfl) ?_
      refine s_nil ?_
      refine W_if_f (by decide) rfl ?_
      refine W_skip ?_
      refine W_seq ?_
      refine W_seq ?_
      refine W_region (by kernel_rfl) ?_
      refine s_y (v := .pointer (some ⟨b1, 0, none⟩)) rfl (y_fld (o := 0) T83.fld_44_0_0 rfl) ?_
      refine s_y (v := .int .i64 kd) rfl (y_load T83.one_2 rfl ((B.b 0 rfl).cell (j := 0) rfl)) ?_
      refine s_nil ?_
      refine W_block ?_
      refine W_seq ?_
      refine W_region (by kernel_rfl) ?_
      by_cases c148 : kd = 0
      · refine s_y (v := .bool true) rfl (y_eql rfl rfl (decide_eq_true c148)) ?_
        refine s_y (v := .bool true) rfl (y_assign rfl) ?_
        refine s_nil ?_
        refine W_if_t (by decide) rfl ?_
        refine W_seq ?_
        refine W_region (by kernel_rfl) ?_
        refine s_y (v := .pointer (some ⟨b1, 4, none⟩)) rfl (y_fld (o := 0) T83.fld_44_4_4 rfl) ?_
        refine s_y (v := .float .f32 sz) rfl (y_load T83.one_34 rfl ((B.b 0 rfl).cell (j := 4) rfl)) ?_
        refine s_y (v := .float .f32 sz) rfl (y_assign rfl) ?_
        refine s_nil ?_
        refine W_ret ?_
        refine ret1 (v := .float .f32 sz) rfl rfl rfl ⟨_, rfl, ?_⟩
        exact ⟨⟨_, rfl, cnT hsz (by first | (exfalso; omega) | (unfold wavT burT burA noiT; rw [if_pos (by omega)]) | (unfold wavT burT burA noiT; rw [if_neg (by omega), if_pos (by omega)]) | (unfold wavT burT burA noiT; rw [if_neg (by omega), if_neg (by omega), if_pos (by omega)]) | (unfold wavT burT burA noiT; rw [if_neg (by omega), if_neg (by omega), if_neg (by omega), if_pos (by omega)]) | (unfold wavT burT burA noiT; rw [if_neg (by omega), if_neg (by omega), if_neg (by omega), if_neg (by omega), if_pos (by omega), if_pos (by omega)]) | (unfold wavT burT burA noiT; rw [if_neg (by omega), if_neg (by omega), if_neg (by omega), if_neg (by omega), if_pos (by omega), if_neg (by omega)]) | (unfold wavT burT burA noiT; rw [if_neg (by omega), if_neg (by omega), if_neg (by omega), if_neg (by omega), if_neg (by omega)]))⟩, B.ext⟩
      · refine s_y (v := .bool false) rfl (y_eql rfl rfl (decide_eq_false c148)) ?_
        refine s_y (v := .bool false) rfl (y_assign rfl) ?_
        refine s_nil ?_
        refine W_if_f (by decide) rfl ?_
        refine W_seq ?_
        refine W_region (by kernel_rfl) ?_
        by_cases c149 : kd = 1
        · refine s_y (v := .bool true) rfl (y_eql rfl rfl (decide_eq_true c149)) ?_
          refine s_y (v := .bool true) rfl (y_assign rfl) ?_
          refine s_nil ?_
          refine W_if_t (by decide) rfl ?_
          refine W_seq ?_
          refine W_region (by kernel_rfl) ?_
          refine s_y (v := .agg #[.int .i64 kd, .int .i64 tt, .int .i64 ln, .float .f32 tn, .float .f32 sz, .int .i64 sd]) rfl (y_loadn (b := b1) (o := 0) (vs := [.int .i64 kd, .int .i64 tt, .int .i64 ln, .float .f32 tn, .float .f32 sz, .int .i64 sd]) T83.agg_44_6 rfl rfl ((B.b 0 rfl).cells (o := 0) rfl)) ?_
          refine s_y (v := .int .i64 (st - tt)) rfl (y_move rfl) ?_
          refine s_k rfl (k_call T83.fn_127 (c_i_toneAt htn hsz (by omega) (by omega) ((hok (by omega)).1 (by omega))) rfl ?_)
          rintro _ w150 ⟨⟨r152, rfl, hr153⟩, e151⟩
          replace B := B.ext0 e151
          clear e151
          refine s_y (v := .float .f32 r152) rfl (y_assign rfl) ?_
          refine s_nil ?_
          refine W_ret ?_
          refine ret1 (v := .float .f32 r152) rfl rfl rfl ⟨_, rfl, ?_⟩
          exact ⟨⟨_, rfl, cnT hr153 (by first | (exfalso; omega) | (unfold wavT burT burA noiT; rw [if_pos (by omega)]) | (unfold wavT burT burA noiT; rw [if_neg (by omega), if_pos (by omega)]) | (unfold wavT burT burA noiT; rw [if_neg (by omega), if_neg (by omega), if_pos (by omega)]) | (unfold wavT burT burA noiT; rw [if_neg (by omega), if_neg (by omega), if_neg (by omega), if_pos (by omega)]) | (unfold wavT burT burA noiT; rw [if_neg (by omega), if_neg (by omega), if_neg (by omega), if_neg (by omega), if_pos (by omega), if_pos (by omega)]) | (unfold wavT burT burA noiT; rw [if_neg (by omega), if_neg (by omega), if_neg (by omega), if_neg (by omega), if_pos (by omega), if_neg (by omega)]) | (unfold wavT burT burA noiT; rw [if_neg (by omega), if_neg (by omega), if_neg (by omega), if_neg (by omega), if_neg (by omega)]))⟩, B.ext⟩
        · refine s_y (v := .bool false) rfl (y_eql rfl rfl (decide_eq_false c149)) ?_
          refine s_y (v := .bool false) rfl (y_assign rfl) ?_
          refine s_nil ?_
          refine W_if_f (by decide) rfl ?_
          refine W_seq ?_
          refine W_region (by kernel_rfl) ?_
          by_cases c154 : kd = 2
          · refine s_y (v := .bool true) rfl (y_eql rfl rfl (decide_eq_true c154)) ?_
            refine s_y (v := .bool true) rfl (y_assign rfl) ?_
            refine s_nil ?_
            refine W_if_t (by decide) rfl ?_
            refine W_seq ?_
            refine W_region (by kernel_rfl) ?_
            refine s_y (v := .int .i64 (st - tt)) rfl (y_move rfl) ?_
            refine s_y (v := .float .f32 (FloatKind.nearest .f32 (st - tt))) rfl (y_if T83.und_2 T83.flt_34_f32 rfl) ?_
            refine s_y (v := .pointer (some ⟨b1, 2, none⟩)) rfl (y_fld (o := 0) T83.fld_44_2_2 rfl) ?_
            refine s_y (v := .int .i64 ln) rfl (y_load T83.one_2 rfl ((B.b 0 rfl).cell (j := 2) rfl)) ?_
            refine s_y (v := .float .f32 (FloatKind.nearest .f32 ln)) rfl (y_if T83.und_2 T83.flt_34_f32 rfl) ?_
            refine s_n rfl (n_arith (by decide) rfl rfl) ?_
            rintro _ w158 e159 ⟨r156, rfl, hr157⟩
            replace B := B.ext0 e159
            clear e159
            have hc160 := fopC hr157 (cn_nearest .f32 (st - tt)) (cn_nearest .f32 ln)
            refine s_n rfl (n_arith (by decide) rfl rfl) ?_
            rintro _ w164 e165 ⟨r162, rfl, hr163⟩
            replace B := B.ext0 e165
            clear e165
            have hc166 := fopC hr163 (cnLit (k := .f32) (t := 1048576000) (by kernel_rfl) (by kernel_rfl)) hc160
            refine s_k rfl (k_call T83.fn_128 (c_i_SineTurns hc166 (((hok (by omega)).2 (by omega) (by omega)).2)) rfl ?_)
            rintro _ w167 ⟨⟨r169, rfl, hr170⟩, e168⟩
            replace B := B.ext0 e168
            clear e168
            refine s_n rfl (n_arith (by decide) rfl rfl) ?_
            rintro _ w174 e175 ⟨r172, rfl, hr173⟩
            replace B := B.ext0 e175
            clear e175
            have hc176 := fopC hr173 hr170 (cnLit (k := .f32) (t := 1073741824) (by kernel_rfl) (by kernel_rfl))
            refine s_y (v := .float .f32 r172) rfl (y_assign rfl) ?_
            refine s_nil ?_
            refine W_seq ?_
            refine W_region (by kernel_rfl) ?_
            refine s_y (v := .agg #[.int .i64 kd, .int .i64 tt, .int .i64 ln, .float .f32 tn, .float .f32 sz, .int .i64 sd]) rfl (y_loadn (b := b1) (o := 0) (vs := [.int .i64 kd, .int .i64 tt, .int .i64 ln, .float .f32 tn, .float .f32 sz, .int .i64 sd]) T83.agg_44_6 rfl rfl ((B.b 0 rfl).cells (o := 0) rfl)) ?_
            refine s_y (v := .int .i64 (st - tt)) rfl (y_move rfl) ?_
            refine s_k rfl (k_call T83.fn_127 (c_i_toneAt htn hsz (by omega) (by omega) (((hok (by omega)).2 (by omega) (by omega)).1)) rfl ?_)
            rintro _ w177 ⟨⟨r179, rfl, hr180⟩, e178⟩
            replace B := B.ext0 e178
            clear e178
            refine s_y (v := .float .f32 r172) rfl (y_move rfl) ?_
            refine s_n rfl (n_arith (by decide) rfl rfl) ?_
            rintro _ w184 e185 ⟨r182, rfl, hr183⟩
            replace B := B.ext0 e185
            clear e185
            have hc186 := fopC hr183 (cnLit (k := .f32) (t := 1056964608) (by kernel_rfl) (by kernel_rfl)) hc176
            refine s_n rfl (n_arith (by decide) rfl rfl) ?_
            rintro _ w190 e191 ⟨r188, rfl, hr189⟩
            replace B := B.ext0 e191
            clear e191
            have hc192 := fopC hr189 hr180 hc186
            refine s_y (v := .float .f32 r188) rfl (y_assign rfl) ?_
            refine s_nil ?_
            refine W_ret ?_
            refine ret1 (v := .float .f32 r188) rfl rfl rfl ⟨_, rfl, ?_⟩
            exact ⟨⟨_, rfl, cnT hc192 (by first | (exfalso; omega) | (unfold wavT burT burA noiT; rw [if_pos (by omega)]) | (unfold wavT burT burA noiT; rw [if_neg (by omega), if_pos (by omega)]) | (unfold wavT burT burA noiT; rw [if_neg (by omega), if_neg (by omega), if_pos (by omega)]) | (unfold wavT burT burA noiT; rw [if_neg (by omega), if_neg (by omega), if_neg (by omega), if_pos (by omega)]) | (unfold wavT burT burA noiT; rw [if_neg (by omega), if_neg (by omega), if_neg (by omega), if_neg (by omega), if_pos (by omega), if_pos (by omega)]) | (unfold wavT burT burA noiT; rw [if_neg (by omega), if_neg (by omega), if_neg (by omega), if_neg (by omega), if_pos (by omega), if_neg (by omega)]) | (unfold wavT burT burA noiT; rw [if_neg (by omega), if_neg (by omega), if_neg (by omega), if_neg (by omega), if_neg (by omega)]))⟩, B.ext⟩
          · refine s_y (v := .bool false) rfl (y_eql rfl rfl (decide_eq_false c154)) ?_
            refine s_y (v := .bool false) rfl (y_assign rfl) ?_
            refine s_nil ?_
            refine W_if_f (by decide) rfl ?_
            refine W_seq ?_
            refine W_region (by kernel_rfl) ?_
            by_cases c193 : kd = 3
            · refine s_y (v := .bool true) rfl (y_eql rfl rfl (decide_eq_true c193)) ?_
              refine s_y (v := .bool true) rfl (y_assign rfl) ?_
              refine s_nil ?_
              refine W_if_t (by decide) rfl ?_
              refine W_seq ?_
              refine W_seq ?_
              refine W_region (by kernel_rfl) ?_
              refine s_y (v := .int .i64 (st - tt)) rfl (y_move rfl) ?_
              refine s_y (v := .pointer (some ⟨b1, 2, none⟩)) rfl (y_fld (o := 0) T83.fld_44_2_2 rfl) ?_
              refine s_y (v := .int .i64 ln) rfl (y_load T83.one_2 rfl ((B.b 0 rfl).cell (j := 2) rfl)) ?_
              refine s_y (v := .bool false) rfl (y_geq rfl rfl (decide_eq_false c5)) ?_
              refine s_nil ?_
              refine W_if_f (by decide) rfl ?_
              refine W_skip ?_
              refine W_seq ?_
              refine W_region (by kernel_rfl) ?_
              refine s_y (v := .pointer (some ⟨b1, 4, none⟩)) rfl (y_fld (o := 0) T83.fld_44_4_4 rfl) ?_
              refine s_y (v := .float .f32 sz) rfl (y_load T83.one_34 rfl ((B.b 0 rfl).cell (j := 4) rfl)) ?_
              refine s_y (v := .int .i64 (st - tt)) rfl (y_move rfl) ?_
              refine s_y (v := .int .i64 ((st - tt) + 1)) rfl (y_add rfl rfl rfl (by omega)) ?_
              refine s_y (v := .float .f32 (FloatKind.nearest .f32 ((st - tt) + 1))) rfl (y_if T83.und_2 T83.flt_34_f32 rfl) ?_
              refine s_y (v := .pointer (some ⟨b1, 2, none⟩)) rfl (y_fld (o := 0) T83.fld_44_2_2 rfl) ?_
              refine s_y (v := .int .i64 ln) rfl (y_load T83.one_2 rfl ((B.b 0 rfl).cell (j := 2) rfl)) ?_
              refine s_y (v := .float .f32 (FloatKind.nearest .f32 ln)) rfl (y_if T83.und_2 T83.flt_34_f32 rfl) ?_
              refine s_n rfl (n_arith (by decide) rfl rfl) ?_
              rintro _ w197 e198 ⟨r195, rfl, hr196⟩
              replace B := B.ext0 e198
              clear e198
              have hc199 := fopC hr196 (cn_nearest .f32 ((st - tt) + 1)) (cn_nearest .f32 ln)
              refine s_n rfl (n_arith (by decide) rfl rfl) ?_
              rintro _ w203 e204 ⟨r201, rfl, hr202⟩
              replace B := B.ext0 e204
              clear e204
              have hc205 := fopC hr202 hsz hc199
              refine s_y (v := .float .f32 r201) rfl (y_assign rfl) ?_
              refine s_nil ?_
              refine W_ret ?_
              refine ret1 (v := .float .f32 r201) rfl rfl rfl ⟨_, rfl, ?_⟩
              exact ⟨⟨_, rfl, cnT hc205 (by first | (exfalso; omega) | (unfold wavT burT burA noiT; rw [if_pos (by omega)]) | (unfold wavT burT burA noiT; rw [if_neg (by omega), if_pos (by omega)]) | (unfold wavT burT burA noiT; rw [if_neg (by omega), if_neg (by omega), if_pos (by omega)]) | (unfold wavT burT burA noiT; rw [if_neg (by omega), if_neg (by omega), if_neg (by omega), if_pos (by omega)]) | (unfold wavT burT burA noiT; rw [if_neg (by omega), if_neg (by omega), if_neg (by omega), if_neg (by omega), if_pos (by omega), if_pos (by omega)]) | (unfold wavT burT burA noiT; rw [if_neg (by omega), if_neg (by omega), if_neg (by omega), if_neg (by omega), if_pos (by omega), if_neg (by omega)]) | (unfold wavT burT burA noiT; rw [if_neg (by omega), if_neg (by omega), if_neg (by omega), if_neg (by omega), if_neg (by omega)]))⟩, B.ext⟩
            · refine s_y (v := .bool false) rfl (y_eql rfl rfl (decide_eq_false c193)) ?_
              refine s_y (v := .bool false) rfl (y_assign rfl) ?_
              refine s_nil ?_
              refine W_if_f (by decide) rfl ?_
              refine W_skip ?_
              refine W_seq ?_
              refine W_region (by kernel_rfl) ?_
              refine s_y (v := .pointer (some ⟨b1, 5, none⟩)) rfl (y_fld (o := 0) T83.fld_44_5_5 rfl) ?_
              refine s_y (v := .int .i64 sd) rfl (y_load T83.one_2 rfl ((B.b 0 rfl).cell (j := 5) rfl)) ?_
              refine s_y (v := .int .i64 st) rfl (y_move rfl) ?_
              refine s_y (v := .int .i64 (40503 * st)) rfl (y_mul rfl rfl rfl (by omega)) ?_
              refine s_y (v := .int .i64 (sd + (40503 * st))) rfl (y_add rfl rfl rfl (by omega)) ?_
              refine s_y (v := .int .i64 ((sd + (40503 * st)) % 2147483648)) rfl (y_rem rfl rfl (by omega) (by omega) rfl) ?_
              refine s_k rfl (k_call T83.fn_88 (c_i_nextSeed (by omega) (by omega)) rfl ?_)
              rintro _ w206 ⟨rfl, e207⟩
              replace B := B.ext0 e207
              clear e207
              have hns208 := nextS_b ((sd + (40503 * st)) % 2147483648)
              refine s_k rfl (k_call T83.fn_88 (c_i_nextSeed (by omega) (by omega)) rfl ?_)
              rintro _ w209 ⟨rfl, e210⟩
              replace B := B.ext0 e210
              clear e210
              have hns211 := nextS_b (nextS ((sd + (40503 * st)) % 2147483648))
              refine s_y (v := .int .i64 ((nextS (nextS ((sd + (40503 * st)) % 2147483648))) / 65536)) rfl (y_quo rfl rfl (by omega) (by omega) (by omega) rfl) ?_
              refine s_y (v := .int .i64 ((nextS (nextS ((sd + (40503 * st)) % 2147483648))) / 65536)) rfl (y_assign rfl) ?_
              refine s_nil ?_
              refine W_seq ?_
              refine W_region (by kernel_rfl) ?_
              refine s_y (v := .pointer (some ⟨b1, 4, none⟩)) rfl (y_fld (o := 0) T83.fld_44_4_4 rfl) ?_
              refine s_y (v := .float .f32 sz) rfl (y_load T83.one_34 rfl ((B.b 0 rfl).cell (j := 4) rfl)) ?_
              refine s_y (v := .int .i64 ((nextS (nextS ((sd + (40503 * st)) % 2147483648))) / 65536)) rfl (y_move rfl) ?_
              refine s_y (v := .float .f32 (FloatKind.nearest .f32 ((nextS (nextS ((sd + (40503 * st)) % 2147483648))) / 65536))) rfl (y_if T83.und_2 T83.flt_34_f32 rfl) ?_
              refine s_n rfl (n_arith (by decide) rfl rfl) ?_
              rintro _ w215 e216 ⟨r213, rfl, hr214⟩
              replace B := B.ext0 e216
              clear e216
              have hc217 := fopC hr214 (cn_nearest .f32 ((nextS (nextS ((sd + (40503 * st)) % 2147483648))) / 65536)) (cnLit (k := .f32) (t := 1182793728) (by kernel_rfl) (by kernel_rfl))
              refine s_n rfl (n_arith (by decide) rfl rfl) ?_
              rintro _ w221 e222 ⟨r219, rfl, hr220⟩
              replace B := B.ext0 e222
              clear e222
              have hc223 := fopC hr220 hc217 (cnLit (k := .f32) (t := 1182793728) (by kernel_rfl) (by kernel_rfl))
              refine s_n rfl (n_arith (by decide) rfl rfl) ?_
              rintro _ w227 e228 ⟨r225, rfl, hr226⟩
              replace B := B.ext0 e228
              clear e228
              have hc229 := fopC hr226 hsz hc223
              refine s_y (v := .float .f32 r225) rfl (y_assign rfl) ?_
              refine s_nil ?_
              refine W_ret ?_
              refine ret1 (v := .float .f32 r225) rfl rfl rfl ⟨_, rfl, ?_⟩
              exact ⟨⟨_, rfl, cnT hc229 (by first | (exfalso; omega) | (unfold wavT burT burA noiT; rw [if_pos (by omega)]) | (unfold wavT burT burA noiT; rw [if_neg (by omega), if_pos (by omega)]) | (unfold wavT burT burA noiT; rw [if_neg (by omega), if_neg (by omega), if_pos (by omega)]) | (unfold wavT burT burA noiT; rw [if_neg (by omega), if_neg (by omega), if_neg (by omega), if_pos (by omega)]) | (unfold wavT burT burA noiT; rw [if_neg (by omega), if_neg (by omega), if_neg (by omega), if_neg (by omega), if_pos (by omega), if_pos (by omega)]) | (unfold wavT burT burA noiT; rw [if_neg (by omega), if_neg (by omega), if_neg (by omega), if_neg (by omega), if_pos (by omega), if_neg (by omega)]) | (unfold wavT burT burA noiT; rw [if_neg (by omega), if_neg (by omega), if_neg (by omega), if_neg (by omega), if_neg (by omega)]))⟩, B.ext⟩
end Go.Proofs.Ytgohmocjjmkepaa
