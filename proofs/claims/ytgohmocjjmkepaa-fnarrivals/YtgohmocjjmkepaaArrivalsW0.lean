/- Walks: what the functions under FnArrivals do (part 1). Printed by a program of this claim's author. -/
import Derived.Test.YtgohmocjjmkepaaBw1
set_option linter.unusedSimpArgs false
set_option linter.unusedVariables false
open Go.Wv
namespace Go.Proofs.Ytgohmocjjmkepaa
open Go.Proofs
namespace T22
theorem mx : Try.prog.follows .mixedOrders = true := by kernel_rfl
theorem sl_22_5_1 : slB Try.prog 22 5 1 = true := by kernel_rfl
end T22
set_option maxRecDepth 100000 in
set_option maxHeartbeats 4000000 in
theorem c_l_r8Long {aq : Option Addr} {nq : Nat} {cq : Nat} {Xq : List Nat} {ar : Option Addr} {nr : Nat} {cr : Nat} {Xr : List Nat} {w : World} (qq : Rd w kY aq nq Xq) (qr : Rd w kY ar nr Xr) (gq : nq ≤ 9223372036854775807) (gr : nr ≤ 9223372036854775807) :
    Calls Try.prog 22 #[.slice aq nq cq, .slice ar nr cr] w (Rt fun v w' => v = .bool ((decide (48 < (nq : Int)) || decide (48 < (nr : Int)))) ∧ Ext0 w w') := by
  have hlq := qq.len
  have hlr := qr.len
  have B : Bu w no w [.rd kY aq nq Xq, .rd kY ar nr Xr] := Bu.ro (All.cons qq (All.cons qr All.nil)) rfl
  refine calls_W (n := 13) Try.func22 rfl rfl (Nat.le_of_ble_eq_true rfl) ?_
  refine W_seq ?_
  refine W_region (by kernel_rfl) ?_
  refine s_y (v := .bool false) rfl (y_assign rfl) ?_
  refine s_nil ?_
  refine W_seq ?_
  refine W_region (by kernel_rfl) ?_
  refine s_y (v := .slice aq nq cq) rfl (y_move rfl) ?_
  refine s_y (v := .int .i64 ((nq : Nat) : Int)) rfl (y_len T22.sl_22_5_1 rfl rfl) ?_
  by_cases c1 : 48 < ((nq : Nat) : Int)
  · refine s_y (v := .bool true) rfl (y_gtr rfl rfl (decide_eq_true c1)) ?_
    refine s_y (v := .bool true) rfl (y_move rfl) ?_
    refine s_skip rfl ?_
    refine s_skip rfl ?_
    refine s_skip rfl ?_
    refine s_y (v := .bool true) rfl (y_pick_t rfl rfl) ?_
    refine s_y (v := .bool true) rfl (y_assign rfl) ?_
    refine s_nil ?_
    refine W_ret ?_
    refine ret1 (v := .bool true) rfl rfl rfl ⟨_, rfl, ?_⟩
    exact ⟨congrArg Value.bool (by simp only [(decide_eq_true c1), Bool.and_true, Bool.true_and, Bool.and_false, Bool.false_and, Bool.not_true, Bool.not_false, Bool.or_true, Bool.true_or, Bool.or_false, Bool.false_or]), B.ext⟩
  · refine s_y (v := .bool false) rfl (y_gtr rfl rfl (decide_eq_false c1)) ?_
    refine s_y (v := .bool false) rfl (y_move rfl) ?_
    refine s_y (v := .slice ar nr cr) rfl (y_move rfl) ?_
    refine s_y (v := .int .i64 ((nr : Nat) : Int)) rfl (y_len T22.sl_22_5_1 rfl rfl) ?_
    by_cases c2 : 48 < ((nr : Nat) : Int)
    · refine s_y (v := .bool true) rfl (y_gtr rfl rfl (decide_eq_true c2)) ?_
      refine s_y (v := .bool true) rfl (y_pick_f rfl rfl) ?_
      refine s_y (v := .bool true) rfl (y_assign rfl) ?_
      refine s_nil ?_
      refine W_ret ?_
      refine ret1 (v := .bool true) rfl rfl rfl ⟨_, rfl, ?_⟩
      exact ⟨congrArg Value.bool (by simp only [(decide_eq_false c1), (decide_eq_true c2), Bool.and_true, Bool.true_and, Bool.and_false, Bool.false_and, Bool.not_true, Bool.not_false, Bool.or_true, Bool.true_or, Bool.or_false, Bool.false_or]), B.ext⟩
    · refine s_y (v := .bool false) rfl (y_gtr rfl rfl (decide_eq_false c2)) ?_
      refine s_y (v := .bool false) rfl (y_pick_f rfl rfl) ?_
      refine s_y (v := .bool false) rfl (y_assign rfl) ?_
      refine s_nil ?_
      refine W_ret ?_
      refine ret1 (v := .bool false) rfl rfl rfl ⟨_, rfl, ?_⟩
      exact ⟨congrArg Value.bool (by simp only [(decide_eq_false c1), (decide_eq_false c2), Bool.and_true, Bool.true_and, Bool.and_false, Bool.false_and, Bool.not_true, Bool.not_false, Bool.or_true, Bool.true_or, Bool.or_false, Bool.false_or]), B.ext⟩
namespace T63
theorem mx : Try.prog.follows .mixedOrders = true := by kernel_rfl
end T63
set_option maxRecDepth 100000 in
set_option maxHeartbeats 4000000 in
theorem c_s_l00From {aq : Option Addr} {nq : Nat} {cq : Nat} {Xq : List Nat} {w : World} (qq : Rd w kY aq nq Xq) :
    Calls Try.prog 63 #[.slice aq nq cq] w (Rt fun v w' => ∃ b, v = .pointer (some ⟨b, 0, none⟩) ∧ New w w' [.blk b [.slice aq nq cq, .int .i64 0, .int .u64 0] 131]) := by
  have hlq := qq.len
  have B : Bu w no w [.rd kY aq nq Xq] := Bu.ro (All.cons qq All.nil) rfl
  refine calls_W (n := 6) Try.func63 rfl rfl (Nat.le_of_ble_eq_true rfl) ?_
  refine W_seq ?_
  refine W_region (by kernel_rfl) ?_
  refine s_y (v := .pointer none) rfl (y_assign rfl) ?_
  refine s_nil ?_
  refine W_seq ?_
  refine W_region (by kernel_rfl) ?_
  refine s_y (v := .slice aq nq cq) rfl (y_move rfl) ?_
  refine s_y (v := .agg #[.slice aq nq cq, .int .i64 0, .int .u64 0]) rfl (y_build (cells := #[.slice aq nq cq, .int .i64 0, .int .u64 0]) (by kernel_rfl)) ?_
  refine s_k rfl (k_boxN (v := .agg #[.slice aq nq cq, .int .i64 0, .int .u64 0]) (cs := [.slice aq nq cq, .int .i64 0, .int .u64 0]) rfl rfl (fun b1 w2 hN3 => ?_))
  replace B := B.new1 hN3
  clear hN3
  refine s_y (v := .pointer (some ⟨b1, 0, none⟩)) rfl (y_assign rfl) ?_
  refine s_nil ?_
  refine W_ret ?_
  refine ret1 (v := .pointer (some ⟨b1, 0, none⟩)) rfl rfl rfl ⟨_, rfl, ?_⟩
  exact ⟨_, rfl, B.give [0] rfl rfl rfl⟩
namespace T126
theorem mx : Try.prog.follows .mixedOrders = true := by kernel_rfl
theorem fld_131_0_0 : fldB Try.prog 131 0 0 = true := by kernel_rfl
theorem fld_131_1_1 : fldB Try.prog 131 1 1 = true := by kernel_rfl
theorem fld_131_2_2 : fldB Try.prog 131 2 2 = true := by kernel_rfl
theorem int_129_u64 : Try.prog.underlying 129 = some (.int .u64) := by kernel_rfl
theorem int_2_i64 : Try.prog.underlying 2 = some (.int .i64) := by kernel_rfl
theorem int_3_i64 : Try.prog.underlying 3 = some (.int .i64) := by kernel_rfl
theorem one_129 : oneB Try.prog 129 = true := by kernel_rfl
theorem one_22 : oneB Try.prog 22 = true := by kernel_rfl
theorem one_3 : oneB Try.prog 3 = true := by kernel_rfl
theorem one_5 : oneB Try.prog 5 = true := by kernel_rfl
theorem sl_22_5_1 : slB Try.prog 22 5 1 = true := by kernel_rfl
theorem sz_129_1 : szB Try.prog 129 1 = true := by kernel_rfl
theorem sz_3_1 : szB Try.prog 3 1 = true := by kernel_rfl
theorem und_129 : (Try.prog.underlying 129).isSome = true := by kernel_rfl
theorem und_3 : (Try.prog.underlying 3).isSome = true := by kernel_rfl
theorem und_5 : (Try.prog.underlying 5).isSome = true := by kernel_rfl
end T126
set_option maxRecDepth 100000 in
set_option maxHeartbeats 4000000 in
theorem c_s_next {bs : Nat} {aq : Option Addr} {nq cq : Nat} {Xq : List Nat} {p sd : Int} {w : World} (hp0 : 0 ≤ p) (hp1 : p ≤ 1000000) (HA : All w [.blk bs [.slice aq nq cq, .int .i64 p, .int .u64 sd] 131, .rd kY aq nq Xq]) (HP : Pw [.blk bs [.slice aq nq cq, .int .i64 p, .int .u64 sd] 131, .rd kY aq nq Xq]) :
    Calls Try.prog 126 #[.pointer (some ⟨bs, 0, none⟩)] w (Rt fun v w' => v = .int .i64 (nxV Xq p sd) ∧ Upd w w' [.blk bs [.slice aq nq cq, .int .i64 p, .int .u64 sd] 131] [.blk bs [.slice aq nq cq, .int .i64 (p + 1), .int .u64 (nxS Xq p sd)] 131]) := by
  have B : Bu w (hasW [.blk bs [.slice aq nq cq, .int .i64 p, .int .u64 sd] 131]) w [.blk bs [.slice aq nq cq, .int .i64 p, .int .u64 sd] 131, .rd kY aq nq Xq] := Bu.initW (W := [.blk bs [.slice aq nq cq, .int .i64 p, .int .u64 sd] 131]) (R := [.rd kY aq nq Xq]) HA HP rfl
  have hlq := (B.r 1 rfl).len
  refine calls_W (n := 62) Try.func126 rfl rfl (Nat.le_of_ble_eq_true rfl) ?_
  refine W_seq ?_
  refine W_region (by kernel_rfl) ?_
  refine s_y (v := .int .i64 0) rfl (y_assign rfl) ?_
  refine s_nil ?_
  refine W_seq ?_
  refine W_region (by kernel_rfl) ?_
  refine s_y (v := .int .i64 0) rfl (y_assign rfl) ?_
  refine s_nil ?_
  refine W_seq ?_
  refine W_seq ?_
  have B0_5 := B
  refine W_draw (no) T126.mx (by kernel_rfl) (fun w3 e4 => ?_)
  have R6 := Ext.refl (no) w
  replace R6 := R6.trans (Ext0.any e4)
  replace B := B.ext0 e4
  clear e4
  refine m_y (v := .pointer (some ⟨bs, 0, none⟩)) 0 rfl (by kernel_rfl) rfl rfl (fun w' e' => y_move rfl) ?_
  refine m_y (v := .pointer (some ⟨bs, 0, none⟩)) 1 rfl (by kernel_rfl) rfl rfl (fun w' e' => y_nil rfl) ?_
  refine m_y (v := .pointer (some ⟨bs, 1, none⟩)) 2 rfl (by kernel_rfl) rfl rfl (fun w' e' => y_fld (o := 0) T126.fld_131_1_1 rfl) ?_
  refine m_y (v := .int .i64 p) 3 rfl (by kernel_rfl) rfl rfl (fun w' e' => y_load T126.one_3 rfl (((B0_5.b 0 rfl).ext0 e').cell (j := 1) rfl)) ?_
  refine m_y (v := .pointer (some ⟨bs, 0, none⟩)) 4 rfl (by kernel_rfl) rfl rfl (fun w' e' => y_move rfl) ?_
  refine m_y (v := .pointer (some ⟨bs, 0, none⟩)) 5 rfl (by kernel_rfl) rfl rfl (fun w' e' => y_nil rfl) ?_
  refine m_y (v := .pointer (some ⟨bs, 0, none⟩)) 6 rfl (by kernel_rfl) rfl rfl (fun w' e' => y_fld (o := 0) T126.fld_131_0_0 rfl) ?_
  refine m_y (v := .slice aq nq cq) 7 rfl (by kernel_rfl) rfl rfl (fun w' e' => y_load T126.one_22 rfl (((B0_5.b 0 rfl).ext0 e').cell (j := 0) rfl)) ?_
  refine m_y (v := .int .i64 ((nq : Nat) : Int)) 8 rfl (by kernel_rfl) rfl rfl (fun w' e' => y_len T126.sl_22_5_1 rfl rfl) ?_
  by_cases c7 : p < ((nq : Nat) : Int)
  · refine m_y (v := .bool true) 9 rfl (by kernel_rfl) rfl rfl (fun w' e' => y_lss rfl rfl (decide_eq_true c7)) ?_
    refine m_done (by kernel_rfl) (fun w8 e9 => ?_)
    replace B := B.ext0 e9
    clear e9
    clear B0_5 R6
    refine W_if_t (by decide) rfl ?_
    have B0_14 := B
    refine W_draw (no) T126.mx (by kernel_rfl) (fun w12 e13 => ?_)
    have R15 := Ext.refl (no) w8
    replace R15 := R15.trans (Ext0.any e13)
    replace B := B.ext0 e13
    clear e13
    refine m_y (v := .pointer (some ⟨bs, 0, none⟩)) 0 rfl (by kernel_rfl) rfl rfl (fun w' e' => y_move rfl) ?_
    refine m_y (v := .pointer (some ⟨bs, 0, none⟩)) 1 rfl (by kernel_rfl) rfl rfl (fun w' e' => y_nil rfl) ?_
    refine m_y (v := .pointer (some ⟨bs, 0, none⟩)) 2 rfl (by kernel_rfl) rfl rfl (fun w' e' => y_fld (o := 0) T126.fld_131_0_0 rfl) ?_
    refine m_y (v := .slice aq nq cq) 3 rfl (by kernel_rfl) rfl rfl (fun w' e' => y_load T126.one_22 rfl (((B0_14.b 0 rfl).ext0 e').cell (j := 0) rfl)) ?_
    refine m_y (v := .pointer (some ⟨bs, 0, none⟩)) 4 rfl (by kernel_rfl) rfl rfl (fun w' e' => y_move rfl) ?_
    refine m_y (v := .pointer (some ⟨bs, 0, none⟩)) 5 rfl (by kernel_rfl) rfl rfl (fun w' e' => y_nil rfl) ?_
    refine m_y (v := .pointer (some ⟨bs, 1, none⟩)) 6 rfl (by kernel_rfl) rfl rfl (fun w' e' => y_fld (o := 0) T126.fld_131_1_1 rfl) ?_
    refine m_y (v := .int .i64 p) 7 rfl (by kernel_rfl) rfl rfl (fun w' e' => y_load T126.one_3 rfl (((B0_14.b 0 rfl).ext0 e').cell (j := 1) rfl)) ?_
    refine m_y (v := .pointer (some (sat aq ((p).toNat * 1)))) 8 rfl (by kernel_rfl) rfl rfl (fun w' e' => y_idx T126.sl_22_5_1 rfl rfl ((B.r 1 rfl).addr (by omega)) (by omega) (by omega)) ?_
    obtain ⟨hb17, hR16⟩ := Rd.atY (B0_14.r 1 rfl) p (by omega) (by omega)
    refine m_y (v := .int .u8 (byt Xq p)) 9 rfl (by kernel_rfl) rfl rfl (fun w' e' => y_load T126.one_5 rfl ((hR16.ext0 e').cell (i := 0) rfl)) ?_
    refine m_y (v := .int .i64 (byt Xq p)) 10 rfl (by kernel_rfl) rfl rfl (fun w' e' => y_ii T126.und_5 T126.int_3_i64 rfl (IntWalk.i64_in _ (by omega))) ?_
    refine m_y (v := .int .i64 (byt Xq p)) 11 rfl (by kernel_rfl) rfl rfl (fun w' e' => y_assign rfl) ?_
    refine m_done (by kernel_rfl) (fun w18 e19 => ?_)
    replace B := B.ext0 e19
    clear e19
    clear B0_14 R15
    refine W_seq ?_
    refine W_region (by kernel_rfl) ?_
    refine s_y (v := .pointer (some ⟨bs, 0, none⟩)) rfl (y_move rfl) ?_
    refine s_y (v := .pointer (some ⟨bs, 0, none⟩)) rfl (y_nil rfl) ?_
    refine s_y (v := .pointer (some ⟨bs, 1, none⟩)) rfl (y_fld (o := 0) T126.fld_131_1_1 rfl) ?_
    refine s_y (v := .int .i64 p) rfl (y_load T126.one_3 rfl ((B.b 0 rfl).cell (j := 1) rfl)) ?_
    refine s_y (v := .int .i64 (p + 1)) rfl (y_add rfl rfl rfl (by omega)) ?_
    refine s_y (v := .pointer (some ⟨bs, 0, none⟩)) rfl (y_nil rfl) ?_
    refine s_y (v := .pointer (some ⟨bs, 1, none⟩)) rfl (y_fld (o := 0) T126.fld_131_1_1 rfl) ?_
    refine s_k0 rfl (k_stB (v := .int .i64 (p + 1)) (n := 1) (cs' := [.slice aq nq cq, .int .i64 (p + 1), .int .u64 sd]) T126.sz_3_1 rfl rfl rfl (B.b 0 rfl) (by simp [Value.cells, Value.oneCell']) (Nat.le_of_ble_eq_true rfl) rfl (fun w20 hU21 => ?_))
    replace B : Bu w (hasW [.blk bs [.slice aq nq cq, .int .i64 p, .int .u64 sd] 131]) w20 [.blk bs [.slice aq nq cq, .int .i64 (p + 1), .int .u64 sd] 131, .rd kY aq nq Xq] := B.upd [0] rfl hU21
    clear hU21
    refine s_nil ?_
    refine W_seq ?_
    refine W_region (by kernel_rfl) ?_
    refine s_y (v := .pointer (some ⟨bs, 0, none⟩)) rfl (y_move rfl) ?_
    refine s_y (v := .pointer (some ⟨bs, 0, none⟩)) rfl (y_move rfl) ?_
    refine s_y (v := .pointer (some ⟨bs, 0, none⟩)) rfl (y_nil rfl) ?_
    refine s_y (v := .pointer (some ⟨bs, 2, none⟩)) rfl (y_fld (o := 0) T126.fld_131_2_2 rfl) ?_
    refine s_y (v := .int .u64 sd) rfl (y_load T126.one_129 rfl ((B.b 0 rfl).cell (j := 2) rfl)) ?_
    refine s_y (v := .int .u64 (IntKind.u64.wrap (sd * 6364136223846793005))) rfl (y_wmul rfl rfl) ?_
    refine s_y (v := .int .i64 (byt Xq p)) rfl (y_move rfl) ?_
    refine s_y (v := .int .u64 (byt Xq p)) rfl (y_ii T126.und_3 T126.int_129_u64 rfl (IntWalk.u64_in _ (by omega))) ?_
    refine s_y (v := .int .u64 (IntKind.u64.wrap ((IntKind.u64.wrap (sd * 6364136223846793005)) + (byt Xq p)))) rfl (y_wadd rfl rfl) ?_
    refine s_y (v := .int .u64 (IntKind.u64.wrap ((IntKind.u64.wrap ((IntKind.u64.wrap (sd * 6364136223846793005)) + (byt Xq p))) + 1442695040888963407))) rfl (y_wadd rfl rfl) ?_
    refine s_y (v := .pointer (some ⟨bs, 0, none⟩)) rfl (y_nil rfl) ?_
    refine s_y (v := .pointer (some ⟨bs, 2, none⟩)) rfl (y_fld (o := 0) T126.fld_131_2_2 rfl) ?_
    refine s_k0 rfl (k_stB (v := .int .u64 (IntKind.u64.wrap ((IntKind.u64.wrap ((IntKind.u64.wrap (sd * 6364136223846793005)) + (byt Xq p))) + 1442695040888963407))) (n := 1) (cs' := [.slice aq nq cq, .int .i64 (p + 1), .int .u64 (IntKind.u64.wrap ((IntKind.u64.wrap ((IntKind.u64.wrap (sd * 6364136223846793005)) + (byt Xq p))) + 1442695040888963407))]) T126.sz_129_1 rfl rfl rfl (B.b 0 rfl) (by simp [Value.cells, Value.oneCell']) (Nat.le_of_ble_eq_true rfl) rfl (fun w22 hU23 => ?_))
    replace B : Bu w (hasW [.blk bs [.slice aq nq cq, .int .i64 p, .int .u64 sd] 131]) w22 [.blk bs [.slice aq nq cq, .int .i64 (p + 1), .int .u64 (IntKind.u64.wrap ((IntKind.u64.wrap ((IntKind.u64.wrap (sd * 6364136223846793005)) + (byt Xq p))) + 1442695040888963407))] 131, .rd kY aq nq Xq] := B.upd [0] rfl hU23
    clear hU23
    refine s_nil ?_
    refine W_seq ?_
    refine W_seq ?_
    have B0_28 := B
    refine W_draw (no) T126.mx (by kernel_rfl) (fun w26 e27 => ?_)
    have R29 := Ext.refl (no) w22
    replace R29 := R29.trans (Ext0.any e27)
    replace B := B.ext0 e27
    clear e27
    refine m_y (v := .pointer (some ⟨bs, 0, none⟩)) 0 rfl (by kernel_rfl) rfl rfl (fun w' e' => y_move rfl) ?_
    refine m_y (v := .pointer (some ⟨bs, 0, none⟩)) 1 rfl (by kernel_rfl) rfl rfl (fun w' e' => y_nil rfl) ?_
    refine m_y (v := .pointer (some ⟨bs, 1, none⟩)) 2 rfl (by kernel_rfl) rfl rfl (fun w' e' => y_fld (o := 0) T126.fld_131_1_1 rfl) ?_
    refine m_y (v := .int .i64 (p + 1)) 3 rfl (by kernel_rfl) rfl rfl (fun w' e' => y_load T126.one_3 rfl (((B0_28.b 0 rfl).ext0 e').cell (j := 1) rfl)) ?_
    refine m_y (v := .pointer (some ⟨bs, 0, none⟩)) 4 rfl (by kernel_rfl) rfl rfl (fun w' e' => y_move rfl) ?_
    refine m_y (v := .pointer (some ⟨bs, 0, none⟩)) 5 rfl (by kernel_rfl) rfl rfl (fun w' e' => y_nil rfl) ?_
    refine m_y (v := .pointer (some ⟨bs, 0, none⟩)) 6 rfl (by kernel_rfl) rfl rfl (fun w' e' => y_fld (o := 0) T126.fld_131_0_0 rfl) ?_
    refine m_y (v := .slice aq nq cq) 7 rfl (by kernel_rfl) rfl rfl (fun w' e' => y_load T126.one_22 rfl (((B0_28.b 0 rfl).ext0 e').cell (j := 0) rfl)) ?_
    refine m_y (v := .int .i64 ((nq : Nat) : Int)) 8 rfl (by kernel_rfl) rfl rfl (fun w' e' => y_len T126.sl_22_5_1 rfl rfl) ?_
    by_cases c30 : (p + 1) ≤ ((nq : Nat) : Int)
    · refine m_y (v := .bool true) 9 rfl (by kernel_rfl) rfl rfl (fun w' e' => y_leq rfl rfl (decide_eq_true c30)) ?_
      refine m_done (by kernel_rfl) (fun w31 e32 => ?_)
      replace B := B.ext0 e32
      clear e32
      clear B0_28 R29
      refine W_if_t (by decide) rfl ?_
      refine W_seq ?_
      refine W_region (by kernel_rfl) ?_
      refine s_y (v := .int .i64 (byt Xq p)) rfl (y_move rfl) ?_
      refine s_y (v := .int .i64 (byt Xq p)) rfl (y_assign rfl) ?_
      refine s_nil ?_
      refine W_ret ?_
      refine ret1 (v := .int .i64 (byt Xq p)) rfl rfl rfl ⟨_, rfl, ?_⟩
      have hby : bY Xq p = byt Xq p := bY_in hlq c7
      replace B : Bu w (hasW [.blk bs [.slice aq nq cq, .int .i64 p, .int .u64 sd] 131]) w31 [.blk bs [.slice aq nq cq, .int .i64 (p + 1), .int .u64 (nxS Xq p sd)] 131, .rd kY aq nq Xq] := B.blkEq 0 rfl (nx_cells hby)
      exact ⟨(congrArg (Value.int .i64) (nxV_in hlq c30 hby)), B.wrote [0] rfl rfl rfl⟩
    · refine m_y (v := .bool false) 9 rfl (by kernel_rfl) rfl rfl (fun w' e' => y_leq rfl rfl (decide_eq_false c30)) ?_
      refine m_done (by kernel_rfl) (fun w33 e34 => ?_)
      replace B := B.ext0 e34
      clear e34
      clear B0_28 R29
      refine W_if_f (by decide) rfl ?_
      refine W_skip ?_
      refine W_seq ?_
      refine W_region (by kernel_rfl) ?_
      refine s_y (v := .pointer (some ⟨bs, 0, none⟩)) rfl (y_move rfl) ?_
      refine s_y (v := .pointer (some ⟨bs, 0, none⟩)) rfl (y_nil rfl) ?_
      refine s_y (v := .pointer (some ⟨bs, 2, none⟩)) rfl (y_fld (o := 0) T126.fld_131_2_2 rfl) ?_
      refine s_y (v := .int .u64 (IntKind.u64.wrap ((IntKind.u64.wrap ((IntKind.u64.wrap (sd * 6364136223846793005)) + (byt Xq p))) + 1442695040888963407))) rfl (y_load T126.one_129 rfl ((B.b 0 rfl).cell (j := 2) rfl)) ?_
      refine s_y (v := .int .u64 ((IntKind.u64.wrap ((IntKind.u64.wrap ((IntKind.u64.wrap (sd * 6364136223846793005)) + (byt Xq p))) + 1442695040888963407)) / 1099511627776)) rfl (y_shr40 rfl rfl) ?_
      have hb35 := lo8_b ((IntKind.u64.wrap ((IntKind.u64.wrap ((IntKind.u64.wrap (sd * 6364136223846793005)) + (byt Xq p))) + 1442695040888963407)) / 1099511627776)
      refine s_y (v := .int .u64 (lo8 ((IntKind.u64.wrap ((IntKind.u64.wrap ((IntKind.u64.wrap (sd * 6364136223846793005)) + (byt Xq p))) + 1442695040888963407)) / 1099511627776))) rfl (y_and255 rfl rfl) ?_
      refine s_y (v := .int .i64 (lo8 ((IntKind.u64.wrap ((IntKind.u64.wrap ((IntKind.u64.wrap (sd * 6364136223846793005)) + (byt Xq p))) + 1442695040888963407)) / 1099511627776))) rfl (y_ii T126.und_129 T126.int_2_i64 rfl (IntWalk.i64_in _ (by omega))) ?_
      refine s_y (v := .int .i64 (lo8 ((IntKind.u64.wrap ((IntKind.u64.wrap ((IntKind.u64.wrap (sd * 6364136223846793005)) + (byt Xq p))) + 1442695040888963407)) / 1099511627776))) rfl (y_assign rfl) ?_
      refine s_nil ?_
      refine W_ret ?_
      refine ret1 (v := .int .i64 (lo8 ((IntKind.u64.wrap ((IntKind.u64.wrap ((IntKind.u64.wrap (sd * 6364136223846793005)) + (byt Xq p))) + 1442695040888963407)) / 1099511627776))) rfl rfl rfl ⟨_, rfl, ?_⟩
      have hby : bY Xq p = byt Xq p := bY_in hlq c7
      replace B : Bu w (hasW [.blk bs [.slice aq nq cq, .int .i64 p, .int .u64 sd] 131]) w33 [.blk bs [.slice aq nq cq, .int .i64 (p + 1), .int .u64 (nxS Xq p sd)] 131, .rd kY aq nq Xq] := B.blkEq 0 rfl (nx_cells hby)
      skip
      exact ⟨(congrArg (Value.int .i64) ((by unfold nxS; rw [hby] : lo8 ((IntKind.u64.wrap ((IntKind.u64.wrap ((IntKind.u64.wrap (sd * 6364136223846793005)) + (byt Xq p))) + 1442695040888963407)) / 1099511627776) = lo8 (nxS Xq p sd / 1099511627776)).trans (nxV_out hlq c30))), B.wrote [0] rfl rfl rfl⟩
  · refine m_y (v := .bool false) 9 rfl (by kernel_rfl) rfl rfl (fun w' e' => y_lss rfl rfl (decide_eq_false c7)) ?_
    refine m_done (by kernel_rfl) (fun w36 e37 => ?_)
    replace B := B.ext0 e37
    clear e37
    clear B0_5 R6
    refine W_if_f (by decide) rfl ?_
    refine W_skip ?_
    refine W_seq ?_
    refine W_region (by kernel_rfl) ?_
    refine s_y (v := .pointer (some ⟨bs, 0, none⟩)) rfl (y_move rfl) ?_
    refine s_y (v := .pointer (some ⟨bs, 0, none⟩)) rfl (y_nil rfl) ?_
    refine s_y (v := .pointer (some ⟨bs, 1, none⟩)) rfl (y_fld (o := 0) T126.fld_131_1_1 rfl) ?_
    refine s_y (v := .int .i64 p) rfl (y_load T126.one_3 rfl ((B.b 0 rfl).cell (j := 1) rfl)) ?_
    refine s_y (v := .int .i64 (p + 1)) rfl (y_add rfl rfl rfl (by omega)) ?_
    refine s_y (v := .pointer (some ⟨bs, 0, none⟩)) rfl (y_nil rfl) ?_
    refine s_y (v := .pointer (some ⟨bs, 1, none⟩)) rfl (y_fld (o := 0) T126.fld_131_1_1 rfl) ?_
    refine s_k0 rfl (k_stB (v := .int .i64 (p + 1)) (n := 1) (cs' := [.slice aq nq cq, .int .i64 (p + 1), .int .u64 sd]) T126.sz_3_1 rfl rfl rfl (B.b 0 rfl) (by simp [Value.cells, Value.oneCell']) (Nat.le_of_ble_eq_true rfl) rfl (fun w38 hU39 => ?_))
    replace B : Bu w (hasW [.blk bs [.slice aq nq cq, .int .i64 p, .int .u64 sd] 131]) w38 [.blk bs [.slice aq nq cq, .int .i64 (p + 1), .int .u64 sd] 131, .rd kY aq nq Xq] := B.upd [0] rfl hU39
    clear hU39
    refine s_nil ?_
    refine W_seq ?_
    refine W_region (by kernel_rfl) ?_
    refine s_y (v := .pointer (some ⟨bs, 0, none⟩)) rfl (y_move rfl) ?_
    refine s_y (v := .pointer (some ⟨bs, 0, none⟩)) rfl (y_move rfl) ?_
    refine s_y (v := .pointer (some ⟨bs, 0, none⟩)) rfl (y_nil rfl) ?_
    refine s_y (v := .pointer (some ⟨bs, 2, none⟩)) rfl (y_fld (o := 0) T126.fld_131_2_2 rfl) ?_
    refine s_y (v := .int .u64 sd) rfl (y_load T126.one_129 rfl ((B.b 0 rfl).cell (j := 2) rfl)) ?_
    refine s_y (v := .int .u64 (IntKind.u64.wrap (sd * 6364136223846793005))) rfl (y_wmul rfl rfl) ?_
    refine s_y (v := .int .i64 0) rfl (y_move rfl) ?_
    refine s_y (v := .int .u64 0) rfl (y_ii T126.und_3 T126.int_129_u64 rfl (IntWalk.u64_in _ (by omega))) ?_
    refine s_y (v := .int .u64 (IntKind.u64.wrap ((IntKind.u64.wrap (sd * 6364136223846793005)) + 0))) rfl (y_wadd rfl rfl) ?_
    refine s_y (v := .int .u64 (IntKind.u64.wrap ((IntKind.u64.wrap ((IntKind.u64.wrap (sd * 6364136223846793005)) + 0)) + 1442695040888963407))) rfl (y_wadd rfl rfl) ?_
    refine s_y (v := .pointer (some ⟨bs, 0, none⟩)) rfl (y_nil rfl) ?_
    refine s_y (v := .pointer (some ⟨bs, 2, none⟩)) rfl (y_fld (o := 0) T126.fld_131_2_2 rfl) ?_
    refine s_k0 rfl (k_stB (v := .int .u64 (IntKind.u64.wrap ((IntKind.u64.wrap ((IntKind.u64.wrap (sd * 6364136223846793005)) + 0)) + 1442695040888963407))) (n := 1) (cs' := [.slice aq nq cq, .int .i64 (p + 1), .int .u64 (IntKind.u64.wrap ((IntKind.u64.wrap ((IntKind.u64.wrap (sd * 6364136223846793005)) + 0)) + 1442695040888963407))]) T126.sz_129_1 rfl rfl rfl (B.b 0 rfl) (by simp [Value.cells, Value.oneCell']) (Nat.le_of_ble_eq_true rfl) rfl (fun w40 hU41 => ?_))
    replace B : Bu w (hasW [.blk bs [.slice aq nq cq, .int .i64 p, .int .u64 sd] 131]) w40 [.blk bs [.slice aq nq cq, .int .i64 (p + 1), .int .u64 (IntKind.u64.wrap ((IntKind.u64.wrap ((IntKind.u64.wrap (sd * 6364136223846793005)) + 0)) + 1442695040888963407))] 131, .rd kY aq nq Xq] := B.upd [0] rfl hU41
    clear hU41
    refine s_nil ?_
    refine W_seq ?_
    refine W_seq ?_
    have B0_46 := B
    refine W_draw (no) T126.mx (by kernel_rfl) (fun w44 e45 => ?_)
    have R47 := Ext.refl (no) w40
    replace R47 := R47.trans (Ext0.any e45)
    replace B := B.ext0 e45
    clear e45
    refine m_y (v := .pointer (some ⟨bs, 0, none⟩)) 0 rfl (by kernel_rfl) rfl rfl (fun w' e' => y_move rfl) ?_
    refine m_y (v := .pointer (some ⟨bs, 0, none⟩)) 1 rfl (by kernel_rfl) rfl rfl (fun w' e' => y_nil rfl) ?_
    refine m_y (v := .pointer (some ⟨bs, 1, none⟩)) 2 rfl (by kernel_rfl) rfl rfl (fun w' e' => y_fld (o := 0) T126.fld_131_1_1 rfl) ?_
    refine m_y (v := .int .i64 (p + 1)) 3 rfl (by kernel_rfl) rfl rfl (fun w' e' => y_load T126.one_3 rfl (((B0_46.b 0 rfl).ext0 e').cell (j := 1) rfl)) ?_
    refine m_y (v := .pointer (some ⟨bs, 0, none⟩)) 4 rfl (by kernel_rfl) rfl rfl (fun w' e' => y_move rfl) ?_
    refine m_y (v := .pointer (some ⟨bs, 0, none⟩)) 5 rfl (by kernel_rfl) rfl rfl (fun w' e' => y_nil rfl) ?_
    refine m_y (v := .pointer (some ⟨bs, 0, none⟩)) 6 rfl (by kernel_rfl) rfl rfl (fun w' e' => y_fld (o := 0) T126.fld_131_0_0 rfl) ?_
    refine m_y (v := .slice aq nq cq) 7 rfl (by kernel_rfl) rfl rfl (fun w' e' => y_load T126.one_22 rfl (((B0_46.b 0 rfl).ext0 e').cell (j := 0) rfl)) ?_
    refine m_y (v := .int .i64 ((nq : Nat) : Int)) 8 rfl (by kernel_rfl) rfl rfl (fun w' e' => y_len T126.sl_22_5_1 rfl rfl) ?_
    by_cases c48 : (p + 1) ≤ ((nq : Nat) : Int)
    · refine m_y (v := .bool true) 9 rfl (by kernel_rfl) rfl rfl (fun w' e' => y_leq rfl rfl (decide_eq_true c48)) ?_
      refine m_done (by kernel_rfl) (fun w49 e50 => ?_)
      replace B := B.ext0 e50
      clear e50
      clear B0_46 R47
      refine W_if_t (by decide) rfl ?_
      refine W_seq ?_
      refine W_region (by kernel_rfl) ?_
      refine s_y (v := .int .i64 0) rfl (y_move rfl) ?_
      refine s_y (v := .int .i64 0) rfl (y_assign rfl) ?_
      refine s_nil ?_
      refine W_ret ?_
      refine ret1 (v := .int .i64 0) rfl rfl rfl ⟨_, rfl, ?_⟩
      have hby : bY Xq p = 0 := bY_out hlq c7
      replace B : Bu w (hasW [.blk bs [.slice aq nq cq, .int .i64 p, .int .u64 sd] 131]) w49 [.blk bs [.slice aq nq cq, .int .i64 (p + 1), .int .u64 (nxS Xq p sd)] 131, .rd kY aq nq Xq] := B.blkEq 0 rfl (nx_cells hby)
      exact ⟨(congrArg (Value.int .i64) (nxV_in hlq c48 hby)), B.wrote [0] rfl rfl rfl⟩
    · refine m_y (v := .bool false) 9 rfl (by kernel_rfl) rfl rfl (fun w' e' => y_leq rfl rfl (decide_eq_false c48)) ?_
      refine m_done (by kernel_rfl) (fun w51 e52 => ?_)
      replace B := B.ext0 e52
      clear e52
      clear B0_46 R47
      refine W_if_f (by decide) rfl ?_
      refine W_skip ?_
      refine W_seq ?_
      refine W_region (by kernel_rfl) ?_
      refine s_y (v := .pointer (some ⟨bs, 0, none⟩)) rfl (y_move rfl) ?_
      refine s_y (v := .pointer (some ⟨bs, 0, none⟩)) rfl (y_nil rfl) ?_
      refine s_y (v := .pointer (some ⟨bs, 2, none⟩)) rfl (y_fld (o := 0) T126.fld_131_2_2 rfl) ?_
      refine s_y (v := .int .u64 (IntKind.u64.wrap ((IntKind.u64.wrap ((IntKind.u64.wrap (sd * 6364136223846793005)) + 0)) + 1442695040888963407))) rfl (y_load T126.one_129 rfl ((B.b 0 rfl).cell (j := 2) rfl)) ?_
      refine s_y (v := .int .u64 ((IntKind.u64.wrap ((IntKind.u64.wrap ((IntKind.u64.wrap (sd * 6364136223846793005)) + 0)) + 1442695040888963407)) / 1099511627776)) rfl (y_shr40 rfl rfl) ?_
      have hb53 := lo8_b ((IntKind.u64.wrap ((IntKind.u64.wrap ((IntKind.u64.wrap (sd * 6364136223846793005)) + 0)) + 1442695040888963407)) / 1099511627776)
      refine s_y (v := .int .u64 (lo8 ((IntKind.u64.wrap ((IntKind.u64.wrap ((IntKind.u64.wrap (sd * 6364136223846793005)) + 0)) + 1442695040888963407)) / 1099511627776))) rfl (y_and255 rfl rfl) ?_
      refine s_y (v := .int .i64 (lo8 ((IntKind.u64.wrap ((IntKind.u64.wrap ((IntKind.u64.wrap (sd * 6364136223846793005)) + 0)) + 1442695040888963407)) / 1099511627776))) rfl (y_ii T126.und_129 T126.int_2_i64 rfl (IntWalk.i64_in _ (by omega))) ?_
      refine s_y (v := .int .i64 (lo8 ((IntKind.u64.wrap ((IntKind.u64.wrap ((IntKind.u64.wrap (sd * 6364136223846793005)) + 0)) + 1442695040888963407)) / 1099511627776))) rfl (y_assign rfl) ?_
      refine s_nil ?_
      refine W_ret ?_
      refine ret1 (v := .int .i64 (lo8 ((IntKind.u64.wrap ((IntKind.u64.wrap ((IntKind.u64.wrap (sd * 6364136223846793005)) + 0)) + 1442695040888963407)) / 1099511627776))) rfl rfl rfl ⟨_, rfl, ?_⟩
      have hby : bY Xq p = 0 := bY_out hlq c7
      replace B : Bu w (hasW [.blk bs [.slice aq nq cq, .int .i64 p, .int .u64 sd] 131]) w51 [.blk bs [.slice aq nq cq, .int .i64 (p + 1), .int .u64 (nxS Xq p sd)] 131, .rd kY aq nq Xq] := B.blkEq 0 rfl (nx_cells hby)
      skip
      exact ⟨(congrArg (Value.int .i64) ((by unfold nxS; rw [hby] : lo8 ((IntKind.u64.wrap ((IntKind.u64.wrap ((IntKind.u64.wrap (sd * 6364136223846793005)) + 0)) + 1442695040888963407)) / 1099511627776) = lo8 (nxS Xq p sd / 1099511627776)).trans (nxV_out hlq c48))), B.wrote [0] rfl rfl rfl⟩
namespace T81
theorem mx : Try.prog.follows .mixedOrders = true := by kernel_rfl
theorem fn_126 : fnB Try.prog 126 = true := by kernel_rfl
end T81
set_option maxRecDepth 100000 in
set_option maxHeartbeats 4000000 in
theorem c_s_pick {bs : Nat} {n : Int} {aq : Option Addr} {nq cq : Nat} {Xq : List Nat} {p : Int} {w : World} (hp0 : 0 ≤ p) (hp1 : p ≤ 1000000) (hn0 : 2 ≤ n) (hn1 : n ≤ 200) (HA : All w [.blk bs [.slice aq nq cq, .int .i64 p, .int .u64 (sdY Xq p)] 131, .rd kY aq nq Xq]) (HP : Pw [.blk bs [.slice aq nq cq, .int .i64 p, .int .u64 (sdY Xq p)] 131, .rd kY aq nq Xq]) :
    Calls Try.prog 81 #[.pointer (some ⟨bs, 0, none⟩), .int .i64 n] w (Rt fun v w' => ∃ (uv : Int), v = .int .i64 uv ∧ uv = pk Xq n p ∧ Upd w w' [.blk bs [.slice aq nq cq, .int .i64 p, .int .u64 (sdY Xq p)] 131] [.blk bs [.slice aq nq cq, .int .i64 (p + 1), .int .u64 (sdY Xq (p + 1))] 131]) := by
  have B : Bu w (hasW [.blk bs [.slice aq nq cq, .int .i64 p, .int .u64 (sdY Xq p)] 131]) w [.blk bs [.slice aq nq cq, .int .i64 p, .int .u64 (sdY Xq p)] 131, .rd kY aq nq Xq] := Bu.initW (W := [.blk bs [.slice aq nq cq, .int .i64 p, .int .u64 (sdY Xq p)] 131]) (R := [.rd kY aq nq Xq]) HA HP rfl
  have hlq := (B.r 1 rfl).len
  refine calls_W (n := 20) Try.func81 rfl rfl (Nat.le_of_ble_eq_true rfl) ?_
  refine W_seq ?_
  refine W_region (by kernel_rfl) ?_
  refine s_y (v := .int .i64 0) rfl (y_assign rfl) ?_
  refine s_nil ?_
  refine W_seq ?_
  refine W_seq ?_
  refine W_region (by kernel_rfl) ?_
  refine s_y (v := .int .i64 n) rfl (y_move rfl) ?_
  have hk1 : ¬ (n ≤ 1) := (by omega)
  refine s_y (v := .bool false) rfl (y_leq rfl rfl (decide_eq_false hk1)) ?_
  refine s_nil ?_
  refine W_if_f (by decide) rfl ?_
  refine W_skip ?_
  refine W_seq ?_
  refine W_region (by kernel_rfl) ?_
  refine s_y (v := .pointer (some ⟨bs, 0, none⟩)) rfl (y_move rfl) ?_
  refine s_k rfl (k_call T81.fn_126 (c_s_next (by omega) (by omega) (B.all.pick [0, 1] rfl) (B.pw.pick [0, 1] rfl rfl)) rfl ?_)
  rintro _ w2 ⟨rfl, hU3⟩
  replace B : Bu w (hasW [.blk bs [.slice aq nq cq, .int .i64 p, .int .u64 (sdY Xq p)] 131]) w2 [.blk bs [.slice aq nq cq, .int .i64 (p + 1), .int .u64 (nxS Xq p (sdY Xq p))] 131, .rd kY aq nq Xq] := B.upd [0] rfl hU3
  clear hU3
  have hb4 := nxV_b (p := p) (sd := sdY Xq p) (X := Xq) (B.r 1 rfl).bytes
  refine s_y (v := .int .i64 (nxV Xq p (sdY Xq p))) rfl (y_assign rfl) ?_
  refine s_nil ?_
  refine W_seq ?_
  refine W_seq ?_
  refine W_region (by kernel_rfl) ?_
  refine s_y (v := .int .i64 n) rfl (y_move rfl) ?_
  have hk5 : ¬ (200 < n) := (by omega)
  refine s_y (v := .bool false) rfl (y_gtr rfl rfl (decide_eq_false hk5)) ?_
  refine s_nil ?_
  refine W_if_f (by decide) rfl ?_
  refine W_skip ?_
  refine W_seq ?_
  refine W_region (by kernel_rfl) ?_
  refine s_y (v := .int .i64 (nxV Xq p (sdY Xq p))) rfl (y_move rfl) ?_
  refine s_y (v := .int .i64 n) rfl (y_move rfl) ?_
  have hm6 := rem_b (x := nxV Xq p (sdY Xq p)) (m := n) (by omega) (by omega)
  refine s_y (v := .int .i64 ((nxV Xq p (sdY Xq p)) % n)) rfl (y_rem rfl rfl (by omega) (by omega) rfl) ?_
  refine s_y (v := .int .i64 ((nxV Xq p (sdY Xq p)) % n)) rfl (y_assign rfl) ?_
  refine s_nil ?_
  refine W_ret ?_
  refine ret1 (v := .int .i64 ((nxV Xq p (sdY Xq p)) % n)) rfl rfl rfl ⟨_, rfl, ?_⟩
  replace B : Bu w (hasW [.blk bs [.slice aq nq cq, .int .i64 p, .int .u64 (sdY Xq p)] 131]) w2 [.blk bs [.slice aq nq cq, .int .i64 (p + 1), .int .u64 (sdY Xq (p + 1))] 131, .rd kY aq nq Xq] := B.blkEq 0 rfl (sdY_cells hp0)
  exact ⟨_, rfl, rfl, B.wrote [0] rfl rfl rfl⟩
set_option maxRecDepth 100000 in
set_option maxHeartbeats 4000000 in
theorem c_s_pick2 {bs : Nat} {n : Int} {aq : Option Addr} {nq cq : Nat} {Xq : List Nat} {p : Int} {w : World} (hp0 : 0 ≤ p) (hp1 : p ≤ 990000) (hn0 : 201 ≤ n) (hn1 : n ≤ 65536) (HA : All w [.blk bs [.slice aq nq cq, .int .i64 p, .int .u64 (sdY Xq p)] 131, .rd kY aq nq Xq]) (HP : Pw [.blk bs [.slice aq nq cq, .int .i64 p, .int .u64 (sdY Xq p)] 131, .rd kY aq nq Xq]) :
    Calls Try.prog 81 #[.pointer (some ⟨bs, 0, none⟩), .int .i64 n] w (Rt fun v w' => ∃ (uv : Int), v = .int .i64 uv ∧ 0 ≤ uv ∧ uv < n ∧ Upd w w' [.blk bs [.slice aq nq cq, .int .i64 p, .int .u64 (sdY Xq p)] 131] [.blk bs [.slice aq nq cq, .int .i64 (p + 1 + 1), .int .u64 (sdY Xq (p + 1 + 1))] 131]) := by
  have B : Bu w (hasW [.blk bs [.slice aq nq cq, .int .i64 p, .int .u64 (sdY Xq p)] 131]) w [.blk bs [.slice aq nq cq, .int .i64 p, .int .u64 (sdY Xq p)] 131, .rd kY aq nq Xq] := Bu.initW (W := [.blk bs [.slice aq nq cq, .int .i64 p, .int .u64 (sdY Xq p)] 131]) (R := [.rd kY aq nq Xq]) HA HP rfl
  have hlq := (B.r 1 rfl).len
  refine calls_W (n := 20) Try.func81 rfl rfl (Nat.le_of_ble_eq_true rfl) ?_
  refine W_seq ?_
  refine W_region (by kernel_rfl) ?_
  refine s_y (v := .int .i64 0) rfl (y_assign rfl) ?_
  refine s_nil ?_
  refine W_seq ?_
  refine W_seq ?_
  refine W_region (by kernel_rfl) ?_
  refine s_y (v := .int .i64 n) rfl (y_move rfl) ?_
  have hk1 : ¬ (n ≤ 1) := (by omega)
  refine s_y (v := .bool false) rfl (y_leq rfl rfl (decide_eq_false hk1)) ?_
  refine s_nil ?_
  refine W_if_f (by decide) rfl ?_
  refine W_skip ?_
  refine W_seq ?_
  refine W_region (by kernel_rfl) ?_
  refine s_y (v := .pointer (some ⟨bs, 0, none⟩)) rfl (y_move rfl) ?_
  refine s_k rfl (k_call T81.fn_126 (c_s_next (by omega) (by omega) (B.all.pick [0, 1] rfl) (B.pw.pick [0, 1] rfl rfl)) rfl ?_)
  rintro _ w2 ⟨rfl, hU3⟩
  replace B : Bu w (hasW [.blk bs [.slice aq nq cq, .int .i64 p, .int .u64 (sdY Xq p)] 131]) w2 [.blk bs [.slice aq nq cq, .int .i64 (p + 1), .int .u64 (nxS Xq p (sdY Xq p))] 131, .rd kY aq nq Xq] := B.upd [0] rfl hU3
  clear hU3
  have hb4 := nxV_b (p := p) (sd := sdY Xq p) (X := Xq) (B.r 1 rfl).bytes
  refine s_y (v := .int .i64 (nxV Xq p (sdY Xq p))) rfl (y_assign rfl) ?_
  refine s_nil ?_
  refine W_seq ?_
  refine W_seq ?_
  refine W_region (by kernel_rfl) ?_
  refine s_y (v := .int .i64 n) rfl (y_move rfl) ?_
  have hk5 : 200 < n := (by omega)
  refine s_y (v := .bool true) rfl (y_gtr rfl rfl (decide_eq_true hk5)) ?_
  refine s_nil ?_
  refine W_if_t (by decide) rfl ?_
  refine W_region (by kernel_rfl) ?_
  refine s_y (v := .int .i64 (nxV Xq p (sdY Xq p))) rfl (y_move rfl) ?_
  refine s_y (v := .int .i64 ((nxV Xq p (sdY Xq p)) * 256)) rfl (y_mul rfl rfl rfl (by omega)) ?_
  refine s_y (v := .pointer (some ⟨bs, 0, none⟩)) rfl (y_move rfl) ?_
  refine s_k rfl (k_call T81.fn_126 (c_s_next (by omega) (by omega) (B.all.pick [0, 1] rfl) (B.pw.pick [0, 1] rfl rfl)) rfl ?_)
  rintro _ w6 ⟨rfl, hU7⟩
  replace B : Bu w (hasW [.blk bs [.slice aq nq cq, .int .i64 p, .int .u64 (sdY Xq p)] 131]) w6 [.blk bs [.slice aq nq cq, .int .i64 ((p + 1) + 1), .int .u64 (nxS Xq (p + 1) (nxS Xq p (sdY Xq p)))] 131, .rd kY aq nq Xq] := B.upd [0] rfl hU7
  clear hU7
  have hb8 := nxV_b (p := p + 1) (sd := nxS Xq p (sdY Xq p)) (X := Xq) (B.r 1 rfl).bytes
  refine s_y (v := .int .i64 (((nxV Xq p (sdY Xq p)) * 256) + (nxV Xq (p + 1) (nxS Xq p (sdY Xq p))))) rfl (y_add rfl rfl rfl (by omega)) ?_
  refine s_y (v := .int .i64 (((nxV Xq p (sdY Xq p)) * 256) + (nxV Xq (p + 1) (nxS Xq p (sdY Xq p))))) rfl (y_assign rfl) ?_
  refine s_nil ?_
  refine W_seq ?_
  refine W_region (by kernel_rfl) ?_
  refine s_y (v := .int .i64 (((nxV Xq p (sdY Xq p)) * 256) + (nxV Xq (p + 1) (nxS Xq p (sdY Xq p))))) rfl (y_move rfl) ?_
  refine s_y (v := .int .i64 n) rfl (y_move rfl) ?_
  have hm9 := rem_b (x := ((nxV Xq p (sdY Xq p)) * 256) + (nxV Xq (p + 1) (nxS Xq p (sdY Xq p)))) (m := n) (by omega) (by omega)
  refine s_y (v := .int .i64 ((((nxV Xq p (sdY Xq p)) * 256) + (nxV Xq (p + 1) (nxS Xq p (sdY Xq p)))) % n)) rfl (y_rem rfl rfl (by omega) (by omega) rfl) ?_
  refine s_y (v := .int .i64 ((((nxV Xq p (sdY Xq p)) * 256) + (nxV Xq (p + 1) (nxS Xq p (sdY Xq p)))) % n)) rfl (y_assign rfl) ?_
  refine s_nil ?_
  refine W_ret ?_
  refine ret1 (v := .int .i64 ((((nxV Xq p (sdY Xq p)) * 256) + (nxV Xq (p + 1) (nxS Xq p (sdY Xq p)))) % n)) rfl rfl rfl ⟨_, rfl, ?_⟩
  have hp0n : 0 ≤ p + 1 := by omega
  replace B : Bu w (hasW [.blk bs [.slice aq nq cq, .int .i64 p, .int .u64 (sdY Xq p)] 131]) w6 [.blk bs [.slice aq nq cq, .int .i64 ((p + 1) + 1), .int .u64 (sdY Xq (p + 1 + 1))] 131, .rd kY aq nq Xq] := B.blkEq 0 rfl (by rw [sdY_next hp0, sdY_next (show 0 ≤ p + 1 by omega)])
  exact ⟨_, rfl, (by omega), (by omega), B.wrote [0] rfl rfl rfl⟩
namespace T99
theorem mx : Try.prog.follows .mixedOrders = true := by kernel_rfl
theorem fn_81 : fnB Try.prog 81 = true := by kernel_rfl
end T99
set_option maxRecDepth 100000 in
set_option maxHeartbeats 4000000 in
theorem c_s_one {bs : Nat} {n : Int} {aq : Option Addr} {nq cq : Nat} {Xq : List Nat} {p : Int} {w : World} (hp0 : 0 ≤ p) (hp1 : p ≤ 1000000) (hn0 : 2 ≤ n) (hn1 : n ≤ 200) (HA : All w [.blk bs [.slice aq nq cq, .int .i64 p, .int .u64 (sdY Xq p)] 131, .rd kY aq nq Xq]) (HP : Pw [.blk bs [.slice aq nq cq, .int .i64 p, .int .u64 (sdY Xq p)] 131, .rd kY aq nq Xq]) :
    Calls Try.prog 99 #[.pointer (some ⟨bs, 0, none⟩), .int .i64 n] w (Rt fun v w' => ∃ (vb : Bool), v = .bool vb ∧ decide (pk Xq n p = 0) = vb ∧ Upd w w' [.blk bs [.slice aq nq cq, .int .i64 p, .int .u64 (sdY Xq p)] 131] [.blk bs [.slice aq nq cq, .int .i64 (p + 1), .int .u64 (sdY Xq (p + 1))] 131]) := by
  have B : Bu w (hasW [.blk bs [.slice aq nq cq, .int .i64 p, .int .u64 (sdY Xq p)] 131]) w [.blk bs [.slice aq nq cq, .int .i64 p, .int .u64 (sdY Xq p)] 131, .rd kY aq nq Xq] := Bu.initW (W := [.blk bs [.slice aq nq cq, .int .i64 p, .int .u64 (sdY Xq p)] 131]) (R := [.rd kY aq nq Xq]) HA HP rfl
  have hlq := (B.r 1 rfl).len
  refine calls_W (n := 9) Try.func99 rfl rfl (Nat.le_of_ble_eq_true rfl) ?_
  refine W_seq ?_
  refine W_region (by kernel_rfl) ?_
  refine s_y (v := .bool false) rfl (y_assign rfl) ?_
  refine s_nil ?_
  refine W_seq ?_
  refine W_region (by kernel_rfl) ?_
  refine s_y (v := .pointer (some ⟨bs, 0, none⟩)) rfl (y_move rfl) ?_
  refine s_y (v := .int .i64 n) rfl (y_move rfl) ?_
  refine s_k rfl (k_call T99.fn_81 (c_s_pick (by omega) (by omega) (by omega) (by omega) (B.all.pick [0, 1] rfl) (B.pw.pick [0, 1] rfl rfl)) rfl ?_)
  rintro _ w1 ⟨v3, rfl, hp4, hU2⟩
  replace B : Bu w (hasW [.blk bs [.slice aq nq cq, .int .i64 p, .int .u64 (sdY Xq p)] 131]) w1 [.blk bs [.slice aq nq cq, .int .i64 (p + 1), .int .u64 (sdY Xq (p + 1))] 131, .rd kY aq nq Xq] := B.upd [0] rfl hU2
  clear hU2
  have hb5 := pk_b Xq (n := n) p (by omega)
  rw [← hp4] at hb5
  by_cases c6 : v3 = 0
  · refine s_y (v := .bool true) rfl (y_eql rfl rfl (decide_eq_true c6)) ?_
    refine s_y (v := .bool true) rfl (y_assign rfl) ?_
    refine s_nil ?_
    refine W_ret ?_
    refine ret1 (v := .bool true) rfl rfl rfl ⟨_, rfl, ?_⟩
    exact ⟨_, rfl, (by rw [← hp4]; exact decide_eq_true c6), B.wrote [0] rfl rfl rfl⟩
  · refine s_y (v := .bool false) rfl (y_eql rfl rfl (decide_eq_false c6)) ?_
    refine s_y (v := .bool false) rfl (y_assign rfl) ?_
    refine s_nil ?_
    refine W_ret ?_
    refine ret1 (v := .bool false) rfl rfl rfl ⟨_, rfl, ?_⟩
    exact ⟨_, rfl, (by rw [← hp4]; exact decide_eq_false c6), B.wrote [0] rfl rfl rfl⟩
namespace T64
theorem mx : Try.prog.follows .mixedOrders = true := by kernel_rfl
theorem agg_26_5 : aggB Try.prog 26 5 = true := by kernel_rfl
theorem fld_26_0_0 : fldB Try.prog 26 0 0 = true := by kernel_rfl
theorem fld_26_1_1 : fldB Try.prog 26 1 1 = true := by kernel_rfl
theorem fld_26_3_3 : fldB Try.prog 26 3 3 = true := by kernel_rfl
theorem fld_26_4_4 : fldB Try.prog 26 4 4 = true := by kernel_rfl
theorem flt_34_f32 : Try.prog.underlying 34 = some (.float .f32) := by kernel_rfl
theorem fn_81 : fnB Try.prog 81 = true := by kernel_rfl
theorem fn_99 : fnB Try.prog 99 = true := by kernel_rfl
theorem one_2 : oneB Try.prog 2 = true := by kernel_rfl
theorem one_24 : oneB Try.prog 24 = true := by kernel_rfl
theorem slt_24 : SlT Try.prog 24 34 1 4 (.float .f32 0) := ⟨by kernel_rfl, by kernel_rfl, rfl, by decide⟩
theorem sz_2_1 : szB Try.prog 2 1 = true := by kernel_rfl
theorem sz_24_1 : szB Try.prog 24 1 = true := by kernel_rfl
theorem sz_26_5 : szB Try.prog 26 5 = true := by kernel_rfl
theorem und_2 : (Try.prog.underlying 2).isSome = true := by kernel_rfl
theorem zero_26 : zeroB Try.prog 26 (.agg #[.int .i64 0, .int .i64 0, .bool false, .slice none 0 0, .slice none 0 0]) := by unfold zeroB; kernel_rfl
end T64
set_option maxRecDepth 100000 in
set_option maxHeartbeats 4000000 in
theorem c_s_l02DrawOk {bs : Nat} {aq : Option Addr} {nq cq : Nat} {Xq : List Nat} {p : Int} {w : World} (hp0 : 0 ≤ p) (hp1 : p ≤ 1000) (HA : All w [.blk bs [.slice aq nq cq, .int .i64 p, .int .u64 (sdY Xq p)] 131, .rd kY aq nq Xq]) (HP : Pw [.blk bs [.slice aq nq cq, .int .i64 p, .int .u64 (sdY Xq p)] 131, .rd kY aq nq Xq]) :
    Calls Try.prog 64 #[.pointer (some ⟨bs, 0, none⟩)] w (Rt fun v w' => ∃ (wd : Int) (hi : Int) (vb : Bool) (pl : Bool) (pe : Int) (a1 : Option Addr) (n1 : Nat) (c1 : Nat) (a2 : Option Addr) (n2 : Nat) (c2 : Nat), v = .agg #[.int .i64 wd, .int .i64 hi, .bool vb, .slice a1 n1 c1, .slice a2 n2 c2] ∧ decide (pk Xq 2 (p + 1) = 0) = vb ∧ 3 ≤ wd ∧ wd ≤ 6 ∧ 3 ≤ hi ∧ hi ≤ 6 ∧ p ≤ pe ∧ pe ≤ p + 900 ∧ Upd w w' [.blk bs [.slice aq nq cq, .int .i64 p, .int .u64 (sdY Xq p)] 131] [.blk bs [.slice aq nq cq, .int .i64 pe, .int .u64 (sdY Xq pe)] 131, .ow kF a1 n1 c1 34 (dwSpL Xq pl (p + 1 + 1 + 1 + 1) (wd * hi)), .ow kF a2 n2 c2 34 (dwLsL Xq pl (p + 1 + 1 + 1 + 1) (wd * hi))]) := by
  have B : Bu w (hasW [.blk bs [.slice aq nq cq, .int .i64 p, .int .u64 (sdY Xq p)] 131]) w [.blk bs [.slice aq nq cq, .int .i64 p, .int .u64 (sdY Xq p)] 131, .rd kY aq nq Xq] := Bu.initW (W := [.blk bs [.slice aq nq cq, .int .i64 p, .int .u64 (sdY Xq p)] 131]) (R := [.rd kY aq nq Xq]) HA HP rfl
  have hlq := (B.r 1 rfl).len
  refine calls_W (n := 54) Try.func64 rfl rfl (Nat.le_of_ble_eq_true rfl) ?_
  refine W_seq ?_
  refine W_region (by kernel_rfl) ?_
  refine s_k rfl (k_allocN (z := (.agg #[.int .i64 0, .int .i64 0, .bool false, .slice none 0 0, .slice none 0 0])) (cs := [.int .i64 0, .int .i64 0, .bool false, .slice none 0 0, .slice none 0 0]) T64.zero_26 rfl (fun b1 w2 hN3 => ?_))
  replace B := B.new1 hN3
  clear hN3
  refine s_nil ?_
  refine W_seq ?_
  refine W_region (by kernel_rfl) ?_
  refine s_y (v := .pointer (some ⟨bs, 0, none⟩)) rfl (y_move rfl) ?_
  refine s_k rfl (k_call T64.fn_81 (c_s_pick (by omega) (by omega) (by omega) (by omega) (B.all.pick [1, 2] rfl) (B.pw.pick [1, 2] rfl rfl)) rfl ?_)
  rintro _ w4 ⟨v6, rfl, hp7, hU5⟩
  replace B : Bu w (hasW [.blk bs [.slice aq nq cq, .int .i64 p, .int .u64 (sdY Xq p)] 131]) w4 [.blk bs [.slice aq nq cq, .int .i64 (p + 1), .int .u64 (sdY Xq (p + 1))] 131, .blk b1 [.int .i64 0, .int .i64 0, .bool false, .slice none 0 0, .slice none 0 0] 26, .rd kY aq nq Xq] := B.upd [1] rfl hU5
  clear hU5
  have hb8 := pk_b Xq (n := 4) p (by omega)
  rw [← hp7] at hb8
  refine s_y (v := .int .i64 (3 + v6)) rfl (y_add rfl rfl rfl (by omega)) ?_
  refine s_y (v := .pointer (some ⟨bs, 0, none⟩)) rfl (y_move rfl) ?_
  refine s_k rfl (k_call T64.fn_99 (c_s_one (by omega) (by omega) (by omega) (by omega) (B.all.pick [0, 2] rfl) (B.pw.pick [0, 2] rfl rfl)) rfl ?_)
  rintro _ w9 ⟨vb11, rfl, hp12, hU10⟩
  replace B : Bu w (hasW [.blk bs [.slice aq nq cq, .int .i64 p, .int .u64 (sdY Xq p)] 131]) w9 [.blk bs [.slice aq nq cq, .int .i64 ((p + 1) + 1), .int .u64 (sdY Xq ((p + 1) + 1))] 131, .blk b1 [.int .i64 0, .int .i64 0, .bool false, .slice none 0 0, .slice none 0 0] 26, .rd kY aq nq Xq] := B.upd [0] rfl hU10
  clear hU10
  refine s_y (v := .agg #[.int .i64 (3 + v6), .int .i64 0, .bool vb11, .slice none 0 0, .slice none 0 0]) rfl (y_build (cells := #[.int .i64 (3 + v6), .int .i64 0, .bool vb11, .slice none 0 0, .slice none 0 0]) (by kernel_rfl)) ?_
  refine s_k rfl (k_allocN (z := (.agg #[.int .i64 0, .int .i64 0, .bool false, .slice none 0 0, .slice none 0 0])) (cs := [.int .i64 0, .int .i64 0, .bool false, .slice none 0 0, .slice none 0 0]) T64.zero_26 rfl (fun b13 w14 hN15 => ?_))
  replace B := B.new1 hN15
  clear hN15
  refine s_k0 rfl (k_stB (v := .agg #[.int .i64 (3 + v6), .int .i64 0, .bool vb11, .slice none 0 0, .slice none 0 0]) (n := 5) (cs' := [.int .i64 (3 + v6), .int .i64 0, .bool vb11, .slice none 0 0, .slice none 0 0]) T64.sz_26_5 rfl rfl rfl (B.b 0 rfl) (by simp [Value.cells, Value.oneCell']) (Nat.le_of_ble_eq_true rfl) rfl (fun w16 hU17 => ?_))
  replace B : Bu w (hasW [.blk bs [.slice aq nq cq, .int .i64 p, .int .u64 (sdY Xq p)] 131]) w16 [.blk b13 [.int .i64 (3 + v6), .int .i64 0, .bool vb11, .slice none 0 0, .slice none 0 0] 26, .blk bs [.slice aq nq cq, .int .i64 ((p + 1) + 1), .int .u64 (sdY Xq ((p + 1) + 1))] 131, .blk b1 [.int .i64 0, .int .i64 0, .bool false, .slice none 0 0, .slice none 0 0] 26, .rd kY aq nq Xq] := B.upd [0] rfl hU17
  clear hU17
  refine s_nil ?_
  refine W_seq ?_
  refine W_region (by kernel_rfl) ?_
  refine s_y (v := .pointer (some ⟨bs, 0, none⟩)) rfl (y_move rfl) ?_
  refine s_k rfl (k_call T64.fn_81 (c_s_pick (by omega) (by omega) (by omega) (by omega) (B.all.pick [1, 3] rfl) (B.pw.pick [1, 3] rfl rfl)) rfl ?_)
  rintro _ w18 ⟨v20, rfl, hp21, hU19⟩
  replace B : Bu w (hasW [.blk bs [.slice aq nq cq, .int .i64 p, .int .u64 (sdY Xq p)] 131]) w18 [.blk bs [.slice aq nq cq, .int .i64 (((p + 1) + 1) + 1), .int .u64 (sdY Xq (((p + 1) + 1) + 1))] 131, .blk b13 [.int .i64 (3 + v6), .int .i64 0, .bool vb11, .slice none 0 0, .slice none 0 0] 26, .blk b1 [.int .i64 0, .int .i64 0, .bool false, .slice none 0 0, .slice none 0 0] 26, .rd kY aq nq Xq] := B.upd [1] rfl hU19
  clear hU19
  have hb22 := pk_b Xq (n := 4) ((p + 1) + 1) (by omega)
  rw [← hp21] at hb22
  refine s_y (v := .int .i64 (3 + v20)) rfl (y_add rfl rfl rfl (by omega)) ?_
  refine s_y (v := .pointer (some ⟨b13, 1, none⟩)) rfl (y_fld (o := 0) T64.fld_26_1_1 rfl) ?_
  refine s_k0 rfl (k_stB (v := .int .i64 (3 + v20)) (n := 1) (cs' := [.int .i64 (3 + v6), .int .i64 (3 + v20), .bool vb11, .slice none 0 0, .slice none 0 0]) T64.sz_2_1 rfl rfl rfl (B.b 1 rfl) (by simp [Value.cells, Value.oneCell']) (Nat.le_of_ble_eq_true rfl) rfl (fun w23 hU24 => ?_))
  replace B : Bu w (hasW [.blk bs [.slice aq nq cq, .int .i64 p, .int .u64 (sdY Xq p)] 131]) w23 [.blk b13 [.int .i64 (3 + v6), .int .i64 (3 + v20), .bool vb11, .slice none 0 0, .slice none 0 0] 26, .blk bs [.slice aq nq cq, .int .i64 (((p + 1) + 1) + 1), .int .u64 (sdY Xq (((p + 1) + 1) + 1))] 131, .blk b1 [.int .i64 0, .int .i64 0, .bool false, .slice none 0 0, .slice none 0 0] 26, .rd kY aq nq Xq] := B.upd [1] rfl hU24
  clear hU24
  refine s_nil ?_
  refine W_seq ?_
  refine W_region (by kernel_rfl) ?_
  refine s_y (v := .pointer (some ⟨bs, 0, none⟩)) rfl (y_move rfl) ?_
  refine s_k rfl (k_call T64.fn_99 (c_s_one (by omega) (by omega) (by omega) (by omega) (B.all.pick [1, 3] rfl) (B.pw.pick [1, 3] rfl rfl)) rfl ?_)
  rintro _ w25 ⟨vb27, rfl, hp28, hU26⟩
  replace B : Bu w (hasW [.blk bs [.slice aq nq cq, .int .i64 p, .int .u64 (sdY Xq p)] 131]) w25 [.blk bs [.slice aq nq cq, .int .i64 ((((p + 1) + 1) + 1) + 1), .int .u64 (sdY Xq ((((p + 1) + 1) + 1) + 1))] 131, .blk b13 [.int .i64 (3 + v6), .int .i64 (3 + v20), .bool vb11, .slice none 0 0, .slice none 0 0] 26, .blk b1 [.int .i64 0, .int .i64 0, .bool false, .slice none 0 0, .slice none 0 0] 26, .rd kY aq nq Xq] := B.upd [1] rfl hU26
  clear hU26
  refine s_y (v := .bool vb27) rfl (y_assign rfl) ?_
  refine s_nil ?_
  refine W_seq ?_
  refine W_seq ?_
  refine W_region (by kernel_rfl) ?_
  refine s_y (v := .int .i64 0) rfl (y_assign rfl) ?_
  refine s_nil ?_
  refine W_block ?_
  have hwh := mul16 (a := (3 + v6)) (b := (3 + v20)) (by omega)
  refine W_loop (fun ρ' w' => ∃ (ρ1 : Env) (k : Int) (A1 : Option Addr) (N1 : Nat) (C1 : Nat) (A2 : Option Addr) (N2 : Nat) (C2 : Nat), ρ' = updL ρ1 [(0, .pointer (some ⟨bs, 0, none⟩)), (2, .pointer (some ⟨b1, 0, none⟩)), (3, .pointer (some ⟨b13, 0, none⟩)), (4, .bool vb27), (5, .int .i64 k)] ∧ Bu w (hasW [.blk bs [.slice aq nq cq, .int .i64 p, .int .u64 (sdY Xq p)] 131]) w' [.ow kF A1 N1 C1 34 (dwSpL Xq vb27 (p + 1 + 1 + 1 + 1) k), .ow kF A2 N2 C2 34 (dwLsL Xq vb27 (p + 1 + 1 + 1 + 1) k), .blk bs [.slice aq nq cq, .int .i64 (dwP Xq vb27 (p + 1 + 1 + 1 + 1) k), .int .u64 (sdY Xq (dwP Xq vb27 (p + 1 + 1 + 1 + 1) k))] 131, .blk b13 [.int .i64 (3 + v6), .int .i64 (3 + v20), .bool vb11, .slice A1 N1 C1, .slice A2 N2 C2] 26, .blk b1 [.int .i64 0, .int .i64 0, .bool false, .slice none 0 0, .slice none 0 0] 26, .rd kY aq nq Xq] ∧ (0 ≤ k) ∧ (k ≤ (3 + v6) * (3 + v20))) (fun ρ' _ => ((3 + v6) * (3 + v20) - iv (ρ' 5)).toNat) ?_ ?_
  · have hN29 := New.nilO w25 kF 34
    replace B := B.new1 hN29
    clear hN29
    have hN30 := New.nilO w25 kF 34
    replace B := B.new1 hN30
    clear hN30
    replace B : Bu w (hasW [.blk bs [.slice aq nq cq, .int .i64 p, .int .u64 (sdY Xq p)] 131]) w25 [.ow kF (none) 0 0 34 ([] : List Nat), .ow kF none 0 0 34 ([] : List Nat), .blk bs [.slice aq nq cq, .int .i64 (dwP Xq vb27 (p + 1 + 1 + 1 + 1) 0), .int .u64 (sdY Xq (dwP Xq vb27 (p + 1 + 1 + 1 + 1) 0))] 131, .blk b13 [.int .i64 (3 + v6), .int .i64 (3 + v20), .bool vb11, .slice none 0 0, .slice none 0 0] 26, .blk b1 [.int .i64 0, .int .i64 0, .bool false, .slice none 0 0, .slice none 0 0] 26, .rd kY aq nq Xq] := B.blkEq 2 rfl (pos_cells dwP_zero.symm)
    replace B : Bu w (hasW [.blk bs [.slice aq nq cq, .int .i64 p, .int .u64 (sdY Xq p)] 131]) w25 [.ow kF (none) 0 0 34 ([] : List Nat), .ow kF none 0 0 34 (dwSpL Xq vb27 (p + 1 + 1 + 1 + 1) 0), .blk bs [.slice aq nq cq, .int .i64 (dwP Xq vb27 (p + 1 + 1 + 1 + 1) 0), .int .u64 (sdY Xq (dwP Xq vb27 (p + 1 + 1 + 1 + 1) 0))] 131, .blk b13 [.int .i64 (3 + v6), .int .i64 (3 + v20), .bool vb11, .slice none 0 0, .slice none 0 0] 26, .blk b1 [.int .i64 0, .int .i64 0, .bool false, .slice none 0 0, .slice none 0 0] 26, .rd kY aq nq Xq] := B.castX 1 rfl rfl rfl
    replace B : Bu w (hasW [.blk bs [.slice aq nq cq, .int .i64 p, .int .u64 (sdY Xq p)] 131]) w25 [.ow kF (none) 0 0 34 (dwLsL Xq vb27 (p + 1 + 1 + 1 + 1) 0), .ow kF none 0 0 34 (dwSpL Xq vb27 (p + 1 + 1 + 1 + 1) 0), .blk bs [.slice aq nq cq, .int .i64 (dwP Xq vb27 (p + 1 + 1 + 1 + 1) 0), .int .u64 (sdY Xq (dwP Xq vb27 (p + 1 + 1 + 1 + 1) 0))] 131, .blk b13 [.int .i64 (3 + v6), .int .i64 (3 + v20), .bool vb11, .slice none 0 0, .slice none 0 0] 26, .blk b1 [.int .i64 0, .int .i64 0, .bool false, .slice none 0 0, .slice none 0 0] 26, .rd kY aq nq Xq] := B.castX 0 rfl rfl rfl
    exact ⟨_, 0, none, 0, 0, none, 0, 0, Fits.eq ⟨rfl, rfl, rfl, rfl, rfl, trivial⟩, (B.pick [1, 0, 2, 3, 4, 5] rfl rfl), (Int.le_refl _), (by omega)⟩
  · clear B; rintro _ w31 ⟨ρ32, k, A1, N1, C1, A2, N2, C2, rfl, B, h0k, h1k⟩
    have hdp := dwP_b Xq vb27 (p + 1 + 1 + 1 + 1) h0k
    have hN1 := (B.o 0 rfl).len
    rw [dwSpL_len] at hN1
    have hN2 := (B.o 1 rfl).len
    rw [dwLsL_len] at hN2
    refine W_seq ?_
    refine W_seq ?_
    refine W_region (by kernel_rfl) ?_
    refine s_y (v := .int .i64 k) rfl (y_move rfl) ?_
    refine s_y (v := .pointer (some ⟨b13, 0, none⟩)) rfl (y_fld (o := 0) T64.fld_26_0_0 rfl) ?_
    refine s_y (v := .int .i64 (3 + v6)) rfl (y_load T64.one_2 rfl ((B.b 3 rfl).cell (j := 0) rfl)) ?_
    refine s_y (v := .pointer (some ⟨b13, 1, none⟩)) rfl (y_fld (o := 0) T64.fld_26_1_1 rfl) ?_
    refine s_y (v := .int .i64 (3 + v20)) rfl (y_load T64.one_2 rfl ((B.b 3 rfl).cell (j := 1) rfl)) ?_
    have hm33 := mulb (a := 3 + v6) (b := 3 + v20) (by omega) (by omega) (by omega) (by omega)
    refine s_y (v := .int .i64 ((3 + v6) * (3 + v20))) rfl (y_mul rfl rfl rfl (by omega)) ?_
    by_cases c34 : k < ((3 + v6) * (3 + v20))
    · refine s_y (v := .bool true) rfl (y_lss rfl rfl (decide_eq_true c34)) ?_
      refine s_nil ?_
      refine W_if_t (by decide) rfl ?_
      refine W_skip ?_
      refine W_seq ?_
      refine W_block ?_
      refine W_seq ?_
      refine W_region (by kernel_rfl) ?_
      refine s_y (v := .float .f32 1056964608) rfl (y_assign rfl) ?_
      refine s_nil ?_
      refine W_seq ?_
      refine W_region (by kernel_rfl) ?_
      refine s_y (v := .float .f32 0) rfl (y_assign rfl) ?_
      refine s_nil ?_
      refine W_seq ?_
      refine W_seq ?_
      refine W_region (by kernel_rfl) ?_
      refine s_y (v := .bool vb27) rfl (y_move rfl) ?_
      refine s_y (v := .bool (!vb27)) rfl (y_not rfl rfl) ?_
      refine s_nil ?_
      cases vb27
      · refine W_if_t (by decide) rfl ?_
        refine W_seq ?_
        refine W_region (by kernel_rfl) ?_
        refine s_y (v := .pointer (some ⟨bs, 0, none⟩)) rfl (y_move rfl) ?_
        refine s_k rfl (k_call T64.fn_81 (c_s_pick (by omega) (by omega) (by omega) (by omega) (B.all.pick [2, 5] rfl) (B.pw.pick [2, 5] rfl rfl)) rfl ?_)
        rintro _ w35 ⟨v37, rfl, hp38, hU36⟩
        replace B : Bu w (hasW [.blk bs [.slice aq nq cq, .int .i64 p, .int .u64 (sdY Xq p)] 131]) w35 [.blk bs [.slice aq nq cq, .int .i64 ((dwP Xq false (p + 1 + 1 + 1 + 1) k) + 1), .int .u64 (sdY Xq ((dwP Xq false (p + 1 + 1 + 1 + 1) k) + 1))] 131, .ow kF A1 N1 C1 34 (dwSpL Xq false (p + 1 + 1 + 1 + 1) k), .ow kF A2 N2 C2 34 (dwLsL Xq false (p + 1 + 1 + 1 + 1) k), .blk b13 [.int .i64 (3 + v6), .int .i64 (3 + v20), .bool vb11, .slice A1 N1 C1, .slice A2 N2 C2] 26, .blk b1 [.int .i64 0, .int .i64 0, .bool false, .slice none 0 0, .slice none 0 0] 26, .rd kY aq nq Xq] := B.upd [2] rfl hU36
        clear hU36
        have hb39 := pk_b Xq (n := 9) (dwP Xq false (p + 1 + 1 + 1 + 1) k) (by omega)
        rw [← hp38] at hb39
        refine s_y (v := .float .f32 (FloatKind.nearest .f32 v37)) rfl (y_if T64.und_2 T64.flt_34_f32 rfl) ?_
        refine s_n rfl (n_arith (by decide) rfl rfl) ?_
        rintro _ w43 e44 ⟨r41, rfl, hr42⟩
        replace B := B.ext0 e44
        clear e44
        have hc45 := fopC hr42 (cn_nearest .f32 v37) (cnLit (k := .f32) (t := 1098907648) (by kernel_rfl) (by kernel_rfl))
        refine s_y (v := .float .f32 r41) rfl (y_assign rfl) ?_
        refine s_nil ?_
        refine W_seq ?_
        refine W_region (by kernel_rfl) ?_
        refine s_y (v := .pointer (some ⟨bs, 0, none⟩)) rfl (y_move rfl) ?_
        refine s_k rfl (k_call T64.fn_99 (c_s_one (by omega) (by omega) (by omega) (by omega) (B.all.pick [0, 5] rfl) (B.pw.pick [0, 5] rfl rfl)) rfl ?_)
        rintro _ w46 ⟨vb48, rfl, hp49, hU47⟩
        replace B : Bu w (hasW [.blk bs [.slice aq nq cq, .int .i64 p, .int .u64 (sdY Xq p)] 131]) w46 [.blk bs [.slice aq nq cq, .int .i64 (((dwP Xq false (p + 1 + 1 + 1 + 1) k) + 1) + 1), .int .u64 (sdY Xq (((dwP Xq false (p + 1 + 1 + 1 + 1) k) + 1) + 1))] 131, .ow kF A1 N1 C1 34 (dwSpL Xq false (p + 1 + 1 + 1 + 1) k), .ow kF A2 N2 C2 34 (dwLsL Xq false (p + 1 + 1 + 1 + 1) k), .blk b13 [.int .i64 (3 + v6), .int .i64 (3 + v20), .bool vb11, .slice A1 N1 C1, .slice A2 N2 C2] 26, .blk b1 [.int .i64 0, .int .i64 0, .bool false, .slice none 0 0, .slice none 0 0] 26, .rd kY aq nq Xq] := B.upd [0] rfl hU47
        clear hU47
        refine s_nil ?_
        cases vb48
        · refine W_if_f (by decide) rfl ?_
          refine W_skip ?_
          refine W_seq ?_
          refine W_region (by kernel_rfl) ?_
          refine s_y (v := .pointer (some ⟨b13, 3, none⟩)) rfl (y_fld (o := 0) T64.fld_26_3_3 rfl) ?_
          refine s_y (v := .slice A1 N1 C1) rfl (y_load T64.one_24 rfl ((B.b 3 rfl).cell (j := 3) rfl)) ?_
          refine s_y (v := .float .f32 r41) rfl (y_move rfl) ?_
          refine s_k rfl (k_bsliceO (k := kF) (n := 1) (cells := #[.float .f32 r41]) (X := [fop .quo .f32 (FloatKind.nearest .f32 v37) 1098907648]) T64.slt_24 (by decide) (by first | rfl | kernel_rfl) (reps_cons (c := [.float .f32 r41]) ⟨_, rfl, hc45⟩ (rfl : Reps kF [] [])) rfl (fun b50 w51 hN52 => ?_))
          replace B := B.new1 hN52
          clear hN52
          refine s_k rfl (k_appO (k := kF) T64.slt_24 rfl rfl rfl (B.o 2 rfl) (B.o 0 rfl).rd (by omega) (by unfold maxLen; omega) (fun a53 c54 w55 hU56 => ?_))
          replace B : Bu w (hasW [.blk bs [.slice aq nq cq, .int .i64 p, .int .u64 (sdY Xq p)] 131]) w55 [.ow kF a53 (N1 + 1) c54 34 ((dwSpL Xq false (p + 1 + 1 + 1 + 1) k) ++ ([fop .quo .f32 (FloatKind.nearest .f32 v37) 1098907648])), .ow kF (some ⟨b50, 0, none⟩) 1 1 34 ([fop .quo .f32 (FloatKind.nearest .f32 v37) 1098907648]), .blk bs [.slice aq nq cq, .int .i64 (((dwP Xq false (p + 1 + 1 + 1 + 1) k) + 1) + 1), .int .u64 (sdY Xq (((dwP Xq false (p + 1 + 1 + 1 + 1) k) + 1) + 1))] 131, .ow kF A2 N2 C2 34 (dwLsL Xq false (p + 1 + 1 + 1 + 1) k), .blk b13 [.int .i64 (3 + v6), .int .i64 (3 + v20), .bool vb11, .slice A1 N1 C1, .slice A2 N2 C2] 26, .blk b1 [.int .i64 0, .int .i64 0, .bool false, .slice none 0 0, .slice none 0 0] 26, .rd kY aq nq Xq] := B.upd [2] rfl hU56
          clear hU56
          refine s_y (v := .pointer (some ⟨b13, 3, none⟩)) rfl (y_fld (o := 0) T64.fld_26_3_3 rfl) ?_
          refine s_k0 rfl (k_stB (v := .slice a53 (N1 + 1) c54) (n := 1) (cs' := [.int .i64 (3 + v6), .int .i64 (3 + v20), .bool vb11, .slice a53 (N1 + 1) c54, .slice A2 N2 C2]) T64.sz_24_1 rfl rfl rfl (B.b 4 rfl) (by simp [Value.cells, Value.oneCell']) (Nat.le_of_ble_eq_true rfl) rfl (fun w57 hU58 => ?_))
          replace B : Bu w (hasW [.blk bs [.slice aq nq cq, .int .i64 p, .int .u64 (sdY Xq p)] 131]) w57 [.blk b13 [.int .i64 (3 + v6), .int .i64 (3 + v20), .bool vb11, .slice a53 (N1 + 1) c54, .slice A2 N2 C2] 26, .ow kF a53 (N1 + 1) c54 34 ((dwSpL Xq false (p + 1 + 1 + 1 + 1) k) ++ ([fop .quo .f32 (FloatKind.nearest .f32 v37) 1098907648])), .ow kF (some ⟨b50, 0, none⟩) 1 1 34 ([fop .quo .f32 (FloatKind.nearest .f32 v37) 1098907648]), .blk bs [.slice aq nq cq, .int .i64 (((dwP Xq false (p + 1 + 1 + 1 + 1) k) + 1) + 1), .int .u64 (sdY Xq (((dwP Xq false (p + 1 + 1 + 1 + 1) k) + 1) + 1))] 131, .ow kF A2 N2 C2 34 (dwLsL Xq false (p + 1 + 1 + 1 + 1) k), .blk b1 [.int .i64 0, .int .i64 0, .bool false, .slice none 0 0, .slice none 0 0] 26, .rd kY aq nq Xq] := B.upd [4] rfl hU58
          clear hU58
          refine s_nil ?_
          refine W_region (by kernel_rfl) ?_
          refine s_y (v := .pointer (some ⟨b13, 4, none⟩)) rfl (y_fld (o := 0) T64.fld_26_4_4 rfl) ?_
          refine s_y (v := .slice A2 N2 C2) rfl (y_load T64.one_24 rfl ((B.b 0 rfl).cell (j := 4) rfl)) ?_
          refine s_y (v := .float .f32 0) rfl (y_move rfl) ?_
          refine s_k rfl (k_bsliceO (k := kF) (n := 1) (cells := #[.float .f32 0]) (X := [0]) T64.slt_24 (by decide) (by first | rfl | kernel_rfl) (reps_cons (c := [.float .f32 0]) ⟨_, rfl, (cnLit (k := .f32) (t := 0) (by kernel_rfl) (by kernel_rfl))⟩ (rfl : Reps kF [] [])) rfl (fun b59 w60 hN61 => ?_))
          replace B := B.new1 hN61
          clear hN61
          refine s_k rfl (k_appO (k := kF) T64.slt_24 rfl rfl rfl (B.o 5 rfl) (B.o 0 rfl).rd (by omega) (by unfold maxLen; omega) (fun a62 c63 w64 hU65 => ?_))
          replace B : Bu w (hasW [.blk bs [.slice aq nq cq, .int .i64 p, .int .u64 (sdY Xq p)] 131]) w64 [.ow kF a62 (N2 + 1) c63 34 ((dwLsL Xq false (p + 1 + 1 + 1 + 1) k) ++ ([0])), .ow kF (some ⟨b59, 0, none⟩) 1 1 34 ([0]), .blk b13 [.int .i64 (3 + v6), .int .i64 (3 + v20), .bool vb11, .slice a53 (N1 + 1) c54, .slice A2 N2 C2] 26, .ow kF a53 (N1 + 1) c54 34 ((dwSpL Xq false (p + 1 + 1 + 1 + 1) k) ++ ([fop .quo .f32 (FloatKind.nearest .f32 v37) 1098907648])), .ow kF (some ⟨b50, 0, none⟩) 1 1 34 ([fop .quo .f32 (FloatKind.nearest .f32 v37) 1098907648]), .blk bs [.slice aq nq cq, .int .i64 (((dwP Xq false (p + 1 + 1 + 1 + 1) k) + 1) + 1), .int .u64 (sdY Xq (((dwP Xq false (p + 1 + 1 + 1 + 1) k) + 1) + 1))] 131, .blk b1 [.int .i64 0, .int .i64 0, .bool false, .slice none 0 0, .slice none 0 0] 26, .rd kY aq nq Xq] := B.upd [5] rfl hU65
          clear hU65
          refine s_y (v := .pointer (some ⟨b13, 4, none⟩)) rfl (y_fld (o := 0) T64.fld_26_4_4 rfl) ?_
          refine s_k0 rfl (k_stB (v := .slice a62 (N2 + 1) c63) (n := 1) (cs' := [.int .i64 (3 + v6), .int .i64 (3 + v20), .bool vb11, .slice a53 (N1 + 1) c54, .slice a62 (N2 + 1) c63]) T64.sz_24_1 rfl rfl rfl (B.b 2 rfl) (by simp [Value.cells, Value.oneCell']) (Nat.le_of_ble_eq_true rfl) rfl (fun w66 hU67 => ?_))
          replace B : Bu w (hasW [.blk bs [.slice aq nq cq, .int .i64 p, .int .u64 (sdY Xq p)] 131]) w66 [.blk b13 [.int .i64 (3 + v6), .int .i64 (3 + v20), .bool vb11, .slice a53 (N1 + 1) c54, .slice a62 (N2 + 1) c63] 26, .ow kF a62 (N2 + 1) c63 34 ((dwLsL Xq false (p + 1 + 1 + 1 + 1) k) ++ ([0])), .ow kF (some ⟨b59, 0, none⟩) 1 1 34 ([0]), .ow kF a53 (N1 + 1) c54 34 ((dwSpL Xq false (p + 1 + 1 + 1 + 1) k) ++ ([fop .quo .f32 (FloatKind.nearest .f32 v37) 1098907648])), .ow kF (some ⟨b50, 0, none⟩) 1 1 34 ([fop .quo .f32 (FloatKind.nearest .f32 v37) 1098907648]), .blk bs [.slice aq nq cq, .int .i64 (((dwP Xq false (p + 1 + 1 + 1 + 1) k) + 1) + 1), .int .u64 (sdY Xq (((dwP Xq false (p + 1 + 1 + 1 + 1) k) + 1) + 1))] 131, .blk b1 [.int .i64 0, .int .i64 0, .bool false, .slice none 0 0, .slice none 0 0] 26, .rd kY aq nq Xq] := B.upd [2] rfl hU67
          clear hU67
          refine s_nil ?_
          refine W_region (by kernel_rfl) ?_
          refine s_y (v := .int .i64 k) rfl (y_move rfl) ?_
          refine s_y (v := .int .i64 (k + 1)) rfl (y_add rfl rfl rfl (by omega)) ?_
          refine s_y (v := .int .i64 (k + 1)) rfl (y_assign rfl) ?_
          refine s_nil ?_
          subst hp38
          replace B : Bu w (hasW [.blk bs [.slice aq nq cq, .int .i64 p, .int .u64 (sdY Xq p)] 131]) w66 [.blk b13 [.int .i64 (3 + v6), .int .i64 (3 + v20), .bool vb11, .slice a53 (N1 + 1) c54, .slice a62 (N2 + 1) c63] 26, .ow kF a62 (N2 + 1) c63 34 ((dwLsL Xq false (p + 1 + 1 + 1 + 1) k) ++ ([0])), .ow kF (some ⟨b59, 0, none⟩) 1 1 34 ([0]), .ow kF a53 (N1 + 1) c54 34 ((dwSpL Xq false (p + 1 + 1 + 1 + 1) k) ++ ([fop .quo .f32 (FloatKind.nearest .f32 (pk Xq 9 (dwP Xq false (p + 1 + 1 + 1 + 1) k))) 1098907648])), .ow kF (some ⟨b50, 0, none⟩) 1 1 34 ([fop .quo .f32 (FloatKind.nearest .f32 (pk Xq 9 (dwP Xq false (p + 1 + 1 + 1 + 1) k))) 1098907648]), .blk bs [.slice aq nq cq, .int .i64 (dwP Xq false (p + 1 + 1 + 1 + 1) (k + 1)), .int .u64 (sdY Xq (dwP Xq false (p + 1 + 1 + 1 + 1) (k + 1)))] 131, .blk b1 [.int .i64 0, .int .i64 0, .bool false, .slice none 0 0, .slice none 0 0] 26, .rd kY aq nq Xq] := B.blkEq 5 rfl (pos_cells ((dw_no (q := dwP Xq false (p + 1 + 1 + 1 + 1) k) hp49).2.trans (dwP_next h0k)))
          replace B : Bu w (hasW [.blk bs [.slice aq nq cq, .int .i64 p, .int .u64 (sdY Xq p)] 131]) w66 [.blk b13 [.int .i64 (3 + v6), .int .i64 (3 + v20), .bool vb11, .slice a53 (N1 + 1) c54, .slice a62 (N2 + 1) c63] 26, .ow kF a62 (N2 + 1) c63 34 ((dwLsL Xq false (p + 1 + 1 + 1 + 1) k) ++ ([0])), .ow kF (some ⟨b59, 0, none⟩) 1 1 34 ([0]), .ow kF a53 (N1 + 1) c54 34 (dwSpL Xq false (p + 1 + 1 + 1 + 1) (k + 1)), .ow kF (some ⟨b50, 0, none⟩) 1 1 34 ([fop .quo .f32 (FloatKind.nearest .f32 (pk Xq 9 (dwP Xq false (p + 1 + 1 + 1 + 1) k))) 1098907648]), .blk bs [.slice aq nq cq, .int .i64 (dwP Xq false (p + 1 + 1 + 1 + 1) (k + 1)), .int .u64 (sdY Xq (dwP Xq false (p + 1 + 1 + 1 + 1) (k + 1)))] 131, .blk b1 [.int .i64 0, .int .i64 0, .bool false, .slice none 0 0, .slice none 0 0] 26, .rd kY aq nq Xq] := B.castX 3 rfl rfl (dwSpL_next h0k rfl)
          replace B : Bu w (hasW [.blk bs [.slice aq nq cq, .int .i64 p, .int .u64 (sdY Xq p)] 131]) w66 [.blk b13 [.int .i64 (3 + v6), .int .i64 (3 + v20), .bool vb11, .slice a53 (N1 + 1) c54, .slice a62 (N2 + 1) c63] 26, .ow kF a62 (N2 + 1) c63 34 (dwLsL Xq false (p + 1 + 1 + 1 + 1) (k + 1)), .ow kF (some ⟨b59, 0, none⟩) 1 1 34 ([0]), .ow kF a53 (N1 + 1) c54 34 (dwSpL Xq false (p + 1 + 1 + 1 + 1) (k + 1)), .ow kF (some ⟨b50, 0, none⟩) 1 1 34 ([fop .quo .f32 (FloatKind.nearest .f32 (pk Xq 9 (dwP Xq false (p + 1 + 1 + 1 + 1) k))) 1098907648]), .blk bs [.slice aq nq cq, .int .i64 (dwP Xq false (p + 1 + 1 + 1 + 1) (k + 1)), .int .u64 (sdY Xq (dwP Xq false (p + 1 + 1 + 1 + 1) (k + 1)))] 131, .blk b1 [.int .i64 0, .int .i64 0, .bool false, .slice none 0 0, .slice none 0 0] 26, .rd kY aq nq Xq] := B.castX 1 rfl rfl (dwLsL_next h0k (dw_no (q := dwP Xq false (p + 1 + 1 + 1 + 1) k) hp49).1)
          refine ⟨⟨_, k + 1, a53, N1 + 1, c54, a62, N2 + 1, c63, Fits.eq ⟨rfl, rfl, rfl, rfl, rfl, trivial⟩, (B.pick [3, 1, 5, 0, 6, 7] rfl rfl), (by omega), (by omega)⟩, ?_⟩
          show ((3 + v6) * (3 + v20) - (k + 1)).toNat < ((3 + v6) * (3 + v20) - k).toNat
          omega
        · refine W_if_t (by decide) rfl ?_
          refine W_region (by kernel_rfl) ?_
          refine s_y (v := .pointer (some ⟨bs, 0, none⟩)) rfl (y_move rfl) ?_
          refine s_k rfl (k_call T64.fn_81 (c_s_pick (by omega) (by omega) (by omega) (by omega) (B.all.pick [0, 5] rfl) (B.pw.pick [0, 5] rfl rfl)) rfl ?_)
          rintro _ w68 ⟨v70, rfl, hp71, hU69⟩
          replace B : Bu w (hasW [.blk bs [.slice aq nq cq, .int .i64 p, .int .u64 (sdY Xq p)] 131]) w68 [.blk bs [.slice aq nq cq, .int .i64 ((((dwP Xq false (p + 1 + 1 + 1 + 1) k) + 1) + 1) + 1), .int .u64 (sdY Xq ((((dwP Xq false (p + 1 + 1 + 1 + 1) k) + 1) + 1) + 1))] 131, .ow kF A1 N1 C1 34 (dwSpL Xq false (p + 1 + 1 + 1 + 1) k), .ow kF A2 N2 C2 34 (dwLsL Xq false (p + 1 + 1 + 1 + 1) k), .blk b13 [.int .i64 (3 + v6), .int .i64 (3 + v20), .bool vb11, .slice A1 N1 C1, .slice A2 N2 C2] 26, .blk b1 [.int .i64 0, .int .i64 0, .bool false, .slice none 0 0, .slice none 0 0] 26, .rd kY aq nq Xq] := B.upd [0] rfl hU69
          clear hU69
          have hb72 := pk_b Xq (n := 9) (((dwP Xq false (p + 1 + 1 + 1 + 1) k) + 1) + 1) (by omega)
          rw [← hp71] at hb72
          refine s_y (v := .float .f32 (FloatKind.nearest .f32 v70)) rfl (y_if T64.und_2 T64.flt_34_f32 rfl) ?_
          refine s_n rfl (n_arith (by decide) rfl rfl) ?_
          rintro _ w76 e77 ⟨r74, rfl, hr75⟩
          replace B := B.ext0 e77
          clear e77
          have hc78 := fopC hr75 (cn_nearest .f32 v70) (cnLit (k := .f32) (t := 1090519040) (by kernel_rfl) (by kernel_rfl))
          refine s_y (v := .float .f32 r74) rfl (y_assign rfl) ?_
          refine s_nil ?_
          refine W_seq ?_
          refine W_region (by kernel_rfl) ?_
          refine s_y (v := .pointer (some ⟨b13, 3, none⟩)) rfl (y_fld (o := 0) T64.fld_26_3_3 rfl) ?_
          refine s_y (v := .slice A1 N1 C1) rfl (y_load T64.one_24 rfl ((B.b 3 rfl).cell (j := 3) rfl)) ?_
          refine s_y (v := .float .f32 r41) rfl (y_move rfl) ?_
          refine s_k rfl (k_bsliceO (k := kF) (n := 1) (cells := #[.float .f32 r41]) (X := [fop .quo .f32 (FloatKind.nearest .f32 v37) 1098907648]) T64.slt_24 (by decide) (by first | rfl | kernel_rfl) (reps_cons (c := [.float .f32 r41]) ⟨_, rfl, hc45⟩ (rfl : Reps kF [] [])) rfl (fun b79 w80 hN81 => ?_))
          replace B := B.new1 hN81
          clear hN81
          refine s_k rfl (k_appO (k := kF) T64.slt_24 rfl rfl rfl (B.o 2 rfl) (B.o 0 rfl).rd (by omega) (by unfold maxLen; omega) (fun a82 c83 w84 hU85 => ?_))
          replace B : Bu w (hasW [.blk bs [.slice aq nq cq, .int .i64 p, .int .u64 (sdY Xq p)] 131]) w84 [.ow kF a82 (N1 + 1) c83 34 ((dwSpL Xq false (p + 1 + 1 + 1 + 1) k) ++ ([fop .quo .f32 (FloatKind.nearest .f32 v37) 1098907648])), .ow kF (some ⟨b79, 0, none⟩) 1 1 34 ([fop .quo .f32 (FloatKind.nearest .f32 v37) 1098907648]), .blk bs [.slice aq nq cq, .int .i64 ((((dwP Xq false (p + 1 + 1 + 1 + 1) k) + 1) + 1) + 1), .int .u64 (sdY Xq ((((dwP Xq false (p + 1 + 1 + 1 + 1) k) + 1) + 1) + 1))] 131, .ow kF A2 N2 C2 34 (dwLsL Xq false (p + 1 + 1 + 1 + 1) k), .blk b13 [.int .i64 (3 + v6), .int .i64 (3 + v20), .bool vb11, .slice A1 N1 C1, .slice A2 N2 C2] 26, .blk b1 [.int .i64 0, .int .i64 0, .bool false, .slice none 0 0, .slice none 0 0] 26, .rd kY aq nq Xq] := B.upd [2] rfl hU85
          clear hU85
          refine s_y (v := .pointer (some ⟨b13, 3, none⟩)) rfl (y_fld (o := 0) T64.fld_26_3_3 rfl) ?_
          refine s_k0 rfl (k_stB (v := .slice a82 (N1 + 1) c83) (n := 1) (cs' := [.int .i64 (3 + v6), .int .i64 (3 + v20), .bool vb11, .slice a82 (N1 + 1) c83, .slice A2 N2 C2]) T64.sz_24_1 rfl rfl rfl (B.b 4 rfl) (by simp [Value.cells, Value.oneCell']) (Nat.le_of_ble_eq_true rfl) rfl (fun w86 hU87 => ?_))
          replace B : Bu w (hasW [.blk bs [.slice aq nq cq, .int .i64 p, .int .u64 (sdY Xq p)] 131]) w86 [.blk b13 [.int .i64 (3 + v6), .int .i64 (3 + v20), .bool vb11, .slice a82 (N1 + 1) c83, .slice A2 N2 C2] 26, .ow kF a82 (N1 + 1) c83 34 ((dwSpL Xq false (p + 1 + 1 + 1 + 1) k) ++ ([fop .quo .f32 (FloatKind.nearest .f32 v37) 1098907648])), .ow kF (some ⟨b79, 0, none⟩) 1 1 34 ([fop .quo .f32 (FloatKind.nearest .f32 v37) 1098907648]), .blk bs [.slice aq nq cq, .int .i64 ((((dwP Xq false (p + 1 + 1 + 1 + 1) k) + 1) + 1) + 1), .int .u64 (sdY Xq ((((dwP Xq false (p + 1 + 1 + 1 + 1) k) + 1) + 1) + 1))] 131, .ow kF A2 N2 C2 34 (dwLsL Xq false (p + 1 + 1 + 1 + 1) k), .blk b1 [.int .i64 0, .int .i64 0, .bool false, .slice none 0 0, .slice none 0 0] 26, .rd kY aq nq Xq] := B.upd [4] rfl hU87
          clear hU87
          refine s_nil ?_
          refine W_region (by kernel_rfl) ?_
          refine s_y (v := .pointer (some ⟨b13, 4, none⟩)) rfl (y_fld (o := 0) T64.fld_26_4_4 rfl) ?_
          refine s_y (v := .slice A2 N2 C2) rfl (y_load T64.one_24 rfl ((B.b 0 rfl).cell (j := 4) rfl)) ?_
          refine s_y (v := .float .f32 r74) rfl (y_move rfl) ?_
          refine s_k rfl (k_bsliceO (k := kF) (n := 1) (cells := #[.float .f32 r74]) (X := [fop .quo .f32 (FloatKind.nearest .f32 v70) 1090519040]) T64.slt_24 (by decide) (by first | rfl | kernel_rfl) (reps_cons (c := [.float .f32 r74]) ⟨_, rfl, hc78⟩ (rfl : Reps kF [] [])) rfl (fun b88 w89 hN90 => ?_))
          replace B := B.new1 hN90
          clear hN90
          refine s_k rfl (k_appO (k := kF) T64.slt_24 rfl rfl rfl (B.o 5 rfl) (B.o 0 rfl).rd (by omega) (by unfold maxLen; omega) (fun a91 c92 w93 hU94 => ?_))
          replace B : Bu w (hasW [.blk bs [.slice aq nq cq, .int .i64 p, .int .u64 (sdY Xq p)] 131]) w93 [.ow kF a91 (N2 + 1) c92 34 ((dwLsL Xq false (p + 1 + 1 + 1 + 1) k) ++ ([fop .quo .f32 (FloatKind.nearest .f32 v70) 1090519040])), .ow kF (some ⟨b88, 0, none⟩) 1 1 34 ([fop .quo .f32 (FloatKind.nearest .f32 v70) 1090519040]), .blk b13 [.int .i64 (3 + v6), .int .i64 (3 + v20), .bool vb11, .slice a82 (N1 + 1) c83, .slice A2 N2 C2] 26, .ow kF a82 (N1 + 1) c83 34 ((dwSpL Xq false (p + 1 + 1 + 1 + 1) k) ++ ([fop .quo .f32 (FloatKind.nearest .f32 v37) 1098907648])), .ow kF (some ⟨b79, 0, none⟩) 1 1 34 ([fop .quo .f32 (FloatKind.nearest .f32 v37) 1098907648]), .blk bs [.slice aq nq cq, .int .i64 ((((dwP Xq false (p + 1 + 1 + 1 + 1) k) + 1) + 1) + 1), .int .u64 (sdY Xq ((((dwP Xq false (p + 1 + 1 + 1 + 1) k) + 1) + 1) + 1))] 131, .blk b1 [.int .i64 0, .int .i64 0, .bool false, .slice none 0 0, .slice none 0 0] 26, .rd kY aq nq Xq] := B.upd [5] rfl hU94
          clear hU94
          refine s_y (v := .pointer (some ⟨b13, 4, none⟩)) rfl (y_fld (o := 0) T64.fld_26_4_4 rfl) ?_
          refine s_k0 rfl (k_stB (v := .slice a91 (N2 + 1) c92) (n := 1) (cs' := [.int .i64 (3 + v6), .int .i64 (3 + v20), .bool vb11, .slice a82 (N1 + 1) c83, .slice a91 (N2 + 1) c92]) T64.sz_24_1 rfl rfl rfl (B.b 2 rfl) (by simp [Value.cells, Value.oneCell']) (Nat.le_of_ble_eq_true rfl) rfl (fun w95 hU96 => ?_))
          replace B : Bu w (hasW [.blk bs [.slice aq nq cq, .int .i64 p, .int .u64 (sdY Xq p)] 131]) w95 [.blk b13 [.int .i64 (3 + v6), .int .i64 (3 + v20), .bool vb11, .slice a82 (N1 + 1) c83, .slice a91 (N2 + 1) c92] 26, .ow kF a91 (N2 + 1) c92 34 ((dwLsL Xq false (p + 1 + 1 + 1 + 1) k) ++ ([fop .quo .f32 (FloatKind.nearest .f32 v70) 1090519040])), .ow kF (some ⟨b88, 0, none⟩) 1 1 34 ([fop .quo .f32 (FloatKind.nearest .f32 v70) 1090519040]), .ow kF a82 (N1 + 1) c83 34 ((dwSpL Xq false (p + 1 + 1 + 1 + 1) k) ++ ([fop .quo .f32 (FloatKind.nearest .f32 v37) 1098907648])), .ow kF (some ⟨b79, 0, none⟩) 1 1 34 ([fop .quo .f32 (FloatKind.nearest .f32 v37) 1098907648]), .blk bs [.slice aq nq cq, .int .i64 ((((dwP Xq false (p + 1 + 1 + 1 + 1) k) + 1) + 1) + 1), .int .u64 (sdY Xq ((((dwP Xq false (p + 1 + 1 + 1 + 1) k) + 1) + 1) + 1))] 131, .blk b1 [.int .i64 0, .int .i64 0, .bool false, .slice none 0 0, .slice none 0 0] 26, .rd kY aq nq Xq] := B.upd [2] rfl hU96
          clear hU96
          refine s_nil ?_
          refine W_region (by kernel_rfl) ?_
          refine s_y (v := .int .i64 k) rfl (y_move rfl) ?_
          refine s_y (v := .int .i64 (k + 1)) rfl (y_add rfl rfl rfl (by omega)) ?_
          refine s_y (v := .int .i64 (k + 1)) rfl (y_assign rfl) ?_
          refine s_nil ?_
          subst hp38
          subst hp71
          replace B : Bu w (hasW [.blk bs [.slice aq nq cq, .int .i64 p, .int .u64 (sdY Xq p)] 131]) w95 [.blk b13 [.int .i64 (3 + v6), .int .i64 (3 + v20), .bool vb11, .slice a82 (N1 + 1) c83, .slice a91 (N2 + 1) c92] 26, .ow kF a91 (N2 + 1) c92 34 ((dwLsL Xq false (p + 1 + 1 + 1 + 1) k) ++ ([fop .quo .f32 (FloatKind.nearest .f32 (pk Xq 9 (((dwP Xq false (p + 1 + 1 + 1 + 1) k) + 1) + 1))) 1090519040])), .ow kF (some ⟨b88, 0, none⟩) 1 1 34 ([fop .quo .f32 (FloatKind.nearest .f32 (pk Xq 9 (((dwP Xq false (p + 1 + 1 + 1 + 1) k) + 1) + 1))) 1090519040]), .ow kF a82 (N1 + 1) c83 34 ((dwSpL Xq false (p + 1 + 1 + 1 + 1) k) ++ ([fop .quo .f32 (FloatKind.nearest .f32 (pk Xq 9 (dwP Xq false (p + 1 + 1 + 1 + 1) k))) 1098907648])), .ow kF (some ⟨b79, 0, none⟩) 1 1 34 ([fop .quo .f32 (FloatKind.nearest .f32 (pk Xq 9 (dwP Xq false (p + 1 + 1 + 1 + 1) k))) 1098907648]), .blk bs [.slice aq nq cq, .int .i64 (dwP Xq false (p + 1 + 1 + 1 + 1) (k + 1)), .int .u64 (sdY Xq (dwP Xq false (p + 1 + 1 + 1 + 1) (k + 1)))] 131, .blk b1 [.int .i64 0, .int .i64 0, .bool false, .slice none 0 0, .slice none 0 0] 26, .rd kY aq nq Xq] := B.blkEq 5 rfl (pos_cells ((dw_yes (q := dwP Xq false (p + 1 + 1 + 1 + 1) k) hp49).2.trans (dwP_next h0k)))
          replace B : Bu w (hasW [.blk bs [.slice aq nq cq, .int .i64 p, .int .u64 (sdY Xq p)] 131]) w95 [.blk b13 [.int .i64 (3 + v6), .int .i64 (3 + v20), .bool vb11, .slice a82 (N1 + 1) c83, .slice a91 (N2 + 1) c92] 26, .ow kF a91 (N2 + 1) c92 34 ((dwLsL Xq false (p + 1 + 1 + 1 + 1) k) ++ ([fop .quo .f32 (FloatKind.nearest .f32 (pk Xq 9 (((dwP Xq false (p + 1 + 1 + 1 + 1) k) + 1) + 1))) 1090519040])), .ow kF (some ⟨b88, 0, none⟩) 1 1 34 ([fop .quo .f32 (FloatKind.nearest .f32 (pk Xq 9 (((dwP Xq false (p + 1 + 1 + 1 + 1) k) + 1) + 1))) 1090519040]), .ow kF a82 (N1 + 1) c83 34 (dwSpL Xq false (p + 1 + 1 + 1 + 1) (k + 1)), .ow kF (some ⟨b79, 0, none⟩) 1 1 34 ([fop .quo .f32 (FloatKind.nearest .f32 (pk Xq 9 (dwP Xq false (p + 1 + 1 + 1 + 1) k))) 1098907648]), .blk bs [.slice aq nq cq, .int .i64 (dwP Xq false (p + 1 + 1 + 1 + 1) (k + 1)), .int .u64 (sdY Xq (dwP Xq false (p + 1 + 1 + 1 + 1) (k + 1)))] 131, .blk b1 [.int .i64 0, .int .i64 0, .bool false, .slice none 0 0, .slice none 0 0] 26, .rd kY aq nq Xq] := B.castX 3 rfl rfl (dwSpL_next h0k rfl)
          replace B : Bu w (hasW [.blk bs [.slice aq nq cq, .int .i64 p, .int .u64 (sdY Xq p)] 131]) w95 [.blk b13 [.int .i64 (3 + v6), .int .i64 (3 + v20), .bool vb11, .slice a82 (N1 + 1) c83, .slice a91 (N2 + 1) c92] 26, .ow kF a91 (N2 + 1) c92 34 (dwLsL Xq false (p + 1 + 1 + 1 + 1) (k + 1)), .ow kF (some ⟨b88, 0, none⟩) 1 1 34 ([fop .quo .f32 (FloatKind.nearest .f32 (pk Xq 9 (((dwP Xq false (p + 1 + 1 + 1 + 1) k) + 1) + 1))) 1090519040]), .ow kF a82 (N1 + 1) c83 34 (dwSpL Xq false (p + 1 + 1 + 1 + 1) (k + 1)), .ow kF (some ⟨b79, 0, none⟩) 1 1 34 ([fop .quo .f32 (FloatKind.nearest .f32 (pk Xq 9 (dwP Xq false (p + 1 + 1 + 1 + 1) k))) 1098907648]), .blk bs [.slice aq nq cq, .int .i64 (dwP Xq false (p + 1 + 1 + 1 + 1) (k + 1)), .int .u64 (sdY Xq (dwP Xq false (p + 1 + 1 + 1 + 1) (k + 1)))] 131, .blk b1 [.int .i64 0, .int .i64 0, .bool false, .slice none 0 0, .slice none 0 0] 26, .rd kY aq nq Xq] := B.castX 1 rfl rfl (dwLsL_next h0k (dw_yes (q := dwP Xq false (p + 1 + 1 + 1 + 1) k) hp49).1)
          refine ⟨⟨_, k + 1, a82, N1 + 1, c83, a91, N2 + 1, c92, Fits.eq ⟨rfl, rfl, rfl, rfl, rfl, trivial⟩, (B.pick [3, 1, 5, 0, 6, 7] rfl rfl), (by omega), (by omega)⟩, ?_⟩
          show ((3 + v6) * (3 + v20) - (k + 1)).toNat < ((3 + v6) * (3 + v20) - k).toNat
          omega
      · refine W_if_f (by decide) rfl ?_
        refine W_skip ?_
        refine W_seq ?_
        refine W_region (by kernel_rfl) ?_
        refine s_y (v := .pointer (some ⟨b13, 3, none⟩)) rfl (y_fld (o := 0) T64.fld_26_3_3 rfl) ?_
        refine s_y (v := .slice A1 N1 C1) rfl (y_load T64.one_24 rfl ((B.b 3 rfl).cell (j := 3) rfl)) ?_
        refine s_y (v := .float .f32 1056964608) rfl (y_move rfl) ?_
        refine s_k rfl (k_bsliceO (k := kF) (n := 1) (cells := #[.float .f32 1056964608]) (X := [1056964608]) T64.slt_24 (by decide) (by first | rfl | kernel_rfl) (reps_cons (c := [.float .f32 1056964608]) ⟨_, rfl, (cnLit (k := .f32) (t := 1056964608) (by kernel_rfl) (by kernel_rfl))⟩ (rfl : Reps kF [] [])) rfl (fun b97 w98 hN99 => ?_))
        replace B := B.new1 hN99
        clear hN99
        refine s_k rfl (k_appO (k := kF) T64.slt_24 rfl rfl rfl (B.o 1 rfl) (B.o 0 rfl).rd (by omega) (by unfold maxLen; omega) (fun a100 c101 w102 hU103 => ?_))
        replace B : Bu w (hasW [.blk bs [.slice aq nq cq, .int .i64 p, .int .u64 (sdY Xq p)] 131]) w102 [.ow kF a100 (N1 + 1) c101 34 ((dwSpL Xq true (p + 1 + 1 + 1 + 1) k) ++ ([1056964608])), .ow kF (some ⟨b97, 0, none⟩) 1 1 34 ([1056964608]), .ow kF A2 N2 C2 34 (dwLsL Xq true (p + 1 + 1 + 1 + 1) k), .blk bs [.slice aq nq cq, .int .i64 (dwP Xq true (p + 1 + 1 + 1 + 1) k), .int .u64 (sdY Xq (dwP Xq true (p + 1 + 1 + 1 + 1) k))] 131, .blk b13 [.int .i64 (3 + v6), .int .i64 (3 + v20), .bool vb11, .slice A1 N1 C1, .slice A2 N2 C2] 26, .blk b1 [.int .i64 0, .int .i64 0, .bool false, .slice none 0 0, .slice none 0 0] 26, .rd kY aq nq Xq] := B.upd [1] rfl hU103
        clear hU103
        refine s_y (v := .pointer (some ⟨b13, 3, none⟩)) rfl (y_fld (o := 0) T64.fld_26_3_3 rfl) ?_
        refine s_k0 rfl (k_stB (v := .slice a100 (N1 + 1) c101) (n := 1) (cs' := [.int .i64 (3 + v6), .int .i64 (3 + v20), .bool vb11, .slice a100 (N1 + 1) c101, .slice A2 N2 C2]) T64.sz_24_1 rfl rfl rfl (B.b 4 rfl) (by simp [Value.cells, Value.oneCell']) (Nat.le_of_ble_eq_true rfl) rfl (fun w104 hU105 => ?_))
        replace B : Bu w (hasW [.blk bs [.slice aq nq cq, .int .i64 p, .int .u64 (sdY Xq p)] 131]) w104 [.blk b13 [.int .i64 (3 + v6), .int .i64 (3 + v20), .bool vb11, .slice a100 (N1 + 1) c101, .slice A2 N2 C2] 26, .ow kF a100 (N1 + 1) c101 34 ((dwSpL Xq true (p + 1 + 1 + 1 + 1) k) ++ ([1056964608])), .ow kF (some ⟨b97, 0, none⟩) 1 1 34 ([1056964608]), .ow kF A2 N2 C2 34 (dwLsL Xq true (p + 1 + 1 + 1 + 1) k), .blk bs [.slice aq nq cq, .int .i64 (dwP Xq true (p + 1 + 1 + 1 + 1) k), .int .u64 (sdY Xq (dwP Xq true (p + 1 + 1 + 1 + 1) k))] 131, .blk b1 [.int .i64 0, .int .i64 0, .bool false, .slice none 0 0, .slice none 0 0] 26, .rd kY aq nq Xq] := B.upd [4] rfl hU105
        clear hU105
        refine s_nil ?_
        refine W_region (by kernel_rfl) ?_
        refine s_y (v := .pointer (some ⟨b13, 4, none⟩)) rfl (y_fld (o := 0) T64.fld_26_4_4 rfl) ?_
        refine s_y (v := .slice A2 N2 C2) rfl (y_load T64.one_24 rfl ((B.b 0 rfl).cell (j := 4) rfl)) ?_
        refine s_y (v := .float .f32 0) rfl (y_move rfl) ?_
        refine s_k rfl (k_bsliceO (k := kF) (n := 1) (cells := #[.float .f32 0]) (X := [0]) T64.slt_24 (by decide) (by first | rfl | kernel_rfl) (reps_cons (c := [.float .f32 0]) ⟨_, rfl, (cnLit (k := .f32) (t := 0) (by kernel_rfl) (by kernel_rfl))⟩ (rfl : Reps kF [] [])) rfl (fun b106 w107 hN108 => ?_))
        replace B := B.new1 hN108
        clear hN108
        refine s_k rfl (k_appO (k := kF) T64.slt_24 rfl rfl rfl (B.o 4 rfl) (B.o 0 rfl).rd (by omega) (by unfold maxLen; omega) (fun a109 c110 w111 hU112 => ?_))
        replace B : Bu w (hasW [.blk bs [.slice aq nq cq, .int .i64 p, .int .u64 (sdY Xq p)] 131]) w111 [.ow kF a109 (N2 + 1) c110 34 ((dwLsL Xq true (p + 1 + 1 + 1 + 1) k) ++ ([0])), .ow kF (some ⟨b106, 0, none⟩) 1 1 34 ([0]), .blk b13 [.int .i64 (3 + v6), .int .i64 (3 + v20), .bool vb11, .slice a100 (N1 + 1) c101, .slice A2 N2 C2] 26, .ow kF a100 (N1 + 1) c101 34 ((dwSpL Xq true (p + 1 + 1 + 1 + 1) k) ++ ([1056964608])), .ow kF (some ⟨b97, 0, none⟩) 1 1 34 ([1056964608]), .blk bs [.slice aq nq cq, .int .i64 (dwP Xq true (p + 1 + 1 + 1 + 1) k), .int .u64 (sdY Xq (dwP Xq true (p + 1 + 1 + 1 + 1) k))] 131, .blk b1 [.int .i64 0, .int .i64 0, .bool false, .slice none 0 0, .slice none 0 0] 26, .rd kY aq nq Xq] := B.upd [4] rfl hU112
        clear hU112
        refine s_y (v := .pointer (some ⟨b13, 4, none⟩)) rfl (y_fld (o := 0) T64.fld_26_4_4 rfl) ?_
        refine s_k0 rfl (k_stB (v := .slice a109 (N2 + 1) c110) (n := 1) (cs' := [.int .i64 (3 + v6), .int .i64 (3 + v20), .bool vb11, .slice a100 (N1 + 1) c101, .slice a109 (N2 + 1) c110]) T64.sz_24_1 rfl rfl rfl (B.b 2 rfl) (by simp [Value.cells, Value.oneCell']) (Nat.le_of_ble_eq_true rfl) rfl (fun w113 hU114 => ?_))
        replace B : Bu w (hasW [.blk bs [.slice aq nq cq, .int .i64 p, .int .u64 (sdY Xq p)] 131]) w113 [.blk b13 [.int .i64 (3 + v6), .int .i64 (3 + v20), .bool vb11, .slice a100 (N1 + 1) c101, .slice a109 (N2 + 1) c110] 26, .ow kF a109 (N2 + 1) c110 34 ((dwLsL Xq true (p + 1 + 1 + 1 + 1) k) ++ ([0])), .ow kF (some ⟨b106, 0, none⟩) 1 1 34 ([0]), .ow kF a100 (N1 + 1) c101 34 ((dwSpL Xq true (p + 1 + 1 + 1 + 1) k) ++ ([1056964608])), .ow kF (some ⟨b97, 0, none⟩) 1 1 34 ([1056964608]), .blk bs [.slice aq nq cq, .int .i64 (dwP Xq true (p + 1 + 1 + 1 + 1) k), .int .u64 (sdY Xq (dwP Xq true (p + 1 + 1 + 1 + 1) k))] 131, .blk b1 [.int .i64 0, .int .i64 0, .bool false, .slice none 0 0, .slice none 0 0] 26, .rd kY aq nq Xq] := B.upd [2] rfl hU114
        clear hU114
        refine s_nil ?_
        refine W_region (by kernel_rfl) ?_
        refine s_y (v := .int .i64 k) rfl (y_move rfl) ?_
        refine s_y (v := .int .i64 (k + 1)) rfl (y_add rfl rfl rfl (by omega)) ?_
        refine s_y (v := .int .i64 (k + 1)) rfl (y_assign rfl) ?_
        refine s_nil ?_
        replace B : Bu w (hasW [.blk bs [.slice aq nq cq, .int .i64 p, .int .u64 (sdY Xq p)] 131]) w113 [.blk b13 [.int .i64 (3 + v6), .int .i64 (3 + v20), .bool vb11, .slice a100 (N1 + 1) c101, .slice a109 (N2 + 1) c110] 26, .ow kF a109 (N2 + 1) c110 34 ((dwLsL Xq true (p + 1 + 1 + 1 + 1) k) ++ ([0])), .ow kF (some ⟨b106, 0, none⟩) 1 1 34 ([0]), .ow kF a100 (N1 + 1) c101 34 ((dwSpL Xq true (p + 1 + 1 + 1 + 1) k) ++ ([1056964608])), .ow kF (some ⟨b97, 0, none⟩) 1 1 34 ([1056964608]), .blk bs [.slice aq nq cq, .int .i64 (dwP Xq true (p + 1 + 1 + 1 + 1) (k + 1)), .int .u64 (sdY Xq (dwP Xq true (p + 1 + 1 + 1 + 1) (k + 1)))] 131, .blk b1 [.int .i64 0, .int .i64 0, .bool false, .slice none 0 0, .slice none 0 0] 26, .rd kY aq nq Xq] := B.blkEq 5 rfl (pos_cells (dwP_next (plain := true) h0k))
        replace B : Bu w (hasW [.blk bs [.slice aq nq cq, .int .i64 p, .int .u64 (sdY Xq p)] 131]) w113 [.blk b13 [.int .i64 (3 + v6), .int .i64 (3 + v20), .bool vb11, .slice a100 (N1 + 1) c101, .slice a109 (N2 + 1) c110] 26, .ow kF a109 (N2 + 1) c110 34 ((dwLsL Xq true (p + 1 + 1 + 1 + 1) k) ++ ([0])), .ow kF (some ⟨b106, 0, none⟩) 1 1 34 ([0]), .ow kF a100 (N1 + 1) c101 34 (dwSpL Xq true (p + 1 + 1 + 1 + 1) (k + 1)), .ow kF (some ⟨b97, 0, none⟩) 1 1 34 ([1056964608]), .blk bs [.slice aq nq cq, .int .i64 (dwP Xq true (p + 1 + 1 + 1 + 1) (k + 1)), .int .u64 (sdY Xq (dwP Xq true (p + 1 + 1 + 1 + 1) (k + 1)))] 131, .blk b1 [.int .i64 0, .int .i64 0, .bool false, .slice none 0 0, .slice none 0 0] 26, .rd kY aq nq Xq] := B.castX 3 rfl rfl (dwSpL_next h0k rfl)
        replace B : Bu w (hasW [.blk bs [.slice aq nq cq, .int .i64 p, .int .u64 (sdY Xq p)] 131]) w113 [.blk b13 [.int .i64 (3 + v6), .int .i64 (3 + v20), .bool vb11, .slice a100 (N1 + 1) c101, .slice a109 (N2 + 1) c110] 26, .ow kF a109 (N2 + 1) c110 34 (dwLsL Xq true (p + 1 + 1 + 1 + 1) (k + 1)), .ow kF (some ⟨b106, 0, none⟩) 1 1 34 ([0]), .ow kF a100 (N1 + 1) c101 34 (dwSpL Xq true (p + 1 + 1 + 1 + 1) (k + 1)), .ow kF (some ⟨b97, 0, none⟩) 1 1 34 ([1056964608]), .blk bs [.slice aq nq cq, .int .i64 (dwP Xq true (p + 1 + 1 + 1 + 1) (k + 1)), .int .u64 (sdY Xq (dwP Xq true (p + 1 + 1 + 1 + 1) (k + 1)))] 131, .blk b1 [.int .i64 0, .int .i64 0, .bool false, .slice none 0 0, .slice none 0 0] 26, .rd kY aq nq Xq] := B.castX 1 rfl rfl (dwLsL_next h0k rfl)
        refine ⟨⟨_, k + 1, a100, N1 + 1, c101, a109, N2 + 1, c110, Fits.eq ⟨rfl, rfl, rfl, rfl, rfl, trivial⟩, (B.pick [3, 1, 5, 0, 6, 7] rfl rfl), (by omega), (by omega)⟩, ?_⟩
        show ((3 + v6) * (3 + v20) - (k + 1)).toNat < ((3 + v6) * (3 + v20) - k).toNat
        omega
    · refine s_y (v := .bool false) rfl (y_lss rfl rfl (decide_eq_false c34)) ?_
      refine s_nil ?_
      refine W_if_f (by decide) rfl ?_
      refine W_exit ?_
      refine W_seq ?_
      refine W_region (by kernel_rfl) ?_
      refine s_y (v := .agg #[.int .i64 (3 + v6), .int .i64 (3 + v20), .bool vb11, .slice A1 N1 C1, .slice A2 N2 C2]) rfl (y_loadn (b := b13) (o := 0) (vs := [.int .i64 (3 + v6), .int .i64 (3 + v20), .bool vb11, .slice A1 N1 C1, .slice A2 N2 C2]) T64.agg_26_5 rfl rfl ((B.b 3 rfl).cells (o := 0) rfl)) ?_
      refine s_k0 rfl (k_stB (v := .agg #[.int .i64 (3 + v6), .int .i64 (3 + v20), .bool vb11, .slice A1 N1 C1, .slice A2 N2 C2]) (n := 5) (cs' := [.int .i64 (3 + v6), .int .i64 (3 + v20), .bool vb11, .slice A1 N1 C1, .slice A2 N2 C2]) T64.sz_26_5 rfl rfl rfl (B.b 4 rfl) (by simp [Value.cells, Value.oneCell']) (Nat.le_of_ble_eq_true rfl) rfl (fun w115 hU116 => ?_))
      replace B : Bu w (hasW [.blk bs [.slice aq nq cq, .int .i64 p, .int .u64 (sdY Xq p)] 131]) w115 [.blk b1 [.int .i64 (3 + v6), .int .i64 (3 + v20), .bool vb11, .slice A1 N1 C1, .slice A2 N2 C2] 26, .ow kF A1 N1 C1 34 (dwSpL Xq vb27 (p + 1 + 1 + 1 + 1) k), .ow kF A2 N2 C2 34 (dwLsL Xq vb27 (p + 1 + 1 + 1 + 1) k), .blk bs [.slice aq nq cq, .int .i64 (dwP Xq vb27 (p + 1 + 1 + 1 + 1) k), .int .u64 (sdY Xq (dwP Xq vb27 (p + 1 + 1 + 1 + 1) k))] 131, .blk b13 [.int .i64 (3 + v6), .int .i64 (3 + v20), .bool vb11, .slice A1 N1 C1, .slice A2 N2 C2] 26, .rd kY aq nq Xq] := B.upd [4] rfl hU116
      clear hU116
      refine s_nil ?_
      refine W_ret ?_
      refine ret1 (v := .agg #[.int .i64 (3 + v6), .int .i64 (3 + v20), .bool vb11, .slice A1 N1 C1, .slice A2 N2 C2]) rfl rfl ⟨_, [.int .i64 (3 + v6), .int .i64 (3 + v20), .bool vb11, .slice A1 N1 C1, .slice A2 N2 C2], _, rfl, (B.b 0 rfl), T64.agg_26_5, rfl⟩ ⟨_, rfl, ?_⟩
      have hke : k = (3 + v6) * (3 + v20) := by omega
      subst hke
      have hdp := dwP_b Xq vb27 (p + 1 + 1 + 1 + 1) h0k
      exact ⟨_, _, _, _, _, _, _, _, _, _, _, rfl, hp12, (by omega), (by omega), (by omega), (by omega), (by omega), (by omega), B.wrote [3, 1, 2] rfl rfl rfl⟩
namespace T31
theorem mx : Try.prog.follows .mixedOrders = true := by kernel_rfl
theorem agg_26_5 : aggB Try.prog 26 5 = true := by kernel_rfl
theorem fn_63 : fnB Try.prog 63 = true := by kernel_rfl
theorem fn_64 : fnB Try.prog 64 = true := by kernel_rfl
theorem sz_26_5 : szB Try.prog 26 5 = true := by kernel_rfl
theorem zero_26 : zeroB Try.prog 26 (.agg #[.int .i64 0, .int .i64 0, .bool false, .slice none 0 0, .slice none 0 0]) := by unfold zeroB; kernel_rfl
end T31
set_option maxRecDepth 100000 in
set_option maxHeartbeats 4000000 in
theorem c_s_R8Sheet {aq : Option Addr} {nq : Nat} {cq : Nat} {Xq : List Nat} {w : World} (qq : Rd w kY aq nq Xq) :
    Calls Try.prog 31 #[.slice aq nq cq] w (Rt fun v w' => ∃ (wd : Int) (hi : Int) (vb : Bool) (a1 : Option Addr) (n1 : Nat) (c1 : Nat) (X1 : List Nat) (a2 : Option Addr) (n2 : Nat) (c2 : Nat) (X2 : List Nat), v = .agg #[.int .i64 wd, .int .i64 hi, .bool vb, .slice a1 n1 c1, .slice a2 n2 c2] ∧ wd ≤ 6 ∧ hi ≤ 6 ∧ validS wd hi X1 X2 = true ∧ shG (wd * hi) X1 X2 ∧ New w w' [.ow kF a1 n1 c1 34 X1, .ow kF a2 n2 c2 34 X2]) := by
  have hlq := qq.len
  have B : Bu w no w [.rd kY aq nq Xq] := Bu.ro (All.cons qq All.nil) rfl
  refine calls_W (n := 8) Try.func31 rfl rfl (Nat.le_of_ble_eq_true rfl) ?_
  refine W_seq ?_
  refine W_region (by kernel_rfl) ?_
  refine s_k rfl (k_allocN (z := (.agg #[.int .i64 0, .int .i64 0, .bool false, .slice none 0 0, .slice none 0 0])) (cs := [.int .i64 0, .int .i64 0, .bool false, .slice none 0 0, .slice none 0 0]) T31.zero_26 rfl (fun b1 w2 hN3 => ?_))
  replace B := B.new1 hN3
  clear hN3
  refine s_nil ?_
  refine W_seq ?_
  refine W_region (by kernel_rfl) ?_
  refine s_y (v := .slice aq nq cq) rfl (y_move rfl) ?_
  refine s_k rfl (k_call T31.fn_63 (c_s_l00From (B.r 1 rfl)) rfl ?_)
  rintro _ w4 ⟨b6, rfl, hN5⟩
  replace B := B.new1 hN5
  clear hN5
  refine s_y (v := .pointer (some ⟨b6, 0, none⟩)) rfl (y_assign rfl) ?_
  refine s_nil ?_
  refine W_seq ?_
  refine W_region (by kernel_rfl) ?_
  refine s_y (v := .pointer (some ⟨b6, 0, none⟩)) rfl (y_move rfl) ?_
  refine s_k rfl (k_call T31.fn_64 (c_s_l02DrawOk (by omega) (by omega) (B.all.pick [0, 2] rfl) (B.pw.pick [0, 2] rfl rfl)) rfl ?_)
  rintro _ w7 ⟨v9, v10, vb11, vb12, v13, a14, c15, c16, a17, c18, c19, rfl, hp20, hp21, hp22, hp23, hp24, hp25, hp26, hU8⟩
  replace B : Bu w no w7 [.blk b6 [.slice aq nq cq, .int .i64 v13, .int .u64 (sdY Xq v13)] 131, .ow kF a14 c15 c16 34 (dwSpL Xq vb12 (0 + 1 + 1 + 1 + 1) (v9 * v10)), .ow kF a17 c18 c19 34 (dwLsL Xq vb12 (0 + 1 + 1 + 1 + 1) (v9 * v10)), .blk b1 [.int .i64 0, .int .i64 0, .bool false, .slice none 0 0, .slice none 0 0] 26, .rd kY aq nq Xq] := B.upd [0] rfl hU8
  clear hU8
  refine s_k0 rfl (k_stB (v := .agg #[.int .i64 v9, .int .i64 v10, .bool vb11, .slice a14 c15 c16, .slice a17 c18 c19]) (n := 5) (cs' := [.int .i64 v9, .int .i64 v10, .bool vb11, .slice a14 c15 c16, .slice a17 c18 c19]) T31.sz_26_5 rfl rfl rfl (B.b 3 rfl) (by simp [Value.cells, Value.oneCell']) (Nat.le_of_ble_eq_true rfl) rfl (fun w27 hU28 => ?_))
  replace B : Bu w no w27 [.blk b1 [.int .i64 v9, .int .i64 v10, .bool vb11, .slice a14 c15 c16, .slice a17 c18 c19] 26, .blk b6 [.slice aq nq cq, .int .i64 v13, .int .u64 (sdY Xq v13)] 131, .ow kF a14 c15 c16 34 (dwSpL Xq vb12 (0 + 1 + 1 + 1 + 1) (v9 * v10)), .ow kF a17 c18 c19 34 (dwLsL Xq vb12 (0 + 1 + 1 + 1 + 1) (v9 * v10)), .rd kY aq nq Xq] := B.upd [3] rfl hU28
  clear hU28
  refine s_nil ?_
  refine W_ret ?_
  refine ret1 (v := .agg #[.int .i64 v9, .int .i64 v10, .bool vb11, .slice a14 c15 c16, .slice a17 c18 c19]) rfl rfl ⟨_, [.int .i64 v9, .int .i64 v10, .bool vb11, .slice a14 c15 c16, .slice a17 c18 c19], _, rfl, (B.b 0 rfl), T31.agg_26_5, rfl⟩ ⟨_, rfl, ?_⟩
  exact ⟨_, _, _, _, _, _, _, _, _, _, _, rfl, (by omega), (by omega), (dw_valid (by omega) (by omega) (by omega) (by omega)), dw_grid, B.give [2, 3] rfl rfl rfl⟩
namespace T66
theorem mx : Try.prog.follows .mixedOrders = true := by kernel_rfl
theorem agg_30_3 : aggB Try.prog 30 3 = true := by kernel_rfl
theorem fld_26_0_0 : fldB Try.prog 26 0 0 = true := by kernel_rfl
theorem fld_26_1_1 : fldB Try.prog 26 1 1 = true := by kernel_rfl
theorem one_2 : oneB Try.prog 2 = true := by kernel_rfl
theorem slt_24 : SlT Try.prog 24 34 1 4 (.float .f32 0) := ⟨by kernel_rfl, by kernel_rfl, rfl, by decide⟩
theorem sz_30_3 : szB Try.prog 30 3 = true := by kernel_rfl
theorem zero_30 : zeroB Try.prog 30 (.agg #[.slice none 0 0, .slice none 0 0, .slice none 0 0]) := by unfold zeroB; kernel_rfl
end T66
set_option maxRecDepth 100000 in
set_option maxHeartbeats 4000000 in
theorem c_i_zeroField {wd : Int} {hi : Int} {wr : Bool} {asp : Option Addr} {nsp : Nat} {csp : Nat} {als : Option Addr} {nls : Nat} {cls : Nat} {w : World} (h1 : 3 ≤ wd) (h2 : wd ≤ 16) (h3 : 3 ≤ hi) (h4 : hi ≤ 16) :
    Calls Try.prog 66 #[.agg #[.int .i64 wd, .int .i64 hi, .bool wr, .slice asp nsp csp, .slice als nls cls]] w (Rt fun v w' => ∃ (a1 : Option Addr) (c1 : Nat) (a2 : Option Addr) (c2 : Nat) (a3 : Option Addr) (c3 : Nat), v = .agg #[.slice a1 (Int.toNat (wd * hi)) c1, .slice a2 (Int.toNat (wd * hi)) c2, .slice a3 (Int.toNat (wd * hi)) c3] ∧ New w w' [.ow kF a1 (Int.toNat (wd * hi)) c1 34 (List.replicate (Int.toNat (wd * hi)) 0), .ow kF a2 (Int.toNat (wd * hi)) c2 34 (List.replicate (Int.toNat (wd * hi)) 0), .ow kF a3 (Int.toNat (wd * hi)) c3 34 (List.replicate (Int.toNat (wd * hi)) 0)]) := by
  have B : Bu w no w [] := Bu.ro All.nil rfl
  refine calls_W (n := 16) Try.func66 rfl rfl (Nat.le_of_ble_eq_true rfl) ?_
  refine W_seq ?_
  refine W_region (by kernel_rfl) ?_
  refine s_k rfl (k_boxN (v := .agg #[.int .i64 wd, .int .i64 hi, .bool wr, .slice asp nsp csp, .slice als nls cls]) (cs := [.int .i64 wd, .int .i64 hi, .bool wr, .slice asp nsp csp, .slice als nls cls]) rfl rfl (fun b1 w2 hN3 => ?_))
  replace B := B.new1 hN3
  clear hN3
  refine s_k rfl (k_allocN (z := (.agg #[.slice none 0 0, .slice none 0 0, .slice none 0 0])) (cs := [.slice none 0 0, .slice none 0 0, .slice none 0 0]) T66.zero_30 rfl (fun b4 w5 hN6 => ?_))
  replace B := B.new1 hN6
  clear hN6
  refine s_nil ?_
  refine W_seq ?_
  refine W_region (by kernel_rfl) ?_
  refine s_y (v := .pointer (some ⟨b1, 0, none⟩)) rfl (y_fld (o := 0) T66.fld_26_0_0 rfl) ?_
  refine s_y (v := .int .i64 wd) rfl (y_load T66.one_2 rfl ((B.b 1 rfl).cell (j := 0) rfl)) ?_
  refine s_y (v := .pointer (some ⟨b1, 1, none⟩)) rfl (y_fld (o := 0) T66.fld_26_1_1 rfl) ?_
  refine s_y (v := .int .i64 hi) rfl (y_load T66.one_2 rfl ((B.b 1 rfl).cell (j := 1) rfl)) ?_
  have hm7 := mulb (a := wd) (b := hi) (by omega) (by omega) (by omega) (by omega)
  refine s_y (v := .int .i64 (wd * hi)) rfl (y_mul rfl rfl rfl (by omega)) ?_
  refine s_y (v := .int .i64 (wd * hi)) rfl (y_assign rfl) ?_
  refine s_nil ?_
  refine W_seq ?_
  have B0_10 := B
  refine W_drawI (no) (fun ρ' w' => (∃ (ρ1 : Env) (b18 : Nat) (b25 : Nat) (b28 : Nat), ρ' = updL ρ1 [(2, .pointer (some ⟨b4, 0, none⟩))] ∧ Bu w no w' [.ow kF (some ⟨b18, 0, none⟩) ((wd * hi).toNat) ((wd * hi).toNat) 34 (List.replicate (wd * hi).toNat 0), .ow kF (some ⟨b25, 0, none⟩) ((wd * hi).toNat) ((wd * hi).toNat) 34 (List.replicate (wd * hi).toNat 0), .ow kF (some ⟨b28, 0, none⟩) ((wd * hi).toNat) ((wd * hi).toNat) 34 (List.replicate (wd * hi).toNat 0), .blk b4 [.slice (some ⟨b18, 0, none⟩) ((wd * hi).toNat) ((wd * hi).toNat), .slice (some ⟨b25, 0, none⟩) ((wd * hi).toNat) ((wd * hi).toNat), .slice (some ⟨b28, 0, none⟩) ((wd * hi).toNat) ((wd * hi).toNat)] 30, .blk b1 [.int .i64 wd, .int .i64 hi, .bool wr, .slice asp nsp csp, .slice als nls cls] 26])) T66.mx (by kernel_rfl) (fun w8 e9 => ?_) ?_
  · have R11 := Ext.refl (no) w5
    replace R11 := R11.trans (Ext0.any e9)
    replace B := B.ext0 e9
    clear e9
    refine m_y (v := .int .i64 (wd * hi)) 0 rfl (by kernel_rfl) rfl rfl (fun w' e' => y_move rfl) ?_
    refine m_y (v := .int .i64 (wd * hi)) 2 rfl (by kernel_rfl) rfl rfl (fun w' e' => y_move rfl) ?_
    refine m_y (v := .int .i64 (wd * hi)) 4 rfl (by kernel_rfl) rfl rfl (fun w' e' => y_move rfl) ?_
    refine m_three 1 3 5 (by kernel_rfl) rfl rfl rfl rfl rfl rfl rfl rfl rfl (fun w12 e13 => ?_) (fun w14 e15 => ?_) (fun w16 e17 => ?_)
    · replace R11 := R11.trans (Ext0.any e13)
      replace B := B.ext0 e13
      clear e13
      refine k_mkO (k := kF) (z0 := 0) T66.slt_24 ⟨0, rfl, cn_zero⟩ rfl rfl (by omega) (by omega) (by omega) (fun b18 w19 hN20 => ?_)
      replace R11 := R11.trans (Ext0.any hN20.ext)
      replace B := B.new1 hN20
      clear hN20
      refine ⟨fun _ => R11, ?_⟩
      refine m_two 3 5 (by kernel_rfl) rfl rfl rfl rfl rfl rfl (fun w21 e22 => ?_) (fun w23 e24 => ?_)
      · replace R11 := R11.trans (Ext0.any e22)
        replace B := B.ext0 e22
        clear e22
        refine k_mkO (k := kF) (z0 := 0) T66.slt_24 ⟨0, rfl, cn_zero⟩ rfl rfl (by omega) (by omega) (by omega) (fun b25 w26 hN27 => ?_)
        replace R11 := R11.trans (Ext0.any hN27.ext)
        replace B := B.new1 hN27
        clear hN27
        refine ⟨fun _ => R11, ?_⟩
        refine m_k 5 [6, 7] rfl (by kernel_rfl) rfl rfl (fun w31 e32 => ?_)
        replace R11 := R11.trans (Ext0.any e32)
        replace B := B.ext0 e32
        clear e32
        refine k_mkO (k := kF) (z0 := 0) T66.slt_24 ⟨0, rfl, cn_zero⟩ rfl rfl (by omega) (by omega) (by omega) (fun b28 w29 hN30 => ?_)
        replace R11 := R11.trans (Ext0.any hN30.ext)
        replace B := B.new1 hN30
        clear hN30
        refine ⟨fun _ => R11, ?_⟩
        refine m_y (v := .agg #[.slice (some ⟨b18, 0, none⟩) ((wd * hi).toNat) ((wd * hi).toNat), .slice (some ⟨b25, 0, none⟩) ((wd * hi).toNat) ((wd * hi).toNat), .slice (some ⟨b28, 0, none⟩) ((wd * hi).toNat) ((wd * hi).toNat)]) 6 rfl (by kernel_rfl) rfl rfl (fun w' e' => y_build (cells := #[.slice (some ⟨b18, 0, none⟩) ((wd * hi).toNat) ((wd * hi).toNat), .slice (some ⟨b25, 0, none⟩) ((wd * hi).toNat) ((wd * hi).toNat), .slice (some ⟨b28, 0, none⟩) ((wd * hi).toNat) ((wd * hi).toNat)]) (by kernel_rfl)) ?_
        refine m_kt 7 [] rfl (by kernel_rfl) rfl rfl (by kernel_rfl) (fun w35 e36 => ?_)
        replace R11 := R11.trans (Ext0.any e36)
        replace B := B.ext0 e36
        clear e36
        refine k_stB (v := .agg #[.slice (some ⟨b18, 0, none⟩) ((wd * hi).toNat) ((wd * hi).toNat), .slice (some ⟨b25, 0, none⟩) ((wd * hi).toNat) ((wd * hi).toNat), .slice (some ⟨b28, 0, none⟩) ((wd * hi).toNat) ((wd * hi).toNat)]) (n := 3) (cs' := [.slice (some ⟨b18, 0, none⟩) ((wd * hi).toNat) ((wd * hi).toNat), .slice (some ⟨b25, 0, none⟩) ((wd * hi).toNat) ((wd * hi).toNat), .slice (some ⟨b28, 0, none⟩) ((wd * hi).toNat) ((wd * hi).toNat)]) T66.sz_30_3 rfl rfl rfl (B.b 3 rfl) (by simp [Value.cells, Value.oneCell']) (Nat.le_of_ble_eq_true rfl) rfl (fun w33 hU34 => ?_)
        clear R11
        replace B : Bu w no w33 [.blk b4 [.slice (some ⟨b18, 0, none⟩) ((wd * hi).toNat) ((wd * hi).toNat), .slice (some ⟨b25, 0, none⟩) ((wd * hi).toNat) ((wd * hi).toNat), .slice (some ⟨b28, 0, none⟩) ((wd * hi).toNat) ((wd * hi).toNat)] 30, .ow kF (some ⟨b28, 0, none⟩) ((wd * hi).toNat) ((wd * hi).toNat) 34 (List.replicate (wd * hi).toNat 0), .ow kF (some ⟨b25, 0, none⟩) ((wd * hi).toNat) ((wd * hi).toNat) 34 (List.replicate (wd * hi).toNat 0), .ow kF (some ⟨b18, 0, none⟩) ((wd * hi).toNat) ((wd * hi).toNat) 34 (List.replicate (wd * hi).toNat 0), .blk b1 [.int .i64 wd, .int .i64 hi, .bool wr, .slice asp nsp csp, .slice als nls cls] 26] := B.upd [3] rfl hU34
        clear hU34
        refine m_done (by kernel_rfl) (fun w37 e38 => ?_)
        replace B := B.ext0 e38
        clear e38
        clear B0_10
        exact ⟨_, b18, b25, b28, Fits.eq ⟨rfl, trivial⟩, B.pick [3, 2, 1, 0, 4] rfl rfl⟩
      · replace R11 := R11.trans (Ext0.any e24)
        replace B := B.ext0 e24
        clear e24
        refine k_mkO (k := kF) (z0 := 0) T66.slt_24 ⟨0, rfl, cn_zero⟩ rfl rfl (by omega) (by omega) (by omega) (fun b39 w40 hN41 => ?_)
        replace R11 := R11.trans (Ext0.any hN41.ext)
        replace B := B.new1 hN41
        clear hN41
        refine ⟨fun _ => R11, ?_⟩
        refine m_k 3 [6, 7] rfl (by kernel_rfl) rfl rfl (fun w45 e46 => ?_)
        replace R11 := R11.trans (Ext0.any e46)
        replace B := B.ext0 e46
        clear e46
        refine k_mkO (k := kF) (z0 := 0) T66.slt_24 ⟨0, rfl, cn_zero⟩ rfl rfl (by omega) (by omega) (by omega) (fun b42 w43 hN44 => ?_)
        replace R11 := R11.trans (Ext0.any hN44.ext)
        replace B := B.new1 hN44
        clear hN44
        refine ⟨fun _ => R11, ?_⟩
        refine m_y (v := .agg #[.slice (some ⟨b18, 0, none⟩) ((wd * hi).toNat) ((wd * hi).toNat), .slice (some ⟨b42, 0, none⟩) ((wd * hi).toNat) ((wd * hi).toNat), .slice (some ⟨b39, 0, none⟩) ((wd * hi).toNat) ((wd * hi).toNat)]) 6 rfl (by kernel_rfl) rfl rfl (fun w' e' => y_build (cells := #[.slice (some ⟨b18, 0, none⟩) ((wd * hi).toNat) ((wd * hi).toNat), .slice (some ⟨b42, 0, none⟩) ((wd * hi).toNat) ((wd * hi).toNat), .slice (some ⟨b39, 0, none⟩) ((wd * hi).toNat) ((wd * hi).toNat)]) (by kernel_rfl)) ?_
        refine m_kt 7 [] rfl (by kernel_rfl) rfl rfl (by kernel_rfl) (fun w49 e50 => ?_)
        replace R11 := R11.trans (Ext0.any e50)
        replace B := B.ext0 e50
        clear e50
        refine k_stB (v := .agg #[.slice (some ⟨b18, 0, none⟩) ((wd * hi).toNat) ((wd * hi).toNat), .slice (some ⟨b42, 0, none⟩) ((wd * hi).toNat) ((wd * hi).toNat), .slice (some ⟨b39, 0, none⟩) ((wd * hi).toNat) ((wd * hi).toNat)]) (n := 3) (cs' := [.slice (some ⟨b18, 0, none⟩) ((wd * hi).toNat) ((wd * hi).toNat), .slice (some ⟨b42, 0, none⟩) ((wd * hi).toNat) ((wd * hi).toNat), .slice (some ⟨b39, 0, none⟩) ((wd * hi).toNat) ((wd * hi).toNat)]) T66.sz_30_3 rfl rfl rfl (B.b 3 rfl) (by simp [Value.cells, Value.oneCell']) (Nat.le_of_ble_eq_true rfl) rfl (fun w47 hU48 => ?_)
        clear R11
        replace B : Bu w no w47 [.blk b4 [.slice (some ⟨b18, 0, none⟩) ((wd * hi).toNat) ((wd * hi).toNat), .slice (some ⟨b42, 0, none⟩) ((wd * hi).toNat) ((wd * hi).toNat), .slice (some ⟨b39, 0, none⟩) ((wd * hi).toNat) ((wd * hi).toNat)] 30, .ow kF (some ⟨b42, 0, none⟩) ((wd * hi).toNat) ((wd * hi).toNat) 34 (List.replicate (wd * hi).toNat 0), .ow kF (some ⟨b39, 0, none⟩) ((wd * hi).toNat) ((wd * hi).toNat) 34 (List.replicate (wd * hi).toNat 0), .ow kF (some ⟨b18, 0, none⟩) ((wd * hi).toNat) ((wd * hi).toNat) 34 (List.replicate (wd * hi).toNat 0), .blk b1 [.int .i64 wd, .int .i64 hi, .bool wr, .slice asp nsp csp, .slice als nls cls] 26] := B.upd [3] rfl hU48
        clear hU48
        refine m_done (by kernel_rfl) (fun w51 e52 => ?_)
        replace B := B.ext0 e52
        clear e52
        clear B0_10
        exact ⟨_, b18, b42, b39, Fits.eq ⟨rfl, trivial⟩, B.pick [3, 1, 2, 0, 4] rfl rfl⟩
    · replace R11 := R11.trans (Ext0.any e15)
      replace B := B.ext0 e15
      clear e15
      refine k_mkO (k := kF) (z0 := 0) T66.slt_24 ⟨0, rfl, cn_zero⟩ rfl rfl (by omega) (by omega) (by omega) (fun b53 w54 hN55 => ?_)
      replace R11 := R11.trans (Ext0.any hN55.ext)
      replace B := B.new1 hN55
      clear hN55
      refine ⟨fun _ => R11, ?_⟩
      refine m_two 1 5 (by kernel_rfl) rfl rfl rfl rfl rfl rfl (fun w56 e57 => ?_) (fun w58 e59 => ?_)
      · replace R11 := R11.trans (Ext0.any e57)
        replace B := B.ext0 e57
        clear e57
        refine k_mkO (k := kF) (z0 := 0) T66.slt_24 ⟨0, rfl, cn_zero⟩ rfl rfl (by omega) (by omega) (by omega) (fun b60 w61 hN62 => ?_)
        replace R11 := R11.trans (Ext0.any hN62.ext)
        replace B := B.new1 hN62
        clear hN62
        refine ⟨fun _ => R11, ?_⟩
        refine m_k 5 [6, 7] rfl (by kernel_rfl) rfl rfl (fun w66 e67 => ?_)
        replace R11 := R11.trans (Ext0.any e67)
        replace B := B.ext0 e67
        clear e67
        refine k_mkO (k := kF) (z0 := 0) T66.slt_24 ⟨0, rfl, cn_zero⟩ rfl rfl (by omega) (by omega) (by omega) (fun b63 w64 hN65 => ?_)
        replace R11 := R11.trans (Ext0.any hN65.ext)
        replace B := B.new1 hN65
        clear hN65
        refine ⟨fun _ => R11, ?_⟩
        refine m_y (v := .agg #[.slice (some ⟨b60, 0, none⟩) ((wd * hi).toNat) ((wd * hi).toNat), .slice (some ⟨b53, 0, none⟩) ((wd * hi).toNat) ((wd * hi).toNat), .slice (some ⟨b63, 0, none⟩) ((wd * hi).toNat) ((wd * hi).toNat)]) 6 rfl (by kernel_rfl) rfl rfl (fun w' e' => y_build (cells := #[.slice (some ⟨b60, 0, none⟩) ((wd * hi).toNat) ((wd * hi).toNat), .slice (some ⟨b53, 0, none⟩) ((wd * hi).toNat) ((wd * hi).toNat), .slice (some ⟨b63, 0, none⟩) ((wd * hi).toNat) ((wd * hi).toNat)]) (by kernel_rfl)) ?_
        refine m_kt 7 [] rfl (by kernel_rfl) rfl rfl (by kernel_rfl) (fun w70 e71 => ?_)
        replace R11 := R11.trans (Ext0.any e71)
        replace B := B.ext0 e71
        clear e71
        refine k_stB (v := .agg #[.slice (some ⟨b60, 0, none⟩) ((wd * hi).toNat) ((wd * hi).toNat), .slice (some ⟨b53, 0, none⟩) ((wd * hi).toNat) ((wd * hi).toNat), .slice (some ⟨b63, 0, none⟩) ((wd * hi).toNat) ((wd * hi).toNat)]) (n := 3) (cs' := [.slice (some ⟨b60, 0, none⟩) ((wd * hi).toNat) ((wd * hi).toNat), .slice (some ⟨b53, 0, none⟩) ((wd * hi).toNat) ((wd * hi).toNat), .slice (some ⟨b63, 0, none⟩) ((wd * hi).toNat) ((wd * hi).toNat)]) T66.sz_30_3 rfl rfl rfl (B.b 3 rfl) (by simp [Value.cells, Value.oneCell']) (Nat.le_of_ble_eq_true rfl) rfl (fun w68 hU69 => ?_)
        clear R11
        replace B : Bu w no w68 [.blk b4 [.slice (some ⟨b60, 0, none⟩) ((wd * hi).toNat) ((wd * hi).toNat), .slice (some ⟨b53, 0, none⟩) ((wd * hi).toNat) ((wd * hi).toNat), .slice (some ⟨b63, 0, none⟩) ((wd * hi).toNat) ((wd * hi).toNat)] 30, .ow kF (some ⟨b63, 0, none⟩) ((wd * hi).toNat) ((wd * hi).toNat) 34 (List.replicate (wd * hi).toNat 0), .ow kF (some ⟨b60, 0, none⟩) ((wd * hi).toNat) ((wd * hi).toNat) 34 (List.replicate (wd * hi).toNat 0), .ow kF (some ⟨b53, 0, none⟩) ((wd * hi).toNat) ((wd * hi).toNat) 34 (List.replicate (wd * hi).toNat 0), .blk b1 [.int .i64 wd, .int .i64 hi, .bool wr, .slice asp nsp csp, .slice als nls cls] 26] := B.upd [3] rfl hU69
        clear hU69
        refine m_done (by kernel_rfl) (fun w72 e73 => ?_)
        replace B := B.ext0 e73
        clear e73
        clear B0_10
        exact ⟨_, b60, b53, b63, Fits.eq ⟨rfl, trivial⟩, B.pick [2, 3, 1, 0, 4] rfl rfl⟩
      · replace R11 := R11.trans (Ext0.any e59)
        replace B := B.ext0 e59
        clear e59
        refine k_mkO (k := kF) (z0 := 0) T66.slt_24 ⟨0, rfl, cn_zero⟩ rfl rfl (by omega) (by omega) (by omega) (fun b74 w75 hN76 => ?_)
        replace R11 := R11.trans (Ext0.any hN76.ext)
        replace B := B.new1 hN76
        clear hN76
        refine ⟨fun _ => R11, ?_⟩
        refine m_k 1 [6, 7] rfl (by kernel_rfl) rfl rfl (fun w80 e81 => ?_)
        replace R11 := R11.trans (Ext0.any e81)
        replace B := B.ext0 e81
        clear e81
        refine k_mkO (k := kF) (z0 := 0) T66.slt_24 ⟨0, rfl, cn_zero⟩ rfl rfl (by omega) (by omega) (by omega) (fun b77 w78 hN79 => ?_)
        replace R11 := R11.trans (Ext0.any hN79.ext)
        replace B := B.new1 hN79
        clear hN79
        refine ⟨fun _ => R11, ?_⟩
        refine m_y (v := .agg #[.slice (some ⟨b77, 0, none⟩) ((wd * hi).toNat) ((wd * hi).toNat), .slice (some ⟨b53, 0, none⟩) ((wd * hi).toNat) ((wd * hi).toNat), .slice (some ⟨b74, 0, none⟩) ((wd * hi).toNat) ((wd * hi).toNat)]) 6 rfl (by kernel_rfl) rfl rfl (fun w' e' => y_build (cells := #[.slice (some ⟨b77, 0, none⟩) ((wd * hi).toNat) ((wd * hi).toNat), .slice (some ⟨b53, 0, none⟩) ((wd * hi).toNat) ((wd * hi).toNat), .slice (some ⟨b74, 0, none⟩) ((wd * hi).toNat) ((wd * hi).toNat)]) (by kernel_rfl)) ?_
        refine m_kt 7 [] rfl (by kernel_rfl) rfl rfl (by kernel_rfl) (fun w84 e85 => ?_)
        replace R11 := R11.trans (Ext0.any e85)
        replace B := B.ext0 e85
        clear e85
        refine k_stB (v := .agg #[.slice (some ⟨b77, 0, none⟩) ((wd * hi).toNat) ((wd * hi).toNat), .slice (some ⟨b53, 0, none⟩) ((wd * hi).toNat) ((wd * hi).toNat), .slice (some ⟨b74, 0, none⟩) ((wd * hi).toNat) ((wd * hi).toNat)]) (n := 3) (cs' := [.slice (some ⟨b77, 0, none⟩) ((wd * hi).toNat) ((wd * hi).toNat), .slice (some ⟨b53, 0, none⟩) ((wd * hi).toNat) ((wd * hi).toNat), .slice (some ⟨b74, 0, none⟩) ((wd * hi).toNat) ((wd * hi).toNat)]) T66.sz_30_3 rfl rfl rfl (B.b 3 rfl) (by simp [Value.cells, Value.oneCell']) (Nat.le_of_ble_eq_true rfl) rfl (fun w82 hU83 => ?_)
        clear R11
        replace B : Bu w no w82 [.blk b4 [.slice (some ⟨b77, 0, none⟩) ((wd * hi).toNat) ((wd * hi).toNat), .slice (some ⟨b53, 0, none⟩) ((wd * hi).toNat) ((wd * hi).toNat), .slice (some ⟨b74, 0, none⟩) ((wd * hi).toNat) ((wd * hi).toNat)] 30, .ow kF (some ⟨b77, 0, none⟩) ((wd * hi).toNat) ((wd * hi).toNat) 34 (List.replicate (wd * hi).toNat 0), .ow kF (some ⟨b74, 0, none⟩) ((wd * hi).toNat) ((wd * hi).toNat) 34 (List.replicate (wd * hi).toNat 0), .ow kF (some ⟨b53, 0, none⟩) ((wd * hi).toNat) ((wd * hi).toNat) 34 (List.replicate (wd * hi).toNat 0), .blk b1 [.int .i64 wd, .int .i64 hi, .bool wr, .slice asp nsp csp, .slice als nls cls] 26] := B.upd [3] rfl hU83
        clear hU83
        refine m_done (by kernel_rfl) (fun w86 e87 => ?_)
        replace B := B.ext0 e87
        clear e87
        clear B0_10
        exact ⟨_, b77, b53, b74, Fits.eq ⟨rfl, trivial⟩, B.pick [1, 3, 2, 0, 4] rfl rfl⟩
    · replace R11 := R11.trans (Ext0.any e17)
      replace B := B.ext0 e17
      clear e17
      refine k_mkO (k := kF) (z0 := 0) T66.slt_24 ⟨0, rfl, cn_zero⟩ rfl rfl (by omega) (by omega) (by omega) (fun b88 w89 hN90 => ?_)
      replace R11 := R11.trans (Ext0.any hN90.ext)
      replace B := B.new1 hN90
      clear hN90
      refine ⟨fun _ => R11, ?_⟩
      refine m_two 1 3 (by kernel_rfl) rfl rfl rfl rfl rfl rfl (fun w91 e92 => ?_) (fun w93 e94 => ?_)
      · replace R11 := R11.trans (Ext0.any e92)
        replace B := B.ext0 e92
        clear e92
        refine k_mkO (k := kF) (z0 := 0) T66.slt_24 ⟨0, rfl, cn_zero⟩ rfl rfl (by omega) (by omega) (by omega) (fun b95 w96 hN97 => ?_)
        replace R11 := R11.trans (Ext0.any hN97.ext)
        replace B := B.new1 hN97
        clear hN97
        refine ⟨fun _ => R11, ?_⟩
        refine m_k 3 [6, 7] rfl (by kernel_rfl) rfl rfl (fun w101 e102 => ?_)
        replace R11 := R11.trans (Ext0.any e102)
        replace B := B.ext0 e102
        clear e102
        refine k_mkO (k := kF) (z0 := 0) T66.slt_24 ⟨0, rfl, cn_zero⟩ rfl rfl (by omega) (by omega) (by omega) (fun b98 w99 hN100 => ?_)
        replace R11 := R11.trans (Ext0.any hN100.ext)
        replace B := B.new1 hN100
        clear hN100
        refine ⟨fun _ => R11, ?_⟩
        refine m_y (v := .agg #[.slice (some ⟨b95, 0, none⟩) ((wd * hi).toNat) ((wd * hi).toNat), .slice (some ⟨b98, 0, none⟩) ((wd * hi).toNat) ((wd * hi).toNat), .slice (some ⟨b88, 0, none⟩) ((wd * hi).toNat) ((wd * hi).toNat)]) 6 rfl (by kernel_rfl) rfl rfl (fun w' e' => y_build (cells := #[.slice (some ⟨b95, 0, none⟩) ((wd * hi).toNat) ((wd * hi).toNat), .slice (some ⟨b98, 0, none⟩) ((wd * hi).toNat) ((wd * hi).toNat), .slice (some ⟨b88, 0, none⟩) ((wd * hi).toNat) ((wd * hi).toNat)]) (by kernel_rfl)) ?_
        refine m_kt 7 [] rfl (by kernel_rfl) rfl rfl (by kernel_rfl) (fun w105 e106 => ?_)
        replace R11 := R11.trans (Ext0.any e106)
        replace B := B.ext0 e106
        clear e106
        refine k_stB (v := .agg #[.slice (some ⟨b95, 0, none⟩) ((wd * hi).toNat) ((wd * hi).toNat), .slice (some ⟨b98, 0, none⟩) ((wd * hi).toNat) ((wd * hi).toNat), .slice (some ⟨b88, 0, none⟩) ((wd * hi).toNat) ((wd * hi).toNat)]) (n := 3) (cs' := [.slice (some ⟨b95, 0, none⟩) ((wd * hi).toNat) ((wd * hi).toNat), .slice (some ⟨b98, 0, none⟩) ((wd * hi).toNat) ((wd * hi).toNat), .slice (some ⟨b88, 0, none⟩) ((wd * hi).toNat) ((wd * hi).toNat)]) T66.sz_30_3 rfl rfl rfl (B.b 3 rfl) (by simp [Value.cells, Value.oneCell']) (Nat.le_of_ble_eq_true rfl) rfl (fun w103 hU104 => ?_)
        clear R11
        replace B : Bu w no w103 [.blk b4 [.slice (some ⟨b95, 0, none⟩) ((wd * hi).toNat) ((wd * hi).toNat), .slice (some ⟨b98, 0, none⟩) ((wd * hi).toNat) ((wd * hi).toNat), .slice (some ⟨b88, 0, none⟩) ((wd * hi).toNat) ((wd * hi).toNat)] 30, .ow kF (some ⟨b98, 0, none⟩) ((wd * hi).toNat) ((wd * hi).toNat) 34 (List.replicate (wd * hi).toNat 0), .ow kF (some ⟨b95, 0, none⟩) ((wd * hi).toNat) ((wd * hi).toNat) 34 (List.replicate (wd * hi).toNat 0), .ow kF (some ⟨b88, 0, none⟩) ((wd * hi).toNat) ((wd * hi).toNat) 34 (List.replicate (wd * hi).toNat 0), .blk b1 [.int .i64 wd, .int .i64 hi, .bool wr, .slice asp nsp csp, .slice als nls cls] 26] := B.upd [3] rfl hU104
        clear hU104
        refine m_done (by kernel_rfl) (fun w107 e108 => ?_)
        replace B := B.ext0 e108
        clear e108
        clear B0_10
        exact ⟨_, b95, b98, b88, Fits.eq ⟨rfl, trivial⟩, B.pick [2, 1, 3, 0, 4] rfl rfl⟩
      · replace R11 := R11.trans (Ext0.any e94)
        replace B := B.ext0 e94
        clear e94
        refine k_mkO (k := kF) (z0 := 0) T66.slt_24 ⟨0, rfl, cn_zero⟩ rfl rfl (by omega) (by omega) (by omega) (fun b109 w110 hN111 => ?_)
        replace R11 := R11.trans (Ext0.any hN111.ext)
        replace B := B.new1 hN111
        clear hN111
        refine ⟨fun _ => R11, ?_⟩
        refine m_k 1 [6, 7] rfl (by kernel_rfl) rfl rfl (fun w115 e116 => ?_)
        replace R11 := R11.trans (Ext0.any e116)
        replace B := B.ext0 e116
        clear e116
        refine k_mkO (k := kF) (z0 := 0) T66.slt_24 ⟨0, rfl, cn_zero⟩ rfl rfl (by omega) (by omega) (by omega) (fun b112 w113 hN114 => ?_)
        replace R11 := R11.trans (Ext0.any hN114.ext)
        replace B := B.new1 hN114
        clear hN114
        refine ⟨fun _ => R11, ?_⟩
        refine m_y (v := .agg #[.slice (some ⟨b112, 0, none⟩) ((wd * hi).toNat) ((wd * hi).toNat), .slice (some ⟨b109, 0, none⟩) ((wd * hi).toNat) ((wd * hi).toNat), .slice (some ⟨b88, 0, none⟩) ((wd * hi).toNat) ((wd * hi).toNat)]) 6 rfl (by kernel_rfl) rfl rfl (fun w' e' => y_build (cells := #[.slice (some ⟨b112, 0, none⟩) ((wd * hi).toNat) ((wd * hi).toNat), .slice (some ⟨b109, 0, none⟩) ((wd * hi).toNat) ((wd * hi).toNat), .slice (some ⟨b88, 0, none⟩) ((wd * hi).toNat) ((wd * hi).toNat)]) (by kernel_rfl)) ?_
        refine m_kt 7 [] rfl (by kernel_rfl) rfl rfl (by kernel_rfl) (fun w119 e120 => ?_)
        replace R11 := R11.trans (Ext0.any e120)
        replace B := B.ext0 e120
        clear e120
        refine k_stB (v := .agg #[.slice (some ⟨b112, 0, none⟩) ((wd * hi).toNat) ((wd * hi).toNat), .slice (some ⟨b109, 0, none⟩) ((wd * hi).toNat) ((wd * hi).toNat), .slice (some ⟨b88, 0, none⟩) ((wd * hi).toNat) ((wd * hi).toNat)]) (n := 3) (cs' := [.slice (some ⟨b112, 0, none⟩) ((wd * hi).toNat) ((wd * hi).toNat), .slice (some ⟨b109, 0, none⟩) ((wd * hi).toNat) ((wd * hi).toNat), .slice (some ⟨b88, 0, none⟩) ((wd * hi).toNat) ((wd * hi).toNat)]) T66.sz_30_3 rfl rfl rfl (B.b 3 rfl) (by simp [Value.cells, Value.oneCell']) (Nat.le_of_ble_eq_true rfl) rfl (fun w117 hU118 => ?_)
        clear R11
        replace B : Bu w no w117 [.blk b4 [.slice (some ⟨b112, 0, none⟩) ((wd * hi).toNat) ((wd * hi).toNat), .slice (some ⟨b109, 0, none⟩) ((wd * hi).toNat) ((wd * hi).toNat), .slice (some ⟨b88, 0, none⟩) ((wd * hi).toNat) ((wd * hi).toNat)] 30, .ow kF (some ⟨b112, 0, none⟩) ((wd * hi).toNat) ((wd * hi).toNat) 34 (List.replicate (wd * hi).toNat 0), .ow kF (some ⟨b109, 0, none⟩) ((wd * hi).toNat) ((wd * hi).toNat) 34 (List.replicate (wd * hi).toNat 0), .ow kF (some ⟨b88, 0, none⟩) ((wd * hi).toNat) ((wd * hi).toNat) 34 (List.replicate (wd * hi).toNat 0), .blk b1 [.int .i64 wd, .int .i64 hi, .bool wr, .slice asp nsp csp, .slice als nls cls] 26] := B.upd [3] rfl hU118
        clear hU118
        refine m_done (by kernel_rfl) (fun w121 e122 => ?_)
        replace B := B.ext0 e122
        clear e122
        clear B0_10
        exact ⟨_, b112, b109, b88, Fits.eq ⟨rfl, trivial⟩, B.pick [1, 2, 3, 0, 4] rfl rfl⟩
  · clear B; rintro _ w123 (⟨ρ124, b18, b25, b28, rfl, B⟩)
    refine W_ret ?_
    refine ret1 (v := .agg #[.slice (some ⟨b18, 0, none⟩) ((wd * hi).toNat) ((wd * hi).toNat), .slice (some ⟨b25, 0, none⟩) ((wd * hi).toNat) ((wd * hi).toNat), .slice (some ⟨b28, 0, none⟩) ((wd * hi).toNat) ((wd * hi).toNat)]) rfl rfl ⟨_, [.slice (some ⟨b18, 0, none⟩) ((wd * hi).toNat) ((wd * hi).toNat), .slice (some ⟨b25, 0, none⟩) ((wd * hi).toNat) ((wd * hi).toNat), .slice (some ⟨b28, 0, none⟩) ((wd * hi).toNat) ((wd * hi).toNat)], _, rfl, (B.b 3 rfl), T66.agg_30_3, rfl⟩ ⟨_, rfl, ?_⟩
    exact ⟨_, _, _, _, _, _, rfl, B.give [0, 1, 2] rfl rfl rfl⟩
namespace T15
theorem mx : Try.prog.follows .mixedOrders = true := by kernel_rfl
theorem agg_26_5 : aggB Try.prog 26 5 = true := by kernel_rfl
theorem agg_30_3 : aggB Try.prog 30 3 = true := by kernel_rfl
theorem fn_65 : fnB Try.prog 65 = true := by kernel_rfl
theorem fn_66 : fnB Try.prog 66 = true := by kernel_rfl
theorem sz_30_3 : szB Try.prog 30 3 = true := by kernel_rfl
theorem zero_30 : zeroB Try.prog 30 (.agg #[.slice none 0 0, .slice none 0 0, .slice none 0 0]) := by unfold zeroB; kernel_rfl
end T15
set_option maxRecDepth 100000 in
set_option maxHeartbeats 4000000 in
theorem c_i_ZeroField {wd : Int} {hi : Int} {wr : Bool} {asp : Option Addr} {nsp : Nat} {csp : Nat} {Xsp : List Nat} {als : Option Addr} {nls : Nat} {cls : Nat} {Xls : List Nat} {w : World} (qsp : Rd w kF asp nsp Xsp) (qls : Rd w kF als nls Xls) (hbsp : nsp ≤ 9223372036854775806) (hbls : nls ≤ 9223372036854775806) :
    Calls Try.prog 15 #[.agg #[.int .i64 wd, .int .i64 hi, .bool wr, .slice asp nsp csp, .slice als nls cls]] w (Rt fun v w' => (validS wd hi Xsp Xls = true ∧ ∃ (a1 : Option Addr) (c1 : Nat) (a2 : Option Addr) (c2 : Nat) (a3 : Option Addr) (c3 : Nat), v = .tuple #[.agg #[.slice a1 (Int.toNat (wd * hi)) c1, .slice a2 (Int.toNat (wd * hi)) c2, .slice a3 (Int.toNat (wd * hi)) c3], .bool true] ∧ New w w' [.ow kF a1 (Int.toNat (wd * hi)) c1 34 (List.replicate (Int.toNat (wd * hi)) 0), .ow kF a2 (Int.toNat (wd * hi)) c2 34 (List.replicate (Int.toNat (wd * hi)) 0), .ow kF a3 (Int.toNat (wd * hi)) c3 34 (List.replicate (Int.toNat (wd * hi)) 0)]) ∨ (validS wd hi Xsp Xls = false ∧ v = .tuple #[.agg #[.slice none 0 0, .slice none 0 0, .slice none 0 0], .bool false] ∧ Ext0 w w')) := by
  have hlsp := qsp.len
  have hlls := qls.len
  have B : Bu w no w [.rd kF asp nsp Xsp, .rd kF als nls Xls] := Bu.ro (All.cons qsp (All.cons qls All.nil)) rfl
  refine calls_W (n := 10) Try.func15 rfl rfl (Nat.le_of_ble_eq_true rfl) ?_
  refine W_seq ?_
  refine W_region (by kernel_rfl) ?_
  refine s_k rfl (k_boxN (v := .agg #[.int .i64 wd, .int .i64 hi, .bool wr, .slice asp nsp csp, .slice als nls cls]) (cs := [.int .i64 wd, .int .i64 hi, .bool wr, .slice asp nsp csp, .slice als nls cls]) rfl rfl (fun b1 w2 hN3 => ?_))
  replace B := B.new1 hN3
  clear hN3
  refine s_k rfl (k_allocN (z := (.agg #[.slice none 0 0, .slice none 0 0, .slice none 0 0])) (cs := [.slice none 0 0, .slice none 0 0, .slice none 0 0]) T15.zero_30 rfl (fun b4 w5 hN6 => ?_))
  replace B := B.new1 hN6
  clear hN6
  refine s_y (v := .bool false) rfl (y_assign rfl) ?_
  refine s_nil ?_
  refine W_seq ?_
  refine W_seq ?_
  refine W_region (by kernel_rfl) ?_
  refine s_y (v := .agg #[.int .i64 wd, .int .i64 hi, .bool wr, .slice asp nsp csp, .slice als nls cls]) rfl (y_loadn (b := b1) (o := 0) (vs := [.int .i64 wd, .int .i64 hi, .bool wr, .slice asp nsp csp, .slice als nls cls]) T15.agg_26_5 rfl rfl ((B.b 1 rfl).cells (o := 0) rfl)) ?_
  refine s_k rfl (k_call T15.fn_65 (c_i_ValidSheet (B.r 2 rfl) (B.r 3 rfl) (by omega) (by omega)) rfl ?_)
  rintro v9 w7 ⟨hv10, e8⟩
  replace B := B.ext0 e8
  clear e8
  by_cases c11 : validS wd hi Xsp Xls = true
  · have hb12 := validS_b c11
    obtain rfl : v9 = .bool true := hv10.trans (congrArg Value.bool c11)
    refine s_y (v := .bool false) rfl (y_not rfl rfl) ?_
    refine s_nil ?_
    refine W_if_f (by decide) rfl ?_
    refine W_skip ?_
    refine W_seq ?_
    refine W_region (by kernel_rfl) ?_
    refine s_y (v := .agg #[.int .i64 wd, .int .i64 hi, .bool wr, .slice asp nsp csp, .slice als nls cls]) rfl (y_loadn (b := b1) (o := 0) (vs := [.int .i64 wd, .int .i64 hi, .bool wr, .slice asp nsp csp, .slice als nls cls]) T15.agg_26_5 rfl rfl ((B.b 1 rfl).cells (o := 0) rfl)) ?_
    refine s_k rfl (k_call T15.fn_66 (c_i_zeroField (by omega) (by omega) (by omega) (by omega)) rfl ?_)
    rintro _ w13 ⟨a14, c15, a16, c17, a18, c19, rfl, hN20⟩
    replace B := B.new3 hN20
    clear hN20
    refine s_k0 rfl (k_stB (v := .agg #[.slice a14 (Int.toNat (wd * hi)) c15, .slice a16 (Int.toNat (wd * hi)) c17, .slice a18 (Int.toNat (wd * hi)) c19]) (n := 3) (cs' := [.slice a14 (Int.toNat (wd * hi)) c15, .slice a16 (Int.toNat (wd * hi)) c17, .slice a18 (Int.toNat (wd * hi)) c19]) T15.sz_30_3 rfl rfl rfl (B.b 3 rfl) (by simp [Value.cells, Value.oneCell']) (Nat.le_of_ble_eq_true rfl) rfl (fun w21 hU22 => ?_))
    replace B : Bu w no w21 [.blk b4 [.slice a14 (Int.toNat (wd * hi)) c15, .slice a16 (Int.toNat (wd * hi)) c17, .slice a18 (Int.toNat (wd * hi)) c19] 30, .ow kF a14 (Int.toNat (wd * hi)) c15 34 (List.replicate (Int.toNat (wd * hi)) 0), .ow kF a16 (Int.toNat (wd * hi)) c17 34 (List.replicate (Int.toNat (wd * hi)) 0), .ow kF a18 (Int.toNat (wd * hi)) c19 34 (List.replicate (Int.toNat (wd * hi)) 0), .blk b1 [.int .i64 wd, .int .i64 hi, .bool wr, .slice asp nsp csp, .slice als nls cls] 26, .rd kF asp nsp Xsp, .rd kF als nls Xls] := B.upd [3] rfl hU22
    clear hU22
    refine s_y (v := .bool true) rfl (y_assign rfl) ?_
    refine s_nil ?_
    refine W_ret ?_
    refine ret2 (v1 := .agg #[.slice a14 (Int.toNat (wd * hi)) c15, .slice a16 (Int.toNat (wd * hi)) c17, .slice a18 (Int.toNat (wd * hi)) c19]) (v2 := .bool true) rfl rfl rfl ⟨_, [.slice a14 (Int.toNat (wd * hi)) c15, .slice a16 (Int.toNat (wd * hi)) c17, .slice a18 (Int.toNat (wd * hi)) c19], _, rfl, (B.b 0 rfl), T15.agg_30_3, rfl⟩ rfl ⟨_, rfl, ?_⟩
    have hcond : validS wd hi Xsp Xls = true := by simp only [c11, Bool.and_true, Bool.true_and, Bool.and_false, Bool.false_and, Bool.not_true, Bool.not_false, Bool.or_true, Bool.true_or, Bool.or_false, Bool.false_or]
    exact .inl ⟨hcond, ⟨_, _, _, _, _, _, rfl, B.give [1, 2, 3] rfl rfl rfl⟩⟩
  · obtain rfl : v9 = .bool false := hv10.trans (congrArg Value.bool (Bool.eq_false_iff.2 c11))
    refine s_y (v := .bool true) rfl (y_not rfl rfl) ?_
    refine s_nil ?_
    refine W_if_t (by decide) rfl ?_
    refine W_seq ?_
    refine W_region (by kernel_rfl) ?_
    refine s_y (v := .agg #[.slice none 0 0, .slice none 0 0, .slice none 0 0]) rfl (y_build (cells := #[.slice none 0 0, .slice none 0 0, .slice none 0 0]) (by kernel_rfl)) ?_
    refine s_k0 rfl (k_stB (v := .agg #[.slice none 0 0, .slice none 0 0, .slice none 0 0]) (n := 3) (cs' := [.slice none 0 0, .slice none 0 0, .slice none 0 0]) T15.sz_30_3 rfl rfl rfl (B.b 0 rfl) (by simp [Value.cells, Value.oneCell']) (Nat.le_of_ble_eq_true rfl) rfl (fun w23 hU24 => ?_))
    replace B : Bu w no w23 [.blk b4 [.slice none 0 0, .slice none 0 0, .slice none 0 0] 30, .blk b1 [.int .i64 wd, .int .i64 hi, .bool wr, .slice asp nsp csp, .slice als nls cls] 26, .rd kF asp nsp Xsp, .rd kF als nls Xls] := B.upd [0] rfl hU24
    clear hU24
    refine s_y (v := .bool false) rfl (y_assign rfl) ?_
    refine s_nil ?_
    refine W_ret ?_
    refine ret2 (v1 := .agg #[.slice none 0 0, .slice none 0 0, .slice none 0 0]) (v2 := .bool false) rfl rfl rfl ⟨_, [.slice none 0 0, .slice none 0 0, .slice none 0 0], _, rfl, (B.b 0 rfl), T15.agg_30_3, rfl⟩ rfl ⟨_, rfl, ?_⟩
    exact .inr ⟨by simp only [(Bool.eq_false_iff.2 c11), Bool.and_true, Bool.true_and, Bool.and_false, Bool.false_and, Bool.not_true, Bool.not_false, Bool.or_true, Bool.true_or, Bool.or_false, Bool.false_or], rfl, B.ext⟩
namespace T24
theorem mx : Try.prog.follows .mixedOrders = true := by kernel_rfl
theorem int_2_i64 : Try.prog.underlying 2 = some (.int .i64) := by kernel_rfl
theorem one_5 : oneB Try.prog 5 = true := by kernel_rfl
theorem sl_22_5_1 : slB Try.prog 22 5 1 = true := by kernel_rfl
theorem und_5 : (Try.prog.underlying 5).isSome = true := by kernel_rfl
end T24
set_option maxRecDepth 100000 in
set_option maxHeartbeats 4000000 in
theorem c_l_r8At {aq : Option Addr} {nq : Nat} {cq : Nat} {Xq : List Nat} {k : Int} {n : Int} {w : World} (qq : Rd w kY aq nq Xq) (k0 : 0 ≤ k) (n0 : 1 ≤ n) (gq : nq ≤ 9223372036854775807) :
    Calls Try.prog 24 #[.slice aq nq cq, .int .i64 k, .int .i64 n] w (Rt fun v w' => ∃ uv : Int, v = .int .i64 uv ∧ uv = r8A Xq k n ∧ Ext0 w w') := by
  have hlq := qq.len
  have B : Bu w no w [.rd kY aq nq Xq] := Bu.ro (All.cons qq All.nil) rfl
  refine calls_W (n := 22) Try.func24 rfl rfl (Nat.le_of_ble_eq_true rfl) ?_
  refine W_seq ?_
  refine W_region (by kernel_rfl) ?_
  refine s_y (v := .int .i64 0) rfl (y_assign rfl) ?_
  refine s_nil ?_
  refine W_seq ?_
  refine W_seq ?_
  refine W_region (by kernel_rfl) ?_
  refine s_y (v := .int .i64 n) rfl (y_move rfl) ?_
  by_cases c1 : n ≤ 1
  · refine s_y (v := .bool true) rfl (y_leq rfl rfl (decide_eq_true c1)) ?_
    refine s_y (v := .bool true) rfl (y_move rfl) ?_
    refine s_skip rfl ?_
    refine s_skip rfl ?_
    refine s_skip rfl ?_
    refine s_skip rfl ?_
    refine s_y (v := .bool true) rfl (y_pick_t rfl rfl) ?_
    refine s_nil ?_
    refine W_if_t (by decide) rfl ?_
    refine W_seq ?_
    refine W_region (by kernel_rfl) ?_
    refine s_y (v := .int .i64 0) rfl (y_assign rfl) ?_
    refine s_nil ?_
    refine W_ret ?_
    refine ret1 (v := .int .i64 0) rfl rfl rfl ⟨_, rfl, ?_⟩
    exact ⟨_, rfl, (r8A_zero hlq (by omega)).symm, B.ext⟩
  · refine s_y (v := .bool false) rfl (y_leq rfl rfl (decide_eq_false c1)) ?_
    refine s_y (v := .bool false) rfl (y_move rfl) ?_
    refine s_y (v := .int .i64 k) rfl (y_move rfl) ?_
    refine s_y (v := .slice aq nq cq) rfl (y_move rfl) ?_
    refine s_y (v := .int .i64 ((nq : Nat) : Int)) rfl (y_len T24.sl_22_5_1 rfl rfl) ?_
    by_cases c2 : ((nq : Nat) : Int) ≤ k
    · refine s_y (v := .bool true) rfl (y_geq rfl rfl (decide_eq_true c2)) ?_
      refine s_y (v := .bool true) rfl (y_pick_f rfl rfl) ?_
      refine s_nil ?_
      refine W_if_t (by decide) rfl ?_
      refine W_seq ?_
      refine W_region (by kernel_rfl) ?_
      refine s_y (v := .int .i64 0) rfl (y_assign rfl) ?_
      refine s_nil ?_
      refine W_ret ?_
      refine ret1 (v := .int .i64 0) rfl rfl rfl ⟨_, rfl, ?_⟩
      exact ⟨_, rfl, (r8A_zero hlq (by omega)).symm, B.ext⟩
    · refine s_y (v := .bool false) rfl (y_geq rfl rfl (decide_eq_false c2)) ?_
      refine s_y (v := .bool false) rfl (y_pick_f rfl rfl) ?_
      refine s_nil ?_
      refine W_if_f (by decide) rfl ?_
      refine W_skip ?_
      refine W_seq ?_
      refine W_region (by kernel_rfl) ?_
      refine s_y (v := .slice aq nq cq) rfl (y_move rfl) ?_
      refine s_y (v := .int .i64 k) rfl (y_move rfl) ?_
      refine s_y (v := .pointer (some (sat aq ((k).toNat * 1)))) rfl (y_idx T24.sl_22_5_1 rfl rfl ((B.r 0 rfl).addr (by omega)) (by omega) (by omega)) ?_
      obtain ⟨hb4, hR3⟩ := Rd.atY (B.r 0 rfl) k (by omega) (by omega)
      refine s_y (v := .int .u8 (byt Xq k)) rfl (y_load T24.one_5 rfl (hR3.cell (i := 0) rfl)) ?_
      refine s_y (v := .int .i64 (byt Xq k)) rfl (y_ii T24.und_5 T24.int_2_i64 rfl (IntWalk.i64_in _ (by omega))) ?_
      refine s_y (v := .int .i64 n) rfl (y_move rfl) ?_
      have hm5 := rem_b (x := byt Xq k) (m := n) (by omega) (by omega)
      refine s_y (v := .int .i64 ((byt Xq k) % n)) rfl (y_rem rfl rfl (by omega) (by omega) rfl) ?_
      refine s_y (v := .int .i64 ((byt Xq k) % n)) rfl (y_assign rfl) ?_
      refine s_nil ?_
      refine W_ret ?_
      refine ret1 (v := .int .i64 ((byt Xq k) % n)) rfl rfl rfl ⟨_, rfl, ?_⟩
      exact ⟨_, rfl, (r8A_at hlq (by omega) (by omega)).symm, B.ext⟩
namespace T23
theorem mx : Try.prog.follows .mixedOrders = true := by kernel_rfl
theorem agg_44_6 : aggB Try.prog 44 6 = true := by kernel_rfl
theorem fld_44_1_1 : fldB Try.prog 44 1 1 = true := by kernel_rfl
theorem fld_44_2_2 : fldB Try.prog 44 2 2 = true := by kernel_rfl
theorem fld_44_3_3 : fldB Try.prog 44 3 3 = true := by kernel_rfl
theorem fld_44_4_4 : fldB Try.prog 44 4 4 = true := by kernel_rfl
theorem fld_44_5_5 : fldB Try.prog 44 5 5 = true := by kernel_rfl
theorem flt_34_f32 : Try.prog.underlying 34 = some (.float .f32) := by kernel_rfl
theorem fn_63 : fnB Try.prog 63 = true := by kernel_rfl
theorem fn_81 : fnB Try.prog 81 = true := by kernel_rfl
theorem sz_2_1 : szB Try.prog 2 1 = true := by kernel_rfl
theorem sz_34_1 : szB Try.prog 34 1 = true := by kernel_rfl
theorem sz_44_6 : szB Try.prog 44 6 = true := by kernel_rfl
theorem und_2 : (Try.prog.underlying 2).isSome = true := by kernel_rfl
theorem zero_44 : zeroB Try.prog 44 (.agg #[.int .i64 0, .int .i64 0, .int .i64 0, .float .f32 0, .float .f32 0, .int .i64 0]) := by unfold zeroB; kernel_rfl
end T23
set_option maxRecDepth 100000 in
set_option maxHeartbeats 4000000 in
theorem c_s_R8Wave {aq : Option Addr} {nq : Nat} {cq : Nat} {Xq : List Nat} {w : World} (qq : Rd w kY aq nq Xq) :
    Calls Try.prog 23 #[.slice aq nq cq] w (Rt fun v w' => ∃ (kd : Int) (tt : Int) (ln : Int) (r1 : Nat) (r2 : Nat) (sd : Int) (pu : Int) (pv : Int), v = .agg #[.int .i64 kd, .int .i64 tt, .int .i64 ln, .float .f32 r1, .float .f32 r2, .int .i64 sd] ∧ 0 ≤ kd ∧ kd ≤ 4 ∧ 0 ≤ tt ∧ tt ≤ 5 ∧ 1 ≤ ln ∧ ln ≤ 8 ∧ 0 ≤ sd ∧ sd ≤ 999 ∧ 0 ≤ pu ∧ pu < 9 ∧ 0 ≤ pv ∧ pv < 9 ∧ Cn .f32 r1 (twT pu) ∧ Cn .f32 r2 (szT pv) ∧ Ext0 w w') := by
  have hlq := qq.len
  have B : Bu w no w [.rd kY aq nq Xq] := Bu.ro (All.cons qq All.nil) rfl
  refine calls_W (n := 33) Try.func23 rfl rfl (Nat.le_of_ble_eq_true rfl) ?_
  refine W_seq ?_
  refine W_region (by kernel_rfl) ?_
  refine s_k rfl (k_allocN (z := (.agg #[.int .i64 0, .int .i64 0, .int .i64 0, .float .f32 0, .float .f32 0, .int .i64 0])) (cs := [.int .i64 0, .int .i64 0, .int .i64 0, .float .f32 0, .float .f32 0, .int .i64 0]) T23.zero_44 rfl (fun b1 w2 hN3 => ?_))
  replace B := B.new1 hN3
  clear hN3
  refine s_nil ?_
  refine W_seq ?_
  refine W_region (by kernel_rfl) ?_
  refine s_y (v := .slice aq nq cq) rfl (y_move rfl) ?_
  refine s_k rfl (k_call T23.fn_63 (c_s_l00From (B.r 1 rfl)) rfl ?_)
  rintro _ w4 ⟨b6, rfl, hN5⟩
  replace B := B.new1 hN5
  clear hN5
  refine s_y (v := .pointer (some ⟨b6, 0, none⟩)) rfl (y_assign rfl) ?_
  refine s_nil ?_
  refine W_seq ?_
  refine W_region (by kernel_rfl) ?_
  refine s_y (v := .pointer (some ⟨b6, 0, none⟩)) rfl (y_move rfl) ?_
  refine s_k rfl (k_call T23.fn_81 (c_s_pick (by omega) (by omega) (by omega) (by omega) (B.all.pick [0, 2] rfl) (B.pw.pick [0, 2] rfl rfl)) rfl ?_)
  rintro _ w7 ⟨v9, rfl, hp10, hU8⟩
  replace B : Bu w no w7 [.blk b6 [.slice aq nq cq, .int .i64 (0 + 1), .int .u64 (sdY Xq (0 + 1))] 131, .blk b1 [.int .i64 0, .int .i64 0, .int .i64 0, .float .f32 0, .float .f32 0, .int .i64 0] 44, .rd kY aq nq Xq] := B.upd [0] rfl hU8
  clear hU8
  have hb11 := pk_b Xq (n := 5) 0 (by omega)
  rw [← hp10] at hb11
  refine s_y (v := .agg #[.int .i64 v9, .int .i64 0, .int .i64 0, .float .f32 0, .float .f32 0, .int .i64 0]) rfl (y_build (cells := #[.int .i64 v9, .int .i64 0, .int .i64 0, .float .f32 0, .float .f32 0, .int .i64 0]) (by kernel_rfl)) ?_
  refine s_k rfl (k_allocN (z := (.agg #[.int .i64 0, .int .i64 0, .int .i64 0, .float .f32 0, .float .f32 0, .int .i64 0])) (cs := [.int .i64 0, .int .i64 0, .int .i64 0, .float .f32 0, .float .f32 0, .int .i64 0]) T23.zero_44 rfl (fun b12 w13 hN14 => ?_))
  replace B := B.new1 hN14
  clear hN14
  refine s_k0 rfl (k_stB (v := .agg #[.int .i64 v9, .int .i64 0, .int .i64 0, .float .f32 0, .float .f32 0, .int .i64 0]) (n := 6) (cs' := [.int .i64 v9, .int .i64 0, .int .i64 0, .float .f32 0, .float .f32 0, .int .i64 0]) T23.sz_44_6 rfl rfl rfl (B.b 0 rfl) (by simp [Value.cells, Value.oneCell']) (Nat.le_of_ble_eq_true rfl) rfl (fun w15 hU16 => ?_))
  replace B : Bu w no w15 [.blk b12 [.int .i64 v9, .int .i64 0, .int .i64 0, .float .f32 0, .float .f32 0, .int .i64 0] 44, .blk b6 [.slice aq nq cq, .int .i64 (0 + 1), .int .u64 (sdY Xq (0 + 1))] 131, .blk b1 [.int .i64 0, .int .i64 0, .int .i64 0, .float .f32 0, .float .f32 0, .int .i64 0] 44, .rd kY aq nq Xq] := B.upd [0] rfl hU16
  clear hU16
  refine s_nil ?_
  refine W_seq ?_
  refine W_region (by kernel_rfl) ?_
  refine s_y (v := .pointer (some ⟨b6, 0, none⟩)) rfl (y_move rfl) ?_
  refine s_k rfl (k_call T23.fn_81 (c_s_pick (by omega) (by omega) (by omega) (by omega) (B.all.pick [1, 3] rfl) (B.pw.pick [1, 3] rfl rfl)) rfl ?_)
  rintro _ w17 ⟨v19, rfl, hp20, hU18⟩
  replace B : Bu w no w17 [.blk b6 [.slice aq nq cq, .int .i64 ((0 + 1) + 1), .int .u64 (sdY Xq ((0 + 1) + 1))] 131, .blk b12 [.int .i64 v9, .int .i64 0, .int .i64 0, .float .f32 0, .float .f32 0, .int .i64 0] 44, .blk b1 [.int .i64 0, .int .i64 0, .int .i64 0, .float .f32 0, .float .f32 0, .int .i64 0] 44, .rd kY aq nq Xq] := B.upd [1] rfl hU18
  clear hU18
  have hb21 := pk_b Xq (n := 6) (0 + 1) (by omega)
  rw [← hp20] at hb21
  refine s_y (v := .pointer (some ⟨b12, 1, none⟩)) rfl (y_fld (o := 0) T23.fld_44_1_1 rfl) ?_
  refine s_k0 rfl (k_stB (v := .int .i64 v19) (n := 1) (cs' := [.int .i64 v9, .int .i64 v19, .int .i64 0, .float .f32 0, .float .f32 0, .int .i64 0]) T23.sz_2_1 rfl rfl rfl (B.b 1 rfl) (by simp [Value.cells, Value.oneCell']) (Nat.le_of_ble_eq_true rfl) rfl (fun w22 hU23 => ?_))
  replace B : Bu w no w22 [.blk b12 [.int .i64 v9, .int .i64 v19, .int .i64 0, .float .f32 0, .float .f32 0, .int .i64 0] 44, .blk b6 [.slice aq nq cq, .int .i64 ((0 + 1) + 1), .int .u64 (sdY Xq ((0 + 1) + 1))] 131, .blk b1 [.int .i64 0, .int .i64 0, .int .i64 0, .float .f32 0, .float .f32 0, .int .i64 0] 44, .rd kY aq nq Xq] := B.upd [1] rfl hU23
  clear hU23
  refine s_nil ?_
  refine W_seq ?_
  refine W_region (by kernel_rfl) ?_
  refine s_y (v := .pointer (some ⟨b6, 0, none⟩)) rfl (y_move rfl) ?_
  refine s_k rfl (k_call T23.fn_81 (c_s_pick (by omega) (by omega) (by omega) (by omega) (B.all.pick [1, 3] rfl) (B.pw.pick [1, 3] rfl rfl)) rfl ?_)
  rintro _ w24 ⟨v26, rfl, hp27, hU25⟩
  replace B : Bu w no w24 [.blk b6 [.slice aq nq cq, .int .i64 (((0 + 1) + 1) + 1), .int .u64 (sdY Xq (((0 + 1) + 1) + 1))] 131, .blk b12 [.int .i64 v9, .int .i64 v19, .int .i64 0, .float .f32 0, .float .f32 0, .int .i64 0] 44, .blk b1 [.int .i64 0, .int .i64 0, .int .i64 0, .float .f32 0, .float .f32 0, .int .i64 0] 44, .rd kY aq nq Xq] := B.upd [1] rfl hU25
  clear hU25
  have hb28 := pk_b Xq (n := 8) ((0 + 1) + 1) (by omega)
  rw [← hp27] at hb28
  refine s_y (v := .int .i64 (1 + v26)) rfl (y_add rfl rfl rfl (by omega)) ?_
  refine s_y (v := .pointer (some ⟨b12, 2, none⟩)) rfl (y_fld (o := 0) T23.fld_44_2_2 rfl) ?_
  refine s_k0 rfl (k_stB (v := .int .i64 (1 + v26)) (n := 1) (cs' := [.int .i64 v9, .int .i64 v19, .int .i64 (1 + v26), .float .f32 0, .float .f32 0, .int .i64 0]) T23.sz_2_1 rfl rfl rfl (B.b 1 rfl) (by simp [Value.cells, Value.oneCell']) (Nat.le_of_ble_eq_true rfl) rfl (fun w29 hU30 => ?_))
  replace B : Bu w no w29 [.blk b12 [.int .i64 v9, .int .i64 v19, .int .i64 (1 + v26), .float .f32 0, .float .f32 0, .int .i64 0] 44, .blk b6 [.slice aq nq cq, .int .i64 (((0 + 1) + 1) + 1), .int .u64 (sdY Xq (((0 + 1) + 1) + 1))] 131, .blk b1 [.int .i64 0, .int .i64 0, .int .i64 0, .float .f32 0, .float .f32 0, .int .i64 0] 44, .rd kY aq nq Xq] := B.upd [1] rfl hU30
  clear hU30
  refine s_nil ?_
  refine W_seq ?_
  refine W_region (by kernel_rfl) ?_
  refine s_y (v := .pointer (some ⟨b6, 0, none⟩)) rfl (y_move rfl) ?_
  refine s_k rfl (k_call T23.fn_81 (c_s_pick (by omega) (by omega) (by omega) (by omega) (B.all.pick [1, 3] rfl) (B.pw.pick [1, 3] rfl rfl)) rfl ?_)
  rintro _ w31 ⟨v33, rfl, hp34, hU32⟩
  replace B : Bu w no w31 [.blk b6 [.slice aq nq cq, .int .i64 ((((0 + 1) + 1) + 1) + 1), .int .u64 (sdY Xq ((((0 + 1) + 1) + 1) + 1))] 131, .blk b12 [.int .i64 v9, .int .i64 v19, .int .i64 (1 + v26), .float .f32 0, .float .f32 0, .int .i64 0] 44, .blk b1 [.int .i64 0, .int .i64 0, .int .i64 0, .float .f32 0, .float .f32 0, .int .i64 0] 44, .rd kY aq nq Xq] := B.upd [1] rfl hU32
  clear hU32
  have hb35 := pk_b Xq (n := 9) (((0 + 1) + 1) + 1) (by omega)
  rw [← hp34] at hb35
  refine s_y (v := .int .i64 (v33 - 4)) rfl (y_sub rfl rfl rfl (by omega)) ?_
  refine s_y (v := .float .f32 (FloatKind.nearest .f32 (v33 - 4))) rfl (y_if T23.und_2 T23.flt_34_f32 rfl) ?_
  refine s_n rfl (n_arith (by decide) rfl rfl) ?_
  rintro _ w39 e40 ⟨r37, rfl, hr38⟩
  replace B := B.ext0 e40
  clear e40
  have hc41 := fopC hr38 (cn_nearest .f32 (v33 - 4)) (cnLit (k := .f32) (t := 1098907648) (by kernel_rfl) (by kernel_rfl))
  refine s_y (v := .pointer (some ⟨b12, 3, none⟩)) rfl (y_fld (o := 0) T23.fld_44_3_3 rfl) ?_
  refine s_k0 rfl (k_stB (v := .float .f32 r37) (n := 1) (cs' := [.int .i64 v9, .int .i64 v19, .int .i64 (1 + v26), .float .f32 r37, .float .f32 0, .int .i64 0]) T23.sz_34_1 rfl rfl rfl (B.b 1 rfl) (by simp [Value.cells, Value.oneCell']) (Nat.le_of_ble_eq_true rfl) rfl (fun w42 hU43 => ?_))
  replace B : Bu w no w42 [.blk b12 [.int .i64 v9, .int .i64 v19, .int .i64 (1 + v26), .float .f32 r37, .float .f32 0, .int .i64 0] 44, .blk b6 [.slice aq nq cq, .int .i64 ((((0 + 1) + 1) + 1) + 1), .int .u64 (sdY Xq ((((0 + 1) + 1) + 1) + 1))] 131, .blk b1 [.int .i64 0, .int .i64 0, .int .i64 0, .float .f32 0, .float .f32 0, .int .i64 0] 44, .rd kY aq nq Xq] := B.upd [1] rfl hU43
  clear hU43
  refine s_nil ?_
  refine W_seq ?_
  refine W_region (by kernel_rfl) ?_
  refine s_y (v := .pointer (some ⟨b6, 0, none⟩)) rfl (y_move rfl) ?_
  refine s_k rfl (k_call T23.fn_81 (c_s_pick (by omega) (by omega) (by omega) (by omega) (B.all.pick [1, 3] rfl) (B.pw.pick [1, 3] rfl rfl)) rfl ?_)
  rintro _ w44 ⟨v46, rfl, hp47, hU45⟩
  replace B : Bu w no w44 [.blk b6 [.slice aq nq cq, .int .i64 (((((0 + 1) + 1) + 1) + 1) + 1), .int .u64 (sdY Xq (((((0 + 1) + 1) + 1) + 1) + 1))] 131, .blk b12 [.int .i64 v9, .int .i64 v19, .int .i64 (1 + v26), .float .f32 r37, .float .f32 0, .int .i64 0] 44, .blk b1 [.int .i64 0, .int .i64 0, .int .i64 0, .float .f32 0, .float .f32 0, .int .i64 0] 44, .rd kY aq nq Xq] := B.upd [1] rfl hU45
  clear hU45
  have hb48 := pk_b Xq (n := 9) ((((0 + 1) + 1) + 1) + 1) (by omega)
  rw [← hp47] at hb48
  refine s_y (v := .int .i64 (v46 - 4)) rfl (y_sub rfl rfl rfl (by omega)) ?_
  refine s_y (v := .float .f32 (FloatKind.nearest .f32 (v46 - 4))) rfl (y_if T23.und_2 T23.flt_34_f32 rfl) ?_
  refine s_n rfl (n_arith (by decide) rfl rfl) ?_
  rintro _ w52 e53 ⟨r50, rfl, hr51⟩
  replace B := B.ext0 e53
  clear e53
  have hc54 := fopC hr51 (cn_nearest .f32 (v46 - 4)) (cnLit (k := .f32) (t := 1073741824) (by kernel_rfl) (by kernel_rfl))
  refine s_y (v := .pointer (some ⟨b12, 4, none⟩)) rfl (y_fld (o := 0) T23.fld_44_4_4 rfl) ?_
  refine s_k0 rfl (k_stB (v := .float .f32 r50) (n := 1) (cs' := [.int .i64 v9, .int .i64 v19, .int .i64 (1 + v26), .float .f32 r37, .float .f32 r50, .int .i64 0]) T23.sz_34_1 rfl rfl rfl (B.b 1 rfl) (by simp [Value.cells, Value.oneCell']) (Nat.le_of_ble_eq_true rfl) rfl (fun w55 hU56 => ?_))
  replace B : Bu w no w55 [.blk b12 [.int .i64 v9, .int .i64 v19, .int .i64 (1 + v26), .float .f32 r37, .float .f32 r50, .int .i64 0] 44, .blk b6 [.slice aq nq cq, .int .i64 (((((0 + 1) + 1) + 1) + 1) + 1), .int .u64 (sdY Xq (((((0 + 1) + 1) + 1) + 1) + 1))] 131, .blk b1 [.int .i64 0, .int .i64 0, .int .i64 0, .float .f32 0, .float .f32 0, .int .i64 0] 44, .rd kY aq nq Xq] := B.upd [1] rfl hU56
  clear hU56
  refine s_nil ?_
  refine W_seq ?_
  refine W_region (by kernel_rfl) ?_
  refine s_y (v := .pointer (some ⟨b6, 0, none⟩)) rfl (y_move rfl) ?_
  refine s_k rfl (k_call T23.fn_81 (c_s_pick2 (by omega) (by omega) (by omega) (by omega) (B.all.pick [1, 3] rfl) (B.pw.pick [1, 3] rfl rfl)) rfl ?_)
  rintro _ w57 ⟨v59, rfl, hp60, hp61, hU58⟩
  replace B : Bu w no w57 [.blk b6 [.slice aq nq cq, .int .i64 ((((((0 + 1) + 1) + 1) + 1) + 1) + 1 + 1), .int .u64 (sdY Xq ((((((0 + 1) + 1) + 1) + 1) + 1) + 1 + 1))] 131, .blk b12 [.int .i64 v9, .int .i64 v19, .int .i64 (1 + v26), .float .f32 r37, .float .f32 r50, .int .i64 0] 44, .blk b1 [.int .i64 0, .int .i64 0, .int .i64 0, .float .f32 0, .float .f32 0, .int .i64 0] 44, .rd kY aq nq Xq] := B.upd [1] rfl hU58
  clear hU58
  refine s_y (v := .pointer (some ⟨b12, 5, none⟩)) rfl (y_fld (o := 0) T23.fld_44_5_5 rfl) ?_
  refine s_k0 rfl (k_stB (v := .int .i64 v59) (n := 1) (cs' := [.int .i64 v9, .int .i64 v19, .int .i64 (1 + v26), .float .f32 r37, .float .f32 r50, .int .i64 v59]) T23.sz_2_1 rfl rfl rfl (B.b 1 rfl) (by simp [Value.cells, Value.oneCell']) (Nat.le_of_ble_eq_true rfl) rfl (fun w62 hU63 => ?_))
  replace B : Bu w no w62 [.blk b12 [.int .i64 v9, .int .i64 v19, .int .i64 (1 + v26), .float .f32 r37, .float .f32 r50, .int .i64 v59] 44, .blk b6 [.slice aq nq cq, .int .i64 ((((((0 + 1) + 1) + 1) + 1) + 1) + 1 + 1), .int .u64 (sdY Xq ((((((0 + 1) + 1) + 1) + 1) + 1) + 1 + 1))] 131, .blk b1 [.int .i64 0, .int .i64 0, .int .i64 0, .float .f32 0, .float .f32 0, .int .i64 0] 44, .rd kY aq nq Xq] := B.upd [1] rfl hU63
  clear hU63
  refine s_nil ?_
  refine W_seq ?_
  refine W_region (by kernel_rfl) ?_
  refine s_y (v := .agg #[.int .i64 v9, .int .i64 v19, .int .i64 (1 + v26), .float .f32 r37, .float .f32 r50, .int .i64 v59]) rfl (y_loadn (b := b12) (o := 0) (vs := [.int .i64 v9, .int .i64 v19, .int .i64 (1 + v26), .float .f32 r37, .float .f32 r50, .int .i64 v59]) T23.agg_44_6 rfl rfl ((B.b 0 rfl).cells (o := 0) rfl)) ?_
  refine s_k0 rfl (k_stB (v := .agg #[.int .i64 v9, .int .i64 v19, .int .i64 (1 + v26), .float .f32 r37, .float .f32 r50, .int .i64 v59]) (n := 6) (cs' := [.int .i64 v9, .int .i64 v19, .int .i64 (1 + v26), .float .f32 r37, .float .f32 r50, .int .i64 v59]) T23.sz_44_6 rfl rfl rfl (B.b 2 rfl) (by simp [Value.cells, Value.oneCell']) (Nat.le_of_ble_eq_true rfl) rfl (fun w64 hU65 => ?_))
  replace B : Bu w no w64 [.blk b1 [.int .i64 v9, .int .i64 v19, .int .i64 (1 + v26), .float .f32 r37, .float .f32 r50, .int .i64 v59] 44, .blk b12 [.int .i64 v9, .int .i64 v19, .int .i64 (1 + v26), .float .f32 r37, .float .f32 r50, .int .i64 v59] 44, .blk b6 [.slice aq nq cq, .int .i64 ((((((0 + 1) + 1) + 1) + 1) + 1) + 1 + 1), .int .u64 (sdY Xq ((((((0 + 1) + 1) + 1) + 1) + 1) + 1 + 1))] 131, .rd kY aq nq Xq] := B.upd [2] rfl hU65
  clear hU65
  refine s_nil ?_
  refine W_ret ?_
  refine ret1 (v := .agg #[.int .i64 v9, .int .i64 v19, .int .i64 (1 + v26), .float .f32 r37, .float .f32 r50, .int .i64 v59]) rfl rfl ⟨_, [.int .i64 v9, .int .i64 v19, .int .i64 (1 + v26), .float .f32 r37, .float .f32 r50, .int .i64 v59], _, rfl, (B.b 0 rfl), T23.agg_44_6, rfl⟩ ⟨_, rfl, ?_⟩
  exact ⟨_, _, _, _, _, _, _, _, rfl, (by omega), (by omega), (by omega), (by omega), (by omega), (by omega), (by omega), (by omega), (by omega), (by omega), (by omega), (by omega), hc41, hc54, B.ext⟩
namespace T84
theorem mx : Try.prog.follows .mixedOrders = true := by kernel_rfl
theorem fn_74 : fnB Try.prog 74 = true := by kernel_rfl
end T84
set_option maxRecDepth 100000 in
set_option maxHeartbeats 4000000 in
theorem c_i_isTick {n : Int} {w : World} :
    Calls Try.prog 84 #[.int .i64 n] w (Rt fun v w' => v = .bool (isTick n) ∧ Ext0 w w') := by
  have B : Bu w no w [] := Bu.ro All.nil rfl
  refine calls_W (n := 5) Try.func84 rfl rfl (Nat.le_of_ble_eq_true rfl) ?_
  refine W_seq ?_
  refine W_region (by kernel_rfl) ?_
  refine s_y (v := .bool false) rfl (y_assign rfl) ?_
  refine s_nil ?_
  refine W_seq ?_
  refine W_region (by kernel_rfl) ?_
  refine s_y (v := .int .i64 n) rfl (y_move rfl) ?_
  refine s_k rfl (k_call T84.fn_74 (c_i_within) rfl ?_)
  rintro v3 w1 ⟨hv4, e2⟩
  replace B := B.ext0 e2
  clear e2
  by_cases c5 : within n 0 1000000 = true
  · have hb6 := within_b c5
    obtain rfl : v3 = .bool true := hv4.trans (congrArg Value.bool c5)
    refine s_y (v := .bool true) rfl (y_assign rfl) ?_
    refine s_nil ?_
    refine W_ret ?_
    refine ret1 (v := .bool true) rfl rfl rfl ⟨_, rfl, ?_⟩
    exact ⟨congrArg Value.bool (by simp [isTick, *]), B.ext⟩
  · obtain rfl : v3 = .bool false := hv4.trans (congrArg Value.bool (Bool.eq_false_iff.2 c5))
    refine s_y (v := .bool false) rfl (y_assign rfl) ?_
    refine s_nil ?_
    refine W_ret ?_
    refine ret1 (v := .bool false) rfl rfl rfl ⟨_, rfl, ?_⟩
    exact ⟨congrArg Value.bool (by simp [isTick, *]), B.ext⟩
namespace T85
theorem mx : Try.prog.follows .mixedOrders = true := by kernel_rfl
end T85
set_option maxRecDepth 100000 in
set_option maxHeartbeats 4000000 in
theorem c_i_IsFinite {x : Nat} {X : Nat} {w : World} (hx : Cn .f32 x X) :
    Calls Try.prog 85 #[.float .f32 x] w (Rt fun v w' => v = .bool (finB X) ∧ Ext0 w w') := by
  have B : Bu w no w [] := Bu.ro All.nil rfl
  refine calls_W (n := 7) Try.func85 rfl rfl (Nat.le_of_ble_eq_true rfl) ?_
  refine W_seq ?_
  refine W_region (by kernel_rfl) ?_
  refine s_y (v := .bool false) rfl (y_assign rfl) ?_
  refine s_nil ?_
  refine W_seq ?_
  refine W_region (by kernel_rfl) ?_
  refine s_y (v := .float .f32 x) rfl (y_move rfl) ?_
  refine s_y (v := .float .f32 x) rfl (y_move rfl) ?_
  refine s_n rfl (n_arith (by decide) rfl rfl) ?_
  rintro _ w4 e5 ⟨r2, rfl, hr3⟩
  replace B := B.ext0 e5
  clear e5
  have hc6 := fopC hr3 hx hx
  by_cases c7 : feq .f32 (fop .sub .f32 X X) 0 = true
  · refine s_y (v := .bool true) rfl (y_feql rfl rfl (feqC hc6 (cnLit (k := .f32) (t := 0) (by kernel_rfl) (by kernel_rfl)) c7)) ?_
    refine s_y (v := .bool true) rfl (y_assign rfl) ?_
    refine s_nil ?_
    refine W_ret ?_
    refine ret1 (v := .bool true) rfl rfl rfl ⟨_, rfl, ?_⟩
    exact ⟨congrArg Value.bool (by simp_all [finB]), B.ext⟩
  · refine s_y (v := .bool false) rfl (y_feql rfl rfl (feqC hc6 (cnLit (k := .f32) (t := 0) (by kernel_rfl) (by kernel_rfl)) (Bool.eq_false_iff.2 c7))) ?_
    refine s_y (v := .bool false) rfl (y_assign rfl) ?_
    refine s_nil ?_
    refine W_ret ?_
    refine ret1 (v := .bool false) rfl rfl rfl ⟨_, rfl, ?_⟩
    exact ⟨congrArg Value.bool (by simp_all [finB]), B.ext⟩
namespace T86
theorem mx : Try.prog.follows .mixedOrders = true := by kernel_rfl
theorem fn_74 : fnB Try.prog 74 = true := by kernel_rfl
end T86
set_option maxRecDepth 100000 in
set_option maxHeartbeats 4000000 in
theorem c_i_isSeed {n : Int} {w : World} :
    Calls Try.prog 86 #[.int .i64 n] w (Rt fun v w' => v = .bool (isSeed n) ∧ Ext0 w w') := by
  have B : Bu w no w [] := Bu.ro All.nil rfl
  refine calls_W (n := 5) Try.func86 rfl rfl (Nat.le_of_ble_eq_true rfl) ?_
  refine W_seq ?_
  refine W_region (by kernel_rfl) ?_
  refine s_y (v := .bool false) rfl (y_assign rfl) ?_
  refine s_nil ?_
  refine W_seq ?_
  refine W_region (by kernel_rfl) ?_
  refine s_y (v := .int .i64 n) rfl (y_move rfl) ?_
  refine s_k rfl (k_call T86.fn_74 (c_i_within) rfl ?_)
  rintro v3 w1 ⟨hv4, e2⟩
  replace B := B.ext0 e2
  clear e2
  by_cases c5 : within n 0 2147483647 = true
  · have hb6 := within_b c5
    obtain rfl : v3 = .bool true := hv4.trans (congrArg Value.bool c5)
    refine s_y (v := .bool true) rfl (y_assign rfl) ?_
    refine s_nil ?_
    refine W_ret ?_
    refine ret1 (v := .bool true) rfl rfl rfl ⟨_, rfl, ?_⟩
    exact ⟨congrArg Value.bool (by simp [isSeed, *]), B.ext⟩
  · obtain rfl : v3 = .bool false := hv4.trans (congrArg Value.bool (Bool.eq_false_iff.2 c5))
    refine s_y (v := .bool false) rfl (y_assign rfl) ?_
    refine s_nil ?_
    refine W_ret ?_
    refine ret1 (v := .bool false) rfl rfl rfl ⟨_, rfl, ?_⟩
    exact ⟨congrArg Value.bool (by simp [isSeed, *]), B.ext⟩
namespace T27
theorem mx : Try.prog.follows .mixedOrders = true := by kernel_rfl
theorem fld_44_0_0 : fldB Try.prog 44 0 0 = true := by kernel_rfl
theorem fld_44_1_1 : fldB Try.prog 44 1 1 = true := by kernel_rfl
theorem fld_44_2_2 : fldB Try.prog 44 2 2 = true := by kernel_rfl
theorem fld_44_3_3 : fldB Try.prog 44 3 3 = true := by kernel_rfl
theorem fld_44_5_5 : fldB Try.prog 44 5 5 = true := by kernel_rfl
theorem fn_74 : fnB Try.prog 74 = true := by kernel_rfl
theorem fn_84 : fnB Try.prog 84 = true := by kernel_rfl
theorem fn_85 : fnB Try.prog 85 = true := by kernel_rfl
theorem fn_86 : fnB Try.prog 86 = true := by kernel_rfl
theorem one_2 : oneB Try.prog 2 = true := by kernel_rfl
theorem one_34 : oneB Try.prog 34 = true := by kernel_rfl
end T27
set_option maxRecDepth 100000 in
set_option maxHeartbeats 4000000 in
theorem c_i_ValidWave {kd : Int} {tt : Int} {ln : Int} {tn : Nat} {TN : Nat} {sz : Nat} {SZ : Nat} {sd : Int} {w : World} (htn : Cn .f32 tn TN) (hsz : Cn .f32 sz SZ) :
    Calls Try.prog 27 #[.agg #[.int .i64 kd, .int .i64 tt, .int .i64 ln, .float .f32 tn, .float .f32 sz, .int .i64 sd]] w (Rt fun v w' => v = .bool (validW kd tt ln TN sd) ∧ Ext0 w w') := by
  have B : Bu w no w [] := Bu.ro All.nil rfl
  refine calls_W (n := 26) Try.func27 rfl rfl (Nat.le_of_ble_eq_true rfl) ?_
  refine W_seq ?_
  refine W_region (by kernel_rfl) ?_
  refine s_k rfl (k_boxN (v := .agg #[.int .i64 kd, .int .i64 tt, .int .i64 ln, .float .f32 tn, .float .f32 sz, .int .i64 sd]) (cs := [.int .i64 kd, .int .i64 tt, .int .i64 ln, .float .f32 tn, .float .f32 sz, .int .i64 sd]) rfl rfl (fun b1 w2 hN3 => ?_))
  replace B := B.new1 hN3
  clear hN3
  refine s_y (v := .bool false) rfl (y_assign rfl) ?_
  refine s_nil ?_
  refine W_seq ?_
  refine W_region (by kernel_rfl) ?_
  refine s_y (v := .pointer (some ⟨b1, 0, none⟩)) rfl (y_fld (o := 0) T27.fld_44_0_0 rfl) ?_
  refine s_y (v := .int .i64 kd) rfl (y_load T27.one_2 rfl ((B.b 0 rfl).cell (j := 0) rfl)) ?_
  refine s_k rfl (k_call T27.fn_74 (c_i_within) rfl ?_)
  rintro v6 w4 ⟨hv7, e5⟩
  replace B := B.ext0 e5
  clear e5
  by_cases c8 : within kd 0 4 = true
  · have hb9 := within_b c8
    obtain rfl : v6 = .bool true := hv7.trans (congrArg Value.bool c8)
    refine s_y (v := .bool true) rfl (y_move rfl) ?_
    refine s_y (v := .pointer (some ⟨b1, 1, none⟩)) rfl (y_fld (o := 0) T27.fld_44_1_1 rfl) ?_
    refine s_y (v := .int .i64 tt) rfl (y_load T27.one_2 rfl ((B.b 0 rfl).cell (j := 1) rfl)) ?_
    refine s_k rfl (k_call T27.fn_84 (c_i_isTick) rfl ?_)
    rintro v12 w10 ⟨hv13, e11⟩
    replace B := B.ext0 e11
    clear e11
    by_cases c14 : isTick tt = true
    · have hb15 := isTick_b c14
      obtain rfl : v12 = .bool true := hv13.trans (congrArg Value.bool c14)
      refine s_y (v := .bool true) rfl (y_pick_t rfl rfl) ?_
      refine s_y (v := .bool true) rfl (y_move rfl) ?_
      refine s_y (v := .pointer (some ⟨b1, 2, none⟩)) rfl (y_fld (o := 0) T27.fld_44_2_2 rfl) ?_
      refine s_y (v := .int .i64 ln) rfl (y_load T27.one_2 rfl ((B.b 0 rfl).cell (j := 2) rfl)) ?_
      refine s_k rfl (k_call T27.fn_74 (c_i_within) rfl ?_)
      rintro v18 w16 ⟨hv19, e17⟩
      replace B := B.ext0 e17
      clear e17
      by_cases c20 : within ln 1 1000000 = true
      · have hb21 := within_b c20
        obtain rfl : v18 = .bool true := hv19.trans (congrArg Value.bool c20)
        refine s_y (v := .bool true) rfl (y_pick_t rfl rfl) ?_
        refine s_y (v := .bool true) rfl (y_move rfl) ?_
        refine s_y (v := .pointer (some ⟨b1, 3, none⟩)) rfl (y_fld (o := 0) T27.fld_44_3_3 rfl) ?_
        refine s_y (v := .float .f32 tn) rfl (y_load T27.one_34 rfl ((B.b 0 rfl).cell (j := 3) rfl)) ?_
        refine s_k rfl (k_call T27.fn_85 (c_i_IsFinite htn) rfl ?_)
        rintro v24 w22 ⟨hv25, e23⟩
        replace B := B.ext0 e23
        clear e23
        by_cases c26 : finB TN = true
        · obtain rfl : v24 = .bool true := hv25.trans (congrArg Value.bool c26)
          refine s_y (v := .bool true) rfl (y_pick_t rfl rfl) ?_
          refine s_y (v := .bool true) rfl (y_move rfl) ?_
          refine s_y (v := .pointer (some ⟨b1, 5, none⟩)) rfl (y_fld (o := 0) T27.fld_44_5_5 rfl) ?_
          refine s_y (v := .int .i64 sd) rfl (y_load T27.one_2 rfl ((B.b 0 rfl).cell (j := 5) rfl)) ?_
          refine s_k rfl (k_call T27.fn_86 (c_i_isSeed) rfl ?_)
          rintro v29 w27 ⟨hv30, e28⟩
          replace B := B.ext0 e28
          clear e28
          by_cases c31 : isSeed sd = true
          · have hb32 := isSeed_b c31
            obtain rfl : v29 = .bool true := hv30.trans (congrArg Value.bool c31)
            refine s_y (v := .bool true) rfl (y_pick_t rfl rfl) ?_
            refine s_y (v := .bool true) rfl (y_assign rfl) ?_
            refine s_nil ?_
            refine W_ret ?_
            refine ret1 (v := .bool true) rfl rfl rfl ⟨_, rfl, ?_⟩
            exact ⟨congrArg Value.bool (by simp [validW, *]), B.ext⟩
          · obtain rfl : v29 = .bool false := hv30.trans (congrArg Value.bool (Bool.eq_false_iff.2 c31))
            refine s_y (v := .bool false) rfl (y_pick_t rfl rfl) ?_
            refine s_y (v := .bool false) rfl (y_assign rfl) ?_
            refine s_nil ?_
            refine W_ret ?_
            refine ret1 (v := .bool false) rfl rfl rfl ⟨_, rfl, ?_⟩
            exact ⟨congrArg Value.bool (by simp [validW, *]), B.ext⟩
        · obtain rfl : v24 = .bool false := hv25.trans (congrArg Value.bool (Bool.eq_false_iff.2 c26))
          refine s_y (v := .bool false) rfl (y_pick_t rfl rfl) ?_
          refine s_y (v := .bool false) rfl (y_move rfl) ?_
          refine s_skip rfl ?_
          refine s_skip rfl ?_
          refine s_skip rfl ?_
          refine s_y (v := .bool false) rfl (y_pick_f rfl rfl) ?_
          refine s_y (v := .bool false) rfl (y_assign rfl) ?_
          refine s_nil ?_
          refine W_ret ?_
          refine ret1 (v := .bool false) rfl rfl rfl ⟨_, rfl, ?_⟩
          exact ⟨congrArg Value.bool (by simp [validW, *]), B.ext⟩
      · obtain rfl : v18 = .bool false := hv19.trans (congrArg Value.bool (Bool.eq_false_iff.2 c20))
        refine s_y (v := .bool false) rfl (y_pick_t rfl rfl) ?_
        refine s_y (v := .bool false) rfl (y_move rfl) ?_
        refine s_skip rfl ?_
        refine s_skip rfl ?_
        refine s_skip rfl ?_
        refine s_y (v := .bool false) rfl (y_pick_f rfl rfl) ?_
        refine s_y (v := .bool false) rfl (y_move rfl) ?_
        refine s_skip rfl ?_
        refine s_skip rfl ?_
        refine s_skip rfl ?_
        refine s_y (v := .bool false) rfl (y_pick_f rfl rfl) ?_
        refine s_y (v := .bool false) rfl (y_assign rfl) ?_
        refine s_nil ?_
        refine W_ret ?_
        refine ret1 (v := .bool false) rfl rfl rfl ⟨_, rfl, ?_⟩
        exact ⟨congrArg Value.bool (by simp [validW, *]), B.ext⟩
    · obtain rfl : v12 = .bool false := hv13.trans (congrArg Value.bool (Bool.eq_false_iff.2 c14))
      refine s_y (v := .bool false) rfl (y_pick_t rfl rfl) ?_
      refine s_y (v := .bool false) rfl (y_move rfl) ?_
      refine s_skip rfl ?_
      refine s_skip rfl ?_
      refine s_skip rfl ?_
      refine s_y (v := .bool false) rfl (y_pick_f rfl rfl) ?_
      refine s_y (v := .bool false) rfl (y_move rfl) ?_
      refine s_skip rfl ?_
      refine s_skip rfl ?_
      refine s_skip rfl ?_
      refine s_y (v := .bool false) rfl (y_pick_f rfl rfl) ?_
      refine s_y (v := .bool false) rfl (y_move rfl) ?_
      refine s_skip rfl ?_
      refine s_skip rfl ?_
      refine s_skip rfl ?_
      refine s_y (v := .bool false) rfl (y_pick_f rfl rfl) ?_
      refine s_y (v := .bool false) rfl (y_assign rfl) ?_
      refine s_nil ?_
      refine W_ret ?_
      refine ret1 (v := .bool false) rfl rfl rfl ⟨_, rfl, ?_⟩
      exact ⟨congrArg Value.bool (by simp [validW, *]), B.ext⟩
  · obtain rfl : v6 = .bool false := hv7.trans (congrArg Value.bool (Bool.eq_false_iff.2 c8))
    refine s_y (v := .bool false) rfl (y_move rfl) ?_
    refine s_skip rfl ?_
    refine s_skip rfl ?_
    refine s_skip rfl ?_
    refine s_y (v := .bool false) rfl (y_pick_f rfl rfl) ?_
    refine s_y (v := .bool false) rfl (y_move rfl) ?_
    refine s_skip rfl ?_
    refine s_skip rfl ?_
    refine s_skip rfl ?_
    refine s_y (v := .bool false) rfl (y_pick_f rfl rfl) ?_
    refine s_y (v := .bool false) rfl (y_move rfl) ?_
    refine s_skip rfl ?_
    refine s_skip rfl ?_
    refine s_skip rfl ?_
    refine s_y (v := .bool false) rfl (y_pick_f rfl rfl) ?_
    refine s_y (v := .bool false) rfl (y_move rfl) ?_
    refine s_skip rfl ?_
    refine s_skip rfl ?_
    refine s_skip rfl ?_
    refine s_y (v := .bool false) rfl (y_pick_f rfl rfl) ?_
    refine s_y (v := .bool false) rfl (y_assign rfl) ?_
    refine s_nil ?_
    refine W_ret ?_
    refine ret1 (v := .bool false) rfl rfl rfl ⟨_, rfl, ?_⟩
    exact ⟨congrArg Value.bool (by simp [validW, *]), B.ext⟩
namespace T45
theorem mx : Try.prog.follows .mixedOrders = true := by kernel_rfl
theorem agg_26_5 : aggB Try.prog 26 5 = true := by kernel_rfl
theorem agg_44_6 : aggB Try.prog 44 6 = true := by kernel_rfl
theorem agg_57_9 : aggB Try.prog 57 9 = true := by kernel_rfl
theorem fld_57_0_0 : fldB Try.prog 57 0 0 = true := by kernel_rfl
theorem fld_57_1_1 : fldB Try.prog 57 1 1 = true := by kernel_rfl
theorem fld_57_3_3 : fldB Try.prog 57 3 3 = true := by kernel_rfl
theorem fn_27 : fnB Try.prog 27 = true := by kernel_rfl
theorem fn_65 : fnB Try.prog 65 = true := by kernel_rfl
theorem fn_67 : fnB Try.prog 67 = true := by kernel_rfl
theorem fn_98 : fnB Try.prog 98 = true := by kernel_rfl
theorem one_2 : oneB Try.prog 2 = true := by kernel_rfl
theorem sl_58_57_9 : slB Try.prog 58 57 9 = true := by kernel_rfl
theorem sz_57_9 : szB Try.prog 57 9 = true := by kernel_rfl
theorem zero_57 : zeroB Try.prog 57 (.agg #[.int .i64 0, .int .i64 0, .bool false, .int .i64 0, .int .i64 0, .int .i64 0, .float .f32 0, .float .f32 0, .int .i64 0]) := by unfold zeroB; kernel_rfl
end T45
set_option maxRecDepth 100000 in
set_option maxHeartbeats 4000000 in
theorem c_i_AreSources {wd : Int} {hi : Int} {wr : Bool} {asp : Option Addr} {nsp : Nat} {csp : Nat} {Xsp : List Nat} {als : Option Addr} {nls : Nat} {cls : Nat} {Xls : List Nat} {aq : Option Addr} {nq : Nat} {cq : Nat} {Xq : List Src} {w : World} (qsp : Rd w kF asp nsp Xsp) (qls : Rd w kF als nls Xls) (qq : Rd w kS aq nq Xq) (hbsp : nsp ≤ 9223372036854775806) (hbls : nls ≤ 9223372036854775806) :
    Calls Try.prog 45 #[.agg #[.int .i64 wd, .int .i64 hi, .bool wr, .slice asp nsp csp, .slice als nls cls], .slice aq nq cq] w (Rt fun v w' => v = .bool (areSrcB wd hi wr Xsp Xls Xq) ∧ Ext0 w w') := by
  have hlsp := qsp.len
  have hlls := qls.len
  have hlq := qq.len
  have B : Bu w no w [.rd kF asp nsp Xsp, .rd kF als nls Xls, .rd kS aq nq Xq] := Bu.ro (All.cons qsp (All.cons qls (All.cons qq All.nil))) rfl
  refine calls_W (n := 43) Try.func45 rfl rfl (Nat.le_of_ble_eq_true rfl) ?_
  refine W_seq ?_
  refine W_region (by kernel_rfl) ?_
  refine s_k rfl (k_boxN (v := .agg #[.int .i64 wd, .int .i64 hi, .bool wr, .slice asp nsp csp, .slice als nls cls]) (cs := [.int .i64 wd, .int .i64 hi, .bool wr, .slice asp nsp csp, .slice als nls cls]) rfl rfl (fun b1 w2 hN3 => ?_))
  replace B := B.new1 hN3
  clear hN3
  refine s_y (v := .bool false) rfl (y_assign rfl) ?_
  refine s_nil ?_
  refine W_seq ?_
  refine W_seq ?_
  refine W_region (by kernel_rfl) ?_
  refine s_y (v := .agg #[.int .i64 wd, .int .i64 hi, .bool wr, .slice asp nsp csp, .slice als nls cls]) rfl (y_loadn (b := b1) (o := 0) (vs := [.int .i64 wd, .int .i64 hi, .bool wr, .slice asp nsp csp, .slice als nls cls]) T45.agg_26_5 rfl rfl ((B.b 0 rfl).cells (o := 0) rfl)) ?_
  refine s_k rfl (k_call T45.fn_65 (c_i_ValidSheet (B.r 1 rfl) (B.r 2 rfl) (by omega) (by omega)) rfl ?_)
  rintro v6 w4 ⟨hv7, e5⟩
  replace B := B.ext0 e5
  clear e5
  by_cases c8 : validS wd hi Xsp Xls = true
  · have hb9 := validS_b c8
    obtain rfl : v6 = .bool true := hv7.trans (congrArg Value.bool c8)
    refine s_y (v := .bool false) rfl (y_not rfl rfl) ?_
    refine s_y (v := .bool false) rfl (y_move rfl) ?_
    refine s_y (v := .slice aq nq cq) rfl (y_move rfl) ?_
    refine s_y (v := .int .i64 ((nq : Nat) : Int)) rfl (y_len T45.sl_58_57_9 rfl rfl) ?_
    by_cases c10 : 8 < ((nq : Nat) : Int)
    · refine s_y (v := .bool true) rfl (y_gtr rfl rfl (decide_eq_true c10)) ?_
      refine s_y (v := .bool true) rfl (y_pick_f rfl rfl) ?_
      refine s_nil ?_
      refine W_if_t (by decide) rfl ?_
      refine W_seq ?_
      refine W_region (by kernel_rfl) ?_
      refine s_y (v := .bool false) rfl (y_assign rfl) ?_
      refine s_nil ?_
      refine W_ret ?_
      refine ret1 (v := .bool false) rfl rfl rfl ⟨_, rfl, ?_⟩
      exact ⟨congrArg Value.bool (by first | exact (areSrc_n1 (by assumption)).symm | exact (areSrc_n2 (by omega)).symm), B.ext⟩
    · refine s_y (v := .bool false) rfl (y_gtr rfl rfl (decide_eq_false c10)) ?_
      refine s_y (v := .bool false) rfl (y_pick_f rfl rfl) ?_
      refine s_nil ?_
      refine W_if_f (by decide) rfl ?_
      refine W_skip ?_
      refine W_seq ?_
      refine W_seq ?_
      refine W_region (by kernel_rfl) ?_
      refine s_y (v := .slice aq nq cq) rfl (y_move rfl) ?_
      refine s_y (v := .int .i64 ((nq : Nat) : Int)) rfl (y_len T45.sl_58_57_9 rfl rfl) ?_
      refine s_y (v := .int .i64 0) rfl (y_move rfl) ?_
      refine s_nil ?_
      refine W_block ?_
      refine W_loop (fun ρ' w' => ∃ (ρ1 : Env) (k : Int), ρ' = updL ρ1 [(2, .pointer (some ⟨b1, 0, none⟩)), (15, .slice aq nq cq), (16, .int .i64 ((nq : Nat) : Int)), (17, .int .i64 k)] ∧ Bu w no w' [.blk b1 [.int .i64 wd, .int .i64 hi, .bool wr, .slice asp nsp csp, .slice als nls cls] 26, .rd kF asp nsp Xsp, .rd kF als nls Xls, .rd kS aq nq Xq] ∧ (0 ≤ k) ∧ (k ≤ (nq : Int)) ∧ (∀ i, 0 ≤ i → i < k → srcB wd hi wr (gl Xq i) = true)) (fun ρ' _ => ((nq : Int) - iv (ρ' 17)).toNat) ?_ ?_
      · exact ⟨_, 0, Fits.eq ⟨rfl, rfl, rfl, rfl, trivial⟩, B, (Int.le_refl _), (by omega), (by intro i h0 h1; omega)⟩
      · clear B; rintro _ w11 ⟨ρ12, k, rfl, B, h0k, h1k, hq⟩
        refine W_seq ?_
        refine W_region (by kernel_rfl) ?_
        by_cases c13 : k < ((nq : Nat) : Int)
        · refine s_y (v := .bool true) rfl (y_lss rfl rfl (decide_eq_true c13)) ?_
          refine s_nil ?_
          refine W_seq ?_
          refine W_if_t (by decide) rfl ?_
          refine W_skip ?_
          refine W_seq ?_
          refine W_block ?_
          refine W_seq ?_
          refine W_region (by kernel_rfl) ?_
          refine s_y (v := .pointer (some (sat aq ((k).toNat * 9)))) rfl (y_idx T45.sl_58_57_9 rfl rfl ((B.r 3 rfl).addr (by omega)) (by omega) (by omega)) ?_
          obtain ⟨r15, r16, hr17, hr18, hR14⟩ := Rd.atS (B.r 3 rfl) k (by omega) (by omega)
          refine s_y (v := .agg #[.int .i64 ((gl Xq k).x), .int .i64 ((gl Xq k).y), .bool ((gl Xq k).hd), .int .i64 ((gl Xq k).kd), .int .i64 ((gl Xq k).tt), .int .i64 ((gl Xq k).ln), .float .f32 r15, .float .f32 r16, .int .i64 ((gl Xq k).sd)]) rfl (y_loadR (vs := [.int .i64 ((gl Xq k).x), .int .i64 ((gl Xq k).y), .bool ((gl Xq k).hd), .int .i64 ((gl Xq k).kd), .int .i64 ((gl Xq k).tt), .int .i64 ((gl Xq k).ln), .float .f32 r15, .float .f32 r16, .int .i64 ((gl Xq k).sd)]) T45.agg_57_9 rfl rfl (by decide) hR14) ?_
          refine s_k rfl (k_allocN (z := (.agg #[.int .i64 0, .int .i64 0, .bool false, .int .i64 0, .int .i64 0, .int .i64 0, .float .f32 0, .float .f32 0, .int .i64 0])) (cs := [.int .i64 0, .int .i64 0, .bool false, .int .i64 0, .int .i64 0, .int .i64 0, .float .f32 0, .float .f32 0, .int .i64 0]) T45.zero_57 rfl (fun b19 w20 hN21 => ?_))
          replace B := B.new1 hN21
          clear hN21
          refine s_k0 rfl (k_stB (v := .agg #[.int .i64 ((gl Xq k).x), .int .i64 ((gl Xq k).y), .bool ((gl Xq k).hd), .int .i64 ((gl Xq k).kd), .int .i64 ((gl Xq k).tt), .int .i64 ((gl Xq k).ln), .float .f32 r15, .float .f32 r16, .int .i64 ((gl Xq k).sd)]) (n := 9) (cs' := [.int .i64 ((gl Xq k).x), .int .i64 ((gl Xq k).y), .bool ((gl Xq k).hd), .int .i64 ((gl Xq k).kd), .int .i64 ((gl Xq k).tt), .int .i64 ((gl Xq k).ln), .float .f32 r15, .float .f32 r16, .int .i64 ((gl Xq k).sd)]) T45.sz_57_9 rfl rfl rfl (B.b 0 rfl) (by simp [Value.cells, Value.oneCell']) (Nat.le_of_ble_eq_true rfl) rfl (fun w22 hU23 => ?_))
          replace B : Bu w no w22 [.blk b19 [.int .i64 ((gl Xq k).x), .int .i64 ((gl Xq k).y), .bool ((gl Xq k).hd), .int .i64 ((gl Xq k).kd), .int .i64 ((gl Xq k).tt), .int .i64 ((gl Xq k).ln), .float .f32 r15, .float .f32 r16, .int .i64 ((gl Xq k).sd)] 57, .blk b1 [.int .i64 wd, .int .i64 hi, .bool wr, .slice asp nsp csp, .slice als nls cls] 26, .rd kF asp nsp Xsp, .rd kF als nls Xls, .rd kS aq nq Xq] := B.upd [0] rfl hU23
          clear hU23
          refine s_nil ?_
          refine W_seq ?_
          refine W_region (by kernel_rfl) ?_
          refine s_y (v := .agg #[.int .i64 wd, .int .i64 hi, .bool wr, .slice asp nsp csp, .slice als nls cls]) rfl (y_loadn (b := b1) (o := 0) (vs := [.int .i64 wd, .int .i64 hi, .bool wr, .slice asp nsp csp, .slice als nls cls]) T45.agg_26_5 rfl rfl ((B.b 1 rfl).cells (o := 0) rfl)) ?_
          refine s_y (v := .pointer (some ⟨b19, 0, none⟩)) rfl (y_fld (o := 0) T45.fld_57_0_0 rfl) ?_
          refine s_y (v := .int .i64 ((gl Xq k).x)) rfl (y_load T45.one_2 rfl ((B.b 0 rfl).cell (j := 0) rfl)) ?_
          refine s_y (v := .pointer (some ⟨b19, 1, none⟩)) rfl (y_fld (o := 0) T45.fld_57_1_1 rfl) ?_
          refine s_y (v := .int .i64 ((gl Xq k).y)) rfl (y_load T45.one_2 rfl ((B.b 0 rfl).cell (j := 1) rfl)) ?_
          refine s_k rfl (k_call T45.fn_67 (c_i_isCell (by omega) (by omega) (by omega) (by omega)) rfl ?_)
          rintro v26 w24 ⟨hv27, e25⟩
          replace B := B.ext0 e25
          clear e25
          by_cases c28 : cellB wd hi ((gl Xq k).x) ((gl Xq k).y) = true
          · have hb29 := cellB_b c28
            obtain rfl : v26 = .bool true := hv27.trans (congrArg Value.bool c28)
            refine s_y (v := .bool false) rfl (y_not rfl rfl) ?_
            refine s_y (v := .bool false) rfl (y_move rfl) ?_
            refine s_y (v := .agg #[.int .i64 wd, .int .i64 hi, .bool wr, .slice asp nsp csp, .slice als nls cls]) rfl (y_loadn (b := b1) (o := 0) (vs := [.int .i64 wd, .int .i64 hi, .bool wr, .slice asp nsp csp, .slice als nls cls]) T45.agg_26_5 rfl rfl ((B.b 1 rfl).cells (o := 0) rfl)) ?_
            refine s_y (v := .pointer (some ⟨b19, 0, none⟩)) rfl (y_fld (o := 0) T45.fld_57_0_0 rfl) ?_
            refine s_y (v := .int .i64 ((gl Xq k).x)) rfl (y_load T45.one_2 rfl ((B.b 0 rfl).cell (j := 0) rfl)) ?_
            refine s_y (v := .pointer (some ⟨b19, 1, none⟩)) rfl (y_fld (o := 0) T45.fld_57_1_1 rfl) ?_
            refine s_y (v := .int .i64 ((gl Xq k).y)) rfl (y_load T45.one_2 rfl ((B.b 0 rfl).cell (j := 1) rfl)) ?_
            refine s_k rfl (k_call T45.fn_98 (c_i_isBorder (by omega) (by omega) (by omega) (by omega)) rfl ?_)
            rintro v32 w30 ⟨hv33, e31⟩
            replace B := B.ext0 e31
            clear e31
            by_cases c34 : bordB wd hi wr ((gl Xq k).x) ((gl Xq k).y) = true
            · obtain rfl : v32 = .bool true := hv33.trans (congrArg Value.bool c34)
              refine s_y (v := .bool true) rfl (y_pick_f rfl rfl) ?_
              refine s_y (v := .bool true) rfl (y_move rfl) ?_
              refine s_skip rfl ?_
              refine s_skip rfl ?_
              refine s_skip rfl ?_
              refine s_skip rfl ?_
              refine s_y (v := .bool true) rfl (y_pick_t rfl rfl) ?_
              refine s_nil ?_
              refine W_if_t (by decide) rfl ?_
              refine W_seq ?_
              refine W_region (by kernel_rfl) ?_
              refine s_y (v := .bool false) rfl (y_assign rfl) ?_
              refine s_nil ?_
              refine W_ret ?_
              refine ret1 (v := .bool false) rfl rfl rfl ⟨_, rfl, ?_⟩
              exact ⟨congrArg Value.bool ((areSrc_no (i := k) (by omega) (by omega) (by simp only [srcB, c8, (decide_eq_false c10), (decide_eq_true c13), c28, c34, Bool.and_true, Bool.true_and, Bool.and_false, Bool.false_and, Bool.not_true, Bool.not_false, Bool.or_true, Bool.true_or, Bool.or_false, Bool.false_or])).symm), B.ext⟩
            · obtain rfl : v32 = .bool false := hv33.trans (congrArg Value.bool (Bool.eq_false_iff.2 c34))
              refine s_y (v := .bool false) rfl (y_pick_f rfl rfl) ?_
              refine s_y (v := .bool false) rfl (y_move rfl) ?_
              refine s_y (v := .pointer (some ⟨b19, 3, none⟩)) rfl (y_fld (o := 0) T45.fld_57_3_3 rfl) ?_
              refine s_y (v := .agg #[.int .i64 ((gl Xq k).kd), .int .i64 ((gl Xq k).tt), .int .i64 ((gl Xq k).ln), .float .f32 r15, .float .f32 r16, .int .i64 ((gl Xq k).sd)]) rfl (y_loadn (b := b19) (o := 3) (vs := [.int .i64 ((gl Xq k).kd), .int .i64 ((gl Xq k).tt), .int .i64 ((gl Xq k).ln), .float .f32 r15, .float .f32 r16, .int .i64 ((gl Xq k).sd)]) T45.agg_44_6 rfl rfl ((B.b 0 rfl).cells (o := 3) rfl)) ?_
              refine s_k rfl (k_call T45.fn_27 (c_i_ValidWave hr17 hr18) rfl ?_)
              rintro v37 w35 ⟨hv38, e36⟩
              replace B := B.ext0 e36
              clear e36
              by_cases c39 : validW ((gl Xq k).kd) ((gl Xq k).tt) ((gl Xq k).ln) ((gl Xq k).tn) ((gl Xq k).sd) = true
              · have hb40 := validW_b c39
                obtain rfl : v37 = .bool true := hv38.trans (congrArg Value.bool c39)
                refine s_y (v := .bool false) rfl (y_not rfl rfl) ?_
                refine s_y (v := .bool false) rfl (y_pick_f rfl rfl) ?_
                refine s_nil ?_
                refine W_if_f (by decide) rfl ?_
                refine W_skip ?_
                refine W_region (by kernel_rfl) ?_
                refine s_y (v := .int .i64 (k + 1)) rfl (y_add rfl rfl rfl (by omega)) ?_
                refine s_y (v := .int .i64 (k + 1)) rfl (y_move rfl) ?_
                refine s_nil ?_
                refine ⟨⟨_, k + 1, Fits.eq ⟨rfl, rfl, rfl, rfl, trivial⟩, (B.pick [1, 2, 3, 4] rfl rfl), (by omega), (by omega), (allI_more (p := fun i => srcB wd hi wr (gl Xq i)) hq (by simp only [srcB, c8, (decide_eq_false c10), (decide_eq_true c13), c28, (Bool.eq_false_iff.2 c34), c39, Bool.and_true, Bool.true_and, Bool.and_false, Bool.false_and, Bool.not_true, Bool.not_false, Bool.or_true, Bool.true_or, Bool.or_false, Bool.false_or]))⟩, ?_⟩
                show ((nq : Int) - (k + 1)).toNat < ((nq : Int) - k).toNat
                omega
              · obtain rfl : v37 = .bool false := hv38.trans (congrArg Value.bool (Bool.eq_false_iff.2 c39))
                refine s_y (v := .bool true) rfl (y_not rfl rfl) ?_
                refine s_y (v := .bool true) rfl (y_pick_f rfl rfl) ?_
                refine s_nil ?_
                refine W_if_t (by decide) rfl ?_
                refine W_seq ?_
                refine W_region (by kernel_rfl) ?_
                refine s_y (v := .bool false) rfl (y_assign rfl) ?_
                refine s_nil ?_
                refine W_ret ?_
                refine ret1 (v := .bool false) rfl rfl rfl ⟨_, rfl, ?_⟩
                exact ⟨congrArg Value.bool ((areSrc_no (i := k) (by omega) (by omega) (by simp only [srcB, c8, (decide_eq_false c10), (decide_eq_true c13), c28, (Bool.eq_false_iff.2 c34), (Bool.eq_false_iff.2 c39), Bool.and_true, Bool.true_and, Bool.and_false, Bool.false_and, Bool.not_true, Bool.not_false, Bool.or_true, Bool.true_or, Bool.or_false, Bool.false_or])).symm), B.ext⟩
          · obtain rfl : v26 = .bool false := hv27.trans (congrArg Value.bool (Bool.eq_false_iff.2 c28))
            refine s_y (v := .bool true) rfl (y_not rfl rfl) ?_
            refine s_y (v := .bool true) rfl (y_move rfl) ?_
            refine s_skip rfl ?_
            refine s_skip rfl ?_
            refine s_skip rfl ?_
            refine s_skip rfl ?_
            refine s_skip rfl ?_
            refine s_skip rfl ?_
            refine s_y (v := .bool true) rfl (y_pick_t rfl rfl) ?_
            refine s_y (v := .bool true) rfl (y_move rfl) ?_
            refine s_skip rfl ?_
            refine s_skip rfl ?_
            refine s_skip rfl ?_
            refine s_skip rfl ?_
            refine s_y (v := .bool true) rfl (y_pick_t rfl rfl) ?_
            refine s_nil ?_
            refine W_if_t (by decide) rfl ?_
            refine W_seq ?_
            refine W_region (by kernel_rfl) ?_
            refine s_y (v := .bool false) rfl (y_assign rfl) ?_
            refine s_nil ?_
            refine W_ret ?_
            refine ret1 (v := .bool false) rfl rfl rfl ⟨_, rfl, ?_⟩
            exact ⟨congrArg Value.bool ((areSrc_no (i := k) (by omega) (by omega) (by simp only [srcB, c8, (decide_eq_false c10), (decide_eq_true c13), (Bool.eq_false_iff.2 c28), Bool.and_true, Bool.true_and, Bool.and_false, Bool.false_and, Bool.not_true, Bool.not_false, Bool.or_true, Bool.true_or, Bool.or_false, Bool.false_or])).symm), B.ext⟩
        · refine s_y (v := .bool false) rfl (y_lss rfl rfl (decide_eq_false c13)) ?_
          refine s_nil ?_
          refine W_seq ?_
          refine W_if_f (by decide) rfl ?_
          refine W_exit ?_
          refine W_seq ?_
          refine W_region (by kernel_rfl) ?_
          refine s_y (v := .bool true) rfl (y_assign rfl) ?_
          refine s_nil ?_
          refine W_ret ?_
          refine ret1 (v := .bool true) rfl rfl rfl ⟨_, rfl, ?_⟩
          exact ⟨congrArg Value.bool ((areSrc_yes (by assumption) (by omega) (fun i h0 h1 => hq i h0 (by omega))).symm), B.ext⟩
  · obtain rfl : v6 = .bool false := hv7.trans (congrArg Value.bool (Bool.eq_false_iff.2 c8))
    refine s_y (v := .bool true) rfl (y_not rfl rfl) ?_
    refine s_y (v := .bool true) rfl (y_move rfl) ?_
    refine s_skip rfl ?_
    refine s_skip rfl ?_
    refine s_skip rfl ?_
    refine s_y (v := .bool true) rfl (y_pick_t rfl rfl) ?_
    refine s_nil ?_
    refine W_if_t (by decide) rfl ?_
    refine W_seq ?_
    refine W_region (by kernel_rfl) ?_
    refine s_y (v := .bool false) rfl (y_assign rfl) ?_
    refine s_nil ?_
    refine W_ret ?_
    refine ret1 (v := .bool false) rfl rfl rfl ⟨_, rfl, ?_⟩
    exact ⟨congrArg Value.bool (by first | exact (areSrc_n1 (by assumption)).symm | exact (areSrc_n2 (by omega)).symm), B.ext⟩
end Go.Proofs.Ytgohmocjjmkepaa
