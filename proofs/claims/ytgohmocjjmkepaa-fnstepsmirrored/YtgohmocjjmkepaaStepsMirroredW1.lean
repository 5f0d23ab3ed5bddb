/- Walks: what the functions under FnStepsMirrored do (part 2). Printed by a program of this claim's author. -/
import Derived.Test.YtgohmocjjmkepaaStepsMirroredW0
set_option linter.unusedSimpArgs false
set_option linter.unusedVariables false
open Go.Wv
namespace Go.Proofs.Ytgohmocjjmkepaa
open Go.Proofs
namespace T36
theorem mx : Try.prog.follows .mixedOrders = true := by kernel_rfl
theorem agg_30_3 : aggB Try.prog 30 3 = true := by kernel_rfl
theorem fld_26_0_0 : fldB Try.prog 26 0 0 = true := by kernel_rfl
theorem fld_26_1_1 : fldB Try.prog 26 1 1 = true := by kernel_rfl
theorem fld_26_2_2 : fldB Try.prog 26 2 2 = true := by kernel_rfl
theorem fld_30_0_0 : fldB Try.prog 30 0 0 = true := by kernel_rfl
theorem fld_30_1_1 : fldB Try.prog 30 1 1 = true := by kernel_rfl
theorem fld_30_2_2 : fldB Try.prog 30 2 2 = true := by kernel_rfl
theorem flt_34_f32 : Try.prog.underlying 34 = some (.float .f32) := by kernel_rfl
theorem fn_63 : fnB Try.prog 63 = true := by kernel_rfl
theorem fn_81 : fnB Try.prog 81 = true := by kernel_rfl
theorem fn_92 : fnB Try.prog 92 = true := by kernel_rfl
theorem fn_93 : fnB Try.prog 93 = true := by kernel_rfl
theorem one_2 : oneB Try.prog 2 = true := by kernel_rfl
theorem one_24 : oneB Try.prog 24 = true := by kernel_rfl
theorem one_4 : oneB Try.prog 4 = true := by kernel_rfl
theorem sl_24_34_1 : slB Try.prog 24 34 1 = true := by kernel_rfl
theorem sz_30_3 : szB Try.prog 30 3 = true := by kernel_rfl
theorem sz_34_1 : szB Try.prog 34 1 = true := by kernel_rfl
theorem und_2 : (Try.prog.underlying 2).isSome = true := by kernel_rfl
theorem zero_30 : zeroB Try.prog 30 (.agg #[.slice none 0 0, .slice none 0 0, .slice none 0 0]) := by unfold zeroB; kernel_rfl
end T36
set_option maxRecDepth 100000 in
set_option maxHeartbeats 4000000 in
theorem c_s_R8Field {aq : Option Addr} {nq : Nat} {cq : Nat} {Xq : List Nat} {wd : Int} {hi : Int} {wr : Bool} {asp : Option Addr} {nsp : Nat} {csp : Nat} {Xsp : List Nat} {als : Option Addr} {nls : Nat} {cls : Nat} {Xls : List Nat} {w : World} (qq : Rd w kY aq nq Xq) (qsp : Rd w kF asp nsp Xsp) (qls : Rd w kF als nls Xls) (h1 : 3 ≤ wd) (h2 : wd ≤ 16) (h3 : 3 ≤ hi) (h4 : hi ≤ 16) (hv : validS wd hi Xsp Xls = true) (hbsp : nsp ≤ 9223372036854775806) (hbls : nls ≤ 9223372036854775806) :
    Calls Try.prog 36 #[.slice aq nq cq, .agg #[.int .i64 wd, .int .i64 hi, .bool wr, .slice asp nsp csp, .slice als nls cls]] w (Rt fun v w' => ∃ (a1 : Option Addr) (n1 : Nat) (c1 : Nat) (X1 : List Nat) (a2 : Option Addr) (n2 : Nat) (c2 : Nat) (X2 : List Nat) (a3 : Option Addr) (n3 : Nat) (c3 : Nat) (X3 : List Nat), v = .agg #[.slice a1 n1 c1, .slice a2 n2 c2, .slice a3 n3 c3] ∧ fieldB wd hi wr Xsp Xls X1 X2 X3 = true ∧ qrF wd hi X1 X2 X3 ∧ New w w' [.ow kF a1 n1 c1 34 X1, .ow kF a2 n2 c2 34 X2, .ow kF a3 n3 c3 34 X3]) := by
  have hlq := qq.len
  have hlsp := qsp.len
  have hlls := qls.len
  have B : Bu w no w [.rd kY aq nq Xq, .rd kF asp nsp Xsp, .rd kF als nls Xls] := Bu.ro (All.cons qq (All.cons qsp (All.cons qls All.nil))) rfl
  have hwh := mul16 (And.intro (And.intro h1 h2) (And.intro h3 h4))
  refine calls_W (n := 91) Try.func36 rfl rfl (Nat.le_of_ble_eq_true rfl) ?_
  refine W_seq ?_
  refine W_region (by kernel_rfl) ?_
  refine s_k rfl (k_boxN (v := .agg #[.int .i64 wd, .int .i64 hi, .bool wr, .slice asp nsp csp, .slice als nls cls]) (cs := [.int .i64 wd, .int .i64 hi, .bool wr, .slice asp nsp csp, .slice als nls cls]) rfl rfl (fun b1 w2 hN3 => ?_))
  replace B := B.new1 hN3
  clear hN3
  refine s_k rfl (k_allocN (z := (.agg #[.slice none 0 0, .slice none 0 0, .slice none 0 0])) (cs := [.slice none 0 0, .slice none 0 0, .slice none 0 0]) T36.zero_30 rfl (fun b4 w5 hN6 => ?_))
  replace B := B.new1 hN6
  clear hN6
  refine s_nil ?_
  refine W_seq ?_
  refine W_region (by kernel_rfl) ?_
  refine s_y (v := .slice aq nq cq) rfl (y_move rfl) ?_
  refine s_k rfl (k_call T36.fn_63 (c_s_l00From (B.r 2 rfl)) rfl ?_)
  rintro _ w7 ⟨b9, rfl, hN8⟩
  replace B := B.new1 hN8
  clear hN8
  refine s_y (v := .pointer (some ⟨b9, 0, none⟩)) rfl (y_assign rfl) ?_
  refine s_nil ?_
  refine W_seq ?_
  refine W_region (by kernel_rfl) ?_
  refine s_y (v := .pointer (some ⟨b1, 0, none⟩)) rfl (y_fld (o := 0) T36.fld_26_0_0 rfl) ?_
  refine s_y (v := .int .i64 wd) rfl (y_load T36.one_2 rfl ((B.b 2 rfl).cell (j := 0) rfl)) ?_
  refine s_y (v := .pointer (some ⟨b1, 1, none⟩)) rfl (y_fld (o := 0) T36.fld_26_1_1 rfl) ?_
  refine s_y (v := .int .i64 hi) rfl (y_load T36.one_2 rfl ((B.b 2 rfl).cell (j := 1) rfl)) ?_
  have hm10 := mulb (a := wd) (b := hi) (by omega) (by omega) (by omega) (by omega)
  refine s_y (v := .int .i64 (wd * hi)) rfl (y_mul rfl rfl rfl (by omega)) ?_
  refine s_y (v := .int .i64 (wd * hi)) rfl (y_assign rfl) ?_
  refine s_nil ?_
  refine W_seq ?_
  refine W_region (by kernel_rfl) ?_
  refine s_y (v := .int .i64 (wd * hi)) rfl (y_move rfl) ?_
  refine s_k rfl (k_call T36.fn_92 (c_s_l02Zero (by omega) (by omega)) rfl ?_)
  rintro _ w11 ⟨a12, c13, a14, c15, a16, c17, rfl, hN18⟩
  replace B := B.new3 hN18
  clear hN18
  refine s_k rfl (k_allocN (z := (.agg #[.slice none 0 0, .slice none 0 0, .slice none 0 0])) (cs := [.slice none 0 0, .slice none 0 0, .slice none 0 0]) T36.zero_30 rfl (fun b19 w20 hN21 => ?_))
  replace B := B.new1 hN21
  clear hN21
  refine s_k0 rfl (k_stB (v := .agg #[.slice a12 (Int.toNat (wd * hi)) c13, .slice a14 (Int.toNat (wd * hi)) c15, .slice a16 (Int.toNat (wd * hi)) c17]) (n := 3) (cs' := [.slice a12 (Int.toNat (wd * hi)) c13, .slice a14 (Int.toNat (wd * hi)) c15, .slice a16 (Int.toNat (wd * hi)) c17]) T36.sz_30_3 rfl rfl rfl (B.b 0 rfl) (by simp [Value.cells, Value.oneCell']) (Nat.le_of_ble_eq_true rfl) rfl (fun w22 hU23 => ?_))
  replace B : Bu w no w22 [.blk b19 [.slice a12 (Int.toNat (wd * hi)) c13, .slice a14 (Int.toNat (wd * hi)) c15, .slice a16 (Int.toNat (wd * hi)) c17] 30, .ow kF a12 (Int.toNat (wd * hi)) c13 34 (List.replicate (Int.toNat (wd * hi)) 0), .ow kF a14 (Int.toNat (wd * hi)) c15 34 (List.replicate (Int.toNat (wd * hi)) 0), .ow kF a16 (Int.toNat (wd * hi)) c17 34 (List.replicate (Int.toNat (wd * hi)) 0), .blk b9 [.slice aq nq cq, .int .i64 0, .int .u64 0] 131, .blk b4 [.slice none 0 0, .slice none 0 0, .slice none 0 0] 30, .blk b1 [.int .i64 wd, .int .i64 hi, .bool wr, .slice asp nsp csp, .slice als nls cls] 26, .rd kY aq nq Xq, .rd kF asp nsp Xsp, .rd kF als nls Xls] := B.upd [0] rfl hU23
  clear hU23
  refine s_nil ?_
  refine W_seq ?_
  refine W_seq ?_
  refine W_region (by kernel_rfl) ?_
  refine s_y (v := .int .i64 0) rfl (y_assign rfl) ?_
  refine s_nil ?_
  refine W_block ?_
  refine W_loop (fun ρ' w' => ∃ (ρ1 : Env) (k : Int) (q : Int) (zE : List Nat) (zX : List Nat) (zY : List Nat), ρ' = updL ρ1 [(3, .pointer (some ⟨b1, 0, none⟩)), (4, .pointer (some ⟨b4, 0, none⟩)), (5, .pointer (some ⟨b9, 0, none⟩)), (6, .int .i64 (wd * hi)), (7, .pointer (some ⟨b19, 0, none⟩)), (8, .int .i64 k)] ∧ Bu w no w' [.ow kF a12 (Int.toNat (wd * hi)) c13 34 zE, .ow kF a14 (Int.toNat (wd * hi)) c15 34 zX, .ow kF a16 (Int.toNat (wd * hi)) c17 34 zY, .blk b19 [.slice a12 (Int.toNat (wd * hi)) c13, .slice a14 (Int.toNat (wd * hi)) c15, .slice a16 (Int.toNat (wd * hi)) c17] 30, .blk b9 [.slice aq nq cq, .int .i64 q, .int .u64 (sdY Xq q)] 131, .blk b4 [.slice none 0 0, .slice none 0 0, .slice none 0 0] 30, .blk b1 [.int .i64 wd, .int .i64 hi, .bool wr, .slice asp nsp csp, .slice als nls cls] 26, .rd kY aq nq Xq, .rd kF asp nsp Xsp, .rd kF als nls Xls] ∧ (0 ≤ k) ∧ (k ≤ wd * hi) ∧ (0 ≤ q) ∧ (q ≤ 40 * k) ∧ (zE.length = Int.toNat (wd * hi)) ∧ (zX.length = Int.toNat (wd * hi)) ∧ (zY.length = Int.toNat (wd * hi)) ∧ (gqL 147 150 (wd * hi) zE) ∧ (gqL 147 150 (wd * hi) zX) ∧ (gqL 147 150 (wd * hi) zY) ∧ (edgesO wd hi wr zE zX zY)) (fun ρ' _ => (wd * hi - iv (ρ' 8)).toNat) ?_ ?_
  · replace B : Bu w no w22 [.blk b19 [.slice a12 (Int.toNat (wd * hi)) c13, .slice a14 (Int.toNat (wd * hi)) c15, .slice a16 (Int.toNat (wd * hi)) c17] 30, .ow kF a12 (Int.toNat (wd * hi)) c13 34 (List.replicate (Int.toNat (wd * hi)) 0), .ow kF a14 (Int.toNat (wd * hi)) c15 34 (List.replicate (Int.toNat (wd * hi)) 0), .ow kF a16 (Int.toNat (wd * hi)) c17 34 (List.replicate (Int.toNat (wd * hi)) 0), .blk b9 [.slice aq nq cq, .int .i64 0, .int .u64 (sdY Xq 0)] 131, .blk b4 [.slice none 0 0, .slice none 0 0, .slice none 0 0] 30, .blk b1 [.int .i64 wd, .int .i64 hi, .bool wr, .slice asp nsp csp, .slice als nls cls] 26, .rd kY aq nq Xq, .rd kF asp nsp Xsp, .rd kF als nls Xls] := B.blkEq 4 rfl rfl
    exact ⟨_, 0, 0, _, _, _, Fits.eq ⟨rfl, rfl, rfl, rfl, rfl, rfl, trivial⟩, (B.pick [1, 2, 3, 0, 4, 5, 6, 7, 8, 9] rfl rfl), (Int.le_refl _), (by omega), (Int.le_refl _), (by omega), (by simp), (by simp), (by simp), gqL_zero, gqL_zero, gqL_zero, edgesO_zero⟩
  · clear B; rintro _ w24 ⟨ρ25, k, q, zE, zX, zY, rfl, B, h0k, h1k, hq0, hq1, hzE, hzX, hzY, gzE, gzX, gzY, hed⟩
    refine W_seq ?_
    refine W_seq ?_
    refine W_region (by kernel_rfl) ?_
    refine s_y (v := .int .i64 k) rfl (y_move rfl) ?_
    refine s_y (v := .int .i64 (wd * hi)) rfl (y_move rfl) ?_
    by_cases c26 : k < (wd * hi)
    · refine s_y (v := .bool true) rfl (y_lss rfl rfl (decide_eq_true c26)) ?_
      refine s_nil ?_
      refine W_if_t (by decide) rfl ?_
      refine W_skip ?_
      refine W_seq ?_
      refine W_block ?_
      refine W_seq ?_
      have B0_31 := B
      refine W_draw (no) T36.mx (by kernel_rfl) (fun w29 e30 => ?_)
      have R32 := Ext.refl (no) w24
      replace R32 := R32.trans (Ext0.any e30)
      replace B := B.ext0 e30
      clear e30
      refine m_y (v := .int .i64 k) 0 rfl (by kernel_rfl) rfl rfl (fun w' e' => y_move rfl) ?_
      refine m_y (v := .pointer (some ⟨b1, 0, none⟩)) 1 rfl (by kernel_rfl) rfl rfl (fun w' e' => y_fld (o := 0) T36.fld_26_0_0 rfl) ?_
      refine m_y (v := .int .i64 wd) 2 rfl (by kernel_rfl) rfl rfl (fun w' e' => y_load T36.one_2 rfl (((B0_31.b 6 rfl).ext0 e').cell (j := 0) rfl)) ?_
      have hm33 := rem_b (x := k) (m := wd) (by omega) (by omega)
      refine m_y (v := .int .i64 (k % wd)) 3 rfl (by kernel_rfl) rfl rfl (fun w' e' => y_rem rfl rfl (by omega) (by omega) rfl) ?_
      refine m_y (v := .int .i64 k) 4 rfl (by kernel_rfl) rfl rfl (fun w' e' => y_move rfl) ?_
      refine m_y (v := .pointer (some ⟨b1, 0, none⟩)) 5 rfl (by kernel_rfl) rfl rfl (fun w' e' => y_fld (o := 0) T36.fld_26_0_0 rfl) ?_
      refine m_y (v := .int .i64 wd) 6 rfl (by kernel_rfl) rfl rfl (fun w' e' => y_load T36.one_2 rfl (((B0_31.b 6 rfl).ext0 e').cell (j := 0) rfl)) ?_
      have hm34 := quo_b (x := k) (m := wd) (by omega) (by omega)
      refine m_y (v := .int .i64 (k / wd)) 7 rfl (by kernel_rfl) rfl rfl (fun w' e' => y_quo rfl rfl (by omega) (by omega) (by omega) rfl) ?_
      refine m_k 8 [9] rfl (by kernel_rfl) rfl rfl (fun w35 e36 => ?_)
      replace R32 := R32.trans (Ext0.any e36)
      replace B := B.ext0 e36
      clear e36
      refine k_call T36.fn_93 (c_s_l02Border ((B.b 6 rfl).sl) (by omega) (by omega) (by omega) (by omega)) rfl ?_
      rintro v39 w37 ⟨hv40, e38⟩
      replace R32 := R32.trans (Ext0.any e38)
      replace B := B.ext0 e38
      clear e38
      refine ⟨fun _ => R32, ?_⟩
      by_cases c41 : bordB wd hi wr (k % wd) (k / wd) = true
      · obtain rfl : v39 = .bool true := hv40.trans (congrArg Value.bool c41)
        refine m_y (v := .bool true) 9 rfl (by kernel_rfl) rfl rfl (fun w' e' => y_assign rfl) ?_
        refine m_done (by kernel_rfl) (fun w42 e43 => ?_)
        replace B := B.ext0 e43
        clear e43
        clear B0_31 R32
        refine W_seq ?_
        refine W_region (by kernel_rfl) ?_
        refine s_y (v := .pointer (some ⟨b9, 0, none⟩)) rfl (y_move rfl) ?_
        refine s_k rfl (k_call T36.fn_81 (c_s_pick (by omega) (by omega) (by omega) (by omega) (B.all.pick [4, 7] rfl) (B.pw.pick [4, 7] rfl rfl)) rfl ?_)
        rintro _ w44 ⟨v46, rfl, hp47, hU45⟩
        replace B : Bu w no w44 [.blk b9 [.slice aq nq cq, .int .i64 (q + 1), .int .u64 (sdY Xq (q + 1))] 131, .ow kF a12 (Int.toNat (wd * hi)) c13 34 zE, .ow kF a14 (Int.toNat (wd * hi)) c15 34 zX, .ow kF a16 (Int.toNat (wd * hi)) c17 34 zY, .blk b19 [.slice a12 (Int.toNat (wd * hi)) c13, .slice a14 (Int.toNat (wd * hi)) c15, .slice a16 (Int.toNat (wd * hi)) c17] 30, .blk b4 [.slice none 0 0, .slice none 0 0, .slice none 0 0] 30, .blk b1 [.int .i64 wd, .int .i64 hi, .bool wr, .slice asp nsp csp, .slice als nls cls] 26, .rd kY aq nq Xq, .rd kF asp nsp Xsp, .rd kF als nls Xls] := B.upd [4] rfl hU45
        clear hU45
        have hb48 := pk_b Xq (n := 17) q (by omega)
        rw [← hp47] at hb48
        refine s_y (v := .int .i64 (v46 - 8)) rfl (y_sub rfl rfl rfl (by omega)) ?_
        refine s_y (v := .float .f32 (FloatKind.nearest .f32 (v46 - 8))) rfl (y_if T36.und_2 T36.flt_34_f32 rfl) ?_
        refine s_n rfl (n_arith (by decide) rfl rfl) ?_
        rintro _ w52 e53 ⟨r50, rfl, hr51⟩
        replace B := B.ext0 e53
        clear e53
        have hc54 := fopC hr51 (cn_nearest .f32 (v46 - 8)) (cnLit (k := .f32) (t := 1082130432) (by kernel_rfl) (by kernel_rfl))
        refine s_y (v := .float .f32 r50) rfl (y_assign rfl) ?_
        refine s_nil ?_
        refine W_seq ?_
        refine W_seq ?_
        refine W_region (by kernel_rfl) ?_
        refine s_y (v := .bool true) rfl (y_move rfl) ?_
        refine s_y (v := .bool false) rfl (y_not rfl rfl) ?_
        refine s_nil ?_
        refine W_if_f (by decide) rfl ?_
        refine W_skip ?_
        refine W_seq ?_
        refine W_region (by kernel_rfl) ?_
        refine s_y (v := .pointer (some ⟨b9, 0, none⟩)) rfl (y_move rfl) ?_
        refine s_k rfl (k_call T36.fn_81 (c_s_pick (by omega) (by omega) (by omega) (by omega) (B.all.pick [0, 7] rfl) (B.pw.pick [0, 7] rfl rfl)) rfl ?_)
        rintro _ w55 ⟨v57, rfl, hp58, hU56⟩
        replace B : Bu w no w55 [.blk b9 [.slice aq nq cq, .int .i64 ((q + 1) + 1), .int .u64 (sdY Xq ((q + 1) + 1))] 131, .ow kF a12 (Int.toNat (wd * hi)) c13 34 zE, .ow kF a14 (Int.toNat (wd * hi)) c15 34 zX, .ow kF a16 (Int.toNat (wd * hi)) c17 34 zY, .blk b19 [.slice a12 (Int.toNat (wd * hi)) c13, .slice a14 (Int.toNat (wd * hi)) c15, .slice a16 (Int.toNat (wd * hi)) c17] 30, .blk b4 [.slice none 0 0, .slice none 0 0, .slice none 0 0] 30, .blk b1 [.int .i64 wd, .int .i64 hi, .bool wr, .slice asp nsp csp, .slice als nls cls] 26, .rd kY aq nq Xq, .rd kF asp nsp Xsp, .rd kF als nls Xls] := B.upd [0] rfl hU56
        clear hU56
        have hb59 := pk_b Xq (n := 9) (q + 1) (by omega)
        rw [← hp58] at hb59
        refine s_y (v := .int .i64 (v57 - 4)) rfl (y_sub rfl rfl rfl (by omega)) ?_
        refine s_y (v := .float .f32 (FloatKind.nearest .f32 (v57 - 4))) rfl (y_if T36.und_2 T36.flt_34_f32 rfl) ?_
        refine s_n rfl (n_arith (by decide) rfl rfl) ?_
        rintro _ w63 e64 ⟨r61, rfl, hr62⟩
        replace B := B.ext0 e64
        clear e64
        have hc65 := fopC hr62 (cn_nearest .f32 (v57 - 4)) (cnLit (k := .f32) (t := 1082130432) (by kernel_rfl) (by kernel_rfl))
        refine s_y (v := .float .f32 r61) rfl (y_assign rfl) ?_
        refine s_nil ?_
        refine W_seq ?_
        refine W_seq ?_
        have B0_70 := B
        refine W_draw (no) T36.mx (by kernel_rfl) (fun w68 e69 => ?_)
        have R71 := Ext.refl (no) w63
        replace R71 := R71.trans (Ext0.any e69)
        replace B := B.ext0 e69
        clear e69
        refine m_y (v := .pointer (some ⟨b1, 2, none⟩)) 0 rfl (by kernel_rfl) rfl rfl (fun w' e' => y_fld (o := 0) T36.fld_26_2_2 rfl) ?_
        refine m_y (v := .bool wr) 1 rfl (by kernel_rfl) rfl rfl (fun w' e' => y_load T36.one_4 rfl (((B0_70.b 6 rfl).ext0 e').cell (j := 2) rfl)) ?_
        refine m_y (v := .bool wr) 2 rfl (by kernel_rfl) rfl rfl (fun w' e' => y_move rfl) ?_
        cases wr
        · refine m_y (v := .int .i64 k) 3 rfl (by kernel_rfl) rfl rfl (fun w' e' => y_move rfl) ?_
          refine m_y (v := .pointer (some ⟨b1, 0, none⟩)) 4 rfl (by kernel_rfl) rfl rfl (fun w' e' => y_fld (o := 0) T36.fld_26_0_0 rfl) ?_
          refine m_y (v := .int .i64 wd) 5 rfl (by kernel_rfl) rfl rfl (fun w' e' => y_load T36.one_2 rfl (((B0_70.b 6 rfl).ext0 e').cell (j := 0) rfl)) ?_
          have hm72 := quo_b (x := k) (m := wd) (by omega) (by omega)
          refine m_y (v := .int .i64 (k / wd)) 6 rfl (by kernel_rfl) rfl rfl (fun w' e' => y_quo rfl rfl (by omega) (by omega) (by omega) rfl) ?_
          refine m_y (v := .pointer (some ⟨b1, 1, none⟩)) 7 rfl (by kernel_rfl) rfl rfl (fun w' e' => y_fld (o := 0) T36.fld_26_1_1 rfl) ?_
          refine m_y (v := .int .i64 hi) 8 rfl (by kernel_rfl) rfl rfl (fun w' e' => y_load T36.one_2 rfl (((B0_70.b 6 rfl).ext0 e').cell (j := 1) rfl)) ?_
          refine m_y (v := .int .i64 (hi - 1)) 9 rfl (by kernel_rfl) rfl rfl (fun w' e' => y_sub rfl rfl rfl (by omega)) ?_
          by_cases c73 : (k / wd) < (hi - 1)
          · refine m_y (v := .bool true) 10 rfl (by kernel_rfl) rfl rfl (fun w' e' => y_lss rfl rfl (decide_eq_true c73)) ?_
            refine m_y (v := .bool true) 11 rfl (by kernel_rfl) rfl rfl (fun w' e' => y_pick_f rfl rfl) ?_
            refine m_done (by kernel_rfl) (fun w74 e75 => ?_)
            replace B := B.ext0 e75
            clear e75
            clear B0_70 R71
            refine W_if_t (by decide) rfl ?_
            refine W_region (by kernel_rfl) ?_
            refine s_y (v := .pointer (some ⟨b19, 1, none⟩)) rfl (y_fld (o := 0) T36.fld_30_1_1 rfl) ?_
            refine s_y (v := .slice a14 (Int.toNat (wd * hi)) c15) rfl (y_load T36.one_24 rfl ((B.b 4 rfl).cell (j := 1) rfl)) ?_
            refine s_y (v := .int .i64 k) rfl (y_move rfl) ?_
            refine s_y (v := .float .f32 r61) rfl (y_move rfl) ?_
            refine s_y (v := .pointer (some (sat a14 ((k).toNat * 1)))) rfl (y_idx T36.sl_24_34_1 rfl rfl ((B.o 2 rfl).rd.addr (by omega)) (by omega) (by omega)) ?_
            refine s_k0 rfl (k_stO (k := kF) (i := k) (j := 0) (x' := fop .quo .f32 (FloatKind.nearest .f32 (v57 - 4)) 1082130432) (new := [.float .f32 r61]) T36.sz_34_1 rfl rfl rfl rfl rfl (by simp [Value.oneCell']) (by decide) (B.o 2 rfl) (by omega) (by omega) (by decide) (by rintro q ⟨_, rfl, _⟩; exact ⟨_, rfl, hc65⟩) (fun w76 hU77 => ?_))
            replace B : Bu w no w76 [.ow kF a14 (Int.toNat (wd * hi)) c15 34 (put zX k (fop .quo .f32 (FloatKind.nearest .f32 (v57 - 4)) 1082130432)), .blk b9 [.slice aq nq cq, .int .i64 ((q + 1) + 1), .int .u64 (sdY Xq ((q + 1) + 1))] 131, .ow kF a12 (Int.toNat (wd * hi)) c13 34 zE, .ow kF a16 (Int.toNat (wd * hi)) c17 34 zY, .blk b19 [.slice a12 (Int.toNat (wd * hi)) c13, .slice a14 (Int.toNat (wd * hi)) c15, .slice a16 (Int.toNat (wd * hi)) c17] 30, .blk b4 [.slice none 0 0, .slice none 0 0, .slice none 0 0] 30, .blk b1 [.int .i64 wd, .int .i64 hi, .bool false, .slice asp nsp csp, .slice als nls cls] 26, .rd kY aq nq Xq, .rd kF asp nsp Xsp, .rd kF als nls Xls] := B.upd [2] rfl hU77
            clear hU77
            refine s_nil ?_
            refine W_seq ?_
            refine W_region (by kernel_rfl) ?_
            refine s_y (v := .pointer (some ⟨b9, 0, none⟩)) rfl (y_move rfl) ?_
            refine s_k rfl (k_call T36.fn_81 (c_s_pick (by omega) (by omega) (by omega) (by omega) (B.all.pick [1, 7] rfl) (B.pw.pick [1, 7] rfl rfl)) rfl ?_)
            rintro _ w78 ⟨v80, rfl, hp81, hU79⟩
            replace B : Bu w no w78 [.blk b9 [.slice aq nq cq, .int .i64 (((q + 1) + 1) + 1), .int .u64 (sdY Xq (((q + 1) + 1) + 1))] 131, .ow kF a14 (Int.toNat (wd * hi)) c15 34 (put zX k (fop .quo .f32 (FloatKind.nearest .f32 (v57 - 4)) 1082130432)), .ow kF a12 (Int.toNat (wd * hi)) c13 34 zE, .ow kF a16 (Int.toNat (wd * hi)) c17 34 zY, .blk b19 [.slice a12 (Int.toNat (wd * hi)) c13, .slice a14 (Int.toNat (wd * hi)) c15, .slice a16 (Int.toNat (wd * hi)) c17] 30, .blk b4 [.slice none 0 0, .slice none 0 0, .slice none 0 0] 30, .blk b1 [.int .i64 wd, .int .i64 hi, .bool false, .slice asp nsp csp, .slice als nls cls] 26, .rd kY aq nq Xq, .rd kF asp nsp Xsp, .rd kF als nls Xls] := B.upd [1] rfl hU79
            clear hU79
            have hb82 := pk_b Xq (n := 9) ((q + 1) + 1) (by omega)
            rw [← hp81] at hb82
            refine s_y (v := .int .i64 (v80 - 4)) rfl (y_sub rfl rfl rfl (by omega)) ?_
            refine s_y (v := .float .f32 (FloatKind.nearest .f32 (v80 - 4))) rfl (y_if T36.und_2 T36.flt_34_f32 rfl) ?_
            refine s_n rfl (n_arith (by decide) rfl rfl) ?_
            rintro _ w86 e87 ⟨r84, rfl, hr85⟩
            replace B := B.ext0 e87
            clear e87
            have hc88 := fopC hr85 (cn_nearest .f32 (v80 - 4)) (cnLit (k := .f32) (t := 1082130432) (by kernel_rfl) (by kernel_rfl))
            refine s_y (v := .float .f32 r84) rfl (y_assign rfl) ?_
            refine s_nil ?_
            refine W_seq ?_
            have B0_93 := B
            refine W_draw (no) T36.mx (by kernel_rfl) (fun w91 e92 => ?_)
            have R94 := Ext.refl (no) w86
            replace R94 := R94.trans (Ext0.any e92)
            replace B := B.ext0 e92
            clear e92
            refine m_y (v := .pointer (some ⟨b1, 2, none⟩)) 0 rfl (by kernel_rfl) rfl rfl (fun w' e' => y_fld (o := 0) T36.fld_26_2_2 rfl) ?_
            refine m_y (v := .bool false) 1 rfl (by kernel_rfl) rfl rfl (fun w' e' => y_load T36.one_4 rfl (((B0_93.b 6 rfl).ext0 e').cell (j := 2) rfl)) ?_
            refine m_y (v := .bool false) 2 rfl (by kernel_rfl) rfl rfl (fun w' e' => y_move rfl) ?_
            refine m_y (v := .int .i64 k) 3 rfl (by kernel_rfl) rfl rfl (fun w' e' => y_move rfl) ?_
            refine m_y (v := .pointer (some ⟨b1, 0, none⟩)) 4 rfl (by kernel_rfl) rfl rfl (fun w' e' => y_fld (o := 0) T36.fld_26_0_0 rfl) ?_
            refine m_y (v := .int .i64 wd) 5 rfl (by kernel_rfl) rfl rfl (fun w' e' => y_load T36.one_2 rfl (((B0_93.b 6 rfl).ext0 e').cell (j := 0) rfl)) ?_
            have hm95 := rem_b (x := k) (m := wd) (by omega) (by omega)
            refine m_y (v := .int .i64 (k % wd)) 6 rfl (by kernel_rfl) rfl rfl (fun w' e' => y_rem rfl rfl (by omega) (by omega) rfl) ?_
            refine m_y (v := .pointer (some ⟨b1, 0, none⟩)) 7 rfl (by kernel_rfl) rfl rfl (fun w' e' => y_fld (o := 0) T36.fld_26_0_0 rfl) ?_
            refine m_y (v := .int .i64 wd) 8 rfl (by kernel_rfl) rfl rfl (fun w' e' => y_load T36.one_2 rfl (((B0_93.b 6 rfl).ext0 e').cell (j := 0) rfl)) ?_
            refine m_y (v := .int .i64 (wd - 1)) 9 rfl (by kernel_rfl) rfl rfl (fun w' e' => y_sub rfl rfl rfl (by omega)) ?_
            by_cases c96 : (k % wd) < (wd - 1)
            · refine m_y (v := .bool true) 10 rfl (by kernel_rfl) rfl rfl (fun w' e' => y_lss rfl rfl (decide_eq_true c96)) ?_
              refine m_y (v := .bool true) 11 rfl (by kernel_rfl) rfl rfl (fun w' e' => y_pick_f rfl rfl) ?_
              refine m_done (by kernel_rfl) (fun w97 e98 => ?_)
              replace B := B.ext0 e98
              clear e98
              clear B0_93 R94
              refine W_if_t (by decide) rfl ?_
              refine W_region (by kernel_rfl) ?_
              refine s_y (v := .pointer (some ⟨b19, 2, none⟩)) rfl (y_fld (o := 0) T36.fld_30_2_2 rfl) ?_
              refine s_y (v := .slice a16 (Int.toNat (wd * hi)) c17) rfl (y_load T36.one_24 rfl ((B.b 4 rfl).cell (j := 2) rfl)) ?_
              refine s_y (v := .int .i64 k) rfl (y_move rfl) ?_
              refine s_y (v := .float .f32 r84) rfl (y_move rfl) ?_
              refine s_y (v := .pointer (some (sat a16 ((k).toNat * 1)))) rfl (y_idx T36.sl_24_34_1 rfl rfl ((B.o 3 rfl).rd.addr (by omega)) (by omega) (by omega)) ?_
              refine s_k0 rfl (k_stO (k := kF) (i := k) (j := 0) (x' := fop .quo .f32 (FloatKind.nearest .f32 (v80 - 4)) 1082130432) (new := [.float .f32 r84]) T36.sz_34_1 rfl rfl rfl rfl rfl (by simp [Value.oneCell']) (by decide) (B.o 3 rfl) (by omega) (by omega) (by decide) (by rintro q ⟨_, rfl, _⟩; exact ⟨_, rfl, hc88⟩) (fun w99 hU100 => ?_))
              replace B : Bu w no w99 [.ow kF a16 (Int.toNat (wd * hi)) c17 34 (put zY k (fop .quo .f32 (FloatKind.nearest .f32 (v80 - 4)) 1082130432)), .blk b9 [.slice aq nq cq, .int .i64 (((q + 1) + 1) + 1), .int .u64 (sdY Xq (((q + 1) + 1) + 1))] 131, .ow kF a14 (Int.toNat (wd * hi)) c15 34 (put zX k (fop .quo .f32 (FloatKind.nearest .f32 (v57 - 4)) 1082130432)), .ow kF a12 (Int.toNat (wd * hi)) c13 34 zE, .blk b19 [.slice a12 (Int.toNat (wd * hi)) c13, .slice a14 (Int.toNat (wd * hi)) c15, .slice a16 (Int.toNat (wd * hi)) c17] 30, .blk b4 [.slice none 0 0, .slice none 0 0, .slice none 0 0] 30, .blk b1 [.int .i64 wd, .int .i64 hi, .bool false, .slice asp nsp csp, .slice als nls cls] 26, .rd kY aq nq Xq, .rd kF asp nsp Xsp, .rd kF als nls Xls] := B.upd [3] rfl hU100
              clear hU100
              refine s_nil ?_
              refine W_region (by kernel_rfl) ?_
              refine s_y (v := .int .i64 k) rfl (y_move rfl) ?_
              refine s_y (v := .int .i64 (k + 1)) rfl (y_add rfl rfl rfl (by omega)) ?_
              refine s_y (v := .int .i64 (k + 1)) rfl (y_assign rfl) ?_
              refine s_nil ?_
              refine ⟨⟨_, k + 1, ((q + 1) + 1) + 1, _, _, _, Fits.eq ⟨rfl, rfl, rfl, rfl, rfl, rfl, trivial⟩, (B.pick [3, 2, 0, 4, 1, 5, 6, 7, 8, 9] rfl rfl), (by omega), (by omega), (by omega), (by omega), (by first | exact hzE | (simp only [put_length]; exact hzE)), (by first | exact hzX | (simp only [put_length]; exact hzX)), (by first | exact hzY | (simp only [put_length]; exact hzY)), gzE, (gqL_put gzX (by omega) (by omega) (by omega) (qv_gq (by omega) (by omega))), (gqL_put gzY (by omega) (by omega) (by omega) (qv_gq (by omega) (by omega))), (edP_Y (by omega) (by omega) (by omega) (Or.inr c96) (edP_X (by omega) (by omega) (by omega) (Or.inr c73) hed))⟩, ?_⟩
              show (wd * hi - (k + 1)).toNat < (wd * hi - k).toNat
              omega
            · refine m_y (v := .bool false) 10 rfl (by kernel_rfl) rfl rfl (fun w' e' => y_lss rfl rfl (decide_eq_false c96)) ?_
              refine m_y (v := .bool false) 11 rfl (by kernel_rfl) rfl rfl (fun w' e' => y_pick_f rfl rfl) ?_
              refine m_done (by kernel_rfl) (fun w101 e102 => ?_)
              replace B := B.ext0 e102
              clear e102
              clear B0_93 R94
              refine W_if_f (by decide) rfl ?_
              refine W_skip ?_
              refine W_region (by kernel_rfl) ?_
              refine s_y (v := .int .i64 k) rfl (y_move rfl) ?_
              refine s_y (v := .int .i64 (k + 1)) rfl (y_add rfl rfl rfl (by omega)) ?_
              refine s_y (v := .int .i64 (k + 1)) rfl (y_assign rfl) ?_
              refine s_nil ?_
              refine ⟨⟨_, k + 1, ((q + 1) + 1) + 1, _, _, _, Fits.eq ⟨rfl, rfl, rfl, rfl, rfl, rfl, trivial⟩, (B.pick [2, 1, 3, 4, 0, 5, 6, 7, 8, 9] rfl rfl), (by omega), (by omega), (by omega), (by omega), (by first | exact hzE | (simp only [put_length]; exact hzE)), (by first | exact hzX | (simp only [put_length]; exact hzX)), (by first | exact hzY | (simp only [put_length]; exact hzY)), gzE, (gqL_put gzX (by omega) (by omega) (by omega) (qv_gq (by omega) (by omega))), gzY, (edP_X (by omega) (by omega) (by omega) (Or.inr c73) hed)⟩, ?_⟩
              show (wd * hi - (k + 1)).toNat < (wd * hi - k).toNat
              omega
          · refine m_y (v := .bool false) 10 rfl (by kernel_rfl) rfl rfl (fun w' e' => y_lss rfl rfl (decide_eq_false c73)) ?_
            refine m_y (v := .bool false) 11 rfl (by kernel_rfl) rfl rfl (fun w' e' => y_pick_f rfl rfl) ?_
            refine m_done (by kernel_rfl) (fun w103 e104 => ?_)
            replace B := B.ext0 e104
            clear e104
            clear B0_70 R71
            refine W_if_f (by decide) rfl ?_
            refine W_skip ?_
            refine W_seq ?_
            refine W_region (by kernel_rfl) ?_
            refine s_y (v := .pointer (some ⟨b9, 0, none⟩)) rfl (y_move rfl) ?_
            refine s_k rfl (k_call T36.fn_81 (c_s_pick (by omega) (by omega) (by omega) (by omega) (B.all.pick [0, 7] rfl) (B.pw.pick [0, 7] rfl rfl)) rfl ?_)
            rintro _ w105 ⟨v107, rfl, hp108, hU106⟩
            replace B : Bu w no w105 [.blk b9 [.slice aq nq cq, .int .i64 (((q + 1) + 1) + 1), .int .u64 (sdY Xq (((q + 1) + 1) + 1))] 131, .ow kF a12 (Int.toNat (wd * hi)) c13 34 zE, .ow kF a14 (Int.toNat (wd * hi)) c15 34 zX, .ow kF a16 (Int.toNat (wd * hi)) c17 34 zY, .blk b19 [.slice a12 (Int.toNat (wd * hi)) c13, .slice a14 (Int.toNat (wd * hi)) c15, .slice a16 (Int.toNat (wd * hi)) c17] 30, .blk b4 [.slice none 0 0, .slice none 0 0, .slice none 0 0] 30, .blk b1 [.int .i64 wd, .int .i64 hi, .bool false, .slice asp nsp csp, .slice als nls cls] 26, .rd kY aq nq Xq, .rd kF asp nsp Xsp, .rd kF als nls Xls] := B.upd [0] rfl hU106
            clear hU106
            have hb109 := pk_b Xq (n := 9) ((q + 1) + 1) (by omega)
            rw [← hp108] at hb109
            refine s_y (v := .int .i64 (v107 - 4)) rfl (y_sub rfl rfl rfl (by omega)) ?_
            refine s_y (v := .float .f32 (FloatKind.nearest .f32 (v107 - 4))) rfl (y_if T36.und_2 T36.flt_34_f32 rfl) ?_
            refine s_n rfl (n_arith (by decide) rfl rfl) ?_
            rintro _ w113 e114 ⟨r111, rfl, hr112⟩
            replace B := B.ext0 e114
            clear e114
            have hc115 := fopC hr112 (cn_nearest .f32 (v107 - 4)) (cnLit (k := .f32) (t := 1082130432) (by kernel_rfl) (by kernel_rfl))
            refine s_y (v := .float .f32 r111) rfl (y_assign rfl) ?_
            refine s_nil ?_
            refine W_seq ?_
            have B0_120 := B
            refine W_draw (no) T36.mx (by kernel_rfl) (fun w118 e119 => ?_)
            have R121 := Ext.refl (no) w113
            replace R121 := R121.trans (Ext0.any e119)
            replace B := B.ext0 e119
            clear e119
            refine m_y (v := .pointer (some ⟨b1, 2, none⟩)) 0 rfl (by kernel_rfl) rfl rfl (fun w' e' => y_fld (o := 0) T36.fld_26_2_2 rfl) ?_
            refine m_y (v := .bool false) 1 rfl (by kernel_rfl) rfl rfl (fun w' e' => y_load T36.one_4 rfl (((B0_120.b 6 rfl).ext0 e').cell (j := 2) rfl)) ?_
            refine m_y (v := .bool false) 2 rfl (by kernel_rfl) rfl rfl (fun w' e' => y_move rfl) ?_
            refine m_y (v := .int .i64 k) 3 rfl (by kernel_rfl) rfl rfl (fun w' e' => y_move rfl) ?_
            refine m_y (v := .pointer (some ⟨b1, 0, none⟩)) 4 rfl (by kernel_rfl) rfl rfl (fun w' e' => y_fld (o := 0) T36.fld_26_0_0 rfl) ?_
            refine m_y (v := .int .i64 wd) 5 rfl (by kernel_rfl) rfl rfl (fun w' e' => y_load T36.one_2 rfl (((B0_120.b 6 rfl).ext0 e').cell (j := 0) rfl)) ?_
            have hm122 := rem_b (x := k) (m := wd) (by omega) (by omega)
            refine m_y (v := .int .i64 (k % wd)) 6 rfl (by kernel_rfl) rfl rfl (fun w' e' => y_rem rfl rfl (by omega) (by omega) rfl) ?_
            refine m_y (v := .pointer (some ⟨b1, 0, none⟩)) 7 rfl (by kernel_rfl) rfl rfl (fun w' e' => y_fld (o := 0) T36.fld_26_0_0 rfl) ?_
            refine m_y (v := .int .i64 wd) 8 rfl (by kernel_rfl) rfl rfl (fun w' e' => y_load T36.one_2 rfl (((B0_120.b 6 rfl).ext0 e').cell (j := 0) rfl)) ?_
            refine m_y (v := .int .i64 (wd - 1)) 9 rfl (by kernel_rfl) rfl rfl (fun w' e' => y_sub rfl rfl rfl (by omega)) ?_
            by_cases c123 : (k % wd) < (wd - 1)
            · refine m_y (v := .bool true) 10 rfl (by kernel_rfl) rfl rfl (fun w' e' => y_lss rfl rfl (decide_eq_true c123)) ?_
              refine m_y (v := .bool true) 11 rfl (by kernel_rfl) rfl rfl (fun w' e' => y_pick_f rfl rfl) ?_
              refine m_done (by kernel_rfl) (fun w124 e125 => ?_)
              replace B := B.ext0 e125
              clear e125
              clear B0_120 R121
              refine W_if_t (by decide) rfl ?_
              refine W_region (by kernel_rfl) ?_
              refine s_y (v := .pointer (some ⟨b19, 2, none⟩)) rfl (y_fld (o := 0) T36.fld_30_2_2 rfl) ?_
              refine s_y (v := .slice a16 (Int.toNat (wd * hi)) c17) rfl (y_load T36.one_24 rfl ((B.b 4 rfl).cell (j := 2) rfl)) ?_
              refine s_y (v := .int .i64 k) rfl (y_move rfl) ?_
              refine s_y (v := .float .f32 r111) rfl (y_move rfl) ?_
              refine s_y (v := .pointer (some (sat a16 ((k).toNat * 1)))) rfl (y_idx T36.sl_24_34_1 rfl rfl ((B.o 3 rfl).rd.addr (by omega)) (by omega) (by omega)) ?_
              refine s_k0 rfl (k_stO (k := kF) (i := k) (j := 0) (x' := fop .quo .f32 (FloatKind.nearest .f32 (v107 - 4)) 1082130432) (new := [.float .f32 r111]) T36.sz_34_1 rfl rfl rfl rfl rfl (by simp [Value.oneCell']) (by decide) (B.o 3 rfl) (by omega) (by omega) (by decide) (by rintro q ⟨_, rfl, _⟩; exact ⟨_, rfl, hc115⟩) (fun w126 hU127 => ?_))
              replace B : Bu w no w126 [.ow kF a16 (Int.toNat (wd * hi)) c17 34 (put zY k (fop .quo .f32 (FloatKind.nearest .f32 (v107 - 4)) 1082130432)), .blk b9 [.slice aq nq cq, .int .i64 (((q + 1) + 1) + 1), .int .u64 (sdY Xq (((q + 1) + 1) + 1))] 131, .ow kF a12 (Int.toNat (wd * hi)) c13 34 zE, .ow kF a14 (Int.toNat (wd * hi)) c15 34 zX, .blk b19 [.slice a12 (Int.toNat (wd * hi)) c13, .slice a14 (Int.toNat (wd * hi)) c15, .slice a16 (Int.toNat (wd * hi)) c17] 30, .blk b4 [.slice none 0 0, .slice none 0 0, .slice none 0 0] 30, .blk b1 [.int .i64 wd, .int .i64 hi, .bool false, .slice asp nsp csp, .slice als nls cls] 26, .rd kY aq nq Xq, .rd kF asp nsp Xsp, .rd kF als nls Xls] := B.upd [3] rfl hU127
              clear hU127
              refine s_nil ?_
              refine W_region (by kernel_rfl) ?_
              refine s_y (v := .int .i64 k) rfl (y_move rfl) ?_
              refine s_y (v := .int .i64 (k + 1)) rfl (y_add rfl rfl rfl (by omega)) ?_
              refine s_y (v := .int .i64 (k + 1)) rfl (y_assign rfl) ?_
              refine s_nil ?_
              refine ⟨⟨_, k + 1, ((q + 1) + 1) + 1, _, _, _, Fits.eq ⟨rfl, rfl, rfl, rfl, rfl, rfl, trivial⟩, (B.pick [2, 3, 0, 4, 1, 5, 6, 7, 8, 9] rfl rfl), (by omega), (by omega), (by omega), (by omega), (by first | exact hzE | (simp only [put_length]; exact hzE)), (by first | exact hzX | (simp only [put_length]; exact hzX)), (by first | exact hzY | (simp only [put_length]; exact hzY)), gzE, gzX, (gqL_put gzY (by omega) (by omega) (by omega) (qv_gq (by omega) (by omega))), (edP_Y (by omega) (by omega) (by omega) (Or.inr c123) hed)⟩, ?_⟩
              show (wd * hi - (k + 1)).toNat < (wd * hi - k).toNat
              omega
            · refine m_y (v := .bool false) 10 rfl (by kernel_rfl) rfl rfl (fun w' e' => y_lss rfl rfl (decide_eq_false c123)) ?_
              refine m_y (v := .bool false) 11 rfl (by kernel_rfl) rfl rfl (fun w' e' => y_pick_f rfl rfl) ?_
              refine m_done (by kernel_rfl) (fun w128 e129 => ?_)
              replace B := B.ext0 e129
              clear e129
              clear B0_120 R121
              refine W_if_f (by decide) rfl ?_
              refine W_skip ?_
              refine W_region (by kernel_rfl) ?_
              refine s_y (v := .int .i64 k) rfl (y_move rfl) ?_
              refine s_y (v := .int .i64 (k + 1)) rfl (y_add rfl rfl rfl (by omega)) ?_
              refine s_y (v := .int .i64 (k + 1)) rfl (y_assign rfl) ?_
              refine s_nil ?_
              refine ⟨⟨_, k + 1, ((q + 1) + 1) + 1, _, _, _, Fits.eq ⟨rfl, rfl, rfl, rfl, rfl, rfl, trivial⟩, (B.pick [1, 2, 3, 4, 0, 5, 6, 7, 8, 9] rfl rfl), (by omega), (by omega), (by omega), (by omega), (by first | exact hzE | (simp only [put_length]; exact hzE)), (by first | exact hzX | (simp only [put_length]; exact hzX)), (by first | exact hzY | (simp only [put_length]; exact hzY)), gzE, gzX, gzY, hed⟩, ?_⟩
              show (wd * hi - (k + 1)).toNat < (wd * hi - k).toNat
              omega
        · refine m_skip 3 rfl (by kernel_rfl) rfl ?_
          refine m_skip 4 rfl (by kernel_rfl) rfl ?_
          refine m_skip 5 rfl (by kernel_rfl) rfl ?_
          refine m_skip 6 rfl (by kernel_rfl) rfl ?_
          refine m_skip 7 rfl (by kernel_rfl) rfl ?_
          refine m_skip 8 rfl (by kernel_rfl) rfl ?_
          refine m_skip 9 rfl (by kernel_rfl) rfl ?_
          refine m_skip 10 rfl (by kernel_rfl) rfl ?_
          refine m_y (v := .bool true) 11 rfl (by kernel_rfl) rfl rfl (fun w' e' => y_pick_t rfl rfl) ?_
          refine m_done (by kernel_rfl) (fun w130 e131 => ?_)
          replace B := B.ext0 e131
          clear e131
          clear B0_70 R71
          refine W_if_t (by decide) rfl ?_
          refine W_region (by kernel_rfl) ?_
          refine s_y (v := .pointer (some ⟨b19, 1, none⟩)) rfl (y_fld (o := 0) T36.fld_30_1_1 rfl) ?_
          refine s_y (v := .slice a14 (Int.toNat (wd * hi)) c15) rfl (y_load T36.one_24 rfl ((B.b 4 rfl).cell (j := 1) rfl)) ?_
          refine s_y (v := .int .i64 k) rfl (y_move rfl) ?_
          refine s_y (v := .float .f32 r61) rfl (y_move rfl) ?_
          refine s_y (v := .pointer (some (sat a14 ((k).toNat * 1)))) rfl (y_idx T36.sl_24_34_1 rfl rfl ((B.o 2 rfl).rd.addr (by omega)) (by omega) (by omega)) ?_
          refine s_k0 rfl (k_stO (k := kF) (i := k) (j := 0) (x' := fop .quo .f32 (FloatKind.nearest .f32 (v57 - 4)) 1082130432) (new := [.float .f32 r61]) T36.sz_34_1 rfl rfl rfl rfl rfl (by simp [Value.oneCell']) (by decide) (B.o 2 rfl) (by omega) (by omega) (by decide) (by rintro q ⟨_, rfl, _⟩; exact ⟨_, rfl, hc65⟩) (fun w132 hU133 => ?_))
          replace B : Bu w no w132 [.ow kF a14 (Int.toNat (wd * hi)) c15 34 (put zX k (fop .quo .f32 (FloatKind.nearest .f32 (v57 - 4)) 1082130432)), .blk b9 [.slice aq nq cq, .int .i64 ((q + 1) + 1), .int .u64 (sdY Xq ((q + 1) + 1))] 131, .ow kF a12 (Int.toNat (wd * hi)) c13 34 zE, .ow kF a16 (Int.toNat (wd * hi)) c17 34 zY, .blk b19 [.slice a12 (Int.toNat (wd * hi)) c13, .slice a14 (Int.toNat (wd * hi)) c15, .slice a16 (Int.toNat (wd * hi)) c17] 30, .blk b4 [.slice none 0 0, .slice none 0 0, .slice none 0 0] 30, .blk b1 [.int .i64 wd, .int .i64 hi, .bool true, .slice asp nsp csp, .slice als nls cls] 26, .rd kY aq nq Xq, .rd kF asp nsp Xsp, .rd kF als nls Xls] := B.upd [2] rfl hU133
          clear hU133
          refine s_nil ?_
          refine W_seq ?_
          refine W_region (by kernel_rfl) ?_
          refine s_y (v := .pointer (some ⟨b9, 0, none⟩)) rfl (y_move rfl) ?_
          refine s_k rfl (k_call T36.fn_81 (c_s_pick (by omega) (by omega) (by omega) (by omega) (B.all.pick [1, 7] rfl) (B.pw.pick [1, 7] rfl rfl)) rfl ?_)
          rintro _ w134 ⟨v136, rfl, hp137, hU135⟩
          replace B : Bu w no w134 [.blk b9 [.slice aq nq cq, .int .i64 (((q + 1) + 1) + 1), .int .u64 (sdY Xq (((q + 1) + 1) + 1))] 131, .ow kF a14 (Int.toNat (wd * hi)) c15 34 (put zX k (fop .quo .f32 (FloatKind.nearest .f32 (v57 - 4)) 1082130432)), .ow kF a12 (Int.toNat (wd * hi)) c13 34 zE, .ow kF a16 (Int.toNat (wd * hi)) c17 34 zY, .blk b19 [.slice a12 (Int.toNat (wd * hi)) c13, .slice a14 (Int.toNat (wd * hi)) c15, .slice a16 (Int.toNat (wd * hi)) c17] 30, .blk b4 [.slice none 0 0, .slice none 0 0, .slice none 0 0] 30, .blk b1 [.int .i64 wd, .int .i64 hi, .bool true, .slice asp nsp csp, .slice als nls cls] 26, .rd kY aq nq Xq, .rd kF asp nsp Xsp, .rd kF als nls Xls] := B.upd [1] rfl hU135
          clear hU135
          have hb138 := pk_b Xq (n := 9) ((q + 1) + 1) (by omega)
          rw [← hp137] at hb138
          refine s_y (v := .int .i64 (v136 - 4)) rfl (y_sub rfl rfl rfl (by omega)) ?_
          refine s_y (v := .float .f32 (FloatKind.nearest .f32 (v136 - 4))) rfl (y_if T36.und_2 T36.flt_34_f32 rfl) ?_
          refine s_n rfl (n_arith (by decide) rfl rfl) ?_
          rintro _ w142 e143 ⟨r140, rfl, hr141⟩
          replace B := B.ext0 e143
          clear e143
          have hc144 := fopC hr141 (cn_nearest .f32 (v136 - 4)) (cnLit (k := .f32) (t := 1082130432) (by kernel_rfl) (by kernel_rfl))
          refine s_y (v := .float .f32 r140) rfl (y_assign rfl) ?_
          refine s_nil ?_
          refine W_seq ?_
          have B0_149 := B
          refine W_draw (no) T36.mx (by kernel_rfl) (fun w147 e148 => ?_)
          have R150 := Ext.refl (no) w142
          replace R150 := R150.trans (Ext0.any e148)
          replace B := B.ext0 e148
          clear e148
          refine m_y (v := .pointer (some ⟨b1, 2, none⟩)) 0 rfl (by kernel_rfl) rfl rfl (fun w' e' => y_fld (o := 0) T36.fld_26_2_2 rfl) ?_
          refine m_y (v := .bool true) 1 rfl (by kernel_rfl) rfl rfl (fun w' e' => y_load T36.one_4 rfl (((B0_149.b 6 rfl).ext0 e').cell (j := 2) rfl)) ?_
          refine m_y (v := .bool true) 2 rfl (by kernel_rfl) rfl rfl (fun w' e' => y_move rfl) ?_
          refine m_skip 3 rfl (by kernel_rfl) rfl ?_
          refine m_skip 4 rfl (by kernel_rfl) rfl ?_
          refine m_skip 5 rfl (by kernel_rfl) rfl ?_
          refine m_skip 6 rfl (by kernel_rfl) rfl ?_
          refine m_skip 7 rfl (by kernel_rfl) rfl ?_
          refine m_skip 8 rfl (by kernel_rfl) rfl ?_
          refine m_skip 9 rfl (by kernel_rfl) rfl ?_
          refine m_skip 10 rfl (by kernel_rfl) rfl ?_
          refine m_y (v := .bool true) 11 rfl (by kernel_rfl) rfl rfl (fun w' e' => y_pick_t rfl rfl) ?_
          refine m_done (by kernel_rfl) (fun w151 e152 => ?_)
          replace B := B.ext0 e152
          clear e152
          clear B0_149 R150
          refine W_if_t (by decide) rfl ?_
          refine W_region (by kernel_rfl) ?_
          refine s_y (v := .pointer (some ⟨b19, 2, none⟩)) rfl (y_fld (o := 0) T36.fld_30_2_2 rfl) ?_
          refine s_y (v := .slice a16 (Int.toNat (wd * hi)) c17) rfl (y_load T36.one_24 rfl ((B.b 4 rfl).cell (j := 2) rfl)) ?_
          refine s_y (v := .int .i64 k) rfl (y_move rfl) ?_
          refine s_y (v := .float .f32 r140) rfl (y_move rfl) ?_
          refine s_y (v := .pointer (some (sat a16 ((k).toNat * 1)))) rfl (y_idx T36.sl_24_34_1 rfl rfl ((B.o 3 rfl).rd.addr (by omega)) (by omega) (by omega)) ?_
          refine s_k0 rfl (k_stO (k := kF) (i := k) (j := 0) (x' := fop .quo .f32 (FloatKind.nearest .f32 (v136 - 4)) 1082130432) (new := [.float .f32 r140]) T36.sz_34_1 rfl rfl rfl rfl rfl (by simp [Value.oneCell']) (by decide) (B.o 3 rfl) (by omega) (by omega) (by decide) (by rintro q ⟨_, rfl, _⟩; exact ⟨_, rfl, hc144⟩) (fun w153 hU154 => ?_))
          replace B : Bu w no w153 [.ow kF a16 (Int.toNat (wd * hi)) c17 34 (put zY k (fop .quo .f32 (FloatKind.nearest .f32 (v136 - 4)) 1082130432)), .blk b9 [.slice aq nq cq, .int .i64 (((q + 1) + 1) + 1), .int .u64 (sdY Xq (((q + 1) + 1) + 1))] 131, .ow kF a14 (Int.toNat (wd * hi)) c15 34 (put zX k (fop .quo .f32 (FloatKind.nearest .f32 (v57 - 4)) 1082130432)), .ow kF a12 (Int.toNat (wd * hi)) c13 34 zE, .blk b19 [.slice a12 (Int.toNat (wd * hi)) c13, .slice a14 (Int.toNat (wd * hi)) c15, .slice a16 (Int.toNat (wd * hi)) c17] 30, .blk b4 [.slice none 0 0, .slice none 0 0, .slice none 0 0] 30, .blk b1 [.int .i64 wd, .int .i64 hi, .bool true, .slice asp nsp csp, .slice als nls cls] 26, .rd kY aq nq Xq, .rd kF asp nsp Xsp, .rd kF als nls Xls] := B.upd [3] rfl hU154
          clear hU154
          refine s_nil ?_
          refine W_region (by kernel_rfl) ?_
          refine s_y (v := .int .i64 k) rfl (y_move rfl) ?_
          refine s_y (v := .int .i64 (k + 1)) rfl (y_add rfl rfl rfl (by omega)) ?_
          refine s_y (v := .int .i64 (k + 1)) rfl (y_assign rfl) ?_
          refine s_nil ?_
          refine ⟨⟨_, k + 1, ((q + 1) + 1) + 1, _, _, _, Fits.eq ⟨rfl, rfl, rfl, rfl, rfl, rfl, trivial⟩, (B.pick [3, 2, 0, 4, 1, 5, 6, 7, 8, 9] rfl rfl), (by omega), (by omega), (by omega), (by omega), (by first | exact hzE | (simp only [put_length]; exact hzE)), (by first | exact hzX | (simp only [put_length]; exact hzX)), (by first | exact hzY | (simp only [put_length]; exact hzY)), gzE, (gqL_put gzX (by omega) (by omega) (by omega) (qv_gq (by omega) (by omega))), (gqL_put gzY (by omega) (by omega) (by omega) (qv_gq (by omega) (by omega))), (edP_Y (by omega) (by omega) (by omega) (Or.inl rfl) (edP_X (by omega) (by omega) (by omega) (Or.inl rfl) hed))⟩, ?_⟩
          show (wd * hi - (k + 1)).toNat < (wd * hi - k).toNat
          omega
      · obtain rfl : v39 = .bool false := hv40.trans (congrArg Value.bool (Bool.eq_false_iff.2 c41))
        refine m_y (v := .bool false) 9 rfl (by kernel_rfl) rfl rfl (fun w' e' => y_assign rfl) ?_
        refine m_done (by kernel_rfl) (fun w155 e156 => ?_)
        replace B := B.ext0 e156
        clear e156
        clear B0_31 R32
        refine W_seq ?_
        refine W_region (by kernel_rfl) ?_
        refine s_y (v := .pointer (some ⟨b9, 0, none⟩)) rfl (y_move rfl) ?_
        refine s_k rfl (k_call T36.fn_81 (c_s_pick (by omega) (by omega) (by omega) (by omega) (B.all.pick [4, 7] rfl) (B.pw.pick [4, 7] rfl rfl)) rfl ?_)
        rintro _ w157 ⟨v159, rfl, hp160, hU158⟩
        replace B : Bu w no w157 [.blk b9 [.slice aq nq cq, .int .i64 (q + 1), .int .u64 (sdY Xq (q + 1))] 131, .ow kF a12 (Int.toNat (wd * hi)) c13 34 zE, .ow kF a14 (Int.toNat (wd * hi)) c15 34 zX, .ow kF a16 (Int.toNat (wd * hi)) c17 34 zY, .blk b19 [.slice a12 (Int.toNat (wd * hi)) c13, .slice a14 (Int.toNat (wd * hi)) c15, .slice a16 (Int.toNat (wd * hi)) c17] 30, .blk b4 [.slice none 0 0, .slice none 0 0, .slice none 0 0] 30, .blk b1 [.int .i64 wd, .int .i64 hi, .bool wr, .slice asp nsp csp, .slice als nls cls] 26, .rd kY aq nq Xq, .rd kF asp nsp Xsp, .rd kF als nls Xls] := B.upd [4] rfl hU158
        clear hU158
        have hb161 := pk_b Xq (n := 17) q (by omega)
        rw [← hp160] at hb161
        refine s_y (v := .int .i64 (v159 - 8)) rfl (y_sub rfl rfl rfl (by omega)) ?_
        refine s_y (v := .float .f32 (FloatKind.nearest .f32 (v159 - 8))) rfl (y_if T36.und_2 T36.flt_34_f32 rfl) ?_
        refine s_n rfl (n_arith (by decide) rfl rfl) ?_
        rintro _ w165 e166 ⟨r163, rfl, hr164⟩
        replace B := B.ext0 e166
        clear e166
        have hc167 := fopC hr164 (cn_nearest .f32 (v159 - 8)) (cnLit (k := .f32) (t := 1082130432) (by kernel_rfl) (by kernel_rfl))
        refine s_y (v := .float .f32 r163) rfl (y_assign rfl) ?_
        refine s_nil ?_
        refine W_seq ?_
        refine W_seq ?_
        refine W_region (by kernel_rfl) ?_
        refine s_y (v := .bool false) rfl (y_move rfl) ?_
        refine s_y (v := .bool true) rfl (y_not rfl rfl) ?_
        refine s_nil ?_
        refine W_if_t (by decide) rfl ?_
        refine W_region (by kernel_rfl) ?_
        refine s_y (v := .pointer (some ⟨b19, 0, none⟩)) rfl (y_fld (o := 0) T36.fld_30_0_0 rfl) ?_
        refine s_y (v := .slice a12 (Int.toNat (wd * hi)) c13) rfl (y_load T36.one_24 rfl ((B.b 4 rfl).cell (j := 0) rfl)) ?_
        refine s_y (v := .int .i64 k) rfl (y_move rfl) ?_
        refine s_y (v := .float .f32 r163) rfl (y_move rfl) ?_
        refine s_y (v := .pointer (some (sat a12 ((k).toNat * 1)))) rfl (y_idx T36.sl_24_34_1 rfl rfl ((B.o 1 rfl).rd.addr (by omega)) (by omega) (by omega)) ?_
        refine s_k0 rfl (k_stO (k := kF) (i := k) (j := 0) (x' := fop .quo .f32 (FloatKind.nearest .f32 (v159 - 8)) 1082130432) (new := [.float .f32 r163]) T36.sz_34_1 rfl rfl rfl rfl rfl (by simp [Value.oneCell']) (by decide) (B.o 1 rfl) (by omega) (by omega) (by decide) (by rintro q ⟨_, rfl, _⟩; exact ⟨_, rfl, hc167⟩) (fun w168 hU169 => ?_))
        replace B : Bu w no w168 [.ow kF a12 (Int.toNat (wd * hi)) c13 34 (put zE k (fop .quo .f32 (FloatKind.nearest .f32 (v159 - 8)) 1082130432)), .blk b9 [.slice aq nq cq, .int .i64 (q + 1), .int .u64 (sdY Xq (q + 1))] 131, .ow kF a14 (Int.toNat (wd * hi)) c15 34 zX, .ow kF a16 (Int.toNat (wd * hi)) c17 34 zY, .blk b19 [.slice a12 (Int.toNat (wd * hi)) c13, .slice a14 (Int.toNat (wd * hi)) c15, .slice a16 (Int.toNat (wd * hi)) c17] 30, .blk b4 [.slice none 0 0, .slice none 0 0, .slice none 0 0] 30, .blk b1 [.int .i64 wd, .int .i64 hi, .bool wr, .slice asp nsp csp, .slice als nls cls] 26, .rd kY aq nq Xq, .rd kF asp nsp Xsp, .rd kF als nls Xls] := B.upd [1] rfl hU169
        clear hU169
        refine s_nil ?_
        refine W_seq ?_
        refine W_region (by kernel_rfl) ?_
        refine s_y (v := .pointer (some ⟨b9, 0, none⟩)) rfl (y_move rfl) ?_
        refine s_k rfl (k_call T36.fn_81 (c_s_pick (by omega) (by omega) (by omega) (by omega) (B.all.pick [1, 7] rfl) (B.pw.pick [1, 7] rfl rfl)) rfl ?_)
        rintro _ w170 ⟨v172, rfl, hp173, hU171⟩
        replace B : Bu w no w170 [.blk b9 [.slice aq nq cq, .int .i64 ((q + 1) + 1), .int .u64 (sdY Xq ((q + 1) + 1))] 131, .ow kF a12 (Int.toNat (wd * hi)) c13 34 (put zE k (fop .quo .f32 (FloatKind.nearest .f32 (v159 - 8)) 1082130432)), .ow kF a14 (Int.toNat (wd * hi)) c15 34 zX, .ow kF a16 (Int.toNat (wd * hi)) c17 34 zY, .blk b19 [.slice a12 (Int.toNat (wd * hi)) c13, .slice a14 (Int.toNat (wd * hi)) c15, .slice a16 (Int.toNat (wd * hi)) c17] 30, .blk b4 [.slice none 0 0, .slice none 0 0, .slice none 0 0] 30, .blk b1 [.int .i64 wd, .int .i64 hi, .bool wr, .slice asp nsp csp, .slice als nls cls] 26, .rd kY aq nq Xq, .rd kF asp nsp Xsp, .rd kF als nls Xls] := B.upd [1] rfl hU171
        clear hU171
        have hb174 := pk_b Xq (n := 9) (q + 1) (by omega)
        rw [← hp173] at hb174
        refine s_y (v := .int .i64 (v172 - 4)) rfl (y_sub rfl rfl rfl (by omega)) ?_
        refine s_y (v := .float .f32 (FloatKind.nearest .f32 (v172 - 4))) rfl (y_if T36.und_2 T36.flt_34_f32 rfl) ?_
        refine s_n rfl (n_arith (by decide) rfl rfl) ?_
        rintro _ w178 e179 ⟨r176, rfl, hr177⟩
        replace B := B.ext0 e179
        clear e179
        have hc180 := fopC hr177 (cn_nearest .f32 (v172 - 4)) (cnLit (k := .f32) (t := 1082130432) (by kernel_rfl) (by kernel_rfl))
        refine s_y (v := .float .f32 r176) rfl (y_assign rfl) ?_
        refine s_nil ?_
        refine W_seq ?_
        refine W_seq ?_
        have B0_185 := B
        refine W_draw (no) T36.mx (by kernel_rfl) (fun w183 e184 => ?_)
        have R186 := Ext.refl (no) w178
        replace R186 := R186.trans (Ext0.any e184)
        replace B := B.ext0 e184
        clear e184
        refine m_y (v := .pointer (some ⟨b1, 2, none⟩)) 0 rfl (by kernel_rfl) rfl rfl (fun w' e' => y_fld (o := 0) T36.fld_26_2_2 rfl) ?_
        refine m_y (v := .bool wr) 1 rfl (by kernel_rfl) rfl rfl (fun w' e' => y_load T36.one_4 rfl (((B0_185.b 6 rfl).ext0 e').cell (j := 2) rfl)) ?_
        refine m_y (v := .bool wr) 2 rfl (by kernel_rfl) rfl rfl (fun w' e' => y_move rfl) ?_
        cases wr
        · refine m_y (v := .int .i64 k) 3 rfl (by kernel_rfl) rfl rfl (fun w' e' => y_move rfl) ?_
          refine m_y (v := .pointer (some ⟨b1, 0, none⟩)) 4 rfl (by kernel_rfl) rfl rfl (fun w' e' => y_fld (o := 0) T36.fld_26_0_0 rfl) ?_
          refine m_y (v := .int .i64 wd) 5 rfl (by kernel_rfl) rfl rfl (fun w' e' => y_load T36.one_2 rfl (((B0_185.b 6 rfl).ext0 e').cell (j := 0) rfl)) ?_
          have hm187 := quo_b (x := k) (m := wd) (by omega) (by omega)
          refine m_y (v := .int .i64 (k / wd)) 6 rfl (by kernel_rfl) rfl rfl (fun w' e' => y_quo rfl rfl (by omega) (by omega) (by omega) rfl) ?_
          refine m_y (v := .pointer (some ⟨b1, 1, none⟩)) 7 rfl (by kernel_rfl) rfl rfl (fun w' e' => y_fld (o := 0) T36.fld_26_1_1 rfl) ?_
          refine m_y (v := .int .i64 hi) 8 rfl (by kernel_rfl) rfl rfl (fun w' e' => y_load T36.one_2 rfl (((B0_185.b 6 rfl).ext0 e').cell (j := 1) rfl)) ?_
          refine m_y (v := .int .i64 (hi - 1)) 9 rfl (by kernel_rfl) rfl rfl (fun w' e' => y_sub rfl rfl rfl (by omega)) ?_
          by_cases c188 : (k / wd) < (hi - 1)
          · refine m_y (v := .bool true) 10 rfl (by kernel_rfl) rfl rfl (fun w' e' => y_lss rfl rfl (decide_eq_true c188)) ?_
            refine m_y (v := .bool true) 11 rfl (by kernel_rfl) rfl rfl (fun w' e' => y_pick_f rfl rfl) ?_
            refine m_done (by kernel_rfl) (fun w189 e190 => ?_)
            replace B := B.ext0 e190
            clear e190
            clear B0_185 R186
            refine W_if_t (by decide) rfl ?_
            refine W_region (by kernel_rfl) ?_
            refine s_y (v := .pointer (some ⟨b19, 1, none⟩)) rfl (y_fld (o := 0) T36.fld_30_1_1 rfl) ?_
            refine s_y (v := .slice a14 (Int.toNat (wd * hi)) c15) rfl (y_load T36.one_24 rfl ((B.b 4 rfl).cell (j := 1) rfl)) ?_
            refine s_y (v := .int .i64 k) rfl (y_move rfl) ?_
            refine s_y (v := .float .f32 r176) rfl (y_move rfl) ?_
            refine s_y (v := .pointer (some (sat a14 ((k).toNat * 1)))) rfl (y_idx T36.sl_24_34_1 rfl rfl ((B.o 2 rfl).rd.addr (by omega)) (by omega) (by omega)) ?_
            refine s_k0 rfl (k_stO (k := kF) (i := k) (j := 0) (x' := fop .quo .f32 (FloatKind.nearest .f32 (v172 - 4)) 1082130432) (new := [.float .f32 r176]) T36.sz_34_1 rfl rfl rfl rfl rfl (by simp [Value.oneCell']) (by decide) (B.o 2 rfl) (by omega) (by omega) (by decide) (by rintro q ⟨_, rfl, _⟩; exact ⟨_, rfl, hc180⟩) (fun w191 hU192 => ?_))
            replace B : Bu w no w191 [.ow kF a14 (Int.toNat (wd * hi)) c15 34 (put zX k (fop .quo .f32 (FloatKind.nearest .f32 (v172 - 4)) 1082130432)), .blk b9 [.slice aq nq cq, .int .i64 ((q + 1) + 1), .int .u64 (sdY Xq ((q + 1) + 1))] 131, .ow kF a12 (Int.toNat (wd * hi)) c13 34 (put zE k (fop .quo .f32 (FloatKind.nearest .f32 (v159 - 8)) 1082130432)), .ow kF a16 (Int.toNat (wd * hi)) c17 34 zY, .blk b19 [.slice a12 (Int.toNat (wd * hi)) c13, .slice a14 (Int.toNat (wd * hi)) c15, .slice a16 (Int.toNat (wd * hi)) c17] 30, .blk b4 [.slice none 0 0, .slice none 0 0, .slice none 0 0] 30, .blk b1 [.int .i64 wd, .int .i64 hi, .bool false, .slice asp nsp csp, .slice als nls cls] 26, .rd kY aq nq Xq, .rd kF asp nsp Xsp, .rd kF als nls Xls] := B.upd [2] rfl hU192
            clear hU192
            refine s_nil ?_
            refine W_seq ?_
            refine W_region (by kernel_rfl) ?_
            refine s_y (v := .pointer (some ⟨b9, 0, none⟩)) rfl (y_move rfl) ?_
            refine s_k rfl (k_call T36.fn_81 (c_s_pick (by omega) (by omega) (by omega) (by omega) (B.all.pick [1, 7] rfl) (B.pw.pick [1, 7] rfl rfl)) rfl ?_)
            rintro _ w193 ⟨v195, rfl, hp196, hU194⟩
            replace B : Bu w no w193 [.blk b9 [.slice aq nq cq, .int .i64 (((q + 1) + 1) + 1), .int .u64 (sdY Xq (((q + 1) + 1) + 1))] 131, .ow kF a14 (Int.toNat (wd * hi)) c15 34 (put zX k (fop .quo .f32 (FloatKind.nearest .f32 (v172 - 4)) 1082130432)), .ow kF a12 (Int.toNat (wd * hi)) c13 34 (put zE k (fop .quo .f32 (FloatKind.nearest .f32 (v159 - 8)) 1082130432)), .ow kF a16 (Int.toNat (wd * hi)) c17 34 zY, .blk b19 [.slice a12 (Int.toNat (wd * hi)) c13, .slice a14 (Int.toNat (wd * hi)) c15, .slice a16 (Int.toNat (wd * hi)) c17] 30, .blk b4 [.slice none 0 0, .slice none 0 0, .slice none 0 0] 30, .blk b1 [.int .i64 wd, .int .i64 hi, .bool false, .slice asp nsp csp, .slice als nls cls] 26, .rd kY aq nq Xq, .rd kF asp nsp Xsp, .rd kF als nls Xls] := B.upd [1] rfl hU194
            clear hU194
            have hb197 := pk_b Xq (n := 9) ((q + 1) + 1) (by omega)
            rw [← hp196] at hb197
            refine s_y (v := .int .i64 (v195 - 4)) rfl (y_sub rfl rfl rfl (by omega)) ?_
            refine s_y (v := .float .f32 (FloatKind.nearest .f32 (v195 - 4))) rfl (y_if T36.und_2 T36.flt_34_f32 rfl) ?_
            refine s_n rfl (n_arith (by decide) rfl rfl) ?_
            rintro _ w201 e202 ⟨r199, rfl, hr200⟩
            replace B := B.ext0 e202
            clear e202
            have hc203 := fopC hr200 (cn_nearest .f32 (v195 - 4)) (cnLit (k := .f32) (t := 1082130432) (by kernel_rfl) (by kernel_rfl))
            refine s_y (v := .float .f32 r199) rfl (y_assign rfl) ?_
            refine s_nil ?_
            refine W_seq ?_
            have B0_208 := B
            refine W_draw (no) T36.mx (by kernel_rfl) (fun w206 e207 => ?_)
            have R209 := Ext.refl (no) w201
            replace R209 := R209.trans (Ext0.any e207)
            replace B := B.ext0 e207
            clear e207
            refine m_y (v := .pointer (some ⟨b1, 2, none⟩)) 0 rfl (by kernel_rfl) rfl rfl (fun w' e' => y_fld (o := 0) T36.fld_26_2_2 rfl) ?_
            refine m_y (v := .bool false) 1 rfl (by kernel_rfl) rfl rfl (fun w' e' => y_load T36.one_4 rfl (((B0_208.b 6 rfl).ext0 e').cell (j := 2) rfl)) ?_
            refine m_y (v := .bool false) 2 rfl (by kernel_rfl) rfl rfl (fun w' e' => y_move rfl) ?_
            refine m_y (v := .int .i64 k) 3 rfl (by kernel_rfl) rfl rfl (fun w' e' => y_move rfl) ?_
            refine m_y (v := .pointer (some ⟨b1, 0, none⟩)) 4 rfl (by kernel_rfl) rfl rfl (fun w' e' => y_fld (o := 0) T36.fld_26_0_0 rfl) ?_
            refine m_y (v := .int .i64 wd) 5 rfl (by kernel_rfl) rfl rfl (fun w' e' => y_load T36.one_2 rfl (((B0_208.b 6 rfl).ext0 e').cell (j := 0) rfl)) ?_
            have hm210 := rem_b (x := k) (m := wd) (by omega) (by omega)
            refine m_y (v := .int .i64 (k % wd)) 6 rfl (by kernel_rfl) rfl rfl (fun w' e' => y_rem rfl rfl (by omega) (by omega) rfl) ?_
            refine m_y (v := .pointer (some ⟨b1, 0, none⟩)) 7 rfl (by kernel_rfl) rfl rfl (fun w' e' => y_fld (o := 0) T36.fld_26_0_0 rfl) ?_
            refine m_y (v := .int .i64 wd) 8 rfl (by kernel_rfl) rfl rfl (fun w' e' => y_load T36.one_2 rfl (((B0_208.b 6 rfl).ext0 e').cell (j := 0) rfl)) ?_
            refine m_y (v := .int .i64 (wd - 1)) 9 rfl (by kernel_rfl) rfl rfl (fun w' e' => y_sub rfl rfl rfl (by omega)) ?_
            by_cases c211 : (k % wd) < (wd - 1)
            · refine m_y (v := .bool true) 10 rfl (by kernel_rfl) rfl rfl (fun w' e' => y_lss rfl rfl (decide_eq_true c211)) ?_
              refine m_y (v := .bool true) 11 rfl (by kernel_rfl) rfl rfl (fun w' e' => y_pick_f rfl rfl) ?_
              refine m_done (by kernel_rfl) (fun w212 e213 => ?_)
              replace B := B.ext0 e213
              clear e213
              clear B0_208 R209
              refine W_if_t (by decide) rfl ?_
              refine W_region (by kernel_rfl) ?_
              refine s_y (v := .pointer (some ⟨b19, 2, none⟩)) rfl (y_fld (o := 0) T36.fld_30_2_2 rfl) ?_
              refine s_y (v := .slice a16 (Int.toNat (wd * hi)) c17) rfl (y_load T36.one_24 rfl ((B.b 4 rfl).cell (j := 2) rfl)) ?_
              refine s_y (v := .int .i64 k) rfl (y_move rfl) ?_
              refine s_y (v := .float .f32 r199) rfl (y_move rfl) ?_
              refine s_y (v := .pointer (some (sat a16 ((k).toNat * 1)))) rfl (y_idx T36.sl_24_34_1 rfl rfl ((B.o 3 rfl).rd.addr (by omega)) (by omega) (by omega)) ?_
              refine s_k0 rfl (k_stO (k := kF) (i := k) (j := 0) (x' := fop .quo .f32 (FloatKind.nearest .f32 (v195 - 4)) 1082130432) (new := [.float .f32 r199]) T36.sz_34_1 rfl rfl rfl rfl rfl (by simp [Value.oneCell']) (by decide) (B.o 3 rfl) (by omega) (by omega) (by decide) (by rintro q ⟨_, rfl, _⟩; exact ⟨_, rfl, hc203⟩) (fun w214 hU215 => ?_))
              replace B : Bu w no w214 [.ow kF a16 (Int.toNat (wd * hi)) c17 34 (put zY k (fop .quo .f32 (FloatKind.nearest .f32 (v195 - 4)) 1082130432)), .blk b9 [.slice aq nq cq, .int .i64 (((q + 1) + 1) + 1), .int .u64 (sdY Xq (((q + 1) + 1) + 1))] 131, .ow kF a14 (Int.toNat (wd * hi)) c15 34 (put zX k (fop .quo .f32 (FloatKind.nearest .f32 (v172 - 4)) 1082130432)), .ow kF a12 (Int.toNat (wd * hi)) c13 34 (put zE k (fop .quo .f32 (FloatKind.nearest .f32 (v159 - 8)) 1082130432)), .blk b19 [.slice a12 (Int.toNat (wd * hi)) c13, .slice a14 (Int.toNat (wd * hi)) c15, .slice a16 (Int.toNat (wd * hi)) c17] 30, .blk b4 [.slice none 0 0, .slice none 0 0, .slice none 0 0] 30, .blk b1 [.int .i64 wd, .int .i64 hi, .bool false, .slice asp nsp csp, .slice als nls cls] 26, .rd kY aq nq Xq, .rd kF asp nsp Xsp, .rd kF als nls Xls] := B.upd [3] rfl hU215
              clear hU215
              refine s_nil ?_
              refine W_region (by kernel_rfl) ?_
              refine s_y (v := .int .i64 k) rfl (y_move rfl) ?_
              refine s_y (v := .int .i64 (k + 1)) rfl (y_add rfl rfl rfl (by omega)) ?_
              refine s_y (v := .int .i64 (k + 1)) rfl (y_assign rfl) ?_
              refine s_nil ?_
              refine ⟨⟨_, k + 1, ((q + 1) + 1) + 1, _, _, _, Fits.eq ⟨rfl, rfl, rfl, rfl, rfl, rfl, trivial⟩, (B.pick [3, 2, 0, 4, 1, 5, 6, 7, 8, 9] rfl rfl), (by omega), (by omega), (by omega), (by omega), (by first | exact hzE | (simp only [put_length]; exact hzE)), (by first | exact hzX | (simp only [put_length]; exact hzX)), (by first | exact hzY | (simp only [put_length]; exact hzY)), (gqL_put gzE (by omega) (by omega) (by omega) (qv_gq (by omega) (by omega))), (gqL_put gzX (by omega) (by omega) (by omega) (qv_gq (by omega) (by omega))), (gqL_put gzY (by omega) (by omega) (by omega) (qv_gq (by omega) (by omega))), (edP_Y (by omega) (by omega) (by omega) (Or.inr c211) (edP_X (by omega) (by omega) (by omega) (Or.inr c188) (edP_E (by omega) (by omega) (by omega) c41 hed)))⟩, ?_⟩
              show (wd * hi - (k + 1)).toNat < (wd * hi - k).toNat
              omega
            · refine m_y (v := .bool false) 10 rfl (by kernel_rfl) rfl rfl (fun w' e' => y_lss rfl rfl (decide_eq_false c211)) ?_
              refine m_y (v := .bool false) 11 rfl (by kernel_rfl) rfl rfl (fun w' e' => y_pick_f rfl rfl) ?_
              refine m_done (by kernel_rfl) (fun w216 e217 => ?_)
              replace B := B.ext0 e217
              clear e217
              clear B0_208 R209
              refine W_if_f (by decide) rfl ?_
              refine W_skip ?_
              refine W_region (by kernel_rfl) ?_
              refine s_y (v := .int .i64 k) rfl (y_move rfl) ?_
              refine s_y (v := .int .i64 (k + 1)) rfl (y_add rfl rfl rfl (by omega)) ?_
              refine s_y (v := .int .i64 (k + 1)) rfl (y_assign rfl) ?_
              refine s_nil ?_
              refine ⟨⟨_, k + 1, ((q + 1) + 1) + 1, _, _, _, Fits.eq ⟨rfl, rfl, rfl, rfl, rfl, rfl, trivial⟩, (B.pick [2, 1, 3, 4, 0, 5, 6, 7, 8, 9] rfl rfl), (by omega), (by omega), (by omega), (by omega), (by first | exact hzE | (simp only [put_length]; exact hzE)), (by first | exact hzX | (simp only [put_length]; exact hzX)), (by first | exact hzY | (simp only [put_length]; exact hzY)), (gqL_put gzE (by omega) (by omega) (by omega) (qv_gq (by omega) (by omega))), (gqL_put gzX (by omega) (by omega) (by omega) (qv_gq (by omega) (by omega))), gzY, (edP_X (by omega) (by omega) (by omega) (Or.inr c188) (edP_E (by omega) (by omega) (by omega) c41 hed))⟩, ?_⟩
              show (wd * hi - (k + 1)).toNat < (wd * hi - k).toNat
              omega
          · refine m_y (v := .bool false) 10 rfl (by kernel_rfl) rfl rfl (fun w' e' => y_lss rfl rfl (decide_eq_false c188)) ?_
            refine m_y (v := .bool false) 11 rfl (by kernel_rfl) rfl rfl (fun w' e' => y_pick_f rfl rfl) ?_
            refine m_done (by kernel_rfl) (fun w218 e219 => ?_)
            replace B := B.ext0 e219
            clear e219
            clear B0_185 R186
            refine W_if_f (by decide) rfl ?_
            refine W_skip ?_
            refine W_seq ?_
            refine W_region (by kernel_rfl) ?_
            refine s_y (v := .pointer (some ⟨b9, 0, none⟩)) rfl (y_move rfl) ?_
            refine s_k rfl (k_call T36.fn_81 (c_s_pick (by omega) (by omega) (by omega) (by omega) (B.all.pick [0, 7] rfl) (B.pw.pick [0, 7] rfl rfl)) rfl ?_)
            rintro _ w220 ⟨v222, rfl, hp223, hU221⟩
            replace B : Bu w no w220 [.blk b9 [.slice aq nq cq, .int .i64 (((q + 1) + 1) + 1), .int .u64 (sdY Xq (((q + 1) + 1) + 1))] 131, .ow kF a12 (Int.toNat (wd * hi)) c13 34 (put zE k (fop .quo .f32 (FloatKind.nearest .f32 (v159 - 8)) 1082130432)), .ow kF a14 (Int.toNat (wd * hi)) c15 34 zX, .ow kF a16 (Int.toNat (wd * hi)) c17 34 zY, .blk b19 [.slice a12 (Int.toNat (wd * hi)) c13, .slice a14 (Int.toNat (wd * hi)) c15, .slice a16 (Int.toNat (wd * hi)) c17] 30, .blk b4 [.slice none 0 0, .slice none 0 0, .slice none 0 0] 30, .blk b1 [.int .i64 wd, .int .i64 hi, .bool false, .slice asp nsp csp, .slice als nls cls] 26, .rd kY aq nq Xq, .rd kF asp nsp Xsp, .rd kF als nls Xls] := B.upd [0] rfl hU221
            clear hU221
            have hb224 := pk_b Xq (n := 9) ((q + 1) + 1) (by omega)
            rw [← hp223] at hb224
            refine s_y (v := .int .i64 (v222 - 4)) rfl (y_sub rfl rfl rfl (by omega)) ?_
            refine s_y (v := .float .f32 (FloatKind.nearest .f32 (v222 - 4))) rfl (y_if T36.und_2 T36.flt_34_f32 rfl) ?_
            refine s_n rfl (n_arith (by decide) rfl rfl) ?_
            rintro _ w228 e229 ⟨r226, rfl, hr227⟩
            replace B := B.ext0 e229
            clear e229
            have hc230 := fopC hr227 (cn_nearest .f32 (v222 - 4)) (cnLit (k := .f32) (t := 1082130432) (by kernel_rfl) (by kernel_rfl))
            refine s_y (v := .float .f32 r226) rfl (y_assign rfl) ?_
            refine s_nil ?_
            refine W_seq ?_
            have B0_235 := B
            refine W_draw (no) T36.mx (by kernel_rfl) (fun w233 e234 => ?_)
            have R236 := Ext.refl (no) w228
            replace R236 := R236.trans (Ext0.any e234)
            replace B := B.ext0 e234
            clear e234
            refine m_y (v := .pointer (some ⟨b1, 2, none⟩)) 0 rfl (by kernel_rfl) rfl rfl (fun w' e' => y_fld (o := 0) T36.fld_26_2_2 rfl) ?_
            refine m_y (v := .bool false) 1 rfl (by kernel_rfl) rfl rfl (fun w' e' => y_load T36.one_4 rfl (((B0_235.b 6 rfl).ext0 e').cell (j := 2) rfl)) ?_
            refine m_y (v := .bool false) 2 rfl (by kernel_rfl) rfl rfl (fun w' e' => y_move rfl) ?_
            refine m_y (v := .int .i64 k) 3 rfl (by kernel_rfl) rfl rfl (fun w' e' => y_move rfl) ?_
            refine m_y (v := .pointer (some ⟨b1, 0, none⟩)) 4 rfl (by kernel_rfl) rfl rfl (fun w' e' => y_fld (o := 0) T36.fld_26_0_0 rfl) ?_
            refine m_y (v := .int .i64 wd) 5 rfl (by kernel_rfl) rfl rfl (fun w' e' => y_load T36.one_2 rfl (((B0_235.b 6 rfl).ext0 e').cell (j := 0) rfl)) ?_
            have hm237 := rem_b (x := k) (m := wd) (by omega) (by omega)
            refine m_y (v := .int .i64 (k % wd)) 6 rfl (by kernel_rfl) rfl rfl (fun w' e' => y_rem rfl rfl (by omega) (by omega) rfl) ?_
            refine m_y (v := .pointer (some ⟨b1, 0, none⟩)) 7 rfl (by kernel_rfl) rfl rfl (fun w' e' => y_fld (o := 0) T36.fld_26_0_0 rfl) ?_
            refine m_y (v := .int .i64 wd) 8 rfl (by kernel_rfl) rfl rfl (fun w' e' => y_load T36.one_2 rfl (((B0_235.b 6 rfl).ext0 e').cell (j := 0) rfl)) ?_
            refine m_y (v := .int .i64 (wd - 1)) 9 rfl (by kernel_rfl) rfl rfl (fun w' e' => y_sub rfl rfl rfl (by omega)) ?_
            by_cases c238 : (k % wd) < (wd - 1)
            · refine m_y (v := .bool true) 10 rfl (by kernel_rfl) rfl rfl (fun w' e' => y_lss rfl rfl (decide_eq_true c238)) ?_
              refine m_y (v := .bool true) 11 rfl (by kernel_rfl) rfl rfl (fun w' e' => y_pick_f rfl rfl) ?_
              refine m_done (by kernel_rfl) (fun w239 e240 => ?_)
              replace B := B.ext0 e240
              clear e240
              clear B0_235 R236
              refine W_if_t (by decide) rfl ?_
              refine W_region (by kernel_rfl) ?_
              refine s_y (v := .pointer (some ⟨b19, 2, none⟩)) rfl (y_fld (o := 0) T36.fld_30_2_2 rfl) ?_
              refine s_y (v := .slice a16 (Int.toNat (wd * hi)) c17) rfl (y_load T36.one_24 rfl ((B.b 4 rfl).cell (j := 2) rfl)) ?_
              refine s_y (v := .int .i64 k) rfl (y_move rfl) ?_
              refine s_y (v := .float .f32 r226) rfl (y_move rfl) ?_
              refine s_y (v := .pointer (some (sat a16 ((k).toNat * 1)))) rfl (y_idx T36.sl_24_34_1 rfl rfl ((B.o 3 rfl).rd.addr (by omega)) (by omega) (by omega)) ?_
              refine s_k0 rfl (k_stO (k := kF) (i := k) (j := 0) (x' := fop .quo .f32 (FloatKind.nearest .f32 (v222 - 4)) 1082130432) (new := [.float .f32 r226]) T36.sz_34_1 rfl rfl rfl rfl rfl (by simp [Value.oneCell']) (by decide) (B.o 3 rfl) (by omega) (by omega) (by decide) (by rintro q ⟨_, rfl, _⟩; exact ⟨_, rfl, hc230⟩) (fun w241 hU242 => ?_))
              replace B : Bu w no w241 [.ow kF a16 (Int.toNat (wd * hi)) c17 34 (put zY k (fop .quo .f32 (FloatKind.nearest .f32 (v222 - 4)) 1082130432)), .blk b9 [.slice aq nq cq, .int .i64 (((q + 1) + 1) + 1), .int .u64 (sdY Xq (((q + 1) + 1) + 1))] 131, .ow kF a12 (Int.toNat (wd * hi)) c13 34 (put zE k (fop .quo .f32 (FloatKind.nearest .f32 (v159 - 8)) 1082130432)), .ow kF a14 (Int.toNat (wd * hi)) c15 34 zX, .blk b19 [.slice a12 (Int.toNat (wd * hi)) c13, .slice a14 (Int.toNat (wd * hi)) c15, .slice a16 (Int.toNat (wd * hi)) c17] 30, .blk b4 [.slice none 0 0, .slice none 0 0, .slice none 0 0] 30, .blk b1 [.int .i64 wd, .int .i64 hi, .bool false, .slice asp nsp csp, .slice als nls cls] 26, .rd kY aq nq Xq, .rd kF asp nsp Xsp, .rd kF als nls Xls] := B.upd [3] rfl hU242
              clear hU242
              refine s_nil ?_
              refine W_region (by kernel_rfl) ?_
              refine s_y (v := .int .i64 k) rfl (y_move rfl) ?_
              refine s_y (v := .int .i64 (k + 1)) rfl (y_add rfl rfl rfl (by omega)) ?_
              refine s_y (v := .int .i64 (k + 1)) rfl (y_assign rfl) ?_
              refine s_nil ?_
              refine ⟨⟨_, k + 1, ((q + 1) + 1) + 1, _, _, _, Fits.eq ⟨rfl, rfl, rfl, rfl, rfl, rfl, trivial⟩, (B.pick [2, 3, 0, 4, 1, 5, 6, 7, 8, 9] rfl rfl), (by omega), (by omega), (by omega), (by omega), (by first | exact hzE | (simp only [put_length]; exact hzE)), (by first | exact hzX | (simp only [put_length]; exact hzX)), (by first | exact hzY | (simp only [put_length]; exact hzY)), (gqL_put gzE (by omega) (by omega) (by omega) (qv_gq (by omega) (by omega))), gzX, (gqL_put gzY (by omega) (by omega) (by omega) (qv_gq (by omega) (by omega))), (edP_Y (by omega) (by omega) (by omega) (Or.inr c238) (edP_E (by omega) (by omega) (by omega) c41 hed))⟩, ?_⟩
              show (wd * hi - (k + 1)).toNat < (wd * hi - k).toNat
              omega
            · refine m_y (v := .bool false) 10 rfl (by kernel_rfl) rfl rfl (fun w' e' => y_lss rfl rfl (decide_eq_false c238)) ?_
              refine m_y (v := .bool false) 11 rfl (by kernel_rfl) rfl rfl (fun w' e' => y_pick_f rfl rfl) ?_
              refine m_done (by kernel_rfl) (fun w243 e244 => ?_)
              replace B := B.ext0 e244
              clear e244
              clear B0_235 R236
              refine W_if_f (by decide) rfl ?_
              refine W_skip ?_
              refine W_region (by kernel_rfl) ?_
              refine s_y (v := .int .i64 k) rfl (y_move rfl) ?_
              refine s_y (v := .int .i64 (k + 1)) rfl (y_add rfl rfl rfl (by omega)) ?_
              refine s_y (v := .int .i64 (k + 1)) rfl (y_assign rfl) ?_
              refine s_nil ?_
              refine ⟨⟨_, k + 1, ((q + 1) + 1) + 1, _, _, _, Fits.eq ⟨rfl, rfl, rfl, rfl, rfl, rfl, trivial⟩, (B.pick [1, 2, 3, 4, 0, 5, 6, 7, 8, 9] rfl rfl), (by omega), (by omega), (by omega), (by omega), (by first | exact hzE | (simp only [put_length]; exact hzE)), (by first | exact hzX | (simp only [put_length]; exact hzX)), (by first | exact hzY | (simp only [put_length]; exact hzY)), (gqL_put gzE (by omega) (by omega) (by omega) (qv_gq (by omega) (by omega))), gzX, gzY, (edP_E (by omega) (by omega) (by omega) c41 hed)⟩, ?_⟩
              show (wd * hi - (k + 1)).toNat < (wd * hi - k).toNat
              omega
        · refine m_skip 3 rfl (by kernel_rfl) rfl ?_
          refine m_skip 4 rfl (by kernel_rfl) rfl ?_
          refine m_skip 5 rfl (by kernel_rfl) rfl ?_
          refine m_skip 6 rfl (by kernel_rfl) rfl ?_
          refine m_skip 7 rfl (by kernel_rfl) rfl ?_
          refine m_skip 8 rfl (by kernel_rfl) rfl ?_
          refine m_skip 9 rfl (by kernel_rfl) rfl ?_
          refine m_skip 10 rfl (by kernel_rfl) rfl ?_
          refine m_y (v := .bool true) 11 rfl (by kernel_rfl) rfl rfl (fun w' e' => y_pick_t rfl rfl) ?_
          refine m_done (by kernel_rfl) (fun w245 e246 => ?_)
          replace B := B.ext0 e246
          clear e246
          clear B0_185 R186
          refine W_if_t (by decide) rfl ?_
          refine W_region (by kernel_rfl) ?_
          refine s_y (v := .pointer (some ⟨b19, 1, none⟩)) rfl (y_fld (o := 0) T36.fld_30_1_1 rfl) ?_
          refine s_y (v := .slice a14 (Int.toNat (wd * hi)) c15) rfl (y_load T36.one_24 rfl ((B.b 4 rfl).cell (j := 1) rfl)) ?_
          refine s_y (v := .int .i64 k) rfl (y_move rfl) ?_
          refine s_y (v := .float .f32 r176) rfl (y_move rfl) ?_
          refine s_y (v := .pointer (some (sat a14 ((k).toNat * 1)))) rfl (y_idx T36.sl_24_34_1 rfl rfl ((B.o 2 rfl).rd.addr (by omega)) (by omega) (by omega)) ?_
          refine s_k0 rfl (k_stO (k := kF) (i := k) (j := 0) (x' := fop .quo .f32 (FloatKind.nearest .f32 (v172 - 4)) 1082130432) (new := [.float .f32 r176]) T36.sz_34_1 rfl rfl rfl rfl rfl (by simp [Value.oneCell']) (by decide) (B.o 2 rfl) (by omega) (by omega) (by decide) (by rintro q ⟨_, rfl, _⟩; exact ⟨_, rfl, hc180⟩) (fun w247 hU248 => ?_))
          replace B : Bu w no w247 [.ow kF a14 (Int.toNat (wd * hi)) c15 34 (put zX k (fop .quo .f32 (FloatKind.nearest .f32 (v172 - 4)) 1082130432)), .blk b9 [.slice aq nq cq, .int .i64 ((q + 1) + 1), .int .u64 (sdY Xq ((q + 1) + 1))] 131, .ow kF a12 (Int.toNat (wd * hi)) c13 34 (put zE k (fop .quo .f32 (FloatKind.nearest .f32 (v159 - 8)) 1082130432)), .ow kF a16 (Int.toNat (wd * hi)) c17 34 zY, .blk b19 [.slice a12 (Int.toNat (wd * hi)) c13, .slice a14 (Int.toNat (wd * hi)) c15, .slice a16 (Int.toNat (wd * hi)) c17] 30, .blk b4 [.slice none 0 0, .slice none 0 0, .slice none 0 0] 30, .blk b1 [.int .i64 wd, .int .i64 hi, .bool true, .slice asp nsp csp, .slice als nls cls] 26, .rd kY aq nq Xq, .rd kF asp nsp Xsp, .rd kF als nls Xls] := B.upd [2] rfl hU248
          clear hU248
          refine s_nil ?_
          refine W_seq ?_
          refine W_region (by kernel_rfl) ?_
          refine s_y (v := .pointer (some ⟨b9, 0, none⟩)) rfl (y_move rfl) ?_
          refine s_k rfl (k_call T36.fn_81 (c_s_pick (by omega) (by omega) (by omega) (by omega) (B.all.pick [1, 7] rfl) (B.pw.pick [1, 7] rfl rfl)) rfl ?_)
          rintro _ w249 ⟨v251, rfl, hp252, hU250⟩
          replace B : Bu w no w249 [.blk b9 [.slice aq nq cq, .int .i64 (((q + 1) + 1) + 1), .int .u64 (sdY Xq (((q + 1) + 1) + 1))] 131, .ow kF a14 (Int.toNat (wd * hi)) c15 34 (put zX k (fop .quo .f32 (FloatKind.nearest .f32 (v172 - 4)) 1082130432)), .ow kF a12 (Int.toNat (wd * hi)) c13 34 (put zE k (fop .quo .f32 (FloatKind.nearest .f32 (v159 - 8)) 1082130432)), .ow kF a16 (Int.toNat (wd * hi)) c17 34 zY, .blk b19 [.slice a12 (Int.toNat (wd * hi)) c13, .slice a14 (Int.toNat (wd * hi)) c15, .slice a16 (Int.toNat (wd * hi)) c17] 30, .blk b4 [.slice none 0 0, .slice none 0 0, .slice none 0 0] 30, .blk b1 [.int .i64 wd, .int .i64 hi, .bool true, .slice asp nsp csp, .slice als nls cls] 26, .rd kY aq nq Xq, .rd kF asp nsp Xsp, .rd kF als nls Xls] := B.upd [1] rfl hU250
          clear hU250
          have hb253 := pk_b Xq (n := 9) ((q + 1) + 1) (by omega)
          rw [← hp252] at hb253
          refine s_y (v := .int .i64 (v251 - 4)) rfl (y_sub rfl rfl rfl (by omega)) ?_
          refine s_y (v := .float .f32 (FloatKind.nearest .f32 (v251 - 4))) rfl (y_if T36.und_2 T36.flt_34_f32 rfl) ?_
          refine s_n rfl (n_arith (by decide) rfl rfl) ?_
          rintro _ w257 e258 ⟨r255, rfl, hr256⟩
          replace B := B.ext0 e258
          clear e258
          have hc259 := fopC hr256 (cn_nearest .f32 (v251 - 4)) (cnLit (k := .f32) (t := 1082130432) (by kernel_rfl) (by kernel_rfl))
          refine s_y (v := .float .f32 r255) rfl (y_assign rfl) ?_
          refine s_nil ?_
          refine W_seq ?_
          have B0_264 := B
          refine W_draw (no) T36.mx (by kernel_rfl) (fun w262 e263 => ?_)
          have R265 := Ext.refl (no) w257
          replace R265 := R265.trans (Ext0.any e263)
          replace B := B.ext0 e263
          clear e263
          refine m_y (v := .pointer (some ⟨b1, 2, none⟩)) 0 rfl (by kernel_rfl) rfl rfl (fun w' e' => y_fld (o := 0) T36.fld_26_2_2 rfl) ?_
          refine m_y (v := .bool true) 1 rfl (by kernel_rfl) rfl rfl (fun w' e' => y_load T36.one_4 rfl (((B0_264.b 6 rfl).ext0 e').cell (j := 2) rfl)) ?_
          refine m_y (v := .bool true) 2 rfl (by kernel_rfl) rfl rfl (fun w' e' => y_move rfl) ?_
          refine m_skip 3 rfl (by kernel_rfl) rfl ?_
          refine m_skip 4 rfl (by kernel_rfl) rfl ?_
          refine m_skip 5 rfl (by kernel_rfl) rfl ?_
          refine m_skip 6 rfl (by kernel_rfl) rfl ?_
          refine m_skip 7 rfl (by kernel_rfl) rfl ?_
          refine m_skip 8 rfl (by kernel_rfl) rfl ?_
          refine m_skip 9 rfl (by kernel_rfl) rfl ?_
          refine m_skip 10 rfl (by kernel_rfl) rfl ?_
          refine m_y (v := .bool true) 11 rfl (by kernel_rfl) rfl rfl (fun w' e' => y_pick_t rfl rfl) ?_
          refine m_done (by kernel_rfl) (fun w266 e267 => ?_)
          replace B := B.ext0 e267
          clear e267
          clear B0_264 R265
          refine W_if_t (by decide) rfl ?_
          refine W_region (by kernel_rfl) ?_
          refine s_y (v := .pointer (some ⟨b19, 2, none⟩)) rfl (y_fld (o := 0) T36.fld_30_2_2 rfl) ?_
          refine s_y (v := .slice a16 (Int.toNat (wd * hi)) c17) rfl (y_load T36.one_24 rfl ((B.b 4 rfl).cell (j := 2) rfl)) ?_
          refine s_y (v := .int .i64 k) rfl (y_move rfl) ?_
          refine s_y (v := .float .f32 r255) rfl (y_move rfl) ?_
          refine s_y (v := .pointer (some (sat a16 ((k).toNat * 1)))) rfl (y_idx T36.sl_24_34_1 rfl rfl ((B.o 3 rfl).rd.addr (by omega)) (by omega) (by omega)) ?_
          refine s_k0 rfl (k_stO (k := kF) (i := k) (j := 0) (x' := fop .quo .f32 (FloatKind.nearest .f32 (v251 - 4)) 1082130432) (new := [.float .f32 r255]) T36.sz_34_1 rfl rfl rfl rfl rfl (by simp [Value.oneCell']) (by decide) (B.o 3 rfl) (by omega) (by omega) (by decide) (by rintro q ⟨_, rfl, _⟩; exact ⟨_, rfl, hc259⟩) (fun w268 hU269 => ?_))
          replace B : Bu w no w268 [.ow kF a16 (Int.toNat (wd * hi)) c17 34 (put zY k (fop .quo .f32 (FloatKind.nearest .f32 (v251 - 4)) 1082130432)), .blk b9 [.slice aq nq cq, .int .i64 (((q + 1) + 1) + 1), .int .u64 (sdY Xq (((q + 1) + 1) + 1))] 131, .ow kF a14 (Int.toNat (wd * hi)) c15 34 (put zX k (fop .quo .f32 (FloatKind.nearest .f32 (v172 - 4)) 1082130432)), .ow kF a12 (Int.toNat (wd * hi)) c13 34 (put zE k (fop .quo .f32 (FloatKind.nearest .f32 (v159 - 8)) 1082130432)), .blk b19 [.slice a12 (Int.toNat (wd * hi)) c13, .slice a14 (Int.toNat (wd * hi)) c15, .slice a16 (Int.toNat (wd * hi)) c17] 30, .blk b4 [.slice none 0 0, .slice none 0 0, .slice none 0 0] 30, .blk b1 [.int .i64 wd, .int .i64 hi, .bool true, .slice asp nsp csp, .slice als nls cls] 26, .rd kY aq nq Xq, .rd kF asp nsp Xsp, .rd kF als nls Xls] := B.upd [3] rfl hU269
          clear hU269
          refine s_nil ?_
          refine W_region (by kernel_rfl) ?_
          refine s_y (v := .int .i64 k) rfl (y_move rfl) ?_
          refine s_y (v := .int .i64 (k + 1)) rfl (y_add rfl rfl rfl (by omega)) ?_
          refine s_y (v := .int .i64 (k + 1)) rfl (y_assign rfl) ?_
          refine s_nil ?_
          refine ⟨⟨_, k + 1, ((q + 1) + 1) + 1, _, _, _, Fits.eq ⟨rfl, rfl, rfl, rfl, rfl, rfl, trivial⟩, (B.pick [3, 2, 0, 4, 1, 5, 6, 7, 8, 9] rfl rfl), (by omega), (by omega), (by omega), (by omega), (by first | exact hzE | (simp only [put_length]; exact hzE)), (by first | exact hzX | (simp only [put_length]; exact hzX)), (by first | exact hzY | (simp only [put_length]; exact hzY)), (gqL_put gzE (by omega) (by omega) (by omega) (qv_gq (by omega) (by omega))), (gqL_put gzX (by omega) (by omega) (by omega) (qv_gq (by omega) (by omega))), (gqL_put gzY (by omega) (by omega) (by omega) (qv_gq (by omega) (by omega))), (edP_Y (by omega) (by omega) (by omega) (Or.inl rfl) (edP_X (by omega) (by omega) (by omega) (Or.inl rfl) (edP_E (by omega) (by omega) (by omega) c41 hed)))⟩, ?_⟩
          show (wd * hi - (k + 1)).toNat < (wd * hi - k).toNat
          omega
    · refine s_y (v := .bool false) rfl (y_lss rfl rfl (decide_eq_false c26)) ?_
      refine s_nil ?_
      refine W_if_f (by decide) rfl ?_
      refine W_exit ?_
      refine W_seq ?_
      refine W_region (by kernel_rfl) ?_
      refine s_y (v := .agg #[.slice a12 (Int.toNat (wd * hi)) c13, .slice a14 (Int.toNat (wd * hi)) c15, .slice a16 (Int.toNat (wd * hi)) c17]) rfl (y_loadn (b := b19) (o := 0) (vs := [.slice a12 (Int.toNat (wd * hi)) c13, .slice a14 (Int.toNat (wd * hi)) c15, .slice a16 (Int.toNat (wd * hi)) c17]) T36.agg_30_3 rfl rfl ((B.b 3 rfl).cells (o := 0) rfl)) ?_
      refine s_k0 rfl (k_stB (v := .agg #[.slice a12 (Int.toNat (wd * hi)) c13, .slice a14 (Int.toNat (wd * hi)) c15, .slice a16 (Int.toNat (wd * hi)) c17]) (n := 3) (cs' := [.slice a12 (Int.toNat (wd * hi)) c13, .slice a14 (Int.toNat (wd * hi)) c15, .slice a16 (Int.toNat (wd * hi)) c17]) T36.sz_30_3 rfl rfl rfl (B.b 5 rfl) (by simp [Value.cells, Value.oneCell']) (Nat.le_of_ble_eq_true rfl) rfl (fun w270 hU271 => ?_))
      replace B : Bu w no w270 [.blk b4 [.slice a12 (Int.toNat (wd * hi)) c13, .slice a14 (Int.toNat (wd * hi)) c15, .slice a16 (Int.toNat (wd * hi)) c17] 30, .ow kF a12 (Int.toNat (wd * hi)) c13 34 zE, .ow kF a14 (Int.toNat (wd * hi)) c15 34 zX, .ow kF a16 (Int.toNat (wd * hi)) c17 34 zY, .blk b19 [.slice a12 (Int.toNat (wd * hi)) c13, .slice a14 (Int.toNat (wd * hi)) c15, .slice a16 (Int.toNat (wd * hi)) c17] 30, .blk b9 [.slice aq nq cq, .int .i64 q, .int .u64 (sdY Xq q)] 131, .blk b1 [.int .i64 wd, .int .i64 hi, .bool wr, .slice asp nsp csp, .slice als nls cls] 26, .rd kY aq nq Xq, .rd kF asp nsp Xsp, .rd kF als nls Xls] := B.upd [5] rfl hU271
      clear hU271
      refine s_nil ?_
      refine W_ret ?_
      refine ret1 (v := .agg #[.slice a12 (Int.toNat (wd * hi)) c13, .slice a14 (Int.toNat (wd * hi)) c15, .slice a16 (Int.toNat (wd * hi)) c17]) rfl rfl ⟨_, [.slice a12 (Int.toNat (wd * hi)) c13, .slice a14 (Int.toNat (wd * hi)) c15, .slice a16 (Int.toNat (wd * hi)) c17], _, rfl, (B.b 0 rfl), T36.agg_30_3, rfl⟩ ⟨_, rfl, ?_⟩
      exact ⟨_, _, _, _, _, _, _, _, _, _, _, _, rfl, (field_O hv (by omega) (by omega) (by omega) hed), (And.intro gzE (And.intro gzX gzY)), B.give [1, 2, 3] rfl rfl rfl⟩
namespace T24
theorem mx : Try.prog.follows .mixedOrders = true := by kernel_rfl
theorem int_2_i64 : Try.prog.underlying 2 = some (.int .i64) := by kernel_rfl
theorem one_5 : oneB Try.prog 5 = true := by kernel_rfl
theorem sl_22_5_1 : slB Try.prog 22 5 1 = true := by kernel_rfl
theorem und_5 : (Try.prog.underlying 5).isSome = true := by kernel_rfl
end T24
set_option maxRecDepth 100000 in
set_option maxHeartbeats 4000000 in
theorem c_l_r8At {aq : Option Addr} {nq : Nat} {cq : Nat} {Xq : List Nat} {k : Int} {n : Int} {w : World} (qq : Rd w kY aq nq Xq) (k0 : 0 ≤ k) (n0 : 1 ≤ n) (gq : nq ≤ 9223372036854775807) :
    Calls Try.prog 24 #[.slice aq nq cq, .int .i64 k, .int .i64 n] w (Rt fun v w' => ∃ uv : Int, v = .int .i64 uv ∧ uv = r8A Xq k n ∧ Ext0 w w') := by
  have hlq := qq.len
  have B : Bu w no w [.rd kY aq nq Xq] := Bu.ro (All.cons qq All.nil) rfl
  refine calls_W (n := 22) Try.func24 rfl rfl (Nat.le_of_ble_eq_true rfl) ?_
  refine W_seq ?_
  refine W_region (by kernel_rfl) ?_
  refine s_y (v := .int .i64 0) rfl (y_assign rfl) ?_
  refine s_nil ?_
  refine W_seq ?_
  refine W_seq ?_
  refine W_region (by kernel_rfl) ?_
  refine s_y (v := .int .i64 n) rfl (y_move rfl) ?_
  by_cases c1 : n ≤ 1
  · refine s_y (v := .bool true) rfl (y_leq rfl rfl (decide_eq_true c1)) ?_
    refine s_y (v := .bool true) rfl (y_move rfl) ?_
    refine s_skip rfl ?_
    refine s_skip rfl ?_
    refine s_skip rfl ?_
    refine s_skip rfl ?_
    refine s_y (v := .bool true) rfl (y_pick_t rfl rfl) ?_
    refine s_nil ?_
    refine W_if_t (by decide) rfl ?_
    refine W_seq ?_
    refine W_region (by kernel_rfl) ?_
    refine s_y (v := .int .i64 0) rfl (y_assign rfl) ?_
    refine s_nil ?_
    refine W_ret ?_
    refine ret1 (v := .int .i64 0) rfl rfl rfl ⟨_, rfl, ?_⟩
    exact ⟨_, rfl, (r8A_zero hlq (by omega)).symm, B.ext⟩
  · refine s_y (v := .bool false) rfl (y_leq rfl rfl (decide_eq_false c1)) ?_
    refine s_y (v := .bool false) rfl (y_move rfl) ?_
    refine s_y (v := .int .i64 k) rfl (y_move rfl) ?_
    refine s_y (v := .slice aq nq cq) rfl (y_move rfl) ?_
    refine s_y (v := .int .i64 ((nq : Nat) : Int)) rfl (y_len T24.sl_22_5_1 rfl rfl) ?_
    by_cases c2 : ((nq : Nat) : Int) ≤ k
    · refine s_y (v := .bool true) rfl (y_geq rfl rfl (decide_eq_true c2)) ?_
      refine s_y (v := .bool true) rfl (y_pick_f rfl rfl) ?_
      refine s_nil ?_
      refine W_if_t (by decide) rfl ?_
      refine W_seq ?_
      refine W_region (by kernel_rfl) ?_
      refine s_y (v := .int .i64 0) rfl (y_assign rfl) ?_
      refine s_nil ?_
      refine W_ret ?_
      refine ret1 (v := .int .i64 0) rfl rfl rfl ⟨_, rfl, ?_⟩
      exact ⟨_, rfl, (r8A_zero hlq (by omega)).symm, B.ext⟩
    · refine s_y (v := .bool false) rfl (y_geq rfl rfl (decide_eq_false c2)) ?_
      refine s_y (v := .bool false) rfl (y_pick_f rfl rfl) ?_
      refine s_nil ?_
      refine W_if_f (by decide) rfl ?_
      refine W_skip ?_
      refine W_seq ?_
      refine W_region (by kernel_rfl) ?_
      refine s_y (v := .slice aq nq cq) rfl (y_move rfl) ?_
      refine s_y (v := .int .i64 k) rfl (y_move rfl) ?_
      refine s_y (v := .pointer (some (sat aq ((k).toNat * 1)))) rfl (y_idx T24.sl_22_5_1 rfl rfl ((B.r 0 rfl).addr (by omega)) (by omega) (by omega)) ?_
      obtain ⟨hb4, hR3⟩ := Rd.atY (B.r 0 rfl) k (by omega) (by omega)
      refine s_y (v := .int .u8 (byt Xq k)) rfl (y_load T24.one_5 rfl (hR3.cell (i := 0) rfl)) ?_
      refine s_y (v := .int .i64 (byt Xq k)) rfl (y_ii T24.und_5 T24.int_2_i64 rfl (IntWalk.i64_in _ (by omega))) ?_
      refine s_y (v := .int .i64 n) rfl (y_move rfl) ?_
      have hm5 := rem_b (x := byt Xq k) (m := n) (by omega) (by omega)
      refine s_y (v := .int .i64 ((byt Xq k) % n)) rfl (y_rem rfl rfl (by omega) (by omega) rfl) ?_
      refine s_y (v := .int .i64 ((byt Xq k) % n)) rfl (y_assign rfl) ?_
      refine s_nil ?_
      refine W_ret ?_
      refine ret1 (v := .int .i64 ((byt Xq k) % n)) rfl rfl rfl ⟨_, rfl, ?_⟩
      exact ⟨_, rfl, (r8A_at hlq (by omega) (by omega)).symm, B.ext⟩
namespace T117
theorem mx : Try.prog.follows .mixedOrders = true := by kernel_rfl
theorem slt_24 : SlT Try.prog 24 34 1 4 (.float .f32 0) := ⟨by kernel_rfl, by kernel_rfl, rfl, by decide⟩
end T117
set_option maxRecDepth 100000 in
set_option maxHeartbeats 4000000 in
theorem c_i_copyOf {a : Option Addr} {n : Nat} {c : Nat} {X : List Nat} {w : World} (q : Rd w kF a n X) (hb : n ≤ 1048576) :
    Calls Try.prog 117 #[.slice a n c] w (Rt fun v w' => ∃ (a1 : Option Addr) (c1 : Nat), v = .slice a1 n c1 ∧ New w w' [.ow kF a1 n c1 34 X]) := by
  have hl := q.len
  have B : Bu w no w [.rd kF a n X] := Bu.ro (All.cons q All.nil) rfl
  refine calls_W (n := 6) Try.func117 rfl rfl (Nat.le_of_ble_eq_true rfl) ?_
  refine W_seq ?_
  refine W_region (by kernel_rfl) ?_
  refine s_y (v := .slice none 0 0) rfl (y_assign rfl) ?_
  refine s_nil ?_
  refine W_seq ?_
  refine W_region (by kernel_rfl) ?_
  refine s_k rfl (k_bsliceO (k := kF) (n := 0) (cells := #[]) (X := []) T117.slt_24 (by decide) (by first | rfl | kernel_rfl) (rfl : Reps kF [] []) rfl (fun b1 w2 hN3 => ?_))
  replace B := B.new1 hN3
  clear hN3
  refine s_y (v := .slice a n c) rfl (y_move rfl) ?_
  refine s_k rfl (k_appO (k := kF) T117.slt_24 rfl rfl rfl (B.o 0 rfl) (B.r 1 rfl) (by omega) (by unfold maxLen; omega) (fun a4 c5 w6 hU7 => ?_))
  replace B : Bu w no w6 [.ow kF a4 (0 + n) c5 34 (([] : List Nat) ++ X), .rd kF a n X] := B.upd [0] rfl hU7
  clear hU7
  refine s_y (v := .slice a4 (0 + n) c5) rfl (y_assign rfl) ?_
  refine s_nil ?_
  refine W_ret ?_
  refine ret1 (v := .slice a4 (0 + n) c5) rfl rfl rfl ⟨_, rfl, ?_⟩
  replace B : Bu w no w6 [.ow kF a4 n c5 34 X, .rd kF a n X] := B.castX 0 rfl (by omega) rfl
  exact ⟨_, _, (by rw [(show 0 + n = n from (by omega))]), B.give [0] rfl rfl rfl⟩
namespace T68
theorem mx : Try.prog.follows .mixedOrders = true := by kernel_rfl
theorem agg_30_3 : aggB Try.prog 30 3 = true := by kernel_rfl
theorem fld_30_0_0 : fldB Try.prog 30 0 0 = true := by kernel_rfl
theorem fld_30_1_1 : fldB Try.prog 30 1 1 = true := by kernel_rfl
theorem fld_30_2_2 : fldB Try.prog 30 2 2 = true := by kernel_rfl
theorem fn_117 : fnB Try.prog 117 = true := by kernel_rfl
theorem one_24 : oneB Try.prog 24 = true := by kernel_rfl
theorem sz_30_3 : szB Try.prog 30 3 = true := by kernel_rfl
theorem zero_30 : zeroB Try.prog 30 (.agg #[.slice none 0 0, .slice none 0 0, .slice none 0 0]) := by unfold zeroB; kernel_rfl
end T68
set_option maxRecDepth 100000 in
set_option maxHeartbeats 4000000 in
theorem c_i_copyField {afe : Option Addr} {nfe : Nat} {cfe : Nat} {Xfe : List Nat} {afx : Option Addr} {nfx : Nat} {cfx : Nat} {Xfx : List Nat} {afy : Option Addr} {nfy : Nat} {cfy : Nat} {Xfy : List Nat} {w : World} (qfe : Rd w kF afe nfe Xfe) (qfx : Rd w kF afx nfx Xfx) (qfy : Rd w kF afy nfy Xfy) (b1 : nfe ≤ 1048576) (b2 : nfx ≤ 1048576) (b3 : nfy ≤ 1048576) :
    Calls Try.prog 68 #[.agg #[.slice afe nfe cfe, .slice afx nfx cfx, .slice afy nfy cfy]] w (Rt fun v w' => ∃ (a1 : Option Addr) (c1 : Nat) (a2 : Option Addr) (c2 : Nat) (a3 : Option Addr) (c3 : Nat), v = .agg #[.slice a1 nfe c1, .slice a2 nfx c2, .slice a3 nfy c3] ∧ New w w' [.ow kF a1 nfe c1 34 Xfe, .ow kF a2 nfx c2 34 Xfx, .ow kF a3 nfy c3 34 Xfy]) := by
  have hlfe := qfe.len
  have hlfx := qfx.len
  have hlfy := qfy.len
  have B : Bu w no w [.rd kF afe nfe Xfe, .rd kF afx nfx Xfx, .rd kF afy nfy Xfy] := Bu.ro (All.cons qfe (All.cons qfx (All.cons qfy All.nil))) rfl
  refine calls_W (n := 13) Try.func68 rfl rfl (Nat.le_of_ble_eq_true rfl) ?_
  refine W_seq ?_
  refine W_region (by kernel_rfl) ?_
  refine s_k rfl (k_boxN (v := .agg #[.slice afe nfe cfe, .slice afx nfx cfx, .slice afy nfy cfy]) (cs := [.slice afe nfe cfe, .slice afx nfx cfx, .slice afy nfy cfy]) rfl rfl (fun b1 w2 hN3 => ?_))
  replace B := B.new1 hN3
  clear hN3
  refine s_k rfl (k_allocN (z := (.agg #[.slice none 0 0, .slice none 0 0, .slice none 0 0])) (cs := [.slice none 0 0, .slice none 0 0, .slice none 0 0]) T68.zero_30 rfl (fun b4 w5 hN6 => ?_))
  replace B := B.new1 hN6
  clear hN6
  refine s_nil ?_
  refine W_seq ?_
  have B0_11 := B
  refine W_draw (no) T68.mx (by kernel_rfl) (fun w9 e10 => ?_)
  have R12 := Ext.refl (no) w5
  replace R12 := R12.trans (Ext0.any e10)
  replace B := B.ext0 e10
  clear e10
  refine m_y (v := .pointer (some ⟨b1, 0, none⟩)) 0 rfl (by kernel_rfl) rfl rfl (fun w' e' => y_fld (o := 0) T68.fld_30_0_0 rfl) ?_
  refine m_y (v := .slice afe nfe cfe) 1 rfl (by kernel_rfl) rfl rfl (fun w' e' => y_load T68.one_24 rfl (((B0_11.b 1 rfl).ext0 e').cell (j := 0) rfl)) ?_
  refine m_y (v := .pointer (some ⟨b1, 1, none⟩)) 3 rfl (by kernel_rfl) rfl rfl (fun w' e' => y_fld (o := 0) T68.fld_30_1_1 rfl) ?_
  refine m_y (v := .slice afx nfx cfx) 4 rfl (by kernel_rfl) rfl rfl (fun w' e' => y_load T68.one_24 rfl (((B0_11.b 1 rfl).ext0 e').cell (j := 1) rfl)) ?_
  refine m_y (v := .pointer (some ⟨b1, 2, none⟩)) 6 rfl (by kernel_rfl) rfl rfl (fun w' e' => y_fld (o := 0) T68.fld_30_2_2 rfl) ?_
  refine m_y (v := .slice afy nfy cfy) 7 rfl (by kernel_rfl) rfl rfl (fun w' e' => y_load T68.one_24 rfl (((B0_11.b 1 rfl).ext0 e').cell (j := 2) rfl)) ?_
  refine m_k 2 [5, 8, 9, 10] rfl (by kernel_rfl) rfl rfl (fun w13 e14 => ?_)
  replace R12 := R12.trans (Ext0.any e14)
  replace B := B.ext0 e14
  clear e14
  refine k_call T68.fn_117 (c_i_copyOf (B.r 2 rfl) (by omega)) rfl ?_
  rintro _ w15 ⟨a16, c17, rfl, hN18⟩
  replace R12 := R12.trans (Ext0.any hN18.ext)
  replace B := B.new1 hN18
  clear hN18
  refine ⟨fun _ => R12, ?_⟩
  refine m_k 5 [8, 9, 10] rfl (by kernel_rfl) rfl rfl (fun w19 e20 => ?_)
  replace R12 := R12.trans (Ext0.any e20)
  replace B := B.ext0 e20
  clear e20
  refine k_call T68.fn_117 (c_i_copyOf (B.r 4 rfl) (by omega)) rfl ?_
  rintro _ w21 ⟨a22, c23, rfl, hN24⟩
  replace R12 := R12.trans (Ext0.any hN24.ext)
  replace B := B.new1 hN24
  clear hN24
  refine ⟨fun _ => R12, ?_⟩
  refine m_k 8 [9, 10] rfl (by kernel_rfl) rfl rfl (fun w25 e26 => ?_)
  replace R12 := R12.trans (Ext0.any e26)
  replace B := B.ext0 e26
  clear e26
  refine k_call T68.fn_117 (c_i_copyOf (B.r 6 rfl) (by omega)) rfl ?_
  rintro _ w27 ⟨a28, c29, rfl, hN30⟩
  replace R12 := R12.trans (Ext0.any hN30.ext)
  replace B := B.new1 hN30
  clear hN30
  refine ⟨fun _ => R12, ?_⟩
  refine m_y (v := .agg #[.slice a16 nfe c17, .slice a22 nfx c23, .slice a28 nfy c29]) 9 rfl (by kernel_rfl) rfl rfl (fun w' e' => y_build (cells := #[.slice a16 nfe c17, .slice a22 nfx c23, .slice a28 nfy c29]) (by kernel_rfl)) ?_
  refine m_kt 10 [] rfl (by kernel_rfl) rfl rfl (by kernel_rfl) (fun w33 e34 => ?_)
  replace R12 := R12.trans (Ext0.any e34)
  replace B := B.ext0 e34
  clear e34
  refine k_stB (v := .agg #[.slice a16 nfe c17, .slice a22 nfx c23, .slice a28 nfy c29]) (n := 3) (cs' := [.slice a16 nfe c17, .slice a22 nfx c23, .slice a28 nfy c29]) T68.sz_30_3 rfl rfl rfl (B.b 3 rfl) (by simp [Value.cells, Value.oneCell']) (Nat.le_of_ble_eq_true rfl) rfl (fun w31 hU32 => ?_)
  clear R12
  replace B : Bu w no w31 [.blk b4 [.slice a16 nfe c17, .slice a22 nfx c23, .slice a28 nfy c29] 30, .ow kF a28 nfy c29 34 Xfy, .ow kF a22 nfx c23 34 Xfx, .ow kF a16 nfe c17 34 Xfe, .blk b1 [.slice afe nfe cfe, .slice afx nfx cfx, .slice afy nfy cfy] 30, .rd kF afe nfe Xfe, .rd kF afx nfx Xfx, .rd kF afy nfy Xfy] := B.upd [3] rfl hU32
  clear hU32
  refine m_done (by kernel_rfl) (fun w35 e36 => ?_)
  replace B := B.ext0 e36
  clear e36
  clear B0_11
  refine W_ret ?_
  refine ret1 (v := .agg #[.slice a16 nfe c17, .slice a22 nfx c23, .slice a28 nfy c29]) rfl rfl ⟨_, [.slice a16 nfe c17, .slice a22 nfx c23, .slice a28 nfy c29], _, rfl, (B.b 0 rfl), T68.agg_30_3, rfl⟩ ⟨_, rfl, ?_⟩
  exact ⟨_, _, _, _, _, _, rfl, B.give [3, 2, 1] rfl rfl rfl⟩
namespace T130
theorem mx : Try.prog.follows .mixedOrders = true := by kernel_rfl
theorem agg_26_5 : aggB Try.prog 26 5 = true := by kernel_rfl
theorem fld_26_0_0 : fldB Try.prog 26 0 0 = true := by kernel_rfl
theorem fld_26_1_1 : fldB Try.prog 26 1 1 = true := by kernel_rfl
theorem fld_26_2_2 : fldB Try.prog 26 2 2 = true := by kernel_rfl
theorem fld_30_0_0 : fldB Try.prog 30 0 0 = true := by kernel_rfl
theorem fld_30_1_1 : fldB Try.prog 30 1 1 = true := by kernel_rfl
theorem fld_30_2_2 : fldB Try.prog 30 2 2 = true := by kernel_rfl
theorem fn_69 : fnB Try.prog 69 = true := by kernel_rfl
theorem one_2 : oneB Try.prog 2 = true := by kernel_rfl
theorem one_24 : oneB Try.prog 24 = true := by kernel_rfl
theorem one_34 : oneB Try.prog 34 = true := by kernel_rfl
theorem one_4 : oneB Try.prog 4 = true := by kernel_rfl
theorem sl_24_34_1 : slB Try.prog 24 34 1 = true := by kernel_rfl
theorem sz_34_1 : szB Try.prog 34 1 = true := by kernel_rfl
end T130
set_option maxRecDepth 100000 in
set_option maxHeartbeats 4000000 in
theorem c_i_halfStep {wd : Int} {hi : Int} {wr : Bool} {asp : Option Addr} {nsp : Nat} {csp : Nat} {als : Option Addr} {nls : Nat} {cls : Nat} {b : Nat} {afe : Option Addr} {nfe : Nat} {cfe : Nat} {Xfe : List Nat} {afx : Option Addr} {nfx : Nat} {cfx : Nat} {afy : Option Addr} {nfy : Nat} {cfy : Nat} {Xfx Xfy : List Nat} {w : World} (h1 : 3 ≤ wd) (h2 : wd ≤ 16) (h3 : 3 ≤ hi) (h4 : hi ≤ 16) (gfe : (nfe : Int) = wd * hi) (gfx : (nfx : Int) = wd * hi) (gfy : (nfy : Int) = wd * hi) (HA : All w [.ow kF afx nfx cfx 34 Xfx, .ow kF afy nfy cfy 34 Xfy, .rd kF afe nfe Xfe, .sl (some ⟨b, 0, none⟩) [.slice afe nfe cfe, .slice afx nfx cfx, .slice afy nfy cfy]]) (HP : Pw [.ow kF afx nfx cfx 34 Xfx, .ow kF afy nfy cfy 34 Xfy, .rd kF afe nfe Xfe, .sl (some ⟨b, 0, none⟩) [.slice afe nfe cfe, .slice afx nfx cfx, .slice afy nfy cfy]]) :
    Calls Try.prog 130 #[.agg #[.int .i64 wd, .int .i64 hi, .bool wr, .slice asp nsp csp, .slice als nls cls], .pointer (some ⟨b, 0, none⟩)] w (Rt fun v w' => v = .tuple #[] ∧ Upd w w' [.ow kF afx nfx cfx 34 Xfx, .ow kF afy nfy cfy 34 Xfy] [.ow kF afx nfx cfx 34 (hxL wd hi wr Xfe Xfx), .ow kF afy nfy cfy 34 (hyL wd hi wr Xfe Xfy)]) := by
  have B : Bu w (hasW [.ow kF afx nfx cfx 34 Xfx, .ow kF afy nfy cfy 34 Xfy]) w [.ow kF afx nfx cfx 34 Xfx, .ow kF afy nfy cfy 34 Xfy, .rd kF afe nfe Xfe, .sl (some ⟨b, 0, none⟩) [.slice afe nfe cfe, .slice afx nfx cfx, .slice afy nfy cfy]] := Bu.initW (W := [.ow kF afx nfx cfx 34 Xfx, .ow kF afy nfy cfy 34 Xfy]) (R := [.rd kF afe nfe Xfe, .sl (some ⟨b, 0, none⟩) [.slice afe nfe cfe, .slice afx nfx cfx, .slice afy nfy cfy]]) HA HP rfl
  have hlfx := (B.o 0 rfl).len
  have hlfy := (B.o 1 rfl).len
  have hlfe := (B.r 2 rfl).len
  have hwh := mul16 (And.intro (And.intro h1 h2) (And.intro h3 h4))
  refine calls_W (n := 109) Try.func130 rfl rfl (Nat.le_of_ble_eq_true rfl) ?_
  refine W_seq ?_
  refine W_region (by kernel_rfl) ?_
  refine s_k rfl (k_boxN (v := .agg #[.int .i64 wd, .int .i64 hi, .bool wr, .slice asp nsp csp, .slice als nls cls]) (cs := [.int .i64 wd, .int .i64 hi, .bool wr, .slice asp nsp csp, .slice als nls cls]) rfl rfl (fun b1 w2 hN3 => ?_))
  replace B := B.new1 hN3
  clear hN3
  refine s_nil ?_
  refine W_seq ?_
  refine W_region (by kernel_rfl) ?_
  refine s_y (v := .pointer (some ⟨b1, 1, none⟩)) rfl (y_fld (o := 0) T130.fld_26_1_1 rfl) ?_
  refine s_y (v := .int .i64 hi) rfl (y_load T130.one_2 rfl ((B.b 0 rfl).cell (j := 1) rfl)) ?_
  refine s_y (v := .int .i64 0) rfl (y_move rfl) ?_
  refine s_nil ?_
  refine W_block ?_
  refine W_loop (fun ρ' w' => ∃ (ρ1 : Env) (py : Int), ρ' = updL ρ1 [(1, .pointer (some ⟨b, 0, none⟩)), (2, .pointer (some ⟨b1, 0, none⟩)), (8, .int .i64 hi), (9, .int .i64 py)] ∧ Bu w (hasW [.ow kF afx nfx cfx 34 Xfx, .ow kF afy nfy cfy 34 Xfy]) w' [.ow kF afx nfx cfx 34 (mix (wd * hi) (wd * py) (fun i => hxF wd hi wr Xfe Xfx (i % wd) (i / wd)) Xfx), .ow kF afy nfy cfy 34 (mix (wd * hi) (wd * py) (fun i => hyF wd hi wr Xfe Xfy (i % wd) (i / wd)) Xfy), .blk b1 [.int .i64 wd, .int .i64 hi, .bool wr, .slice asp nsp csp, .slice als nls cls] 26, .rd kF afe nfe Xfe, .sl (some ⟨b, 0, none⟩) [.slice afe nfe cfe, .slice afx nfx cfx, .slice afy nfy cfy]] ∧ (0 ≤ py) ∧ (py ≤ hi)) (fun ρ' _ => (hi - iv (ρ' 9)).toNat) ?_ ?_
  · replace B : Bu w (hasW [.ow kF afx nfx cfx 34 Xfx, .ow kF afy nfy cfy 34 Xfy]) w2 [.blk b1 [.int .i64 wd, .int .i64 hi, .bool wr, .slice asp nsp csp, .slice als nls cls] 26, .ow kF afx nfx cfx 34 (mix (wd * hi) (wd * 0) (fun i => hxF wd hi wr Xfe Xfx (i % wd) (i / wd)) Xfx), .ow kF afy nfy cfy 34 Xfy, .rd kF afe nfe Xfe, .sl (some ⟨b, 0, none⟩) [.slice afe nfe cfe, .slice afx nfx cfx, .slice afy nfy cfy]] := B.castX 1 rfl rfl ((mix_zero (by omega)).trans (congrArg (fun q => mix (wd * hi) q (fun i => hxF wd hi wr Xfe Xfx (i % wd) (i / wd)) _) (Int.mul_zero wd).symm))
    replace B : Bu w (hasW [.ow kF afx nfx cfx 34 Xfx, .ow kF afy nfy cfy 34 Xfy]) w2 [.blk b1 [.int .i64 wd, .int .i64 hi, .bool wr, .slice asp nsp csp, .slice als nls cls] 26, .ow kF afx nfx cfx 34 (mix (wd * hi) (wd * 0) (fun i => hxF wd hi wr Xfe Xfx (i % wd) (i / wd)) Xfx), .ow kF afy nfy cfy 34 (mix (wd * hi) (wd * 0) (fun i => hyF wd hi wr Xfe Xfy (i % wd) (i / wd)) Xfy), .rd kF afe nfe Xfe, .sl (some ⟨b, 0, none⟩) [.slice afe nfe cfe, .slice afx nfx cfx, .slice afy nfy cfy]] := B.castX 2 rfl rfl ((mix_zero (by omega)).trans (congrArg (fun q => mix (wd * hi) q (fun i => hyF wd hi wr Xfe Xfy (i % wd) (i / wd)) _) (Int.mul_zero wd).symm))
    exact ⟨_, 0, Fits.eq ⟨rfl, rfl, rfl, rfl, trivial⟩, (B.pick [1, 2, 0, 3, 4] rfl rfl), (Int.le_refl _), (by omega)⟩
  · clear B; rintro _ w4 ⟨ρ5, py, rfl, B, h0py, h1py⟩
    refine W_seq ?_
    refine W_region (by kernel_rfl) ?_
    by_cases c6 : py < hi
    · refine s_y (v := .bool true) rfl (y_lss rfl rfl (decide_eq_true c6)) ?_
      refine s_nil ?_
      refine W_seq ?_
      refine W_if_t (by decide) rfl ?_
      refine W_skip ?_
      refine W_seq ?_
      refine W_block ?_
      refine W_seq ?_
      refine W_region (by kernel_rfl) ?_
      refine s_y (v := .int .i64 py) rfl (y_move rfl) ?_
      refine s_y (v := .int .i64 py) rfl (y_assign rfl) ?_
      refine s_nil ?_
      refine W_seq ?_
      refine W_region (by kernel_rfl) ?_
      refine s_y (v := .pointer (some ⟨b1, 0, none⟩)) rfl (y_fld (o := 0) T130.fld_26_0_0 rfl) ?_
      refine s_y (v := .int .i64 wd) rfl (y_load T130.one_2 rfl ((B.b 2 rfl).cell (j := 0) rfl)) ?_
      refine s_y (v := .int .i64 0) rfl (y_move rfl) ?_
      refine s_nil ?_
      refine W_block ?_
      refine W_loop (fun ρ' w' => ∃ (ρ1 : Env) (px : Int), ρ' = updL ρ1 [(1, .pointer (some ⟨b, 0, none⟩)), (2, .pointer (some ⟨b1, 0, none⟩)), (4, .int .i64 py), (8, .int .i64 hi), (9, .int .i64 py), (10, .bool true), (11, .int .i64 py), (12, .pointer (some ⟨b1, 0, none⟩)), (13, .int .i64 wd), (14, .int .i64 px)] ∧ Bu w (hasW [.ow kF afx nfx cfx 34 Xfx, .ow kF afy nfy cfy 34 Xfy]) w' [.ow kF afx nfx cfx 34 (mix (wd * hi) (wd * py + px) (fun i => hxF wd hi wr Xfe Xfx (i % wd) (i / wd)) Xfx), .ow kF afy nfy cfy 34 (mix (wd * hi) (wd * py + px) (fun i => hyF wd hi wr Xfe Xfy (i % wd) (i / wd)) Xfy), .blk b1 [.int .i64 wd, .int .i64 hi, .bool wr, .slice asp nsp csp, .slice als nls cls] 26, .rd kF afe nfe Xfe, .sl (some ⟨b, 0, none⟩) [.slice afe nfe cfe, .slice afx nfx cfx, .slice afy nfy cfy]] ∧ (0 ≤ px) ∧ (px ≤ wd)) (fun ρ' _ => (wd - iv (ρ' 14)).toNat) ?_ ?_
      · replace B : Bu w (hasW [.ow kF afx nfx cfx 34 Xfx, .ow kF afy nfy cfy 34 Xfy]) w4 [.ow kF afx nfx cfx 34 (mix (wd * hi) (wd * py + 0) (fun i => hxF wd hi wr Xfe Xfx (i % wd) (i / wd)) Xfx), .ow kF afy nfy cfy 34 (mix (wd * hi) (wd * py) (fun i => hyF wd hi wr Xfe Xfy (i % wd) (i / wd)) Xfy), .blk b1 [.int .i64 wd, .int .i64 hi, .bool wr, .slice asp nsp csp, .slice als nls cls] 26, .rd kF afe nfe Xfe, .sl (some ⟨b, 0, none⟩) [.slice afe nfe cfe, .slice afx nfx cfx, .slice afy nfy cfy]] := B.castX 0 rfl rfl (congrArg (fun q => mix (wd * hi) q (fun i => hxF wd hi wr Xfe Xfx (i % wd) (i / wd)) _) (Int.add_zero _).symm)
        replace B : Bu w (hasW [.ow kF afx nfx cfx 34 Xfx, .ow kF afy nfy cfy 34 Xfy]) w4 [.ow kF afx nfx cfx 34 (mix (wd * hi) (wd * py + 0) (fun i => hxF wd hi wr Xfe Xfx (i % wd) (i / wd)) Xfx), .ow kF afy nfy cfy 34 (mix (wd * hi) (wd * py + 0) (fun i => hyF wd hi wr Xfe Xfy (i % wd) (i / wd)) Xfy), .blk b1 [.int .i64 wd, .int .i64 hi, .bool wr, .slice asp nsp csp, .slice als nls cls] 26, .rd kF afe nfe Xfe, .sl (some ⟨b, 0, none⟩) [.slice afe nfe cfe, .slice afx nfx cfx, .slice afy nfy cfy]] := B.castX 1 rfl rfl (congrArg (fun q => mix (wd * hi) q (fun i => hyF wd hi wr Xfe Xfy (i % wd) (i / wd)) _) (Int.add_zero _).symm)
        exact ⟨_, 0, Fits.eq ⟨rfl, rfl, rfl, rfl, rfl, rfl, rfl, rfl, rfl, rfl, trivial⟩, B, (Int.le_refl _), (by omega)⟩
      · clear B; rintro _ w7 ⟨ρ8, px, rfl, B, h0px, h1px⟩
        refine W_seq ?_
        refine W_region (by kernel_rfl) ?_
        by_cases c9 : px < wd
        · refine s_y (v := .bool true) rfl (y_lss rfl rfl (decide_eq_true c9)) ?_
          refine s_nil ?_
          refine W_seq ?_
          refine W_if_t (by decide) rfl ?_
          refine W_skip ?_
          refine W_seq ?_
          refine W_block ?_
          refine W_seq ?_
          refine W_region (by kernel_rfl) ?_
          refine s_y (v := .int .i64 px) rfl (y_move rfl) ?_
          refine s_y (v := .int .i64 px) rfl (y_assign rfl) ?_
          refine s_nil ?_
          refine W_seq ?_
          refine W_region (by kernel_rfl) ?_
          refine s_y (v := .agg #[.int .i64 wd, .int .i64 hi, .bool wr, .slice asp nsp csp, .slice als nls cls]) rfl (y_loadn (b := b1) (o := 0) (vs := [.int .i64 wd, .int .i64 hi, .bool wr, .slice asp nsp csp, .slice als nls cls]) T130.agg_26_5 rfl rfl ((B.b 2 rfl).cells (o := 0) rfl)) ?_
          refine s_y (v := .int .i64 px) rfl (y_move rfl) ?_
          refine s_y (v := .int .i64 py) rfl (y_move rfl) ?_
          refine s_k rfl (k_call T130.fn_69 (c_i_at (by omega) (by omega) (by omega) (by omega) (by omega) (by omega) (by omega) (by omega)) rfl ?_)
          rintro _ w10 ⟨rfl, e11⟩
          replace B := B.ext0 e11
          clear e11
          have hat12 := atI_b (wd := wd) (hi := hi) (x := px) (y := py) (by omega) (by omega)
          refine s_y (v := .int .i64 (atI wd hi px py)) rfl (y_assign rfl) ?_
          refine s_nil ?_
          refine W_seq ?_
          refine W_seq ?_
          refine W_region (by kernel_rfl) ?_
          refine s_y (v := .pointer (some ⟨b1, 2, none⟩)) rfl (y_fld (o := 0) T130.fld_26_2_2 rfl) ?_
          refine s_y (v := .bool wr) rfl (y_load T130.one_4 rfl ((B.b 2 rfl).cell (j := 2) rfl)) ?_
          refine s_y (v := .bool wr) rfl (y_move rfl) ?_
          cases wr
          · refine s_y (v := .int .i64 py) rfl (y_move rfl) ?_
            refine s_y (v := .pointer (some ⟨b1, 1, none⟩)) rfl (y_fld (o := 0) T130.fld_26_1_1 rfl) ?_
            refine s_y (v := .int .i64 hi) rfl (y_load T130.one_2 rfl ((B.b 2 rfl).cell (j := 1) rfl)) ?_
            refine s_y (v := .int .i64 (hi - 1)) rfl (y_sub rfl rfl rfl (by omega)) ?_
            by_cases c13 : py < (hi - 1)
            · refine s_y (v := .bool true) rfl (y_lss rfl rfl (decide_eq_true c13)) ?_
              refine s_y (v := .bool true) rfl (y_pick_f rfl rfl) ?_
              refine s_nil ?_
              refine W_if_t (by decide) rfl ?_
              have B0_18 := B
              refine W_draw (no) T130.mx (by kernel_rfl) (fun w16 e17 => ?_)
              have R19 := Ext.refl (no) w10
              replace R19 := R19.trans (Ext0.any e17)
              replace B := B.ext0 e17
              clear e17
              refine m_y (v := .pointer (some ⟨b, 0, none⟩)) 0 rfl (by kernel_rfl) rfl rfl (fun w' e' => y_move rfl) ?_
              refine m_y (v := .pointer (some ⟨b, 0, none⟩)) 1 rfl (by kernel_rfl) rfl rfl (fun w' e' => y_nil rfl) ?_
              refine m_y (v := .pointer (some ⟨b, 0 + 1, none⟩)) 2 rfl (by kernel_rfl) rfl rfl (fun w' e' => y_fld (o := 0 + 0) T130.fld_30_1_1 rfl) ?_
              refine m_y (v := .slice afx nfx cfx) 3 rfl (by kernel_rfl) rfl rfl (fun w' e' => y_load T130.one_24 rfl (((B0_18.s 4 rfl).ext0 e').cell (j := 1) rfl)) ?_
              refine m_y (v := .int .i64 (atI wd hi px py)) 4 rfl (by kernel_rfl) rfl rfl (fun w' e' => y_move rfl) ?_
              refine m_y (v := .pointer (some ⟨b, 0, none⟩)) 5 rfl (by kernel_rfl) rfl rfl (fun w' e' => y_move rfl) ?_
              refine m_y (v := .pointer (some ⟨b, 0, none⟩)) 6 rfl (by kernel_rfl) rfl rfl (fun w' e' => y_nil rfl) ?_
              refine m_y (v := .pointer (some ⟨b, 0 + 1, none⟩)) 7 rfl (by kernel_rfl) rfl rfl (fun w' e' => y_fld (o := 0 + 0) T130.fld_30_1_1 rfl) ?_
              refine m_y (v := .slice afx nfx cfx) 8 rfl (by kernel_rfl) rfl rfl (fun w' e' => y_load T130.one_24 rfl (((B0_18.s 4 rfl).ext0 e').cell (j := 1) rfl)) ?_
              refine m_y (v := .int .i64 (atI wd hi px py)) 9 rfl (by kernel_rfl) rfl rfl (fun w' e' => y_move rfl) ?_
              refine m_y (v := .pointer (some (sat afx ((atI wd hi px py).toNat * 1)))) 10 rfl (by kernel_rfl) rfl rfl (fun w' e' => y_idx T130.sl_24_34_1 rfl rfl ((B.o 0 rfl).rd.addr (by omega)) (by omega) (by omega)) ?_
              obtain ⟨r21, hr22, hR20⟩ := Rd.atF (B0_18.o 0 rfl).rd (atI wd hi px py) (by omega) (by omega)
              refine m_y (v := .float .f32 r21) 11 rfl (by kernel_rfl) rfl rfl (fun w' e' => y_load T130.one_34 rfl ((hR20.ext0 e').cell (i := 0) rfl)) ?_
              refine m_y (v := .pointer (some ⟨b, 0, none⟩)) 12 rfl (by kernel_rfl) rfl rfl (fun w' e' => y_move rfl) ?_
              refine m_y (v := .pointer (some ⟨b, 0, none⟩)) 13 rfl (by kernel_rfl) rfl rfl (fun w' e' => y_nil rfl) ?_
              refine m_y (v := .pointer (some ⟨b, 0, none⟩)) 14 rfl (by kernel_rfl) rfl rfl (fun w' e' => y_fld (o := 0 + 0) T130.fld_30_0_0 rfl) ?_
              refine m_y (v := .slice afe nfe cfe) 15 rfl (by kernel_rfl) rfl rfl (fun w' e' => y_load T130.one_24 rfl (((B0_18.s 4 rfl).ext0 e').cell (j := 0) rfl)) ?_
              refine m_y (v := .agg #[.int .i64 wd, .int .i64 hi, .bool false, .slice asp nsp csp, .slice als nls cls]) 16 rfl (by kernel_rfl) rfl rfl (fun w' e' => y_loadn (b := b1) (o := 0) (vs := [.int .i64 wd, .int .i64 hi, .bool false, .slice asp nsp csp, .slice als nls cls]) T130.agg_26_5 rfl rfl (((B0_18.b 2 rfl).ext0 e').cells (o := 0) rfl)) ?_
              refine m_y (v := .int .i64 px) 17 rfl (by kernel_rfl) rfl rfl (fun w' e' => y_move rfl) ?_
              refine m_y (v := .int .i64 py) 18 rfl (by kernel_rfl) rfl rfl (fun w' e' => y_move rfl) ?_
              refine m_y (v := .int .i64 (py + 1)) 19 rfl (by kernel_rfl) rfl rfl (fun w' e' => y_add rfl rfl rfl (by omega)) ?_
              refine m_y (v := .pointer (some ⟨b, 0, none⟩)) 23 rfl (by kernel_rfl) rfl rfl (fun w' e' => y_move rfl) ?_
              refine m_y (v := .pointer (some ⟨b, 0, none⟩)) 24 rfl (by kernel_rfl) rfl rfl (fun w' e' => y_nil rfl) ?_
              refine m_y (v := .pointer (some ⟨b, 0, none⟩)) 25 rfl (by kernel_rfl) rfl rfl (fun w' e' => y_fld (o := 0 + 0) T130.fld_30_0_0 rfl) ?_
              refine m_y (v := .slice afe nfe cfe) 26 rfl (by kernel_rfl) rfl rfl (fun w' e' => y_load T130.one_24 rfl (((B0_18.s 4 rfl).ext0 e').cell (j := 0) rfl)) ?_
              refine m_y (v := .int .i64 (atI wd hi px py)) 27 rfl (by kernel_rfl) rfl rfl (fun w' e' => y_move rfl) ?_
              refine m_y (v := .pointer (some (sat afe ((atI wd hi px py).toNat * 1)))) 28 rfl (by kernel_rfl) rfl rfl (fun w' e' => y_idx T130.sl_24_34_1 rfl rfl ((B.r 3 rfl).addr (by omega)) (by omega) (by omega)) ?_
              obtain ⟨r24, hr25, hR23⟩ := Rd.atF (B0_18.r 3 rfl) (atI wd hi px py) (by omega) (by omega)
              refine m_y (v := .float .f32 r24) 29 rfl (by kernel_rfl) rfl rfl (fun w' e' => y_load T130.one_34 rfl ((hR23.ext0 e').cell (i := 0) rfl)) ?_
              refine m_k 20 [21, 22, 30, 31, 32, 33, 34] rfl (by kernel_rfl) rfl rfl (fun w26 e27 => ?_)
              replace R19 := R19.trans (Ext0.any e27)
              replace B := B.ext0 e27
              clear e27
              refine k_call T130.fn_69 (c_i_at (by omega) (by omega) (by omega) (by omega) (by omega) (by omega) (by omega) (by omega)) rfl ?_
              rintro _ w28 ⟨rfl, e29⟩
              replace R19 := R19.trans (Ext0.any e29)
              replace B := B.ext0 e29
              clear e29
              refine ⟨fun _ => R19, ?_⟩
              have hat30 := atI_b (wd := wd) (hi := hi) (x := px) (y := py + 1) (by omega) (by omega)
              refine m_y (v := .pointer (some (sat afe ((atI wd hi px (py + 1)).toNat * 1)))) 21 rfl (by kernel_rfl) rfl rfl (fun w' e' => y_idx T130.sl_24_34_1 rfl rfl ((B.r 3 rfl).addr (by omega)) (by omega) (by omega)) ?_
              obtain ⟨r32, hr33, hR31⟩ := Rd.atF (B0_18.r 3 rfl) (atI wd hi px (py + 1)) (by omega) (by omega)
              refine m_y (v := .float .f32 r32) 22 rfl (by kernel_rfl) rfl rfl (fun w' e' => y_load T130.one_34 rfl ((hR31.ext0 e').cell (i := 0) rfl)) ?_
              refine m_n 30 [31, 32, 33, 34] rfl (by kernel_rfl) rfl rfl (fun w' e' => n_arith (by decide) rfl rfl) ?_
              rintro _ ⟨r35, rfl, hr36⟩
              have hc39 := fopC hr36 hr33 hr25
              refine m_n 31 [32, 33, 34] rfl (by kernel_rfl) rfl rfl (fun w' e' => n_arith (by decide) rfl rfl) ?_
              rintro _ ⟨r41, rfl, hr42⟩
              have hc45 := fopC hr42 (cnLit (k := .f32) (t := 1056964608) (by kernel_rfl) (by kernel_rfl)) hc39
              refine m_n 32 [33, 34] rfl (by kernel_rfl) rfl rfl (fun w' e' => n_arith (by decide) rfl rfl) ?_
              rintro _ ⟨r47, rfl, hr48⟩
              have hc51 := fopC hr48 hr22 hc45
              refine m_y (v := .pointer (some (sat afx ((atI wd hi px py).toNat * 1)))) 33 rfl (by kernel_rfl) rfl rfl (fun w' e' => y_idx T130.sl_24_34_1 rfl rfl ((B.o 0 rfl).rd.addr (by omega)) (by omega) (by omega)) ?_
              refine m_kt 34 [] rfl (by kernel_rfl) rfl rfl (by kernel_rfl) (fun w54 e55 => ?_)
              replace R19 := R19.trans (Ext0.any e55)
              replace B := B.ext0 e55
              clear e55
              refine k_stO (k := kF) (i := atI wd hi px py) (j := 0) (x' := fop .sub .f32 (el (mix (wd * hi) (wd * py + px) (fun i => hxF wd hi false Xfe Xfx (i % wd) (i / wd)) Xfx) (atI wd hi px py)) (fop .mul .f32 1056964608 (fop .sub .f32 (el Xfe (atI wd hi px (py + 1))) (el Xfe (atI wd hi px py))))) (new := [.float .f32 r47]) T130.sz_34_1 rfl rfl rfl rfl rfl (by simp [Value.oneCell']) (by decide) (B.o 0 rfl) (by omega) (by omega) (by decide) (by rintro q ⟨_, rfl, _⟩; exact ⟨_, rfl, hc51⟩) (fun w52 hU53 => ?_)
              clear R19
              replace B : Bu w (hasW [.ow kF afx nfx cfx 34 Xfx, .ow kF afy nfy cfy 34 Xfy]) w52 [.ow kF afx nfx cfx 34 (put (mix (wd * hi) (wd * py + px) (fun i => hxF wd hi false Xfe Xfx (i % wd) (i / wd)) Xfx) (atI wd hi px py) (fop .sub .f32 (el (mix (wd * hi) (wd * py + px) (fun i => hxF wd hi false Xfe Xfx (i % wd) (i / wd)) Xfx) (atI wd hi px py)) (fop .mul .f32 1056964608 (fop .sub .f32 (el Xfe (atI wd hi px (py + 1))) (el Xfe (atI wd hi px py)))))), .ow kF afy nfy cfy 34 (mix (wd * hi) (wd * py + px) (fun i => hyF wd hi false Xfe Xfy (i % wd) (i / wd)) Xfy), .blk b1 [.int .i64 wd, .int .i64 hi, .bool false, .slice asp nsp csp, .slice als nls cls] 26, .rd kF afe nfe Xfe, .sl (some ⟨b, 0, none⟩) [.slice afe nfe cfe, .slice afx nfx cfx, .slice afy nfy cfy]] := B.upd [0] rfl hU53
              clear hU53
              refine m_done (by kernel_rfl) (fun w56 e57 => ?_)
              replace B := B.ext0 e57
              clear e57
              clear B0_18
              refine W_seq ?_
              refine W_region (by kernel_rfl) ?_
              refine s_y (v := .pointer (some ⟨b1, 2, none⟩)) rfl (y_fld (o := 0) T130.fld_26_2_2 rfl) ?_
              refine s_y (v := .bool false) rfl (y_load T130.one_4 rfl ((B.b 2 rfl).cell (j := 2) rfl)) ?_
              refine s_y (v := .bool false) rfl (y_move rfl) ?_
              refine s_y (v := .int .i64 px) rfl (y_move rfl) ?_
              refine s_y (v := .pointer (some ⟨b1, 0, none⟩)) rfl (y_fld (o := 0) T130.fld_26_0_0 rfl) ?_
              refine s_y (v := .int .i64 wd) rfl (y_load T130.one_2 rfl ((B.b 2 rfl).cell (j := 0) rfl)) ?_
              refine s_y (v := .int .i64 (wd - 1)) rfl (y_sub rfl rfl rfl (by omega)) ?_
              by_cases c58 : px < (wd - 1)
              · refine s_y (v := .bool true) rfl (y_lss rfl rfl (decide_eq_true c58)) ?_
                refine s_y (v := .bool true) rfl (y_pick_f rfl rfl) ?_
                refine s_nil ?_
                refine W_if_t (by decide) rfl ?_
                have B0_63 := B
                refine W_draw (no) T130.mx (by kernel_rfl) (fun w61 e62 => ?_)
                have R64 := Ext.refl (no) w56
                replace R64 := R64.trans (Ext0.any e62)
                replace B := B.ext0 e62
                clear e62
                refine m_y (v := .pointer (some ⟨b, 0, none⟩)) 0 rfl (by kernel_rfl) rfl rfl (fun w' e' => y_move rfl) ?_
                refine m_y (v := .pointer (some ⟨b, 0, none⟩)) 1 rfl (by kernel_rfl) rfl rfl (fun w' e' => y_nil rfl) ?_
                refine m_y (v := .pointer (some ⟨b, 0 + 2, none⟩)) 2 rfl (by kernel_rfl) rfl rfl (fun w' e' => y_fld (o := 0 + 0) T130.fld_30_2_2 rfl) ?_
                refine m_y (v := .slice afy nfy cfy) 3 rfl (by kernel_rfl) rfl rfl (fun w' e' => y_load T130.one_24 rfl (((B0_63.s 4 rfl).ext0 e').cell (j := 2) rfl)) ?_
                refine m_y (v := .int .i64 (atI wd hi px py)) 4 rfl (by kernel_rfl) rfl rfl (fun w' e' => y_move rfl) ?_
                refine m_y (v := .pointer (some ⟨b, 0, none⟩)) 5 rfl (by kernel_rfl) rfl rfl (fun w' e' => y_move rfl) ?_
                refine m_y (v := .pointer (some ⟨b, 0, none⟩)) 6 rfl (by kernel_rfl) rfl rfl (fun w' e' => y_nil rfl) ?_
                refine m_y (v := .pointer (some ⟨b, 0 + 2, none⟩)) 7 rfl (by kernel_rfl) rfl rfl (fun w' e' => y_fld (o := 0 + 0) T130.fld_30_2_2 rfl) ?_
                refine m_y (v := .slice afy nfy cfy) 8 rfl (by kernel_rfl) rfl rfl (fun w' e' => y_load T130.one_24 rfl (((B0_63.s 4 rfl).ext0 e').cell (j := 2) rfl)) ?_
                refine m_y (v := .int .i64 (atI wd hi px py)) 9 rfl (by kernel_rfl) rfl rfl (fun w' e' => y_move rfl) ?_
                refine m_y (v := .pointer (some (sat afy ((atI wd hi px py).toNat * 1)))) 10 rfl (by kernel_rfl) rfl rfl (fun w' e' => y_idx T130.sl_24_34_1 rfl rfl ((B.o 1 rfl).rd.addr (by omega)) (by omega) (by omega)) ?_
                obtain ⟨r66, hr67, hR65⟩ := Rd.atF (B0_63.o 1 rfl).rd (atI wd hi px py) (by omega) (by omega)
                refine m_y (v := .float .f32 r66) 11 rfl (by kernel_rfl) rfl rfl (fun w' e' => y_load T130.one_34 rfl ((hR65.ext0 e').cell (i := 0) rfl)) ?_
                refine m_y (v := .pointer (some ⟨b, 0, none⟩)) 12 rfl (by kernel_rfl) rfl rfl (fun w' e' => y_move rfl) ?_
                refine m_y (v := .pointer (some ⟨b, 0, none⟩)) 13 rfl (by kernel_rfl) rfl rfl (fun w' e' => y_nil rfl) ?_
                refine m_y (v := .pointer (some ⟨b, 0, none⟩)) 14 rfl (by kernel_rfl) rfl rfl (fun w' e' => y_fld (o := 0 + 0) T130.fld_30_0_0 rfl) ?_
                refine m_y (v := .slice afe nfe cfe) 15 rfl (by kernel_rfl) rfl rfl (fun w' e' => y_load T130.one_24 rfl (((B0_63.s 4 rfl).ext0 e').cell (j := 0) rfl)) ?_
                refine m_y (v := .agg #[.int .i64 wd, .int .i64 hi, .bool false, .slice asp nsp csp, .slice als nls cls]) 16 rfl (by kernel_rfl) rfl rfl (fun w' e' => y_loadn (b := b1) (o := 0) (vs := [.int .i64 wd, .int .i64 hi, .bool false, .slice asp nsp csp, .slice als nls cls]) T130.agg_26_5 rfl rfl (((B0_63.b 2 rfl).ext0 e').cells (o := 0) rfl)) ?_
                refine m_y (v := .int .i64 px) 17 rfl (by kernel_rfl) rfl rfl (fun w' e' => y_move rfl) ?_
                refine m_y (v := .int .i64 (px + 1)) 18 rfl (by kernel_rfl) rfl rfl (fun w' e' => y_add rfl rfl rfl (by omega)) ?_
                refine m_y (v := .int .i64 py) 19 rfl (by kernel_rfl) rfl rfl (fun w' e' => y_move rfl) ?_
                refine m_y (v := .pointer (some ⟨b, 0, none⟩)) 23 rfl (by kernel_rfl) rfl rfl (fun w' e' => y_move rfl) ?_
                refine m_y (v := .pointer (some ⟨b, 0, none⟩)) 24 rfl (by kernel_rfl) rfl rfl (fun w' e' => y_nil rfl) ?_
                refine m_y (v := .pointer (some ⟨b, 0, none⟩)) 25 rfl (by kernel_rfl) rfl rfl (fun w' e' => y_fld (o := 0 + 0) T130.fld_30_0_0 rfl) ?_
                refine m_y (v := .slice afe nfe cfe) 26 rfl (by kernel_rfl) rfl rfl (fun w' e' => y_load T130.one_24 rfl (((B0_63.s 4 rfl).ext0 e').cell (j := 0) rfl)) ?_
                refine m_y (v := .int .i64 (atI wd hi px py)) 27 rfl (by kernel_rfl) rfl rfl (fun w' e' => y_move rfl) ?_
                refine m_y (v := .pointer (some (sat afe ((atI wd hi px py).toNat * 1)))) 28 rfl (by kernel_rfl) rfl rfl (fun w' e' => y_idx T130.sl_24_34_1 rfl rfl ((B.r 3 rfl).addr (by omega)) (by omega) (by omega)) ?_
                obtain ⟨r69, hr70, hR68⟩ := Rd.atF (B0_63.r 3 rfl) (atI wd hi px py) (by omega) (by omega)
                refine m_y (v := .float .f32 r69) 29 rfl (by kernel_rfl) rfl rfl (fun w' e' => y_load T130.one_34 rfl ((hR68.ext0 e').cell (i := 0) rfl)) ?_
                refine m_k 20 [21, 22, 30, 31, 32, 33, 34] rfl (by kernel_rfl) rfl rfl (fun w71 e72 => ?_)
                replace R64 := R64.trans (Ext0.any e72)
                replace B := B.ext0 e72
                clear e72
                refine k_call T130.fn_69 (c_i_at (by omega) (by omega) (by omega) (by omega) (by omega) (by omega) (by omega) (by omega)) rfl ?_
                rintro _ w73 ⟨rfl, e74⟩
                replace R64 := R64.trans (Ext0.any e74)
                replace B := B.ext0 e74
                clear e74
                refine ⟨fun _ => R64, ?_⟩
                have hat75 := atI_b (wd := wd) (hi := hi) (x := px + 1) (y := py) (by omega) (by omega)
                refine m_y (v := .pointer (some (sat afe ((atI wd hi (px + 1) py).toNat * 1)))) 21 rfl (by kernel_rfl) rfl rfl (fun w' e' => y_idx T130.sl_24_34_1 rfl rfl ((B.r 3 rfl).addr (by omega)) (by omega) (by omega)) ?_
                obtain ⟨r77, hr78, hR76⟩ := Rd.atF (B0_63.r 3 rfl) (atI wd hi (px + 1) py) (by omega) (by omega)
                refine m_y (v := .float .f32 r77) 22 rfl (by kernel_rfl) rfl rfl (fun w' e' => y_load T130.one_34 rfl ((hR76.ext0 e').cell (i := 0) rfl)) ?_
                refine m_n 30 [31, 32, 33, 34] rfl (by kernel_rfl) rfl rfl (fun w' e' => n_arith (by decide) rfl rfl) ?_
                rintro _ ⟨r80, rfl, hr81⟩
                have hc84 := fopC hr81 hr78 hr70
                refine m_n 31 [32, 33, 34] rfl (by kernel_rfl) rfl rfl (fun w' e' => n_arith (by decide) rfl rfl) ?_
                rintro _ ⟨r86, rfl, hr87⟩
                have hc90 := fopC hr87 (cnLit (k := .f32) (t := 1056964608) (by kernel_rfl) (by kernel_rfl)) hc84
                refine m_n 32 [33, 34] rfl (by kernel_rfl) rfl rfl (fun w' e' => n_arith (by decide) rfl rfl) ?_
                rintro _ ⟨r92, rfl, hr93⟩
                have hc96 := fopC hr93 hr67 hc90
                refine m_y (v := .pointer (some (sat afy ((atI wd hi px py).toNat * 1)))) 33 rfl (by kernel_rfl) rfl rfl (fun w' e' => y_idx T130.sl_24_34_1 rfl rfl ((B.o 1 rfl).rd.addr (by omega)) (by omega) (by omega)) ?_
                refine m_kt 34 [] rfl (by kernel_rfl) rfl rfl (by kernel_rfl) (fun w99 e100 => ?_)
                replace R64 := R64.trans (Ext0.any e100)
                replace B := B.ext0 e100
                clear e100
                refine k_stO (k := kF) (i := atI wd hi px py) (j := 0) (x' := fop .add .f32 (el (mix (wd * hi) (wd * py + px) (fun i => hyF wd hi false Xfe Xfy (i % wd) (i / wd)) Xfy) (atI wd hi px py)) (fop .mul .f32 1056964608 (fop .sub .f32 (el Xfe (atI wd hi (px + 1) py)) (el Xfe (atI wd hi px py))))) (new := [.float .f32 r92]) T130.sz_34_1 rfl rfl rfl rfl rfl (by simp [Value.oneCell']) (by decide) (B.o 1 rfl) (by omega) (by omega) (by decide) (by rintro q ⟨_, rfl, _⟩; exact ⟨_, rfl, hc96⟩) (fun w97 hU98 => ?_)
                clear R64
                replace B : Bu w (hasW [.ow kF afx nfx cfx 34 Xfx, .ow kF afy nfy cfy 34 Xfy]) w97 [.ow kF afy nfy cfy 34 (put (mix (wd * hi) (wd * py + px) (fun i => hyF wd hi false Xfe Xfy (i % wd) (i / wd)) Xfy) (atI wd hi px py) (fop .add .f32 (el (mix (wd * hi) (wd * py + px) (fun i => hyF wd hi false Xfe Xfy (i % wd) (i / wd)) Xfy) (atI wd hi px py)) (fop .mul .f32 1056964608 (fop .sub .f32 (el Xfe (atI wd hi (px + 1) py)) (el Xfe (atI wd hi px py)))))), .ow kF afx nfx cfx 34 (put (mix (wd * hi) (wd * py + px) (fun i => hxF wd hi false Xfe Xfx (i % wd) (i / wd)) Xfx) (atI wd hi px py) (fop .sub .f32 (el (mix (wd * hi) (wd * py + px) (fun i => hxF wd hi false Xfe Xfx (i % wd) (i / wd)) Xfx) (atI wd hi px py)) (fop .mul .f32 1056964608 (fop .sub .f32 (el Xfe (atI wd hi px (py + 1))) (el Xfe (atI wd hi px py)))))), .blk b1 [.int .i64 wd, .int .i64 hi, .bool false, .slice asp nsp csp, .slice als nls cls] 26, .rd kF afe nfe Xfe, .sl (some ⟨b, 0, none⟩) [.slice afe nfe cfe, .slice afx nfx cfx, .slice afy nfy cfy]] := B.upd [1] rfl hU98
                clear hU98
                refine m_done (by kernel_rfl) (fun w101 e102 => ?_)
                replace B := B.ext0 e102
                clear e102
                clear B0_63
                refine W_region (by kernel_rfl) ?_
                refine s_y (v := .int .i64 (px + 1)) rfl (y_add rfl rfl rfl (by omega)) ?_
                refine s_y (v := .int .i64 (px + 1)) rfl (y_move rfl) ?_
                refine s_nil ?_
                have hcx : (false || decide (py < hi - 1)) = true := by simp only [(decide_eq_true c6), (decide_eq_true c9), (decide_eq_true c13), (decide_eq_true c58), Bool.and_true, Bool.true_and, Bool.and_false, Bool.false_and, Bool.not_true, Bool.not_false, Bool.or_true, Bool.true_or, Bool.or_false, Bool.false_or]
                replace B : Bu w (hasW [.ow kF afx nfx cfx 34 Xfx, .ow kF afy nfy cfy 34 Xfy]) w101 [.ow kF afy nfy cfy 34 (put (mix (wd * hi) (wd * py + px) (fun i => hyF wd hi false Xfe Xfy (i % wd) (i / wd)) Xfy) (atI wd hi px py) (fop .add .f32 (el (mix (wd * hi) (wd * py + px) (fun i => hyF wd hi false Xfe Xfy (i % wd) (i / wd)) Xfy) (atI wd hi px py)) (fop .mul .f32 1056964608 (fop .sub .f32 (el Xfe (atI wd hi (px + 1) py)) (el Xfe (atI wd hi px py)))))), .ow kF afx nfx cfx 34 (mix (wd * hi) (wd * py + (px + 1)) (fun i => hxF wd hi false Xfe Xfx (i % wd) (i / wd)) Xfx), .blk b1 [.int .i64 wd, .int .i64 hi, .bool false, .slice asp nsp csp, .slice als nls cls] 26, .rd kF afe nfe Xfe, .sl (some ⟨b, 0, none⟩) [.slice afe nfe cfe, .slice afx nfx cfx, .slice afy nfy cfy]] := B.castX 1 rfl rfl (mix_cell (G := hxF wd hi false Xfe Xfx) rfl (by omega) (by omega) (by omega) (by omega) rfl (hx_yes rfl (by omega) (by omega) (by omega) (by omega) hcx))
                have hcy : (false || decide (px < wd - 1)) = true := by simp only [(decide_eq_true c6), (decide_eq_true c9), (decide_eq_true c13), (decide_eq_true c58), Bool.and_true, Bool.true_and, Bool.and_false, Bool.false_and, Bool.not_true, Bool.not_false, Bool.or_true, Bool.true_or, Bool.or_false, Bool.false_or]
                replace B : Bu w (hasW [.ow kF afx nfx cfx 34 Xfx, .ow kF afy nfy cfy 34 Xfy]) w101 [.ow kF afy nfy cfy 34 (mix (wd * hi) (wd * py + (px + 1)) (fun i => hyF wd hi false Xfe Xfy (i % wd) (i / wd)) Xfy), .ow kF afx nfx cfx 34 (mix (wd * hi) (wd * py + (px + 1)) (fun i => hxF wd hi false Xfe Xfx (i % wd) (i / wd)) Xfx), .blk b1 [.int .i64 wd, .int .i64 hi, .bool false, .slice asp nsp csp, .slice als nls cls] 26, .rd kF afe nfe Xfe, .sl (some ⟨b, 0, none⟩) [.slice afe nfe cfe, .slice afx nfx cfx, .slice afy nfy cfy]] := B.castX 0 rfl rfl (mix_cell (G := hyF wd hi false Xfe Xfy) rfl (by omega) (by omega) (by omega) (by omega) rfl (hy_yes rfl (by omega) (by omega) (by omega) (by omega) hcy))
                refine ⟨⟨_, px + 1, Fits.eq ⟨rfl, rfl, rfl, rfl, rfl, rfl, rfl, rfl, rfl, rfl, trivial⟩, (B.pick [1, 0, 2, 3, 4] rfl rfl), (by omega), (by omega)⟩, ?_⟩
                show (wd - (px + 1)).toNat < (wd - px).toNat
                omega
              · refine s_y (v := .bool false) rfl (y_lss rfl rfl (decide_eq_false c58)) ?_
                refine s_y (v := .bool false) rfl (y_pick_f rfl rfl) ?_
                refine s_nil ?_
                refine W_if_f (by decide) rfl ?_
                refine W_skip ?_
                refine W_region (by kernel_rfl) ?_
                refine s_y (v := .int .i64 (px + 1)) rfl (y_add rfl rfl rfl (by omega)) ?_
                refine s_y (v := .int .i64 (px + 1)) rfl (y_move rfl) ?_
                refine s_nil ?_
                have hcx : (false || decide (py < hi - 1)) = true := by simp only [(decide_eq_true c6), (decide_eq_true c9), (decide_eq_true c13), (decide_eq_false c58), Bool.and_true, Bool.true_and, Bool.and_false, Bool.false_and, Bool.not_true, Bool.not_false, Bool.or_true, Bool.true_or, Bool.or_false, Bool.false_or]
                replace B : Bu w (hasW [.ow kF afx nfx cfx 34 Xfx, .ow kF afy nfy cfy 34 Xfy]) w56 [.ow kF afx nfx cfx 34 (mix (wd * hi) (wd * py + (px + 1)) (fun i => hxF wd hi false Xfe Xfx (i % wd) (i / wd)) Xfx), .ow kF afy nfy cfy 34 (mix (wd * hi) (wd * py + px) (fun i => hyF wd hi false Xfe Xfy (i % wd) (i / wd)) Xfy), .blk b1 [.int .i64 wd, .int .i64 hi, .bool false, .slice asp nsp csp, .slice als nls cls] 26, .rd kF afe nfe Xfe, .sl (some ⟨b, 0, none⟩) [.slice afe nfe cfe, .slice afx nfx cfx, .slice afy nfy cfy]] := B.castX 0 rfl rfl (mix_cell (G := hxF wd hi false Xfe Xfx) rfl (by omega) (by omega) (by omega) (by omega) rfl (hx_yes rfl (by omega) (by omega) (by omega) (by omega) hcx))
                have hcy : (false || decide (px < wd - 1)) = false := by simp only [(decide_eq_true c6), (decide_eq_true c9), (decide_eq_true c13), (decide_eq_false c58), Bool.and_true, Bool.true_and, Bool.and_false, Bool.false_and, Bool.not_true, Bool.not_false, Bool.or_true, Bool.true_or, Bool.or_false, Bool.false_or]
                replace B : Bu w (hasW [.ow kF afx nfx cfx 34 Xfx, .ow kF afy nfy cfy 34 Xfy]) w56 [.ow kF afx nfx cfx 34 (mix (wd * hi) (wd * py + (px + 1)) (fun i => hxF wd hi false Xfe Xfx (i % wd) (i / wd)) Xfx), .ow kF afy nfy cfy 34 (mix (wd * hi) (wd * py + (px + 1)) (fun i => hyF wd hi false Xfe Xfy (i % wd) (i / wd)) Xfy), .blk b1 [.int .i64 wd, .int .i64 hi, .bool false, .slice asp nsp csp, .slice als nls cls] 26, .rd kF afe nfe Xfe, .sl (some ⟨b, 0, none⟩) [.slice afe nfe cfe, .slice afx nfx cfx, .slice afy nfy cfy]] := B.castX 1 rfl rfl (mix_same (G := hyF wd hi false Xfe Xfy) (by omega) (by omega) (by omega) (by omega) (hy_no hcy))
                refine ⟨⟨_, px + 1, Fits.eq ⟨rfl, rfl, rfl, rfl, rfl, rfl, rfl, rfl, rfl, rfl, trivial⟩, B, (by omega), (by omega)⟩, ?_⟩
                show (wd - (px + 1)).toNat < (wd - px).toNat
                omega
            · refine s_y (v := .bool false) rfl (y_lss rfl rfl (decide_eq_false c13)) ?_
              refine s_y (v := .bool false) rfl (y_pick_f rfl rfl) ?_
              refine s_nil ?_
              refine W_if_f (by decide) rfl ?_
              refine W_skip ?_
              refine W_seq ?_
              refine W_region (by kernel_rfl) ?_
              refine s_y (v := .pointer (some ⟨b1, 2, none⟩)) rfl (y_fld (o := 0) T130.fld_26_2_2 rfl) ?_
              refine s_y (v := .bool false) rfl (y_load T130.one_4 rfl ((B.b 2 rfl).cell (j := 2) rfl)) ?_
              refine s_y (v := .bool false) rfl (y_move rfl) ?_
              refine s_y (v := .int .i64 px) rfl (y_move rfl) ?_
              refine s_y (v := .pointer (some ⟨b1, 0, none⟩)) rfl (y_fld (o := 0) T130.fld_26_0_0 rfl) ?_
              refine s_y (v := .int .i64 wd) rfl (y_load T130.one_2 rfl ((B.b 2 rfl).cell (j := 0) rfl)) ?_
              refine s_y (v := .int .i64 (wd - 1)) rfl (y_sub rfl rfl rfl (by omega)) ?_
              by_cases c103 : px < (wd - 1)
              · refine s_y (v := .bool true) rfl (y_lss rfl rfl (decide_eq_true c103)) ?_
                refine s_y (v := .bool true) rfl (y_pick_f rfl rfl) ?_
                refine s_nil ?_
                refine W_if_t (by decide) rfl ?_
                have B0_108 := B
                refine W_draw (no) T130.mx (by kernel_rfl) (fun w106 e107 => ?_)
                have R109 := Ext.refl (no) w10
                replace R109 := R109.trans (Ext0.any e107)
                replace B := B.ext0 e107
                clear e107
                refine m_y (v := .pointer (some ⟨b, 0, none⟩)) 0 rfl (by kernel_rfl) rfl rfl (fun w' e' => y_move rfl) ?_
                refine m_y (v := .pointer (some ⟨b, 0, none⟩)) 1 rfl (by kernel_rfl) rfl rfl (fun w' e' => y_nil rfl) ?_
                refine m_y (v := .pointer (some ⟨b, 0 + 2, none⟩)) 2 rfl (by kernel_rfl) rfl rfl (fun w' e' => y_fld (o := 0 + 0) T130.fld_30_2_2 rfl) ?_
                refine m_y (v := .slice afy nfy cfy) 3 rfl (by kernel_rfl) rfl rfl (fun w' e' => y_load T130.one_24 rfl (((B0_108.s 4 rfl).ext0 e').cell (j := 2) rfl)) ?_
                refine m_y (v := .int .i64 (atI wd hi px py)) 4 rfl (by kernel_rfl) rfl rfl (fun w' e' => y_move rfl) ?_
                refine m_y (v := .pointer (some ⟨b, 0, none⟩)) 5 rfl (by kernel_rfl) rfl rfl (fun w' e' => y_move rfl) ?_
                refine m_y (v := .pointer (some ⟨b, 0, none⟩)) 6 rfl (by kernel_rfl) rfl rfl (fun w' e' => y_nil rfl) ?_
                refine m_y (v := .pointer (some ⟨b, 0 + 2, none⟩)) 7 rfl (by kernel_rfl) rfl rfl (fun w' e' => y_fld (o := 0 + 0) T130.fld_30_2_2 rfl) ?_
                refine m_y (v := .slice afy nfy cfy) 8 rfl (by kernel_rfl) rfl rfl (fun w' e' => y_load T130.one_24 rfl (((B0_108.s 4 rfl).ext0 e').cell (j := 2) rfl)) ?_
                refine m_y (v := .int .i64 (atI wd hi px py)) 9 rfl (by kernel_rfl) rfl rfl (fun w' e' => y_move rfl) ?_
                refine m_y (v := .pointer (some (sat afy ((atI wd hi px py).toNat * 1)))) 10 rfl (by kernel_rfl) rfl rfl (fun w' e' => y_idx T130.sl_24_34_1 rfl rfl ((B.o 1 rfl).rd.addr (by omega)) (by omega) (by omega)) ?_
                obtain ⟨r111, hr112, hR110⟩ := Rd.atF (B0_108.o 1 rfl).rd (atI wd hi px py) (by omega) (by omega)
                refine m_y (v := .float .f32 r111) 11 rfl (by kernel_rfl) rfl rfl (fun w' e' => y_load T130.one_34 rfl ((hR110.ext0 e').cell (i := 0) rfl)) ?_
                refine m_y (v := .pointer (some ⟨b, 0, none⟩)) 12 rfl (by kernel_rfl) rfl rfl (fun w' e' => y_move rfl) ?_
                refine m_y (v := .pointer (some ⟨b, 0, none⟩)) 13 rfl (by kernel_rfl) rfl rfl (fun w' e' => y_nil rfl) ?_
                refine m_y (v := .pointer (some ⟨b, 0, none⟩)) 14 rfl (by kernel_rfl) rfl rfl (fun w' e' => y_fld (o := 0 + 0) T130.fld_30_0_0 rfl) ?_
                refine m_y (v := .slice afe nfe cfe) 15 rfl (by kernel_rfl) rfl rfl (fun w' e' => y_load T130.one_24 rfl (((B0_108.s 4 rfl).ext0 e').cell (j := 0) rfl)) ?_
                refine m_y (v := .agg #[.int .i64 wd, .int .i64 hi, .bool false, .slice asp nsp csp, .slice als nls cls]) 16 rfl (by kernel_rfl) rfl rfl (fun w' e' => y_loadn (b := b1) (o := 0) (vs := [.int .i64 wd, .int .i64 hi, .bool false, .slice asp nsp csp, .slice als nls cls]) T130.agg_26_5 rfl rfl (((B0_108.b 2 rfl).ext0 e').cells (o := 0) rfl)) ?_
                refine m_y (v := .int .i64 px) 17 rfl (by kernel_rfl) rfl rfl (fun w' e' => y_move rfl) ?_
                refine m_y (v := .int .i64 (px + 1)) 18 rfl (by kernel_rfl) rfl rfl (fun w' e' => y_add rfl rfl rfl (by omega)) ?_
                refine m_y (v := .int .i64 py) 19 rfl (by kernel_rfl) rfl rfl (fun w' e' => y_move rfl) ?_
                refine m_y (v := .pointer (some ⟨b, 0, none⟩)) 23 rfl (by kernel_rfl) rfl rfl (fun w' e' => y_move rfl) ?_
                refine m_y (v := .pointer (some ⟨b, 0, none⟩)) 24 rfl (by kernel_rfl) rfl rfl (fun w' e' => y_nil rfl) ?_
                refine m_y (v := .pointer (some ⟨b, 0, none⟩)) 25 rfl (by kernel_rfl) rfl rfl (fun w' e' => y_fld (o := 0 + 0) T130.fld_30_0_0 rfl) ?_
                refine m_y (v := .slice afe nfe cfe) 26 rfl (by kernel_rfl) rfl rfl (fun w' e' => y_load T130.one_24 rfl (((B0_108.s 4 rfl).ext0 e').cell (j := 0) rfl)) ?_
                refine m_y (v := .int .i64 (atI wd hi px py)) 27 rfl (by kernel_rfl) rfl rfl (fun w' e' => y_move rfl) ?_
                refine m_y (v := .pointer (some (sat afe ((atI wd hi px py).toNat * 1)))) 28 rfl (by kernel_rfl) rfl rfl (fun w' e' => y_idx T130.sl_24_34_1 rfl rfl ((B.r 3 rfl).addr (by omega)) (by omega) (by omega)) ?_
                obtain ⟨r114, hr115, hR113⟩ := Rd.atF (B0_108.r 3 rfl) (atI wd hi px py) (by omega) (by omega)
                refine m_y (v := .float .f32 r114) 29 rfl (by kernel_rfl) rfl rfl (fun w' e' => y_load T130.one_34 rfl ((hR113.ext0 e').cell (i := 0) rfl)) ?_
                refine m_k 20 [21, 22, 30, 31, 32, 33, 34] rfl (by kernel_rfl) rfl rfl (fun w116 e117 => ?_)
                replace R109 := R109.trans (Ext0.any e117)
                replace B := B.ext0 e117
                clear e117
                refine k_call T130.fn_69 (c_i_at (by omega) (by omega) (by omega) (by omega) (by omega) (by omega) (by omega) (by omega)) rfl ?_
                rintro _ w118 ⟨rfl, e119⟩
                replace R109 := R109.trans (Ext0.any e119)
                replace B := B.ext0 e119
                clear e119
                refine ⟨fun _ => R109, ?_⟩
                have hat120 := atI_b (wd := wd) (hi := hi) (x := px + 1) (y := py) (by omega) (by omega)
                refine m_y (v := .pointer (some (sat afe ((atI wd hi (px + 1) py).toNat * 1)))) 21 rfl (by kernel_rfl) rfl rfl (fun w' e' => y_idx T130.sl_24_34_1 rfl rfl ((B.r 3 rfl).addr (by omega)) (by omega) (by omega)) ?_
                obtain ⟨r122, hr123, hR121⟩ := Rd.atF (B0_108.r 3 rfl) (atI wd hi (px + 1) py) (by omega) (by omega)
                refine m_y (v := .float .f32 r122) 22 rfl (by kernel_rfl) rfl rfl (fun w' e' => y_load T130.one_34 rfl ((hR121.ext0 e').cell (i := 0) rfl)) ?_
                refine m_n 30 [31, 32, 33, 34] rfl (by kernel_rfl) rfl rfl (fun w' e' => n_arith (by decide) rfl rfl) ?_
                rintro _ ⟨r125, rfl, hr126⟩
                have hc129 := fopC hr126 hr123 hr115
                refine m_n 31 [32, 33, 34] rfl (by kernel_rfl) rfl rfl (fun w' e' => n_arith (by decide) rfl rfl) ?_
                rintro _ ⟨r131, rfl, hr132⟩
                have hc135 := fopC hr132 (cnLit (k := .f32) (t := 1056964608) (by kernel_rfl) (by kernel_rfl)) hc129
                refine m_n 32 [33, 34] rfl (by kernel_rfl) rfl rfl (fun w' e' => n_arith (by decide) rfl rfl) ?_
                rintro _ ⟨r137, rfl, hr138⟩
                have hc141 := fopC hr138 hr112 hc135
                refine m_y (v := .pointer (some (sat afy ((atI wd hi px py).toNat * 1)))) 33 rfl (by kernel_rfl) rfl rfl (fun w' e' => y_idx T130.sl_24_34_1 rfl rfl ((B.o 1 rfl).rd.addr (by omega)) (by omega) (by omega)) ?_
                refine m_kt 34 [] rfl (by kernel_rfl) rfl rfl (by kernel_rfl) (fun w144 e145 => ?_)
                replace R109 := R109.trans (Ext0.any e145)
                replace B := B.ext0 e145
                clear e145
                refine k_stO (k := kF) (i := atI wd hi px py) (j := 0) (x' := fop .add .f32 (el (mix (wd * hi) (wd * py + px) (fun i => hyF wd hi false Xfe Xfy (i % wd) (i / wd)) Xfy) (atI wd hi px py)) (fop .mul .f32 1056964608 (fop .sub .f32 (el Xfe (atI wd hi (px + 1) py)) (el Xfe (atI wd hi px py))))) (new := [.float .f32 r137]) T130.sz_34_1 rfl rfl rfl rfl rfl (by simp [Value.oneCell']) (by decide) (B.o 1 rfl) (by omega) (by omega) (by decide) (by rintro q ⟨_, rfl, _⟩; exact ⟨_, rfl, hc141⟩) (fun w142 hU143 => ?_)
                clear R109
                replace B : Bu w (hasW [.ow kF afx nfx cfx 34 Xfx, .ow kF afy nfy cfy 34 Xfy]) w142 [.ow kF afy nfy cfy 34 (put (mix (wd * hi) (wd * py + px) (fun i => hyF wd hi false Xfe Xfy (i % wd) (i / wd)) Xfy) (atI wd hi px py) (fop .add .f32 (el (mix (wd * hi) (wd * py + px) (fun i => hyF wd hi false Xfe Xfy (i % wd) (i / wd)) Xfy) (atI wd hi px py)) (fop .mul .f32 1056964608 (fop .sub .f32 (el Xfe (atI wd hi (px + 1) py)) (el Xfe (atI wd hi px py)))))), .ow kF afx nfx cfx 34 (mix (wd * hi) (wd * py + px) (fun i => hxF wd hi false Xfe Xfx (i % wd) (i / wd)) Xfx), .blk b1 [.int .i64 wd, .int .i64 hi, .bool false, .slice asp nsp csp, .slice als nls cls] 26, .rd kF afe nfe Xfe, .sl (some ⟨b, 0, none⟩) [.slice afe nfe cfe, .slice afx nfx cfx, .slice afy nfy cfy]] := B.upd [1] rfl hU143
                clear hU143
                refine m_done (by kernel_rfl) (fun w146 e147 => ?_)
                replace B := B.ext0 e147
                clear e147
                clear B0_108
                refine W_region (by kernel_rfl) ?_
                refine s_y (v := .int .i64 (px + 1)) rfl (y_add rfl rfl rfl (by omega)) ?_
                refine s_y (v := .int .i64 (px + 1)) rfl (y_move rfl) ?_
                refine s_nil ?_
                have hcx : (false || decide (py < hi - 1)) = false := by simp only [(decide_eq_true c6), (decide_eq_true c9), (decide_eq_false c13), (decide_eq_true c103), Bool.and_true, Bool.true_and, Bool.and_false, Bool.false_and, Bool.not_true, Bool.not_false, Bool.or_true, Bool.true_or, Bool.or_false, Bool.false_or]
                replace B : Bu w (hasW [.ow kF afx nfx cfx 34 Xfx, .ow kF afy nfy cfy 34 Xfy]) w146 [.ow kF afy nfy cfy 34 (put (mix (wd * hi) (wd * py + px) (fun i => hyF wd hi false Xfe Xfy (i % wd) (i / wd)) Xfy) (atI wd hi px py) (fop .add .f32 (el (mix (wd * hi) (wd * py + px) (fun i => hyF wd hi false Xfe Xfy (i % wd) (i / wd)) Xfy) (atI wd hi px py)) (fop .mul .f32 1056964608 (fop .sub .f32 (el Xfe (atI wd hi (px + 1) py)) (el Xfe (atI wd hi px py)))))), .ow kF afx nfx cfx 34 (mix (wd * hi) (wd * py + (px + 1)) (fun i => hxF wd hi false Xfe Xfx (i % wd) (i / wd)) Xfx), .blk b1 [.int .i64 wd, .int .i64 hi, .bool false, .slice asp nsp csp, .slice als nls cls] 26, .rd kF afe nfe Xfe, .sl (some ⟨b, 0, none⟩) [.slice afe nfe cfe, .slice afx nfx cfx, .slice afy nfy cfy]] := B.castX 1 rfl rfl (mix_same (G := hxF wd hi false Xfe Xfx) (by omega) (by omega) (by omega) (by omega) (hx_no hcx))
                have hcy : (false || decide (px < wd - 1)) = true := by simp only [(decide_eq_true c6), (decide_eq_true c9), (decide_eq_false c13), (decide_eq_true c103), Bool.and_true, Bool.true_and, Bool.and_false, Bool.false_and, Bool.not_true, Bool.not_false, Bool.or_true, Bool.true_or, Bool.or_false, Bool.false_or]
                replace B : Bu w (hasW [.ow kF afx nfx cfx 34 Xfx, .ow kF afy nfy cfy 34 Xfy]) w146 [.ow kF afy nfy cfy 34 (mix (wd * hi) (wd * py + (px + 1)) (fun i => hyF wd hi false Xfe Xfy (i % wd) (i / wd)) Xfy), .ow kF afx nfx cfx 34 (mix (wd * hi) (wd * py + (px + 1)) (fun i => hxF wd hi false Xfe Xfx (i % wd) (i / wd)) Xfx), .blk b1 [.int .i64 wd, .int .i64 hi, .bool false, .slice asp nsp csp, .slice als nls cls] 26, .rd kF afe nfe Xfe, .sl (some ⟨b, 0, none⟩) [.slice afe nfe cfe, .slice afx nfx cfx, .slice afy nfy cfy]] := B.castX 0 rfl rfl (mix_cell (G := hyF wd hi false Xfe Xfy) rfl (by omega) (by omega) (by omega) (by omega) rfl (hy_yes rfl (by omega) (by omega) (by omega) (by omega) hcy))
                refine ⟨⟨_, px + 1, Fits.eq ⟨rfl, rfl, rfl, rfl, rfl, rfl, rfl, rfl, rfl, rfl, trivial⟩, (B.pick [1, 0, 2, 3, 4] rfl rfl), (by omega), (by omega)⟩, ?_⟩
                show (wd - (px + 1)).toNat < (wd - px).toNat
                omega
              · refine s_y (v := .bool false) rfl (y_lss rfl rfl (decide_eq_false c103)) ?_
                refine s_y (v := .bool false) rfl (y_pick_f rfl rfl) ?_
                refine s_nil ?_
                refine W_if_f (by decide) rfl ?_
                refine W_skip ?_
                refine W_region (by kernel_rfl) ?_
                refine s_y (v := .int .i64 (px + 1)) rfl (y_add rfl rfl rfl (by omega)) ?_
                refine s_y (v := .int .i64 (px + 1)) rfl (y_move rfl) ?_
                refine s_nil ?_
                have hcx : (false || decide (py < hi - 1)) = false := by simp only [(decide_eq_true c6), (decide_eq_true c9), (decide_eq_false c13), (decide_eq_false c103), Bool.and_true, Bool.true_and, Bool.and_false, Bool.false_and, Bool.not_true, Bool.not_false, Bool.or_true, Bool.true_or, Bool.or_false, Bool.false_or]
                replace B : Bu w (hasW [.ow kF afx nfx cfx 34 Xfx, .ow kF afy nfy cfy 34 Xfy]) w10 [.ow kF afx nfx cfx 34 (mix (wd * hi) (wd * py + (px + 1)) (fun i => hxF wd hi false Xfe Xfx (i % wd) (i / wd)) Xfx), .ow kF afy nfy cfy 34 (mix (wd * hi) (wd * py + px) (fun i => hyF wd hi false Xfe Xfy (i % wd) (i / wd)) Xfy), .blk b1 [.int .i64 wd, .int .i64 hi, .bool false, .slice asp nsp csp, .slice als nls cls] 26, .rd kF afe nfe Xfe, .sl (some ⟨b, 0, none⟩) [.slice afe nfe cfe, .slice afx nfx cfx, .slice afy nfy cfy]] := B.castX 0 rfl rfl (mix_same (G := hxF wd hi false Xfe Xfx) (by omega) (by omega) (by omega) (by omega) (hx_no hcx))
                have hcy : (false || decide (px < wd - 1)) = false := by simp only [(decide_eq_true c6), (decide_eq_true c9), (decide_eq_false c13), (decide_eq_false c103), Bool.and_true, Bool.true_and, Bool.and_false, Bool.false_and, Bool.not_true, Bool.not_false, Bool.or_true, Bool.true_or, Bool.or_false, Bool.false_or]
                replace B : Bu w (hasW [.ow kF afx nfx cfx 34 Xfx, .ow kF afy nfy cfy 34 Xfy]) w10 [.ow kF afx nfx cfx 34 (mix (wd * hi) (wd * py + (px + 1)) (fun i => hxF wd hi false Xfe Xfx (i % wd) (i / wd)) Xfx), .ow kF afy nfy cfy 34 (mix (wd * hi) (wd * py + (px + 1)) (fun i => hyF wd hi false Xfe Xfy (i % wd) (i / wd)) Xfy), .blk b1 [.int .i64 wd, .int .i64 hi, .bool false, .slice asp nsp csp, .slice als nls cls] 26, .rd kF afe nfe Xfe, .sl (some ⟨b, 0, none⟩) [.slice afe nfe cfe, .slice afx nfx cfx, .slice afy nfy cfy]] := B.castX 1 rfl rfl (mix_same (G := hyF wd hi false Xfe Xfy) (by omega) (by omega) (by omega) (by omega) (hy_no hcy))
                refine ⟨⟨_, px + 1, Fits.eq ⟨rfl, rfl, rfl, rfl, rfl, rfl, rfl, rfl, rfl, rfl, trivial⟩, B, (by omega), (by omega)⟩, ?_⟩
                show (wd - (px + 1)).toNat < (wd - px).toNat
                omega
          · refine s_skip rfl ?_
            refine s_skip rfl ?_
            refine s_skip rfl ?_
            refine s_skip rfl ?_
            refine s_skip rfl ?_
            refine s_y (v := .bool true) rfl (y_pick_t rfl rfl) ?_
            refine s_nil ?_
            refine W_if_t (by decide) rfl ?_
            have B0_152 := B
            refine W_draw (no) T130.mx (by kernel_rfl) (fun w150 e151 => ?_)
            have R153 := Ext.refl (no) w10
            replace R153 := R153.trans (Ext0.any e151)
            replace B := B.ext0 e151
            clear e151
            refine m_y (v := .pointer (some ⟨b, 0, none⟩)) 0 rfl (by kernel_rfl) rfl rfl (fun w' e' => y_move rfl) ?_
            refine m_y (v := .pointer (some ⟨b, 0, none⟩)) 1 rfl (by kernel_rfl) rfl rfl (fun w' e' => y_nil rfl) ?_
            refine m_y (v := .pointer (some ⟨b, 0 + 1, none⟩)) 2 rfl (by kernel_rfl) rfl rfl (fun w' e' => y_fld (o := 0 + 0) T130.fld_30_1_1 rfl) ?_
            refine m_y (v := .slice afx nfx cfx) 3 rfl (by kernel_rfl) rfl rfl (fun w' e' => y_load T130.one_24 rfl (((B0_152.s 4 rfl).ext0 e').cell (j := 1) rfl)) ?_
            refine m_y (v := .int .i64 (atI wd hi px py)) 4 rfl (by kernel_rfl) rfl rfl (fun w' e' => y_move rfl) ?_
            refine m_y (v := .pointer (some ⟨b, 0, none⟩)) 5 rfl (by kernel_rfl) rfl rfl (fun w' e' => y_move rfl) ?_
            refine m_y (v := .pointer (some ⟨b, 0, none⟩)) 6 rfl (by kernel_rfl) rfl rfl (fun w' e' => y_nil rfl) ?_
            refine m_y (v := .pointer (some ⟨b, 0 + 1, none⟩)) 7 rfl (by kernel_rfl) rfl rfl (fun w' e' => y_fld (o := 0 + 0) T130.fld_30_1_1 rfl) ?_
            refine m_y (v := .slice afx nfx cfx) 8 rfl (by kernel_rfl) rfl rfl (fun w' e' => y_load T130.one_24 rfl (((B0_152.s 4 rfl).ext0 e').cell (j := 1) rfl)) ?_
            refine m_y (v := .int .i64 (atI wd hi px py)) 9 rfl (by kernel_rfl) rfl rfl (fun w' e' => y_move rfl) ?_
            refine m_y (v := .pointer (some (sat afx ((atI wd hi px py).toNat * 1)))) 10 rfl (by kernel_rfl) rfl rfl (fun w' e' => y_idx T130.sl_24_34_1 rfl rfl ((B.o 0 rfl).rd.addr (by omega)) (by omega) (by omega)) ?_
            obtain ⟨r155, hr156, hR154⟩ := Rd.atF (B0_152.o 0 rfl).rd (atI wd hi px py) (by omega) (by omega)
            refine m_y (v := .float .f32 r155) 11 rfl (by kernel_rfl) rfl rfl (fun w' e' => y_load T130.one_34 rfl ((hR154.ext0 e').cell (i := 0) rfl)) ?_
            refine m_y (v := .pointer (some ⟨b, 0, none⟩)) 12 rfl (by kernel_rfl) rfl rfl (fun w' e' => y_move rfl) ?_
            refine m_y (v := .pointer (some ⟨b, 0, none⟩)) 13 rfl (by kernel_rfl) rfl rfl (fun w' e' => y_nil rfl) ?_
            refine m_y (v := .pointer (some ⟨b, 0, none⟩)) 14 rfl (by kernel_rfl) rfl rfl (fun w' e' => y_fld (o := 0 + 0) T130.fld_30_0_0 rfl) ?_
            refine m_y (v := .slice afe nfe cfe) 15 rfl (by kernel_rfl) rfl rfl (fun w' e' => y_load T130.one_24 rfl (((B0_152.s 4 rfl).ext0 e').cell (j := 0) rfl)) ?_
            refine m_y (v := .agg #[.int .i64 wd, .int .i64 hi, .bool true, .slice asp nsp csp, .slice als nls cls]) 16 rfl (by kernel_rfl) rfl rfl (fun w' e' => y_loadn (b := b1) (o := 0) (vs := [.int .i64 wd, .int .i64 hi, .bool true, .slice asp nsp csp, .slice als nls cls]) T130.agg_26_5 rfl rfl (((B0_152.b 2 rfl).ext0 e').cells (o := 0) rfl)) ?_
            refine m_y (v := .int .i64 px) 17 rfl (by kernel_rfl) rfl rfl (fun w' e' => y_move rfl) ?_
            refine m_y (v := .int .i64 py) 18 rfl (by kernel_rfl) rfl rfl (fun w' e' => y_move rfl) ?_
            refine m_y (v := .int .i64 (py + 1)) 19 rfl (by kernel_rfl) rfl rfl (fun w' e' => y_add rfl rfl rfl (by omega)) ?_
            refine m_y (v := .pointer (some ⟨b, 0, none⟩)) 23 rfl (by kernel_rfl) rfl rfl (fun w' e' => y_move rfl) ?_
            refine m_y (v := .pointer (some ⟨b, 0, none⟩)) 24 rfl (by kernel_rfl) rfl rfl (fun w' e' => y_nil rfl) ?_
            refine m_y (v := .pointer (some ⟨b, 0, none⟩)) 25 rfl (by kernel_rfl) rfl rfl (fun w' e' => y_fld (o := 0 + 0) T130.fld_30_0_0 rfl) ?_
            refine m_y (v := .slice afe nfe cfe) 26 rfl (by kernel_rfl) rfl rfl (fun w' e' => y_load T130.one_24 rfl (((B0_152.s 4 rfl).ext0 e').cell (j := 0) rfl)) ?_
            refine m_y (v := .int .i64 (atI wd hi px py)) 27 rfl (by kernel_rfl) rfl rfl (fun w' e' => y_move rfl) ?_
            refine m_y (v := .pointer (some (sat afe ((atI wd hi px py).toNat * 1)))) 28 rfl (by kernel_rfl) rfl rfl (fun w' e' => y_idx T130.sl_24_34_1 rfl rfl ((B.r 3 rfl).addr (by omega)) (by omega) (by omega)) ?_
            obtain ⟨r158, hr159, hR157⟩ := Rd.atF (B0_152.r 3 rfl) (atI wd hi px py) (by omega) (by omega)
            refine m_y (v := .float .f32 r158) 29 rfl (by kernel_rfl) rfl rfl (fun w' e' => y_load T130.one_34 rfl ((hR157.ext0 e').cell (i := 0) rfl)) ?_
            refine m_k 20 [21, 22, 30, 31, 32, 33, 34] rfl (by kernel_rfl) rfl rfl (fun w160 e161 => ?_)
            replace R153 := R153.trans (Ext0.any e161)
            replace B := B.ext0 e161
            clear e161
            refine k_call T130.fn_69 (c_i_at (by omega) (by omega) (by omega) (by omega) (by omega) (by omega) (by omega) (by omega)) rfl ?_
            rintro _ w162 ⟨rfl, e163⟩
            replace R153 := R153.trans (Ext0.any e163)
            replace B := B.ext0 e163
            clear e163
            refine ⟨fun _ => R153, ?_⟩
            have hat164 := atI_b (wd := wd) (hi := hi) (x := px) (y := py + 1) (by omega) (by omega)
            refine m_y (v := .pointer (some (sat afe ((atI wd hi px (py + 1)).toNat * 1)))) 21 rfl (by kernel_rfl) rfl rfl (fun w' e' => y_idx T130.sl_24_34_1 rfl rfl ((B.r 3 rfl).addr (by omega)) (by omega) (by omega)) ?_
            obtain ⟨r166, hr167, hR165⟩ := Rd.atF (B0_152.r 3 rfl) (atI wd hi px (py + 1)) (by omega) (by omega)
            refine m_y (v := .float .f32 r166) 22 rfl (by kernel_rfl) rfl rfl (fun w' e' => y_load T130.one_34 rfl ((hR165.ext0 e').cell (i := 0) rfl)) ?_
            refine m_n 30 [31, 32, 33, 34] rfl (by kernel_rfl) rfl rfl (fun w' e' => n_arith (by decide) rfl rfl) ?_
            rintro _ ⟨r169, rfl, hr170⟩
            have hc173 := fopC hr170 hr167 hr159
            refine m_n 31 [32, 33, 34] rfl (by kernel_rfl) rfl rfl (fun w' e' => n_arith (by decide) rfl rfl) ?_
            rintro _ ⟨r175, rfl, hr176⟩
            have hc179 := fopC hr176 (cnLit (k := .f32) (t := 1056964608) (by kernel_rfl) (by kernel_rfl)) hc173
            refine m_n 32 [33, 34] rfl (by kernel_rfl) rfl rfl (fun w' e' => n_arith (by decide) rfl rfl) ?_
            rintro _ ⟨r181, rfl, hr182⟩
            have hc185 := fopC hr182 hr156 hc179
            refine m_y (v := .pointer (some (sat afx ((atI wd hi px py).toNat * 1)))) 33 rfl (by kernel_rfl) rfl rfl (fun w' e' => y_idx T130.sl_24_34_1 rfl rfl ((B.o 0 rfl).rd.addr (by omega)) (by omega) (by omega)) ?_
            refine m_kt 34 [] rfl (by kernel_rfl) rfl rfl (by kernel_rfl) (fun w188 e189 => ?_)
            replace R153 := R153.trans (Ext0.any e189)
            replace B := B.ext0 e189
            clear e189
            refine k_stO (k := kF) (i := atI wd hi px py) (j := 0) (x' := fop .sub .f32 (el (mix (wd * hi) (wd * py + px) (fun i => hxF wd hi true Xfe Xfx (i % wd) (i / wd)) Xfx) (atI wd hi px py)) (fop .mul .f32 1056964608 (fop .sub .f32 (el Xfe (atI wd hi px (py + 1))) (el Xfe (atI wd hi px py))))) (new := [.float .f32 r181]) T130.sz_34_1 rfl rfl rfl rfl rfl (by simp [Value.oneCell']) (by decide) (B.o 0 rfl) (by omega) (by omega) (by decide) (by rintro q ⟨_, rfl, _⟩; exact ⟨_, rfl, hc185⟩) (fun w186 hU187 => ?_)
            clear R153
            replace B : Bu w (hasW [.ow kF afx nfx cfx 34 Xfx, .ow kF afy nfy cfy 34 Xfy]) w186 [.ow kF afx nfx cfx 34 (put (mix (wd * hi) (wd * py + px) (fun i => hxF wd hi true Xfe Xfx (i % wd) (i / wd)) Xfx) (atI wd hi px py) (fop .sub .f32 (el (mix (wd * hi) (wd * py + px) (fun i => hxF wd hi true Xfe Xfx (i % wd) (i / wd)) Xfx) (atI wd hi px py)) (fop .mul .f32 1056964608 (fop .sub .f32 (el Xfe (atI wd hi px (py + 1))) (el Xfe (atI wd hi px py)))))), .ow kF afy nfy cfy 34 (mix (wd * hi) (wd * py + px) (fun i => hyF wd hi true Xfe Xfy (i % wd) (i / wd)) Xfy), .blk b1 [.int .i64 wd, .int .i64 hi, .bool true, .slice asp nsp csp, .slice als nls cls] 26, .rd kF afe nfe Xfe, .sl (some ⟨b, 0, none⟩) [.slice afe nfe cfe, .slice afx nfx cfx, .slice afy nfy cfy]] := B.upd [0] rfl hU187
            clear hU187
            refine m_done (by kernel_rfl) (fun w190 e191 => ?_)
            replace B := B.ext0 e191
            clear e191
            clear B0_152
            refine W_seq ?_
            refine W_region (by kernel_rfl) ?_
            refine s_y (v := .pointer (some ⟨b1, 2, none⟩)) rfl (y_fld (o := 0) T130.fld_26_2_2 rfl) ?_
            refine s_y (v := .bool true) rfl (y_load T130.one_4 rfl ((B.b 2 rfl).cell (j := 2) rfl)) ?_
            refine s_y (v := .bool true) rfl (y_move rfl) ?_
            refine s_skip rfl ?_
            refine s_skip rfl ?_
            refine s_skip rfl ?_
            refine s_skip rfl ?_
            refine s_skip rfl ?_
            refine s_y (v := .bool true) rfl (y_pick_t rfl rfl) ?_
            refine s_nil ?_
            refine W_if_t (by decide) rfl ?_
            have B0_196 := B
            refine W_draw (no) T130.mx (by kernel_rfl) (fun w194 e195 => ?_)
            have R197 := Ext.refl (no) w190
            replace R197 := R197.trans (Ext0.any e195)
            replace B := B.ext0 e195
            clear e195
            refine m_y (v := .pointer (some ⟨b, 0, none⟩)) 0 rfl (by kernel_rfl) rfl rfl (fun w' e' => y_move rfl) ?_
            refine m_y (v := .pointer (some ⟨b, 0, none⟩)) 1 rfl (by kernel_rfl) rfl rfl (fun w' e' => y_nil rfl) ?_
            refine m_y (v := .pointer (some ⟨b, 0 + 2, none⟩)) 2 rfl (by kernel_rfl) rfl rfl (fun w' e' => y_fld (o := 0 + 0) T130.fld_30_2_2 rfl) ?_
            refine m_y (v := .slice afy nfy cfy) 3 rfl (by kernel_rfl) rfl rfl (fun w' e' => y_load T130.one_24 rfl (((B0_196.s 4 rfl).ext0 e').cell (j := 2) rfl)) ?_
            refine m_y (v := .int .i64 (atI wd hi px py)) 4 rfl (by kernel_rfl) rfl rfl (fun w' e' => y_move rfl) ?_
            refine m_y (v := .pointer (some ⟨b, 0, none⟩)) 5 rfl (by kernel_rfl) rfl rfl (fun w' e' => y_move rfl) ?_
            refine m_y (v := .pointer (some ⟨b, 0, none⟩)) 6 rfl (by kernel_rfl) rfl rfl (fun w' e' => y_nil rfl) ?_
            refine m_y (v := .pointer (some ⟨b, 0 + 2, none⟩)) 7 rfl (by kernel_rfl) rfl rfl (fun w' e' => y_fld (o := 0 + 0) T130.fld_30_2_2 rfl) ?_
            refine m_y (v := .slice afy nfy cfy) 8 rfl (by kernel_rfl) rfl rfl (fun w' e' => y_load T130.one_24 rfl (((B0_196.s 4 rfl).ext0 e').cell (j := 2) rfl)) ?_
            refine m_y (v := .int .i64 (atI wd hi px py)) 9 rfl (by kernel_rfl) rfl rfl (fun w' e' => y_move rfl) ?_
            refine m_y (v := .pointer (some (sat afy ((atI wd hi px py).toNat * 1)))) 10 rfl (by kernel_rfl) rfl rfl (fun w' e' => y_idx T130.sl_24_34_1 rfl rfl ((B.o 1 rfl).rd.addr (by omega)) (by omega) (by omega)) ?_
            obtain ⟨r199, hr200, hR198⟩ := Rd.atF (B0_196.o 1 rfl).rd (atI wd hi px py) (by omega) (by omega)
            refine m_y (v := .float .f32 r199) 11 rfl (by kernel_rfl) rfl rfl (fun w' e' => y_load T130.one_34 rfl ((hR198.ext0 e').cell (i := 0) rfl)) ?_
            refine m_y (v := .pointer (some ⟨b, 0, none⟩)) 12 rfl (by kernel_rfl) rfl rfl (fun w' e' => y_move rfl) ?_
            refine m_y (v := .pointer (some ⟨b, 0, none⟩)) 13 rfl (by kernel_rfl) rfl rfl (fun w' e' => y_nil rfl) ?_
            refine m_y (v := .pointer (some ⟨b, 0, none⟩)) 14 rfl (by kernel_rfl) rfl rfl (fun w' e' => y_fld (o := 0 + 0) T130.fld_30_0_0 rfl) ?_
            refine m_y (v := .slice afe nfe cfe) 15 rfl (by kernel_rfl) rfl rfl (fun w' e' => y_load T130.one_24 rfl (((B0_196.s 4 rfl).ext0 e').cell (j := 0) rfl)) ?_
            refine m_y (v := .agg #[.int .i64 wd, .int .i64 hi, .bool true, .slice asp nsp csp, .slice als nls cls]) 16 rfl (by kernel_rfl) rfl rfl (fun w' e' => y_loadn (b := b1) (o := 0) (vs := [.int .i64 wd, .int .i64 hi, .bool true, .slice asp nsp csp, .slice als nls cls]) T130.agg_26_5 rfl rfl (((B0_196.b 2 rfl).ext0 e').cells (o := 0) rfl)) ?_
            refine m_y (v := .int .i64 px) 17 rfl (by kernel_rfl) rfl rfl (fun w' e' => y_move rfl) ?_
            refine m_y (v := .int .i64 (px + 1)) 18 rfl (by kernel_rfl) rfl rfl (fun w' e' => y_add rfl rfl rfl (by omega)) ?_
            refine m_y (v := .int .i64 py) 19 rfl (by kernel_rfl) rfl rfl (fun w' e' => y_move rfl) ?_
            refine m_y (v := .pointer (some ⟨b, 0, none⟩)) 23 rfl (by kernel_rfl) rfl rfl (fun w' e' => y_move rfl) ?_
            refine m_y (v := .pointer (some ⟨b, 0, none⟩)) 24 rfl (by kernel_rfl) rfl rfl (fun w' e' => y_nil rfl) ?_
            refine m_y (v := .pointer (some ⟨b, 0, none⟩)) 25 rfl (by kernel_rfl) rfl rfl (fun w' e' => y_fld (o := 0 + 0) T130.fld_30_0_0 rfl) ?_
            refine m_y (v := .slice afe nfe cfe) 26 rfl (by kernel_rfl) rfl rfl (fun w' e' => y_load T130.one_24 rfl (((B0_196.s 4 rfl).ext0 e').cell (j := 0) rfl)) ?_
            refine m_y (v := .int .i64 (atI wd hi px py)) 27 rfl (by kernel_rfl) rfl rfl (fun w' e' => y_move rfl) ?_
            refine m_y (v := .pointer (some (sat afe ((atI wd hi px py).toNat * 1)))) 28 rfl (by kernel_rfl) rfl rfl (fun w' e' => y_idx T130.sl_24_34_1 rfl rfl ((B.r 3 rfl).addr (by omega)) (by omega) (by omega)) ?_
            obtain ⟨r202, hr203, hR201⟩ := Rd.atF (B0_196.r 3 rfl) (atI wd hi px py) (by omega) (by omega)
            refine m_y (v := .float .f32 r202) 29 rfl (by kernel_rfl) rfl rfl (fun w' e' => y_load T130.one_34 rfl ((hR201.ext0 e').cell (i := 0) rfl)) ?_
            refine m_k 20 [21, 22, 30, 31, 32, 33, 34] rfl (by kernel_rfl) rfl rfl (fun w204 e205 => ?_)
            replace R197 := R197.trans (Ext0.any e205)
            replace B := B.ext0 e205
            clear e205
            refine k_call T130.fn_69 (c_i_at (by omega) (by omega) (by omega) (by omega) (by omega) (by omega) (by omega) (by omega)) rfl ?_
            rintro _ w206 ⟨rfl, e207⟩
            replace R197 := R197.trans (Ext0.any e207)
            replace B := B.ext0 e207
            clear e207
            refine ⟨fun _ => R197, ?_⟩
            have hat208 := atI_b (wd := wd) (hi := hi) (x := px + 1) (y := py) (by omega) (by omega)
            refine m_y (v := .pointer (some (sat afe ((atI wd hi (px + 1) py).toNat * 1)))) 21 rfl (by kernel_rfl) rfl rfl (fun w' e' => y_idx T130.sl_24_34_1 rfl rfl ((B.r 3 rfl).addr (by omega)) (by omega) (by omega)) ?_
            obtain ⟨r210, hr211, hR209⟩ := Rd.atF (B0_196.r 3 rfl) (atI wd hi (px + 1) py) (by omega) (by omega)
            refine m_y (v := .float .f32 r210) 22 rfl (by kernel_rfl) rfl rfl (fun w' e' => y_load T130.one_34 rfl ((hR209.ext0 e').cell (i := 0) rfl)) ?_
            refine m_n 30 [31, 32, 33, 34] rfl (by kernel_rfl) rfl rfl (fun w' e' => n_arith (by decide) rfl rfl) ?_
            rintro _ ⟨r213, rfl, hr214⟩
            have hc217 := fopC hr214 hr211 hr203
            refine m_n 31 [32, 33, 34] rfl (by kernel_rfl) rfl rfl (fun w' e' => n_arith (by decide) rfl rfl) ?_
            rintro _ ⟨r219, rfl, hr220⟩
            have hc223 := fopC hr220 (cnLit (k := .f32) (t := 1056964608) (by kernel_rfl) (by kernel_rfl)) hc217
            refine m_n 32 [33, 34] rfl (by kernel_rfl) rfl rfl (fun w' e' => n_arith (by decide) rfl rfl) ?_
            rintro _ ⟨r225, rfl, hr226⟩
            have hc229 := fopC hr226 hr200 hc223
            refine m_y (v := .pointer (some (sat afy ((atI wd hi px py).toNat * 1)))) 33 rfl (by kernel_rfl) rfl rfl (fun w' e' => y_idx T130.sl_24_34_1 rfl rfl ((B.o 1 rfl).rd.addr (by omega)) (by omega) (by omega)) ?_
            refine m_kt 34 [] rfl (by kernel_rfl) rfl rfl (by kernel_rfl) (fun w232 e233 => ?_)
            replace R197 := R197.trans (Ext0.any e233)
            replace B := B.ext0 e233
            clear e233
            refine k_stO (k := kF) (i := atI wd hi px py) (j := 0) (x' := fop .add .f32 (el (mix (wd * hi) (wd * py + px) (fun i => hyF wd hi true Xfe Xfy (i % wd) (i / wd)) Xfy) (atI wd hi px py)) (fop .mul .f32 1056964608 (fop .sub .f32 (el Xfe (atI wd hi (px + 1) py)) (el Xfe (atI wd hi px py))))) (new := [.float .f32 r225]) T130.sz_34_1 rfl rfl rfl rfl rfl (by simp [Value.oneCell']) (by decide) (B.o 1 rfl) (by omega) (by omega) (by decide) (by rintro q ⟨_, rfl, _⟩; exact ⟨_, rfl, hc229⟩) (fun w230 hU231 => ?_)
            clear R197
            replace B : Bu w (hasW [.ow kF afx nfx cfx 34 Xfx, .ow kF afy nfy cfy 34 Xfy]) w230 [.ow kF afy nfy cfy 34 (put (mix (wd * hi) (wd * py + px) (fun i => hyF wd hi true Xfe Xfy (i % wd) (i / wd)) Xfy) (atI wd hi px py) (fop .add .f32 (el (mix (wd * hi) (wd * py + px) (fun i => hyF wd hi true Xfe Xfy (i % wd) (i / wd)) Xfy) (atI wd hi px py)) (fop .mul .f32 1056964608 (fop .sub .f32 (el Xfe (atI wd hi (px + 1) py)) (el Xfe (atI wd hi px py)))))), .ow kF afx nfx cfx 34 (put (mix (wd * hi) (wd * py + px) (fun i => hxF wd hi true Xfe Xfx (i % wd) (i / wd)) Xfx) (atI wd hi px py) (fop .sub .f32 (el (mix (wd * hi) (wd * py + px) (fun i => hxF wd hi true Xfe Xfx (i % wd) (i / wd)) Xfx) (atI wd hi px py)) (fop .mul .f32 1056964608 (fop .sub .f32 (el Xfe (atI wd hi px (py + 1))) (el Xfe (atI wd hi px py)))))), .blk b1 [.int .i64 wd, .int .i64 hi, .bool true, .slice asp nsp csp, .slice als nls cls] 26, .rd kF afe nfe Xfe, .sl (some ⟨b, 0, none⟩) [.slice afe nfe cfe, .slice afx nfx cfx, .slice afy nfy cfy]] := B.upd [1] rfl hU231
            clear hU231
            refine m_done (by kernel_rfl) (fun w234 e235 => ?_)
            replace B := B.ext0 e235
            clear e235
            clear B0_196
            refine W_region (by kernel_rfl) ?_
            refine s_y (v := .int .i64 (px + 1)) rfl (y_add rfl rfl rfl (by omega)) ?_
            refine s_y (v := .int .i64 (px + 1)) rfl (y_move rfl) ?_
            refine s_nil ?_
            have hcx : (true || decide (py < hi - 1)) = true := by simp only [(decide_eq_true c6), (decide_eq_true c9), Bool.and_true, Bool.true_and, Bool.and_false, Bool.false_and, Bool.not_true, Bool.not_false, Bool.or_true, Bool.true_or, Bool.or_false, Bool.false_or]
            replace B : Bu w (hasW [.ow kF afx nfx cfx 34 Xfx, .ow kF afy nfy cfy 34 Xfy]) w234 [.ow kF afy nfy cfy 34 (put (mix (wd * hi) (wd * py + px) (fun i => hyF wd hi true Xfe Xfy (i % wd) (i / wd)) Xfy) (atI wd hi px py) (fop .add .f32 (el (mix (wd * hi) (wd * py + px) (fun i => hyF wd hi true Xfe Xfy (i % wd) (i / wd)) Xfy) (atI wd hi px py)) (fop .mul .f32 1056964608 (fop .sub .f32 (el Xfe (atI wd hi (px + 1) py)) (el Xfe (atI wd hi px py)))))), .ow kF afx nfx cfx 34 (mix (wd * hi) (wd * py + (px + 1)) (fun i => hxF wd hi true Xfe Xfx (i % wd) (i / wd)) Xfx), .blk b1 [.int .i64 wd, .int .i64 hi, .bool true, .slice asp nsp csp, .slice als nls cls] 26, .rd kF afe nfe Xfe, .sl (some ⟨b, 0, none⟩) [.slice afe nfe cfe, .slice afx nfx cfx, .slice afy nfy cfy]] := B.castX 1 rfl rfl (mix_cell (G := hxF wd hi true Xfe Xfx) rfl (by omega) (by omega) (by omega) (by omega) rfl (hx_yes rfl (by omega) (by omega) (by omega) (by omega) hcx))
            have hcy : (true || decide (px < wd - 1)) = true := by simp only [(decide_eq_true c6), (decide_eq_true c9), Bool.and_true, Bool.true_and, Bool.and_false, Bool.false_and, Bool.not_true, Bool.not_false, Bool.or_true, Bool.true_or, Bool.or_false, Bool.false_or]
            replace B : Bu w (hasW [.ow kF afx nfx cfx 34 Xfx, .ow kF afy nfy cfy 34 Xfy]) w234 [.ow kF afy nfy cfy 34 (mix (wd * hi) (wd * py + (px + 1)) (fun i => hyF wd hi true Xfe Xfy (i % wd) (i / wd)) Xfy), .ow kF afx nfx cfx 34 (mix (wd * hi) (wd * py + (px + 1)) (fun i => hxF wd hi true Xfe Xfx (i % wd) (i / wd)) Xfx), .blk b1 [.int .i64 wd, .int .i64 hi, .bool true, .slice asp nsp csp, .slice als nls cls] 26, .rd kF afe nfe Xfe, .sl (some ⟨b, 0, none⟩) [.slice afe nfe cfe, .slice afx nfx cfx, .slice afy nfy cfy]] := B.castX 0 rfl rfl (mix_cell (G := hyF wd hi true Xfe Xfy) rfl (by omega) (by omega) (by omega) (by omega) rfl (hy_yes rfl (by omega) (by omega) (by omega) (by omega) hcy))
            refine ⟨⟨_, px + 1, Fits.eq ⟨rfl, rfl, rfl, rfl, rfl, rfl, rfl, rfl, rfl, rfl, trivial⟩, (B.pick [1, 0, 2, 3, 4] rfl rfl), (by omega), (by omega)⟩, ?_⟩
            show (wd - (px + 1)).toNat < (wd - px).toNat
            omega
        · refine s_y (v := .bool false) rfl (y_lss rfl rfl (decide_eq_false c9)) ?_
          refine s_nil ?_
          refine W_seq ?_
          refine W_if_f (by decide) rfl ?_
          refine W_exit ?_
          refine W_region (by kernel_rfl) ?_
          refine s_y (v := .int .i64 (py + 1)) rfl (y_add rfl rfl rfl (by omega)) ?_
          refine s_y (v := .int .i64 (py + 1)) rfl (y_move rfl) ?_
          refine s_nil ?_
          replace B : Bu w (hasW [.ow kF afx nfx cfx 34 Xfx, .ow kF afy nfy cfy 34 Xfy]) w7 [.ow kF afx nfx cfx 34 (mix (wd * hi) (wd * (py + 1)) (fun i => hxF wd hi wr Xfe Xfx (i % wd) (i / wd)) Xfx), .ow kF afy nfy cfy 34 (mix (wd * hi) (wd * py + px) (fun i => hyF wd hi wr Xfe Xfy (i % wd) (i / wd)) Xfy), .blk b1 [.int .i64 wd, .int .i64 hi, .bool wr, .slice asp nsp csp, .slice als nls cls] 26, .rd kF afe nfe Xfe, .sl (some ⟨b, 0, none⟩) [.slice afe nfe cfe, .slice afx nfx cfx, .slice afy nfy cfy]] := B.castX 0 rfl rfl (congrArg (fun q => mix (wd * hi) q (fun i => hxF wd hi wr Xfe Xfx (i % wd) (i / wd)) _) (show wd * py + px = wd * (py + 1) by rw [Int.mul_add, Int.mul_one]; omega))
          replace B : Bu w (hasW [.ow kF afx nfx cfx 34 Xfx, .ow kF afy nfy cfy 34 Xfy]) w7 [.ow kF afx nfx cfx 34 (mix (wd * hi) (wd * (py + 1)) (fun i => hxF wd hi wr Xfe Xfx (i % wd) (i / wd)) Xfx), .ow kF afy nfy cfy 34 (mix (wd * hi) (wd * (py + 1)) (fun i => hyF wd hi wr Xfe Xfy (i % wd) (i / wd)) Xfy), .blk b1 [.int .i64 wd, .int .i64 hi, .bool wr, .slice asp nsp csp, .slice als nls cls] 26, .rd kF afe nfe Xfe, .sl (some ⟨b, 0, none⟩) [.slice afe nfe cfe, .slice afx nfx cfx, .slice afy nfy cfy]] := B.castX 1 rfl rfl (congrArg (fun q => mix (wd * hi) q (fun i => hyF wd hi wr Xfe Xfy (i % wd) (i / wd)) _) (show wd * py + px = wd * (py + 1) by rw [Int.mul_add, Int.mul_one]; omega))
          refine ⟨⟨_, py + 1, Fits.eq ⟨rfl, rfl, rfl, rfl, trivial⟩, B, (by omega), (by omega)⟩, ?_⟩
          show (hi - (py + 1)).toNat < (hi - py).toNat
          omega
    · refine s_y (v := .bool false) rfl (y_lss rfl rfl (decide_eq_false c6)) ?_
      refine s_nil ?_
      refine W_seq ?_
      refine W_if_f (by decide) rfl ?_
      refine W_exit ?_
      have hye : py = hi := by omega
      subst hye
      replace B : Bu w (hasW [.ow kF afx nfx cfx 34 Xfx, .ow kF afy nfy cfy 34 Xfy]) w4 [.ow kF afx nfx cfx 34 (tab (wd * py) (fun i => hxF wd py wr Xfe Xfx (i % wd) (i / wd))), .ow kF afy nfy cfy 34 (mix (wd * py) (wd * py) (fun i => hyF wd py wr Xfe Xfy (i % wd) (i / wd)) Xfy), .blk b1 [.int .i64 wd, .int .i64 py, .bool wr, .slice asp nsp csp, .slice als nls cls] 26, .rd kF afe nfe Xfe, .sl (some ⟨b, 0, none⟩) [.slice afe nfe cfe, .slice afx nfx cfx, .slice afy nfy cfy]] := B.castX 0 rfl rfl mix_all
      replace B : Bu w (hasW [.ow kF afx nfx cfx 34 Xfx, .ow kF afy nfy cfy 34 Xfy]) w4 [.ow kF afx nfx cfx 34 (tab (wd * py) (fun i => hxF wd py wr Xfe Xfx (i % wd) (i / wd))), .ow kF afy nfy cfy 34 (tab (wd * py) (fun i => hyF wd py wr Xfe Xfy (i % wd) (i / wd))), .blk b1 [.int .i64 wd, .int .i64 py, .bool wr, .slice asp nsp csp, .slice als nls cls] 26, .rd kF afe nfe Xfe, .sl (some ⟨b, 0, none⟩) [.slice afe nfe cfe, .slice afx nfx cfx, .slice afy nfy cfy]] := B.castX 1 rfl rfl mix_all
      refine ret0 rfl ⟨_, rfl, ?_⟩
      replace B : Bu w (hasW [.ow kF afx nfx cfx 34 Xfx, .ow kF afy nfy cfy 34 Xfy]) w4 [.ow kF afx nfx cfx 34 (hxL wd py wr Xfe Xfx), .ow kF afy nfy cfy 34 (tab (wd * py) (fun i => hyF wd py wr Xfe Xfy (i % wd) (i / wd))), .blk b1 [.int .i64 wd, .int .i64 py, .bool wr, .slice asp nsp csp, .slice als nls cls] 26, .rd kF afe nfe Xfe, .sl (some ⟨b, 0, none⟩) [.slice afe nfe cfe, .slice afx nfx cfx, .slice afy nfy cfy]] := B.castX 0 rfl rfl rfl
      replace B : Bu w (hasW [.ow kF afx nfx cfx 34 Xfx, .ow kF afy nfy cfy 34 Xfy]) w4 [.ow kF afx nfx cfx 34 (hxL wd py wr Xfe Xfx), .ow kF afy nfy cfy 34 (hyL wd py wr Xfe Xfy), .blk b1 [.int .i64 wd, .int .i64 py, .bool wr, .slice asp nsp csp, .slice als nls cls] 26, .rd kF afe nfe Xfe, .sl (some ⟨b, 0, none⟩) [.slice afe nfe cfe, .slice afx nfx cfx, .slice afy nfy cfy]] := B.castX 1 rfl rfl rfl
      exact ⟨rfl, B.wrote [0, 1] rfl rfl rfl⟩
end Go.Proofs.Ytgohmocjjmkepaa
