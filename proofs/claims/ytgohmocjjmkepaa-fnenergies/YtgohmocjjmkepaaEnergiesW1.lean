/- Walks: what the functions under FnEnergies do (part 2). Printed by a program of this claim's author. -/
import Derived.Test.YtgohmocjjmkepaaEnergiesW0
set_option linter.unusedSimpArgs false
set_option linter.unusedVariables false
open Go.Wv
namespace Go.Proofs.Ytgohmocjjmkepaa
open Go.Proofs
namespace T36
theorem mx : Try.prog.follows .mixedOrders = true := by kernel_rfl
theorem agg_30_3 : aggB Try.prog 30 3 = true := by kernel_rfl
theorem fld_26_0_0 : fldB Try.prog 26 0 0 = true := by kernel_rfl
theorem fld_26_1_1 : fldB Try.prog 26 1 1 = true := by kernel_rfl
theorem fld_26_2_2 : fldB Try.prog 26 2 2 = true := by kernel_rfl
theorem fld_30_0_0 : fldB Try.prog 30 0 0 = true := by kernel_rfl
theorem fld_30_1_1 : fldB Try.prog 30 1 1 = true := by kernel_rfl
theorem fld_30_2_2 : fldB Try.prog 30 2 2 = true := by kernel_rfl
theorem flt_34_f32 : Try.prog.underlying 34 = some (.float .f32) := by kernel_rfl
theorem fn_63 : fnB Try.prog 63 = true := by kernel_rfl
theorem fn_81 : fnB Try.prog 81 = true := by kernel_rfl
theorem fn_92 : fnB Try.prog 92 = true := by kernel_rfl
theorem fn_93 : fnB Try.prog 93 = true := by kernel_rfl
theorem one_2 : oneB Try.prog 2 = true := by kernel_rfl
theorem one_24 : oneB Try.prog 24 = true := by kernel_rfl
theorem one_4 : oneB Try.prog 4 = true := by kernel_rfl
theorem sl_24_34_1 : slB Try.prog 24 34 1 = true := by kernel_rfl
theorem sz_30_3 : szB Try.prog 30 3 = true := by kernel_rfl
theorem sz_34_1 : szB Try.prog 34 1 = true := by kernel_rfl
theorem und_2 : (Try.prog.underlying 2).isSome = true := by kernel_rfl
theorem zero_30 : zeroB Try.prog 30 (.agg #[.slice none 0 0, .slice none 0 0, .slice none 0 0]) := by unfold zeroB; kernel_rfl
end T36
set_option maxRecDepth 100000 in
set_option maxHeartbeats 4000000 in
theorem c_s_R8Field {aq : Option Addr} {nq : Nat} {cq : Nat} {Xq : List Nat} {wd : Int} {hi : Int} {wr : Bool} {asp : Option Addr} {nsp : Nat} {csp : Nat} {Xsp : List Nat} {als : Option Addr} {nls : Nat} {cls : Nat} {Xls : List Nat} {w : World} (qq : Rd w kY aq nq Xq) (qsp : Rd w kF asp nsp Xsp) (qls : Rd w kF als nls Xls) (h1 : 3 ≤ wd) (h2 : wd ≤ 16) (h3 : 3 ≤ hi) (h4 : hi ≤ 16) (hv : validS wd hi Xsp Xls = true) (hbsp : nsp ≤ 9223372036854775806) (hbls : nls ≤ 9223372036854775806) :
    Calls Try.prog 36 #[.slice aq nq cq, .agg #[.int .i64 wd, .int .i64 hi, .bool wr, .slice asp nsp csp, .slice als nls cls]] w (Rt fun v w' => ∃ (a1 : Option Addr) (n1 : Nat) (c1 : Nat) (X1 : List Nat) (a2 : Option Addr) (n2 : Nat) (c2 : Nat) (X2 : List Nat) (a3 : Option Addr) (n3 : Nat) (c3 : Nat) (X3 : List Nat), v = .agg #[.slice a1 n1 c1, .slice a2 n2 c2, .slice a3 n3 c3] ∧ fieldB wd hi wr Xsp Xls X1 X2 X3 = true ∧ qrF wd hi X1 X2 X3 ∧ New w w' [.ow kF a1 n1 c1 34 X1, .ow kF a2 n2 c2 34 X2, .ow kF a3 n3 c3 34 X3]) := by
  have hlq := qq.len
  have hlsp := qsp.len
  have hlls := qls.len
  have B : Bu w no w [.rd kY aq nq Xq, .rd kF asp nsp Xsp, .rd kF als nls Xls] := Bu.ro (All.cons qq (All.cons qsp (All.cons qls All.nil))) rfl
  have hwh := mul16 (And.intro (And.intro h1 h2) (And.intro h3 h4))
  refine calls_W (n := 91) Try.func36 rfl rfl (Nat.le_of_ble_eq_true rfl) ?_
  refine W_seq ?_
  refine W_region (by kernel_rfl) ?_
  refine s_k rfl (k_boxN (v := .agg #[.int .i64 wd, .int .i64 hi, .bool wr, .slice asp nsp csp, .slice als nls cls]) (cs := [.int .i64 wd, .int .i64 hi, .bool wr, .slice asp nsp csp, .slice als nls cls]) rfl rfl (fun b1 w2 hN3 => ?_))
  replace B := B.new1 hN3
  clear hN3
  refine s_k rfl (k_allocN (z := (.agg #[.slice none 0 0, .slice none 0 0, .slice none 0 0])) (cs := [.slice none 0 0, .slice none 0 0, .slice none 0 0]) T36.zero_30 rfl (fun b4 w5 hN6 => ?_))
  replace B := B.new1 hN6
  clear hN6
  refine s_nil ?_
  refine W_seq ?_
  refine W_region (by kernel_rfl) ?_
  refine s_y (v := .slice aq nq cq) rfl (y_move rfl) ?_
  refine s_k rfl (k_call T36.fn_63 (c_s_l00From (B.r 2 rfl)) rfl ?_)
  rintro _ w7 ⟨b9, rfl, hN8⟩
  replace B := B.new1 hN8
  clear hN8
  refine s_y (v := .pointer (some ⟨b9, 0, none⟩)) rfl (y_assign rfl) ?_
  refine s_nil ?_
  refine W_seq ?_
  refine W_region (by kernel_rfl) ?_
  refine s_y (v := .pointer (some ⟨b1, 0, none⟩)) rfl (y_fld (o := 0) T36.fld_26_0_0 rfl) ?_
  refine s_y (v := .int .i64 wd) rfl (y_load T36.one_2 rfl ((B.b 2 rfl).cell (j := 0) rfl)) ?_
  refine s_y (v := .pointer (some ⟨b1, 1, none⟩)) rfl (y_fld (o := 0) T36.fld_26_1_1 rfl) ?_
  refine s_y (v := .int .i64 hi) rfl (y_load T36.one_2 rfl ((B.b 2 rfl).cell (j := 1) rfl)) ?_
  have hm10 := mulb (a := wd) (b := hi) (by omega) (by omega) (by omega) (by omega)
  refine s_y (v := .int .i64 (wd * hi)) rfl (y_mul rfl rfl rfl (by omega)) ?_
  refine s_y (v := .int .i64 (wd * hi)) rfl (y_assign rfl) ?_
  refine s_nil ?_
  refine W_seq ?_
  refine W_region (by kernel_rfl) ?_
  refine s_y (v := .int .i64 (wd * hi)) rfl (y_move rfl) ?_
  refine s_k rfl (k_call T36.fn_92 (c_s_l02Zero (by omega) (by omega)) rfl ?_)
  rintro _ w11 ⟨a12, c13, a14, c15, a16, c17, rfl, hN18⟩
  replace B := B.new3 hN18
  clear hN18
  refine s_k rfl (k_allocN (z := (.agg #[.slice none 0 0, .slice none 0 0, .slice none 0 0])) (cs := [.slice none 0 0, .slice none 0 0, .slice none 0 0]) T36.zero_30 rfl (fun b19 w20 hN21 => ?_))
  replace B := B.new1 hN21
  clear hN21
  refine s_k0 rfl (k_stB (v := .agg #[.slice a12 (Int.toNat (wd * hi)) c13, .slice a14 (Int.toNat (wd * hi)) c15, .slice a16 (Int.toNat (wd * hi)) c17]) (n := 3) (cs' := [.slice a12 (Int.toNat (wd * hi)) c13, .slice a14 (Int.toNat (wd * hi)) c15, .slice a16 (Int.toNat (wd * hi)) c17]) T36.sz_30_3 rfl rfl rfl (B.b 0 rfl) (by simp [Value.cells, Value.oneCell']) (Nat.le_of_ble_eq_true rfl) rfl (fun w22 hU23 => ?_))
  replace B : Bu w no w22 [.blk b19 [.slice a12 (Int.toNat (wd * hi)) c13, .slice a14 (Int.toNat (wd * hi)) c15, .slice a16 (Int.toNat (wd * hi)) c17] 30, .ow kF a12 (Int.toNat (wd * hi)) c13 34 (List.replicate (Int.toNat (wd * hi)) 0), .ow kF a14 (Int.toNat (wd * hi)) c15 34 (List.replicate (Int.toNat (wd * hi)) 0), .ow kF a16 (Int.toNat (wd * hi)) c17 34 (List.replicate (Int.toNat (wd * hi)) 0), .blk b9 [.slice aq nq cq, .int .i64 0, .int .u64 0] 131, .blk b4 [.slice none 0 0, .slice none 0 0, .slice none 0 0] 30, .blk b1 [.int .i64 wd, .int .i64 hi, .bool wr, .slice asp nsp csp, .slice als nls cls] 26, .rd kY aq nq Xq, .rd kF asp nsp Xsp, .rd kF als nls Xls] := B.upd [0] rfl hU23
  clear hU23
  refine s_nil ?_
  refine W_seq ?_
  refine W_seq ?_
  refine W_region (by kernel_rfl) ?_
  refine s_y (v := .int .i64 0) rfl (y_assign rfl) ?_
  refine s_nil ?_
  refine W_block ?_
  refine W_loop (fun ρ' w' => ∃ (ρ1 : Env) (k : Int) (q : Int) (zE : List Nat) (zX : List Nat) (zY : List Nat), ρ' = updL ρ1 [(3, .pointer (some ⟨b1, 0, none⟩)), (4, .pointer (some ⟨b4, 0, none⟩)), (5, .pointer (some ⟨b9, 0, none⟩)), (6, .int .i64 (wd * hi)), (7, .pointer (some ⟨b19, 0, none⟩)), (8, .int .i64 k)] ∧ Bu w no w' [.ow kF a12 (Int.toNat (wd * hi)) c13 34 zE, .ow kF a14 (Int.toNat (wd * hi)) c15 34 zX, .ow kF a16 (Int.toNat (wd * hi)) c17 34 zY, .blk b19 [.slice a12 (Int.toNat (wd * hi)) c13, .slice a14 (Int.toNat (wd * hi)) c15, .slice a16 (Int.toNat (wd * hi)) c17] 30, .blk b9 [.slice aq nq cq, .int .i64 q, .int .u64 (sdY Xq q)] 131, .blk b4 [.slice none 0 0, .slice none 0 0, .slice none 0 0] 30, .blk b1 [.int .i64 wd, .int .i64 hi, .bool wr, .slice asp nsp csp, .slice als nls cls] 26, .rd kY aq nq Xq, .rd kF asp nsp Xsp, .rd kF als nls Xls] ∧ (0 ≤ k) ∧ (k ≤ wd * hi) ∧ (0 ≤ q) ∧ (q ≤ 40 * k) ∧ (zE.length = Int.toNat (wd * hi)) ∧ (zX.length = Int.toNat (wd * hi)) ∧ (zY.length = Int.toNat (wd * hi)) ∧ (gqL 147 150 (wd * hi) zE) ∧ (gqL 147 150 (wd * hi) zX) ∧ (gqL 147 150 (wd * hi) zY) ∧ (edgesO wd hi wr zE zX zY)) (fun ρ' _ => (wd * hi - iv (ρ' 8)).toNat) ?_ ?_
  · replace B : Bu w no w22 [.blk b19 [.slice a12 (Int.toNat (wd * hi)) c13, .slice a14 (Int.toNat (wd * hi)) c15, .slice a16 (Int.toNat (wd * hi)) c17] 30, .ow kF a12 (Int.toNat (wd * hi)) c13 34 (List.replicate (Int.toNat (wd * hi)) 0), .ow kF a14 (Int.toNat (wd * hi)) c15 34 (List.replicate (Int.toNat (wd * hi)) 0), .ow kF a16 (Int.toNat (wd * hi)) c17 34 (List.replicate (Int.toNat (wd * hi)) 0), .blk b9 [.slice aq nq cq, .int .i64 0, .int .u64 (sdY Xq 0)] 131, .blk b4 [.slice none 0 0, .slice none 0 0, .slice none 0 0] 30, .blk b1 [.int .i64 wd, .int .i64 hi, .bool wr, .slice asp nsp csp, .slice als nls cls] 26, .rd kY aq nq Xq, .rd kF asp nsp Xsp, .rd kF als nls Xls] := B.blkEq 4 rfl rfl
    exact ⟨_, 0, 0, _, _, _, Fits.eq ⟨rfl, rfl, rfl, rfl, rfl, rfl, trivial⟩, (B.pick [1, 2, 3, 0, 4, 5, 6, 7, 8, 9] rfl rfl), (Int.le_refl _), (by omega), (Int.le_refl _), (by omega), (by simp), (by simp), (by simp), gqL_zero, gqL_zero, gqL_zero, edgesO_zero⟩
  · clear B; rintro _ w24 ⟨ρ25, k, q, zE, zX, zY, rfl, B, h0k, h1k, hq0, hq1, hzE, hzX, hzY, gzE, gzX, gzY, hed⟩
    refine W_seq ?_
    refine W_seq ?_
    refine W_region (by kernel_rfl) ?_
    refine s_y (v := .int .i64 k) rfl (y_move rfl) ?_
    refine s_y (v := .int .i64 (wd * hi)) rfl (y_move rfl) ?_
    by_cases c26 : k < (wd * hi)
    · refine s_y (v := .bool true) rfl (y_lss rfl rfl (decide_eq_true c26)) ?_
      refine s_nil ?_
      refine W_if_t (by decide) rfl ?_
      refine W_skip ?_
      refine W_seq ?_
      refine W_block ?_
      refine W_seq ?_
      have B0_31 := B
      refine W_draw (no) T36.mx (by kernel_rfl) (fun w29 e30 => ?_)
      have R32 := Ext.refl (no) w24
      replace R32 := R32.trans (Ext0.any e30)
      replace B := B.ext0 e30
      clear e30
      refine m_y (v := .int .i64 k) 0 rfl (by kernel_rfl) rfl rfl (fun w' e' => y_move rfl) ?_
      refine m_y (v := .pointer (some ⟨b1, 0, none⟩)) 1 rfl (by kernel_rfl) rfl rfl (fun w' e' => y_fld (o := 0) T36.fld_26_0_0 rfl) ?_
      refine m_y (v := .int .i64 wd) 2 rfl (by kernel_rfl) rfl rfl (fun w' e' => y_load T36.one_2 rfl (((B0_31.b 6 rfl).ext0 e').cell (j := 0) rfl)) ?_
      have hm33 := rem_b (x := k) (m := wd) (by omega) (by omega)
      refine m_y (v := .int .i64 (k % wd)) 3 rfl (by kernel_rfl) rfl rfl (fun w' e' => y_rem rfl rfl (by omega) (by omega) rfl) ?_
      refine m_y (v := .int .i64 k) 4 rfl (by kernel_rfl) rfl rfl (fun w' e' => y_move rfl) ?_
      refine m_y (v := .pointer (some ⟨b1, 0, none⟩)) 5 rfl (by kernel_rfl) rfl rfl (fun w' e' => y_fld (o := 0) T36.fld_26_0_0 rfl) ?_
      refine m_y (v := .int .i64 wd) 6 rfl (by kernel_rfl) rfl rfl (fun w' e' => y_load T36.one_2 rfl (((B0_31.b 6 rfl).ext0 e').cell (j := 0) rfl)) ?_
      have hm34 := quo_b (x := k) (m := wd) (by omega) (by omega)
      refine m_y (v := .int .i64 (k / wd)) 7 rfl (by kernel_rfl) rfl rfl (fun w' e' => y_quo rfl rfl (by omega) (by omega) (by omega) rfl) ?_
      refine m_k 8 [9] rfl (by kernel_rfl) rfl rfl (fun w35 e36 => ?_)
      replace R32 := R32.trans (Ext0.any e36)
      replace B := B.ext0 e36
      clear e36
      refine k_call T36.fn_93 (c_s_l02Border ((B.b 6 rfl).sl) (by omega) (by omega) (by omega) (by omega)) rfl ?_
      rintro v39 w37 ⟨hv40, e38⟩
      replace R32 := R32.trans (Ext0.any e38)
      replace B := B.ext0 e38
      clear e38
      refine ⟨fun _ => R32, ?_⟩
      by_cases c41 : bordB wd hi wr (k % wd) (k / wd) = true
      · obtain rfl : v39 = .bool true := hv40.trans (congrArg Value.bool c41)
        refine m_y (v := .bool true) 9 rfl (by kernel_rfl) rfl rfl (fun w' e' => y_assign rfl) ?_
        refine m_done (by kernel_rfl) (fun w42 e43 => ?_)
        replace B := B.ext0 e43
        clear e43
        clear B0_31 R32
        refine W_seq ?_
        refine W_region (by kernel_rfl) ?_
        refine s_y (v := .pointer (some ⟨b9, 0, none⟩)) rfl (y_move rfl) ?_
        refine s_k rfl (k_call T36.fn_81 (c_s_pick (by omega) (by omega) (by omega) (by omega) (B.all.pick [4, 7] rfl) (B.pw.pick [4, 7] rfl rfl)) rfl ?_)
        rintro _ w44 ⟨v46, rfl, hp47, hU45⟩
        replace B : Bu w no w44 [.blk b9 [.slice aq nq cq, .int .i64 (q + 1), .int .u64 (sdY Xq (q + 1))] 131, .ow kF a12 (Int.toNat (wd * hi)) c13 34 zE, .ow kF a14 (Int.toNat (wd * hi)) c15 34 zX, .ow kF a16 (Int.toNat (wd * hi)) c17 34 zY, .blk b19 [.slice a12 (Int.toNat (wd * hi)) c13, .slice a14 (Int.toNat (wd * hi)) c15, .slice a16 (Int.toNat (wd * hi)) c17] 30, .blk b4 [.slice none 0 0, .slice none 0 0, .slice none 0 0] 30, .blk b1 [.int .i64 wd, .int .i64 hi, .bool wr, .slice asp nsp csp, .slice als nls cls] 26, .rd kY aq nq Xq, .rd kF asp nsp Xsp, .rd kF als nls Xls] := B.upd [4] rfl hU45
        clear hU45
        have hb48 := pk_b Xq (n := 17) q (by omega)
        rw [← hp47] at hb48
        refine s_y (v := .int .i64 (v46 - 8)) rfl (y_sub rfl rfl rfl (by omega)) ?_
        refine s_y (v := .float .f32 (FloatKind.nearest .f32 (v46 - 8))) rfl (y_if T36.und_2 T36.flt_34_f32 rfl) ?_
        refine s_n rfl (n_arith (by decide) rfl rfl) ?_
        rintro _ w52 e53 ⟨r50, rfl, hr51⟩
        replace B := B.ext0 e53
        clear e53
        have hc54 := fopC hr51 (cn_nearest .f32 (v46 - 8)) (cnLit (k := .f32) (t := 1082130432) (by kernel_rfl) (by kernel_rfl))
        refine s_y (v := .float .f32 r50) rfl (y_assign rfl) ?_
        refine s_nil ?_
        refine W_seq ?_
        refine W_seq ?_
        refine W_region (by kernel_rfl) ?_
        refine s_y (v := .bool true) rfl (y_move rfl) ?_
        refine s_y (v := .bool false) rfl (y_not rfl rfl) ?_
        refine s_nil ?_
        refine W_if_f (by decide) rfl ?_
        refine W_skip ?_
        refine W_seq ?_
        refine W_region (by kernel_rfl) ?_
        refine s_y (v := .pointer (some ⟨b9, 0, none⟩)) rfl (y_move rfl) ?_
        refine s_k rfl (k_call T36.fn_81 (c_s_pick (by omega) (by omega) (by omega) (by omega) (B.all.pick [0, 7] rfl) (B.pw.pick [0, 7] rfl rfl)) rfl ?_)
        rintro _ w55 ⟨v57, rfl, hp58, hU56⟩
        replace B : Bu w no w55 [.blk b9 [.slice aq nq cq, .int .i64 ((q + 1) + 1), .int .u64 (sdY Xq ((q + 1) + 1))] 131, .ow kF a12 (Int.toNat (wd * hi)) c13 34 zE, .ow kF a14 (Int.toNat (wd * hi)) c15 34 zX, .ow kF a16 (Int.toNat (wd * hi)) c17 34 zY, .blk b19 [.slice a12 (Int.toNat (wd * hi)) c13, .slice a14 (Int.toNat (wd * hi)) c15, .slice a16 (Int.toNat (wd * hi)) c17] 30, .blk b4 [.slice none 0 0, .slice none 0 0, .slice none 0 0] 30, .blk b1 [.int .i64 wd, .int .i64 hi, .bool wr, .slice asp nsp csp, .slice als nls cls] 26, .rd kY aq nq Xq, .rd kF asp nsp Xsp, .rd kF als nls Xls] := B.upd [0] rfl hU56
        clear hU56
        have hb59 := pk_b Xq (n := 9) (q + 1) (by omega)
        rw [← hp58] at hb59
        refine s_y (v := .int .i64 (v57 - 4)) rfl (y_sub rfl rfl rfl (by omega)) ?_
        refine s_y (v := .float .f32 (FloatKind.nearest .f32 (v57 - 4))) rfl (y_if T36.und_2 T36.flt_34_f32 rfl) ?_
        refine s_n rfl (n_arith (by decide) rfl rfl) ?_
        rintro _ w63 e64 ⟨r61, rfl, hr62⟩
        replace B := B.ext0 e64
        clear e64
        have hc65 := fopC hr62 (cn_nearest .f32 (v57 - 4)) (cnLit (k := .f32) (t := 1082130432) (by kernel_rfl) (by kernel_rfl))
        refine s_y (v := .float .f32 r61) rfl (y_assign rfl) ?_
        refine s_nil ?_
        refine W_seq ?_
        refine W_seq ?_
        have B0_70 := B
        refine W_draw (no) T36.mx (by kernel_rfl) (fun w68 e69 => ?_)
        have R71 := Ext.refl (no) w63
        replace R71 := R71.trans (Ext0.any e69)
        replace B := B.ext0 e69
        clear e69
        refine m_y (v := .pointer (some ⟨b1, 2, none⟩)) 0 rfl (by kernel_rfl) rfl rfl (fun w' e' => y_fld (o := 0) T36.fld_26_2_2 rfl) ?_
        refine m_y (v := .bool wr) 1 rfl (by kernel_rfl) rfl rfl (fun w' e' => y_load T36.one_4 rfl (((B0_70.b 6 rfl).ext0 e').cell (j := 2) rfl)) ?_
        refine m_y (v := .bool wr) 2 rfl (by kernel_rfl) rfl rfl (fun w' e' => y_move rfl) ?_
        cases wr
        · refine m_y (v := .int .i64 k) 3 rfl (by kernel_rfl) rfl rfl (fun w' e' => y_move rfl) ?_
          refine m_y (v := .pointer (some ⟨b1, 0, none⟩)) 4 rfl (by kernel_rfl) rfl rfl (fun w' e' => y_fld (o := 0) T36.fld_26_0_0 rfl) ?_
          refine m_y (v := .int .i64 wd) 5 rfl (by kernel_rfl) rfl rfl (fun w' e' => y_load T36.one_2 rfl (((B0_70.b 6 rfl).ext0 e').cell (j := 0) rfl)) ?_
          have hm72 := quo_b (x := k) (m := wd) (by omega) (by omega)
          refine m_y (v := .int .i64 (k / wd)) 6 rfl (by kernel_rfl) rfl rfl (fun w' e' => y_quo rfl rfl (by omega) (by omega) (by omega) rfl) ?_
          refine m_y (v := .pointer (some ⟨b1, 1, none⟩)) 7 rfl (by kernel_rfl) rfl rfl (fun w' e' => y_fld (o := 0) T36.fld_26_1_1 rfl) ?_
          refine m_y (v := .int .i64 hi) 8 rfl (by kernel_rfl) rfl rfl (fun w' e' => y_load T36.one_2 rfl (((B0_70.b 6 rfl).ext0 e').cell (j := 1) rfl)) ?_
          refine m_y (v := .int .i64 (hi - 1)) 9 rfl (by kernel_rfl) rfl rfl (fun w' e' => y_sub rfl rfl rfl (by omega)) ?_
          by_cases c73 : (k / wd) < (hi - 1)
          · refine m_y (v := .bool true) 10 rfl (by kernel_rfl) rfl rfl (fun w' e' => y_lss rfl rfl (decide_eq_true c73)) ?_
            refine m_y (v := .bool true) 11 rfl (by kernel_rfl) rfl rfl (fun w' e' => y_pick_f rfl rfl) ?_
            refine m_done (by kernel_rfl) (fun w74 e75 => ?_)
            replace B := B.ext0 e75
            clear e75
            clear B0_70 R71
            refine W_if_t (by decide) rfl ?_
            refine W_region (by kernel_rfl) ?_
            refine s_y (v := .pointer (some ⟨b19, 1, none⟩)) rfl (y_fld (o := 0) T36.fld_30_1_1 rfl) ?_
            refine s_y (v := .slice a14 (Int.toNat (wd * hi)) c15) rfl (y_load T36.one_24 rfl ((B.b 4 rfl).cell (j := 1) rfl)) ?_
            refine s_y (v := .int .i64 k) rfl (y_move rfl) ?_
            refine s_y (v := .float .f32 r61) rfl (y_move rfl) ?_
            refine s_y (v := .pointer (some (sat a14 ((k).toNat * 1)))) rfl (y_idx T36.sl_24_34_1 rfl rfl ((B.o 2 rfl).rd.addr (by omega)) (by omega) (by omega)) ?_
            refine s_k0 rfl (k_stO (k := kF) (i := k) (j := 0) (x' := fop .quo .f32 (FloatKind.nearest .f32 (v57 - 4)) 1082130432) (new := [.float .f32 r61]) T36.sz_34_1 rfl rfl rfl rfl rfl (by simp [Value.oneCell']) (by decide) (B.o 2 rfl) (by omega) (by omega) (by decide) (by rintro q ⟨_, rfl, _⟩; exact ⟨_, rfl, hc65⟩) (fun w76 hU77 => ?_))
            replace B : Bu w no w76 [.ow kF a14 (Int.toNat (wd * hi)) c15 34 (put zX k (fop .quo .f32 (FloatKind.nearest .f32 (v57 - 4)) 1082130432)), .blk b9 [.slice aq nq cq, .int .i64 ((q + 1) + 1), .int .u64 (sdY Xq ((q + 1) + 1))] 131, .ow kF a12 (Int.toNat (wd * hi)) c13 34 zE, .ow kF a16 (Int.toNat (wd * hi)) c17 34 zY, .blk b19 [.slice a12 (Int.toNat (wd * hi)) c13, .slice a14 (Int.toNat (wd * hi)) c15, .slice a16 (Int.toNat (wd * hi)) c17] 30, .blk b4 [.slice none 0 0, .slice none 0 0, .slice none 0 0] 30, .blk b1 [.int .i64 wd, .int .i64 hi, .bool false, .slice asp nsp csp, .slice als nls cls] 26, .rd kY aq nq Xq, .rd kF asp nsp Xsp, .rd kF als nls Xls] := B.upd [2] rfl hU77
            clear hU77
            refine s_nil ?_
            refine W_seq ?_
            refine W_region (by kernel_rfl) ?_
            refine s_y (v := .pointer (some ⟨b9, 0, none⟩)) rfl (y_move rfl) ?_
            refine s_k rfl (k_call T36.fn_81 (c_s_pick (by omega) (by omega) (by omega) (by omega) (B.all.pick [1, 7] rfl) (B.pw.pick [1, 7] rfl rfl)) rfl ?_)
            rintro _ w78 ⟨v80, rfl, hp81, hU79⟩
            replace B : Bu w no w78 [.blk b9 [.slice aq nq cq, .int .i64 (((q + 1) + 1) + 1), .int .u64 (sdY Xq (((q + 1) + 1) + 1))] 131, .ow kF a14 (Int.toNat (wd * hi)) c15 34 (put zX k (fop .quo .f32 (FloatKind.nearest .f32 (v57 - 4)) 1082130432)), .ow kF a12 (Int.toNat (wd * hi)) c13 34 zE, .ow kF a16 (Int.toNat (wd * hi)) c17 34 zY, .blk b19 [.slice a12 (Int.toNat (wd * hi)) c13, .slice a14 (Int.toNat (wd * hi)) c15, .slice a16 (Int.toNat (wd * hi)) c17] 30, .blk b4 [.slice none 0 0, .slice none 0 0, .slice none 0 0] 30, .blk b1 [.int .i64 wd, .int .i64 hi, .bool false, .slice asp nsp csp, .slice als nls cls] 26, .rd kY aq nq Xq, .rd kF asp nsp Xsp, .rd kF als nls Xls] := B.upd [1] rfl hU79
            clear hU79
            have hb82 := pk_b Xq (n := 9) ((q + 1) + 1) (by omega)
            rw [← hp81] at hb82
            refine s_y (v := .int .i64 (v80 - 4)) rfl (y_sub rfl rfl rfl (by omega)) ?_
            refine s_y (v := .float .f32 (FloatKind.nearest .f32 (v80 - 4))) rfl (y_if T36.und_2 T36.flt_34_f32 rfl) ?_
            refine s_n rfl (n_arith (by decide) rfl rfl) ?_
            rintro _ w86 e87 ⟨r84, rfl, hr85⟩
            replace B := B.ext0 e87
            clear e87
            have hc88 := fopC hr85 (cn_nearest .f32 (v80 - 4)) (cnLit (k := .f32) (t := 1082130432) (by kernel_rfl) (by kernel_rfl))
            refine s_y (v := .float .f32 r84) rfl (y_assign rfl) ?_
            refine s_nil ?_
            refine W_seq ?_
            have B0_93 := B
            refine W_draw (no) T36.mx (by kernel_rfl) (fun w91 e92 => ?_)
            have R94 := Ext.refl (no) w86
            replace R94 := R94.trans (Ext0.any e92)
            replace B := B.ext0 e92
            clear e92
            refine m_y (v := .pointer (some ⟨b1, 2, none⟩)) 0 rfl (by kernel_rfl) rfl rfl (fun w' e' => y_fld (o := 0) T36.fld_26_2_2 rfl) ?_
            refine m_y (v := .bool false) 1 rfl (by kernel_rfl) rfl rfl (fun w' e' => y_load T36.one_4 rfl (((B0_93.b 6 rfl).ext0 e').cell (j := 2) rfl)) ?_
            refine m_y (v := .bool false) 2 rfl (by kernel_rfl) rfl rfl (fun w' e' => y_move rfl) ?_
            refine m_y (v := .int .i64 k) 3 rfl (by kernel_rfl) rfl rfl (fun w' e' => y_move rfl) ?_
            refine m_y (v := .pointer (some ⟨b1, 0, none⟩)) 4 rfl (by kernel_rfl) rfl rfl (fun w' e' => y_fld (o := 0) T36.fld_26_0_0 rfl) ?_
            refine m_y (v := .int .i64 wd) 5 rfl (by kernel_rfl) rfl rfl (fun w' e' => y_load T36.one_2 rfl (((B0_93.b 6 rfl).ext0 e').cell (j := 0) rfl)) ?_
            have hm95 := rem_b (x := k) (m := wd) (by omega) (by omega)
            refine m_y (v := .int .i64 (k % wd)) 6 rfl (by kernel_rfl) rfl rfl (fun w' e' => y_rem rfl rfl (by omega) (by omega) rfl) ?_
            refine m_y (v := .pointer (some ⟨b1, 0, none⟩)) 7 rfl (by kernel_rfl) rfl rfl (fun w' e' => y_fld (o := 0) T36.fld_26_0_0 rfl) ?_
            refine m_y (v := .int .i64 wd) 8 rfl (by kernel_rfl) rfl rfl (fun w' e' => y_load T36.one_2 rfl (((B0_93.b 6 rfl).ext0 e').cell (j := 0) rfl)) ?_
            refine m_y (v := .int .i64 (wd - 1)) 9 rfl (by kernel_rfl) rfl rfl (fun w' e' => y_sub rfl rfl rfl (by omega)) ?_
            by_cases c96 : (k % wd) < (wd - 1)
            · refine m_y (v := .bool true) 10 rfl (by kernel_rfl) rfl rfl (fun w' e' => y_lss rfl rfl (decide_eq_true c96)) ?_
              refine m_y (v := .bool true) 11 rfl (by kernel_rfl) rfl rfl (fun w' e' => y_pick_f rfl rfl) ?_
              refine m_done (by kernel_rfl) (fun w97 e98 => ?_)
              replace B := B.ext0 e98
              clear e98
              clear B0_93 R94
              refine W_if_t (by decide) rfl ?_
              refine W_region (by kernel_rfl) ?_
              refine s_y (v := .pointer (some ⟨b19, 2, none⟩)) rfl (y_fld (o := 0) T36.fld_30_2_2 rfl) ?_
              refine s_y (v := .slice a16 (Int.toNat (wd * hi)) c17) rfl (y_load T36.one_24 rfl ((B.b 4 rfl).cell (j := 2) rfl)) ?_
              refine s_y (v := .int .i64 k) rfl (y_move rfl) ?_
              refine s_y (v := .float .f32 r84) rfl (y_move rfl) ?_
              refine s_y (v := .pointer (some (sat a16 ((k).toNat * 1)))) rfl (y_idx T36.sl_24_34_1 rfl rfl ((B.o 3 rfl).rd.addr (by omega)) (by omega) (by omega)) ?_
              refine s_k0 rfl (k_stO (k := kF) (i := k) (j := 0) (x' := fop .quo .f32 (FloatKind.nearest .f32 (v80 - 4)) 1082130432) (new := [.float .f32 r84]) T36.sz_34_1 rfl rfl rfl rfl rfl (by simp [Value.oneCell']) (by decide) (B.o 3 rfl) (by omega) (by omega) (by decide) (by rintro q ⟨_, rfl, _⟩; exact ⟨_, rfl, hc88⟩) (fun w99 hU100 => ?_))
              replace B : Bu w no w99 [.ow kF a16 (Int.toNat (wd * hi)) c17 34 (put zY k (fop .quo .f32 (FloatKind.nearest .f32 (v80 - 4)) 1082130432)), .blk b9 [.slice aq nq cq, .int .i64 (((q + 1) + 1) + 1), .int .u64 (sdY Xq (((q + 1) + 1) + 1))] 131, .ow kF a14 (Int.toNat (wd * hi)) c15 34 (put zX k (fop .quo .f32 (FloatKind.nearest .f32 (v57 - 4)) 1082130432)), .ow kF a12 (Int.toNat (wd * hi)) c13 34 zE, .blk b19 [.slice a12 (Int.toNat (wd * hi)) c13, .slice a14 (Int.toNat (wd * hi)) c15, .slice a16 (Int.toNat (wd * hi)) c17] 30, .blk b4 [.slice none 0 0, .slice none 0 0, .slice none 0 0] 30, .blk b1 [.int .i64 wd, .int .i64 hi, .bool false, .slice asp nsp csp, .slice als nls cls] 26, .rd kY aq nq Xq, .rd kF asp nsp Xsp, .rd kF als nls Xls] := B.upd [3] rfl hU100
              clear hU100
              refine s_nil ?_
              refine W_region (by kernel_rfl) ?_
              refine s_y (v := .int .i64 k) rfl (y_move rfl) ?_
              refine s_y (v := .int .i64 (k + 1)) rfl (y_add rfl rfl rfl (by omega)) ?_
              refine s_y (v := .int .i64 (k + 1)) rfl (y_assign rfl) ?_
              refine s_nil ?_
              refine ⟨⟨_, k + 1, ((q + 1) + 1) + 1, _, _, _, Fits.eq ⟨rfl, rfl, rfl, rfl, rfl, rfl, trivial⟩, (B.pick [3, 2, 0, 4, 1, 5, 6, 7, 8, 9] rfl rfl), (by omega), (by omega), (by omega), (by omega), (by first | exact hzE | (simp only [put_length]; exact hzE)), (by first | exact hzX | (simp only [put_length]; exact hzX)), (by first | exact hzY | (simp only [put_length]; exact hzY)), gzE, (gqL_put gzX (by omega) (by omega) (by omega) (qv_gq (by omega) (by omega))), (gqL_put gzY (by omega) (by omega) (by omega) (qv_gq (by omega) (by omega))), (edP_Y (by omega) (by omega) (by omega) (Or.inr c96) (edP_X (by omega) (by omega) (by omega) (Or.inr c73) hed))⟩, ?_⟩
              show (wd * hi - (k + 1)).toNat < (wd * hi - k).toNat
              omega
            · refine m_y (v := .bool false) 10 rfl (by kernel_rfl) rfl rfl (fun w' e' => y_lss rfl rfl (decide_eq_false c96)) ?_
              refine m_y (v := .bool false) 11 rfl (by kernel_rfl) rfl rfl (fun w' e' => y_pick_f rfl rfl) ?_
              refine m_done (by kernel_rfl) (fun w101 e102 => ?_)
              replace B := B.ext0 e102
              clear e102
              clear B0_93 R94
              refine W_if_f (by decide) rfl ?_
              refine W_skip ?_
              refine W_region (by kernel_rfl) ?_
              refine s_y (v := .int .i64 k) rfl (y_move rfl) ?_
              refine s_y (v := .int .i64 (k + 1)) rfl (y_add rfl rfl rfl (by omega)) ?_
              refine s_y (v := .int .i64 (k + 1)) rfl (y_assign rfl) ?_
              refine s_nil ?_
              refine ⟨⟨_, k + 1, ((q + 1) + 1) + 1, _, _, _, Fits.eq ⟨rfl, rfl, rfl, rfl, rfl, rfl, trivial⟩, (B.pick [2, 1, 3, 4, 0, 5, 6, 7, 8, 9] rfl rfl), (by omega), (by omega), (by omega), (by omega), (by first | exact hzE | (simp only [put_length]; exact hzE)), (by first | exact hzX | (simp only [put_length]; exact hzX)), (by first | exact hzY | (simp only [put_length]; exact hzY)), gzE, (gqL_put gzX (by omega) (by omega) (by omega) (qv_gq (by omega) (by omega))), gzY, (edP_X (by omega) (by omega) (by omega) (Or.inr c73) hed)⟩, ?_⟩
              show (wd * hi - (k + 1)).toNat < (wd * hi - k).toNat
              omega
          · refine m_y (v := .bool false) 10 rfl (by kernel_rfl) rfl rfl (fun w' e' => y_lss rfl rfl (decide_eq_false c73)) ?_
            refine m_y (v := .bool false) 11 rfl (by kernel_rfl) rfl rfl (fun w' e' => y_pick_f rfl rfl) ?_
            refine m_done (by kernel_rfl) (fun w103 e104 => ?_)
            replace B := B.ext0 e104
            clear e104
            clear B0_70 R71
            refine W_if_f (by decide) rfl ?_
            refine W_skip ?_
            refine W_seq ?_
            refine W_region (by kernel_rfl) ?_
            refine s_y (v := .pointer (some ⟨b9, 0, none⟩)) rfl (y_move rfl) ?_
            refine s_k rfl (k_call T36.fn_81 (c_s_pick (by omega) (by omega) (by omega) (by omega) (B.all.pick [0, 7] rfl) (B.pw.pick [0, 7] rfl rfl)) rfl ?_)
            rintro _ w105 ⟨v107, rfl, hp108, hU106⟩
            replace B : Bu w no w105 [.blk b9 [.slice aq nq cq, .int .i64 (((q + 1) + 1) + 1), .int .u64 (sdY Xq (((q + 1) + 1) + 1))] 131, .ow kF a12 (Int.toNat (wd * hi)) c13 34 zE, .ow kF a14 (Int.toNat (wd * hi)) c15 34 zX, .ow kF a16 (Int.toNat (wd * hi)) c17 34 zY, .blk b19 [.slice a12 (Int.toNat (wd * hi)) c13, .slice a14 (Int.toNat (wd * hi)) c15, .slice a16 (Int.toNat (wd * hi)) c17] 30, .blk b4 [.slice none 0 0, .slice none 0 0, .slice none 0 0] 30, .blk b1 [.int .i64 wd, .int .i64 hi, .bool false, .slice asp nsp csp, .slice als nls cls] 26, .rd kY aq nq Xq, .rd kF asp nsp Xsp, .rd kF als nls Xls] := B.upd [0] rfl hU106
            clear hU106
            have hb109 := pk_b Xq (n := 9) ((q + 1) + 1) (by omega)
            rw [← hp108] at hb109
            refine s_y (v := .int .i64 (v107 - 4)) rfl (y_sub rfl rfl rfl (by omega)) ?_
            refine s_y (v := .float .f32 (FloatKind.nearest .f32 (v107 - 4))) rfl (y_if T36.und_2 T36.flt_34_f32 rfl) ?_
            refine s_n rfl (n_arith (by decide) rfl rfl) ?_
            rintro _ w113 e114 ⟨r111, rfl, hr112⟩
            replace B := B.ext0 e114
            clear e114
            have hc115 := fopC hr112 (cn_nearest .f32 (v107 - 4)) (cnLit (k := .f32) (t := 1082130432) (by kernel_rfl) (by kernel_rfl))
            refine s_y (v := .float .f32 r111) rfl (y_assign rfl) ?_
            refine s_nil ?_
            refine W_seq ?_
            have B0_120 := B
            refine W_draw (no) T36.mx (by kernel_rfl) (fun w118 e119 => ?_)
            have R121 := Ext.refl (no) w113
            replace R121 := R121.trans (Ext0.any e119)
            replace B := B.ext0 e119
            clear e119
            refine m_y (v := .pointer (some ⟨b1, 2, none⟩)) 0 rfl (by kernel_rfl) rfl rfl (fun w' e' => y_fld (o := 0) T36.fld_26_2_2 rfl) ?_
            refine m_y (v := .bool false) 1 rfl (by kernel_rfl) rfl rfl (fun w' e' => y_load T36.one_4 rfl (((B0_120.b 6 rfl).ext0 e').cell (j := 2) rfl)) ?_
            refine m_y (v := .bool false) 2 rfl (by kernel_rfl) rfl rfl (fun w' e' => y_move rfl) ?_
            refine m_y (v := .int .i64 k) 3 rfl (by kernel_rfl) rfl rfl (fun w' e' => y_move rfl) ?_
            refine m_y (v := .pointer (some ⟨b1, 0, none⟩)) 4 rfl (by kernel_rfl) rfl rfl (fun w' e' => y_fld (o := 0) T36.fld_26_0_0 rfl) ?_
            refine m_y (v := .int .i64 wd) 5 rfl (by kernel_rfl) rfl rfl (fun w' e' => y_load T36.one_2 rfl (((B0_120.b 6 rfl).ext0 e').cell (j := 0) rfl)) ?_
            have hm122 := rem_b (x := k) (m := wd) (by omega) (by omega)
            refine m_y (v := .int .i64 (k % wd)) 6 rfl (by kernel_rfl) rfl rfl (fun w' e' => y_rem rfl rfl (by omega) (by omega) rfl) ?_
            refine m_y (v := .pointer (some ⟨b1, 0, none⟩)) 7 rfl (by kernel_rfl) rfl rfl (fun w' e' => y_fld (o := 0) T36.fld_26_0_0 rfl) ?_
            refine m_y (v := .int .i64 wd) 8 rfl (by kernel_rfl) rfl rfl (fun w' e' => y_load T36.one_2 rfl (((B0_120.b 6 rfl).ext0 e').cell (j := 0) rfl)) ?_
            refine m_y (v := .int .i64 (wd - 1)) 9 rfl (by kernel_rfl) rfl rfl (fun w' e' => y_sub rfl rfl rfl (by omega)) ?_
            by_cases c123 : (k % wd) < (wd - 1)
            · refine m_y (v := .bool true) 10 rfl (by kernel_rfl) rfl rfl (fun w' e' => y_lss rfl rfl (decide_eq_true c123)) ?_
              refine m_y (v := .bool true) 11 rfl (by kernel_rfl) rfl rfl (fun w' e' => y_pick_f rfl rfl) ?_
              refine m_done (by kernel_rfl) (fun w124 e125 => ?_)
              replace B := B.ext0 e125
              clear e125
              clear B0_120 R121
              refine W_if_t (by decide) rfl ?_
              refine W_region (by kernel_rfl) ?_
              refine s_y (v := .pointer (some ⟨b19, 2, none⟩)) rfl (y_fld (o := 0) T36.fld_30_2_2 rfl) ?_
              refine s_y (v := .slice a16 (Int.toNat (wd * hi)) c17) rfl (y_load T36.one_24 rfl ((B.b 4 rfl).cell (j := 2) rfl)) ?_
              refine s_y (v := .int .i64 k) rfl (y_move rfl) ?_
              refine s_y (v := .float .f32 r111) rfl (y_move rfl) ?_
              refine s_y (v := .pointer (some (sat a16 ((k).toNat * 1)))) rfl (y_idx T36.sl_24_34_1 rfl rfl ((B.o 3 rfl).rd.addr (by omega)) (by omega) (by omega)) ?_
              refine s_k0 rfl (k_stO (k := kF) (i := k) (j := 0) (x' := fop .quo .f32 (FloatKind.nearest .f32 (v107 - 4)) 1082130432) (new := [.float .f32 r111]) T36.sz_34_1 rfl rfl rfl rfl rfl (by simp [Value.oneCell']) (by decide) (B.o 3 rfl) (by omega) (by omega) (by decide) (by rintro q ⟨_, rfl, _⟩; exact ⟨_, rfl, hc115⟩) (fun w126 hU127 => ?_))
              replace B : Bu w no w126 [.ow kF a16 (Int.toNat (wd * hi)) c17 34 (put zY k (fop .quo .f32 (FloatKind.nearest .f32 (v107 - 4)) 1082130432)), .blk b9 [.slice aq nq cq, .int .i64 (((q + 1) + 1) + 1), .int .u64 (sdY Xq (((q + 1) + 1) + 1))] 131, .ow kF a12 (Int.toNat (wd * hi)) c13 34 zE, .ow kF a14 (Int.toNat (wd * hi)) c15 34 zX, .blk b19 [.slice a12 (Int.toNat (wd * hi)) c13, .slice a14 (Int.toNat (wd * hi)) c15, .slice a16 (Int.toNat (wd * hi)) c17] 30, .blk b4 [.slice none 0 0, .slice none 0 0, .slice none 0 0] 30, .blk b1 [.int .i64 wd, .int .i64 hi, .bool false, .slice asp nsp csp, .slice als nls cls] 26, .rd kY aq nq Xq, .rd kF asp nsp Xsp, .rd kF als nls Xls] := B.upd [3] rfl hU127
              clear hU127
              refine s_nil ?_
              refine W_region (by kernel_rfl) ?_
              refine s_y (v := .int .i64 k) rfl (y_move rfl) ?_
              refine s_y (v := .int .i64 (k + 1)) rfl (y_add rfl rfl rfl (by omega)) ?_
              refine s_y (v := .int .i64 (k + 1)) rfl (y_assign rfl) ?_
              refine s_nil ?_
              refine ⟨⟨_, k + 1, ((q + 1) + 1) + 1, _, _, _, Fits.eq ⟨rfl, rfl, rfl, rfl, rfl, rfl, trivial⟩, (B.pick [2, 3, 0, 4, 1, 5, 6, 7, 8, 9] rfl rfl), (by omega), (by omega), (by omega), (by omega), (by first | exact hzE | (simp only [put_length]; exact hzE)), (by first | exact hzX | (simp only [put_length]; exact hzX)), (by first | exact hzY | (simp only [put_length]; exact hzY)), gzE, gzX, (gqL_put gzY (by omega) (by omega) (by omega) (qv_gq (by omega) (by omega))), (edP_Y (by omega) (by omega) (by omega) (Or.inr c123) hed)⟩, ?_⟩
              show (wd * hi - (k + 1)).toNat < (wd * hi - k).toNat
              omega
            · refine m_y (v := .bool false) 10 rfl (by kernel_rfl) rfl rfl (fun w' e' => y_lss rfl rfl (decide_eq_false c123)) ?_
              refine m_y (v := .bool false) 11 rfl (by kernel_rfl) rfl rfl (fun w' e' => y_pick_f rfl rfl) ?_
              refine m_done (by kernel_rfl) (fun w128 e129 => ?_)
              replace B := B.ext0 e129
              clear e129
              clear B0_120 R121
              refine W_if_f (by decide) rfl ?_
              refine W_skip ?_
              refine W_region (by kernel_rfl) ?_
              refine s_y (v := .int .i64 k) rfl (y_move rfl) ?_
              refine s_y (v := .int .i64 (k + 1)) rfl (y_add rfl rfl rfl (by omega)) ?_
              refine s_y (v := .int .i64 (k + 1)) rfl (y_assign rfl) ?_
              refine s_nil ?_
              refine ⟨⟨_, k + 1, ((q + 1) + 1) + 1, _, _, _, Fits.eq ⟨rfl, rfl, rfl, rfl, rfl, rfl, trivial⟩, (B.pick [1, 2, 3, 4, 0, 5, 6, 7, 8, 9] rfl rfl), (by omega), (by omega), (by omega), (by omega), (by first | exact hzE | (simp only [put_length]; exact hzE)), (by first | exact hzX | (simp only [put_length]; exact hzX)), (by first | exact hzY | (simp only [put_length]; exact hzY)), gzE, gzX, gzY, hed⟩, ?_⟩
              show (wd * hi - (k + 1)).toNat < (wd * hi - k).toNat
              omega
        · refine m_skip 3 rfl (by kernel_rfl) rfl ?_
          refine m_skip 4 rfl (by kernel_rfl) rfl ?_
          refine m_skip 5 rfl (by kernel_rfl) rfl ?_
          refine m_skip 6 rfl (by kernel_rfl) rfl ?_
          refine m_skip 7 rfl (by kernel_rfl) rfl ?_
          refine m_skip 8 rfl (by kernel_rfl) rfl ?_
          refine m_skip 9 rfl (by kernel_rfl) rfl ?_
          refine m_skip 10 rfl (by kernel_rfl) rfl ?_
          refine m_y (v := .bool true) 11 rfl (by kernel_rfl) rfl rfl (fun w' e' => y_pick_t rfl rfl) ?_
          refine m_done (by kernel_rfl) (fun w130 e131 => ?_)
          replace B := B.ext0 e131
          clear e131
          clear B0_70 R71
          refine W_if_t (by decide) rfl ?_
          refine W_region (by kernel_rfl) ?_
          refine s_y (v := .pointer (some ⟨b19, 1, none⟩)) rfl (y_fld (o := 0) T36.fld_30_1_1 rfl) ?_
          refine s_y (v := .slice a14 (Int.toNat (wd * hi)) c15) rfl (y_load T36.one_24 rfl ((B.b 4 rfl).cell (j := 1) rfl)) ?_
          refine s_y (v := .int .i64 k) rfl (y_move rfl) ?_
          refine s_y (v := .float .f32 r61) rfl (y_move rfl) ?_
          refine s_y (v := .pointer (some (sat a14 ((k).toNat * 1)))) rfl (y_idx T36.sl_24_34_1 rfl rfl ((B.o 2 rfl).rd.addr (by omega)) (by omega) (by omega)) ?_
          refine s_k0 rfl (k_stO (k := kF) (i := k) (j := 0) (x' := fop .quo .f32 (FloatKind.nearest .f32 (v57 - 4)) 1082130432) (new := [.float .f32 r61]) T36.sz_34_1 rfl rfl rfl rfl rfl (by simp [Value.oneCell']) (by decide) (B.o 2 rfl) (by omega) (by omega) (by decide) (by rintro q ⟨_, rfl, _⟩; exact ⟨_, rfl, hc65⟩) (fun w132 hU133 => ?_))
          replace B : Bu w no w132 [.ow kF a14 (Int.toNat (wd * hi)) c15 34 (put zX k (fop .quo .f32 (FloatKind.nearest .f32 (v57 - 4)) 1082130432)), .blk b9 [.slice aq nq cq, .int .i64 ((q + 1) + 1), .int .u64 (sdY Xq ((q + 1) + 1))] 131, .ow kF a12 (Int.toNat (wd * hi)) c13 34 zE, .ow kF a16 (Int.toNat (wd * hi)) c17 34 zY, .blk b19 [.slice a12 (Int.toNat (wd * hi)) c13, .slice a14 (Int.toNat (wd * hi)) c15, .slice a16 (Int.toNat (wd * hi)) c17] 30, .blk b4 [.slice none 0 0, .slice none 0 0, .slice none 0 0] 30, .blk b1 [.int .i64 wd, .int .i64 hi, .bool true, .slice asp nsp csp, .slice als nls cls] 26, .rd kY aq nq Xq, .rd kF asp nsp Xsp, .rd kF als nls Xls] := B.upd [2] rfl hU133
          clear hU133
          refine s_nil ?_
          refine W_seq ?_
          refine W_region (by kernel_rfl) ?_
          refine s_y (v := .pointer (some ⟨b9, 0, none⟩)) rfl (y_move rfl) ?_
          refine s_k rfl (k_call T36.fn_81 (c_s_pick (by omega) (by omega) (by omega) (by omega) (B.all.pick [1, 7] rfl) (B.pw.pick [1, 7] rfl rfl)) rfl ?_)
          rintro _ w134 ⟨v136, rfl, hp137, hU135⟩
          replace B : Bu w no w134 [.blk b9 [.slice aq nq cq, .int .i64 (((q + 1) + 1) + 1), .int .u64 (sdY Xq (((q + 1) + 1) + 1))] 131, .ow kF a14 (Int.toNat (wd * hi)) c15 34 (put zX k (fop .quo .f32 (FloatKind.nearest .f32 (v57 - 4)) 1082130432)), .ow kF a12 (Int.toNat (wd * hi)) c13 34 zE, .ow kF a16 (Int.toNat (wd * hi)) c17 34 zY, .blk b19 [.slice a12 (Int.toNat (wd * hi)) c13, .slice a14 (Int.toNat (wd * hi)) c15, .slice a16 (Int.toNat (wd * hi)) c17] 30, .blk b4 [.slice none 0 0, .slice none 0 0, .slice none 0 0] 30, .blk b1 [.int .i64 wd, .int .i64 hi, .bool true, .slice asp nsp csp, .slice als nls cls] 26, .rd kY aq nq Xq, .rd kF asp nsp Xsp, .rd kF als nls Xls] := B.upd [1] rfl hU135
          clear hU135
          have hb138 := pk_b Xq (n := 9) ((q + 1) + 1) (by omega)
          rw [← hp137] at hb138
          refine s_y (v := .int .i64 (v136 - 4)) rfl (y_sub rfl rfl rfl (by omega)) ?_
          refine s_y (v := .float .f32 (FloatKind.nearest .f32 (v136 - 4))) rfl (y_if T36.und_2 T36.flt_34_f32 rfl) ?_
          refine s_n rfl (n_arith (by decide) rfl rfl) ?_
          rintro _ w142 e143 ⟨r140, rfl, hr141⟩
          replace B := B.ext0 e143
          clear e143
          have hc144 := fopC hr141 (cn_nearest .f32 (v136 - 4)) (cnLit (k := .f32) (t := 1082130432) (by kernel_rfl) (by kernel_rfl))
          refine s_y (v := .float .f32 r140) rfl (y_assign rfl) ?_
          refine s_nil ?_
          refine W_seq ?_
          have B0_149 := B
          refine W_draw (no) T36.mx (by kernel_rfl) (fun w147 e148 => ?_)
          have R150 := Ext.refl (no) w142
          replace R150 := R150.trans (Ext0.any e148)
          replace B := B.ext0 e148
          clear e148
          refine m_y (v := .pointer (some ⟨b1, 2, none⟩)) 0 rfl (by kernel_rfl) rfl rfl (fun w' e' => y_fld (o := 0) T36.fld_26_2_2 rfl) ?_
          refine m_y (v := .bool true) 1 rfl (by kernel_rfl) rfl rfl (fun w' e' => y_load T36.one_4 rfl (((B0_149.b 6 rfl).ext0 e').cell (j := 2) rfl)) ?_
          refine m_y (v := .bool true) 2 rfl (by kernel_rfl) rfl rfl (fun w' e' => y_move rfl) ?_
          refine m_skip 3 rfl (by kernel_rfl) rfl ?_
          refine m_skip 4 rfl (by kernel_rfl) rfl ?_
          refine m_skip 5 rfl (by kernel_rfl) rfl ?_
          refine m_skip 6 rfl (by kernel_rfl) rfl ?_
          refine m_skip 7 rfl (by kernel_rfl) rfl ?_
          refine m_skip 8 rfl (by kernel_rfl) rfl ?_
          refine m_skip 9 rfl (by kernel_rfl) rfl ?_
          refine m_skip 10 rfl (by kernel_rfl) rfl ?_
          refine m_y (v := .bool true) 11 rfl (by kernel_rfl) rfl rfl (fun w' e' => y_pick_t rfl rfl) ?_
          refine m_done (by kernel_rfl) (fun w151 e152 => ?_)
          replace B := B.ext0 e152
          clear e152
          clear B0_149 R150
          refine W_if_t (by decide) rfl ?_
          refine W_region (by kernel_rfl) ?_
          refine s_y (v := .pointer (some ⟨b19, 2, none⟩)) rfl (y_fld (o := 0) T36.fld_30_2_2 rfl) ?_
          refine s_y (v := .slice a16 (Int.toNat (wd * hi)) c17) rfl (y_load T36.one_24 rfl ((B.b 4 rfl).cell (j := 2) rfl)) ?_
          refine s_y (v := .int .i64 k) rfl (y_move rfl) ?_
          refine s_y (v := .float .f32 r140) rfl (y_move rfl) ?_
          refine s_y (v := .pointer (some (sat a16 ((k).toNat * 1)))) rfl (y_idx T36.sl_24_34_1 rfl rfl ((B.o 3 rfl).rd.addr (by omega)) (by omega) (by omega)) ?_
          refine s_k0 rfl (k_stO (k := kF) (i := k) (j := 0) (x' := fop .quo .f32 (FloatKind.nearest .f32 (v136 - 4)) 1082130432) (new := [.float .f32 r140]) T36.sz_34_1 rfl rfl rfl rfl rfl (by simp [Value.oneCell']) (by decide) (B.o 3 rfl) (by omega) (by omega) (by decide) (by rintro q ⟨_, rfl, _⟩; exact ⟨_, rfl, hc144⟩) (fun w153 hU154 => ?_))
          replace B : Bu w no w153 [.ow kF a16 (Int.toNat (wd * hi)) c17 34 (put zY k (fop .quo .f32 (FloatKind.nearest .f32 (v136 - 4)) 1082130432)), .blk b9 [.slice aq nq cq, .int .i64 (((q + 1) + 1) + 1), .int .u64 (sdY Xq (((q + 1) + 1) + 1))] 131, .ow kF a14 (Int.toNat (wd * hi)) c15 34 (put zX k (fop .quo .f32 (FloatKind.nearest .f32 (v57 - 4)) 1082130432)), .ow kF a12 (Int.toNat (wd * hi)) c13 34 zE, .blk b19 [.slice a12 (Int.toNat (wd * hi)) c13, .slice a14 (Int.toNat (wd * hi)) c15, .slice a16 (Int.toNat (wd * hi)) c17] 30, .blk b4 [.slice none 0 0, .slice none 0 0, .slice none 0 0] 30, .blk b1 [.int .i64 wd, .int .i64 hi, .bool true, .slice asp nsp csp, .slice als nls cls] 26, .rd kY aq nq Xq, .rd kF asp nsp Xsp, .rd kF als nls Xls] := B.upd [3] rfl hU154
          clear hU154
          refine s_nil ?_
          refine W_region (by kernel_rfl) ?_
          refine s_y (v := .int .i64 k) rfl (y_move rfl) ?_
          refine s_y (v := .int .i64 (k + 1)) rfl (y_add rfl rfl rfl (by omega)) ?_
          refine s_y (v := .int .i64 (k + 1)) rfl (y_assign rfl) ?_
          refine s_nil ?_
          refine ⟨⟨_, k + 1, ((q + 1) + 1) + 1, _, _, _, Fits.eq ⟨rfl, rfl, rfl, rfl, rfl, rfl, trivial⟩, (B.pick [3, 2, 0, 4, 1, 5, 6, 7, 8, 9] rfl rfl), (by omega), (by omega), (by omega), (by omega), (by first | exact hzE | (simp only [put_length]; exact hzE)), (by first | exact hzX | (simp only [put_length]; exact hzX)), (by first | exact hzY | (simp only [put_length]; exact hzY)), gzE, (gqL_put gzX (by omega) (by omega) (by omega) (qv_gq (by omega) (by omega))), (gqL_put gzY (by omega) (by omega) (by omega) (qv_gq (by omega) (by omega))), (edP_Y (by omega) (by omega) (by omega) (Or.inl rfl) (edP_X (by omega) (by omega) (by omega) (Or.inl rfl) hed))⟩, ?_⟩
          show (wd * hi - (k + 1)).toNat < (wd * hi - k).toNat
          omega
      · obtain rfl : v39 = .bool false := hv40.trans (congrArg Value.bool (Bool.eq_false_iff.2 c41))
        refine m_y (v := .bool false) 9 rfl (by kernel_rfl) rfl rfl (fun w' e' => y_assign rfl) ?_
        refine m_done (by kernel_rfl) (fun w155 e156 => ?_)
        replace B := B.ext0 e156
        clear e156
        clear B0_31 R32
        refine W_seq ?_
        refine W_region (by kernel_rfl) ?_
        refine s_y (v := .pointer (some ⟨b9, 0, none⟩)) rfl (y_move rfl) ?_
        refine s_k rfl (k_call T36.fn_81 (c_s_pick (by omega) (by omega) (by omega) (by omega) (B.all.pick [4, 7] rfl) (B.pw.pick [4, 7] rfl rfl)) rfl ?_)
        rintro _ w157 ⟨v159, rfl, hp160, hU158⟩
        replace B : Bu w no w157 [.blk b9 [.slice aq nq cq, .int .i64 (q + 1), .int .u64 (sdY Xq (q + 1))] 131, .ow kF a12 (Int.toNat (wd * hi)) c13 34 zE, .ow kF a14 (Int.toNat (wd * hi)) c15 34 zX, .ow kF a16 (Int.toNat (wd * hi)) c17 34 zY, .blk b19 [.slice a12 (Int.toNat (wd * hi)) c13, .slice a14 (Int.toNat (wd * hi)) c15, .slice a16 (Int.toNat (wd * hi)) c17] 30, .blk b4 [.slice none 0 0, .slice none 0 0, .slice none 0 0] 30, .blk b1 [.int .i64 wd, .int .i64 hi, .bool wr, .slice asp nsp csp, .slice als nls cls] 26, .rd kY aq nq Xq, .rd kF asp nsp Xsp, .rd kF als nls Xls] := B.upd [4] rfl hU158
        clear hU158
        have hb161 := pk_b Xq (n := 17) q (by omega)
        rw [← hp160] at hb161
        refine s_y (v := .int .i64 (v159 - 8)) rfl (y_sub rfl rfl rfl (by omega)) ?_
        refine s_y (v := .float .f32 (FloatKind.nearest .f32 (v159 - 8))) rfl (y_if T36.und_2 T36.flt_34_f32 rfl) ?_
        refine s_n rfl (n_arith (by decide) rfl rfl) ?_
        rintro _ w165 e166 ⟨r163, rfl, hr164⟩
        replace B := B.ext0 e166
        clear e166
        have hc167 := fopC hr164 (cn_nearest .f32 (v159 - 8)) (cnLit (k := .f32) (t := 1082130432) (by kernel_rfl) (by kernel_rfl))
        refine s_y (v := .float .f32 r163) rfl (y_assign rfl) ?_
        refine s_nil ?_
        refine W_seq ?_
        refine W_seq ?_
        refine W_region (by kernel_rfl) ?_
        refine s_y (v := .bool false) rfl (y_move rfl) ?_
        refine s_y (v := .bool true) rfl (y_not rfl rfl) ?_
        refine s_nil ?_
        refine W_if_t (by decide) rfl ?_
        refine W_region (by kernel_rfl) ?_
        refine s_y (v := .pointer (some ⟨b19, 0, none⟩)) rfl (y_fld (o := 0) T36.fld_30_0_0 rfl) ?_
        refine s_y (v := .slice a12 (Int.toNat (wd * hi)) c13) rfl (y_load T36.one_24 rfl ((B.b 4 rfl).cell (j := 0) rfl)) ?_
        refine s_y (v := .int .i64 k) rfl (y_move rfl) ?_
        refine s_y (v := .float .f32 r163) rfl (y_move rfl) ?_
        refine s_y (v := .pointer (some (sat a12 ((k).toNat * 1)))) rfl (y_idx T36.sl_24_34_1 rfl rfl ((B.o 1 rfl).rd.addr (by omega)) (by omega) (by omega)) ?_
        refine s_k0 rfl (k_stO (k := kF) (i := k) (j := 0) (x' := fop .quo .f32 (FloatKind.nearest .f32 (v159 - 8)) 1082130432) (new := [.float .f32 r163]) T36.sz_34_1 rfl rfl rfl rfl rfl (by simp [Value.oneCell']) (by decide) (B.o 1 rfl) (by omega) (by omega) (by decide) (by rintro q ⟨_, rfl, _⟩; exact ⟨_, rfl, hc167⟩) (fun w168 hU169 => ?_))
        replace B : Bu w no w168 [.ow kF a12 (Int.toNat (wd * hi)) c13 34 (put zE k (fop .quo .f32 (FloatKind.nearest .f32 (v159 - 8)) 1082130432)), .blk b9 [.slice aq nq cq, .int .i64 (q + 1), .int .u64 (sdY Xq (q + 1))] 131, .ow kF a14 (Int.toNat (wd * hi)) c15 34 zX, .ow kF a16 (Int.toNat (wd * hi)) c17 34 zY, .blk b19 [.slice a12 (Int.toNat (wd * hi)) c13, .slice a14 (Int.toNat (wd * hi)) c15, .slice a16 (Int.toNat (wd * hi)) c17] 30, .blk b4 [.slice none 0 0, .slice none 0 0, .slice none 0 0] 30, .blk b1 [.int .i64 wd, .int .i64 hi, .bool wr, .slice asp nsp csp, .slice als nls cls] 26, .rd kY aq nq Xq, .rd kF asp nsp Xsp, .rd kF als nls Xls] := B.upd [1] rfl hU169
        clear hU169
        refine s_nil ?_
        refine W_seq ?_
        refine W_region (by kernel_rfl) ?_
        refine s_y (v := .pointer (some ⟨b9, 0, none⟩)) rfl (y_move rfl) ?_
        refine s_k rfl (k_call T36.fn_81 (c_s_pick (by omega) (by omega) (by omega) (by omega) (B.all.pick [1, 7] rfl) (B.pw.pick [1, 7] rfl rfl)) rfl ?_)
        rintro _ w170 ⟨v172, rfl, hp173, hU171⟩
        replace B : Bu w no w170 [.blk b9 [.slice aq nq cq, .int .i64 ((q + 1) + 1), .int .u64 (sdY Xq ((q + 1) + 1))] 131, .ow kF a12 (Int.toNat (wd * hi)) c13 34 (put zE k (fop .quo .f32 (FloatKind.nearest .f32 (v159 - 8)) 1082130432)), .ow kF a14 (Int.toNat (wd * hi)) c15 34 zX, .ow kF a16 (Int.toNat (wd * hi)) c17 34 zY, .blk b19 [.slice a12 (Int.toNat (wd * hi)) c13, .slice a14 (Int.toNat (wd * hi)) c15, .slice a16 (Int.toNat (wd * hi)) c17] 30, .blk b4 [.slice none 0 0, .slice none 0 0, .slice none 0 0] 30, .blk b1 [.int .i64 wd, .int .i64 hi, .bool wr, .slice asp nsp csp, .slice als nls cls] 26, .rd kY aq nq Xq, .rd kF asp nsp Xsp, .rd kF als nls Xls] := B.upd [1] rfl hU171
        clear hU171
        have hb174 := pk_b Xq (n := 9) (q + 1) (by omega)
        rw [← hp173] at hb174
        refine s_y (v := .int .i64 (v172 - 4)) rfl (y_sub rfl rfl rfl (by omega)) ?_
        refine s_y (v := .float .f32 (FloatKind.nearest .f32 (v172 - 4))) rfl (y_if T36.und_2 T36.flt_34_f32 rfl) ?_
        refine s_n rfl (n_arith (by decide) rfl rfl) ?_
        rintro _ w178 e179 ⟨r176, rfl, hr177⟩
        replace B := B.ext0 e179
        clear e179
        have hc180 := fopC hr177 (cn_nearest .f32 (v172 - 4)) (cnLit (k := .f32) (t := 1082130432) (by kernel_rfl) (by kernel_rfl))
        refine s_y (v := .float .f32 r176) rfl (y_assign rfl) ?_
        refine s_nil ?_
        refine W_seq ?_
        refine W_seq ?_
        have B0_185 := B
        refine W_draw (no) T36.mx (by kernel_rfl) (fun w183 e184 => ?_)
        have R186 := Ext.refl (no) w178
        replace R186 := R186.trans (Ext0.any e184)
        replace B := B.ext0 e184
        clear e184
        refine m_y (v := .pointer (some ⟨b1, 2, none⟩)) 0 rfl (by kernel_rfl) rfl rfl (fun w' e' => y_fld (o := 0) T36.fld_26_2_2 rfl) ?_
        refine m_y (v := .bool wr) 1 rfl (by kernel_rfl) rfl rfl (fun w' e' => y_load T36.one_4 rfl (((B0_185.b 6 rfl).ext0 e').cell (j := 2) rfl)) ?_
        refine m_y (v := .bool wr) 2 rfl (by kernel_rfl) rfl rfl (fun w' e' => y_move rfl) ?_
        cases wr
        · refine m_y (v := .int .i64 k) 3 rfl (by kernel_rfl) rfl rfl (fun w' e' => y_move rfl) ?_
          refine m_y (v := .pointer (some ⟨b1, 0, none⟩)) 4 rfl (by kernel_rfl) rfl rfl (fun w' e' => y_fld (o := 0) T36.fld_26_0_0 rfl) ?_
          refine m_y (v := .int .i64 wd) 5 rfl (by kernel_rfl) rfl rfl (fun w' e' => y_load T36.one_2 rfl (((B0_185.b 6 rfl).ext0 e').cell (j := 0) rfl)) ?_
          have hm187 := quo_b (x := k) (m := wd) (by omega) (by omega)
          refine m_y (v := .int .i64 (k / wd)) 6 rfl (by kernel_rfl) rfl rfl (fun w' e' => y_quo rfl rfl (by omega) (by omega) (by omega) rfl) ?_
          refine m_y (v := .pointer (some ⟨b1, 1, none⟩)) 7 rfl (by kernel_rfl) rfl rfl (fun w' e' => y_fld (o := 0) T36.fld_26_1_1 rfl) ?_
          refine m_y (v := .int .i64 hi) 8 rfl (by kernel_rfl) rfl rfl (fun w' e' => y_load T36.one_2 rfl (((B0_185.b 6 rfl).ext0 e').cell (j := 1) rfl)) ?_
          refine m_y (v := .int .i64 (hi - 1)) 9 rfl (by kernel_rfl) rfl rfl (fun w' e' => y_sub rfl rfl rfl (by omega)) ?_
          by_cases c188 : (k / wd) < (hi - 1)
          · refine m_y (v := .bool true) 10 rfl (by kernel_rfl) rfl rfl (fun w' e' => y_lss rfl rfl (decide_eq_true c188)) ?_
            refine m_y (v := .bool true) 11 rfl (by kernel_rfl) rfl rfl (fun w' e' => y_pick_f rfl rfl) ?_
            refine m_done (by kernel_rfl) (fun w189 e190 => ?_)
            replace B := B.ext0 e190
            clear e190
            clear B0_185 R186
            refine W_if_t (by decide) rfl ?_
            refine W_region (by kernel_rfl) ?_
            refine s_y (v := .pointer (some ⟨b19, 1, none⟩)) rfl (y_fld (o := 0) T36.fld_30_1_1 rfl) ?_
            refine s_y (v := .slice a14 (Int.toNat (wd * hi)) c15) rfl (y_load T36.one_24 rfl ((B.b 4 rfl).cell (j := 1) rfl)) ?_
            refine s_y (v := .int .i64 k) rfl (y_move rfl) ?_
            refine s_y (v := .float .f32 r176) rfl (y_move rfl) ?_
            refine s_y (v := .pointer (some (sat a14 ((k).toNat * 1)))) rfl (y_idx T36.sl_24_34_1 rfl rfl ((B.o 2 rfl).rd.addr (by omega)) (by omega) (by omega)) ?_
            refine s_k0 rfl (k_stO (k := kF) (i := k) (j := 0) (x' := fop .quo .f32 (FloatKind.nearest .f32 (v172 - 4)) 1082130432) (new := [.float .f32 r176]) T36.sz_34_1 rfl rfl rfl rfl rfl (by simp [Value.oneCell']) (by decide) (B.o 2 rfl) (by omega) (by omega) (by decide) (by rintro q ⟨_, rfl, _⟩; exact ⟨_, rfl, hc180⟩) (fun w191 hU192 => ?_))
            replace B : Bu w no w191 [.ow kF a14 (Int.toNat (wd * hi)) c15 34 (put zX k (fop .quo .f32 (FloatKind.nearest .f32 (v172 - 4)) 1082130432)), .blk b9 [.slice aq nq cq, .int .i64 ((q + 1) + 1), .int .u64 (sdY Xq ((q + 1) + 1))] 131, .ow kF a12 (Int.toNat (wd * hi)) c13 34 (put zE k (fop .quo .f32 (FloatKind.nearest .f32 (v159 - 8)) 1082130432)), .ow kF a16 (Int.toNat (wd * hi)) c17 34 zY, .blk b19 [.slice a12 (Int.toNat (wd * hi)) c13, .slice a14 (Int.toNat (wd * hi)) c15, .slice a16 (Int.toNat (wd * hi)) c17] 30, .blk b4 [.slice none 0 0, .slice none 0 0, .slice none 0 0] 30, .blk b1 [.int .i64 wd, .int .i64 hi, .bool false, .slice asp nsp csp, .slice als nls cls] 26, .rd kY aq nq Xq, .rd kF asp nsp Xsp, .rd kF als nls Xls] := B.upd [2] rfl hU192
            clear hU192
            refine s_nil ?_
            refine W_seq ?_
            refine W_region (by kernel_rfl) ?_
            refine s_y (v := .pointer (some ⟨b9, 0, none⟩)) rfl (y_move rfl) ?_
            refine s_k rfl (k_call T36.fn_81 (c_s_pick (by omega) (by omega) (by omega) (by omega) (B.all.pick [1, 7] rfl) (B.pw.pick [1, 7] rfl rfl)) rfl ?_)
            rintro _ w193 ⟨v195, rfl, hp196, hU194⟩
            replace B : Bu w no w193 [.blk b9 [.slice aq nq cq, .int .i64 (((q + 1) + 1) + 1), .int .u64 (sdY Xq (((q + 1) + 1) + 1))] 131, .ow kF a14 (Int.toNat (wd * hi)) c15 34 (put zX k (fop .quo .f32 (FloatKind.nearest .f32 (v172 - 4)) 1082130432)), .ow kF a12 (Int.toNat (wd * hi)) c13 34 (put zE k (fop .quo .f32 (FloatKind.nearest .f32 (v159 - 8)) 1082130432)), .ow kF a16 (Int.toNat (wd * hi)) c17 34 zY, .blk b19 [.slice a12 (Int.toNat (wd * hi)) c13, .slice a14 (Int.toNat (wd * hi)) c15, .slice a16 (Int.toNat (wd * hi)) c17] 30, .blk b4 [.slice none 0 0, .slice none 0 0, .slice none 0 0] 30, .blk b1 [.int .i64 wd, .int .i64 hi, .bool false, .slice asp nsp csp, .slice als nls cls] 26, .rd kY aq nq Xq, .rd kF asp nsp Xsp, .rd kF als nls Xls] := B.upd [1] rfl hU194
            clear hU194
            have hb197 := pk_b Xq (n := 9) ((q + 1) + 1) (by omega)
            rw [← hp196] at hb197
            refine s_y (v := .int .i64 (v195 - 4)) rfl (y_sub rfl rfl rfl (by omega)) ?_
            refine s_y (v := .float .f32 (FloatKind.nearest .f32 (v195 - 4))) rfl (y_if T36.und_2 T36.flt_34_f32 rfl) ?_
            refine s_n rfl (n_arith (by decide) rfl rfl) ?_
            rintro _ w201 e202 ⟨r199, rfl, hr200⟩
            replace B := B.ext0 e202
            clear e202
            have hc203 := fopC hr200 (cn_nearest .f32 (v195 - 4)) (cnLit (k := .f32) (t := 1082130432) (by kernel_rfl) (by kernel_rfl))
            refine s_y (v := .float .f32 r199) rfl (y_assign rfl) ?_
            refine s_nil ?_
            refine W_seq ?_
            have B0_208 := B
            refine W_draw (no) T36.mx (by kernel_rfl) (fun w206 e207 => ?_)
            have R209 := Ext.refl (no) w201
            replace R209 := R209.trans (Ext0.any e207)
            replace B := B.ext0 e207
            clear e207
            refine m_y (v := .pointer (some ⟨b1, 2, none⟩)) 0 rfl (by kernel_rfl) rfl rfl (fun w' e' => y_fld (o := 0) T36.fld_26_2_2 rfl) ?_
            refine m_y (v := .bool false) 1 rfl (by kernel_rfl) rfl rfl (fun w' e' => y_load T36.one_4 rfl (((B0_208.b 6 rfl).ext0 e').cell (j := 2) rfl)) ?_
            refine m_y (v := .bool false) 2 rfl (by kernel_rfl) rfl rfl (fun w' e' => y_move rfl) ?_
            refine m_y (v := .int .i64 k) 3 rfl (by kernel_rfl) rfl rfl (fun w' e' => y_move rfl) ?_
            refine m_y (v := .pointer (some ⟨b1, 0, none⟩)) 4 rfl (by kernel_rfl) rfl rfl (fun w' e' => y_fld (o := 0) T36.fld_26_0_0 rfl) ?_
            refine m_y (v := .int .i64 wd) 5 rfl (by kernel_rfl) rfl rfl (fun w' e' => y_load T36.one_2 rfl (((B0_208.b 6 rfl).ext0 e').cell (j := 0) rfl)) ?_
            have hm210 := rem_b (x := k) (m := wd) (by omega) (by omega)
            refine m_y (v := .int .i64 (k % wd)) 6 rfl (by kernel_rfl) rfl rfl (fun w' e' => y_rem rfl rfl (by omega) (by omega) rfl) ?_
            refine m_y (v := .pointer (some ⟨b1, 0, none⟩)) 7 rfl (by kernel_rfl) rfl rfl (fun w' e' => y_fld (o := 0) T36.fld_26_0_0 rfl) ?_
            refine m_y (v := .int .i64 wd) 8 rfl (by kernel_rfl) rfl rfl (fun w' e' => y_load T36.one_2 rfl (((B0_208.b 6 rfl).ext0 e').cell (j := 0) rfl)) ?_
            refine m_y (v := .int .i64 (wd - 1)) 9 rfl (by kernel_rfl) rfl rfl (fun w' e' => y_sub rfl rfl rfl (by omega)) ?_
            by_cases c211 : (k % wd) < (wd - 1)
            · refine m_y (v := .bool true) 10 rfl (by kernel_rfl) rfl rfl (fun w' e' => y_lss rfl rfl (decide_eq_true c211)) ?_
              refine m_y (v := .bool true) 11 rfl (by kernel_rfl) rfl rfl (fun w' e' => y_pick_f rfl rfl) ?_
              refine m_done (by kernel_rfl) (fun w212 e213 => ?_)
              replace B := B.ext0 e213
              clear e213
              clear B0_208 R209
              refine W_if_t (by decide) rfl ?_
              refine W_region (by kernel_rfl) ?_
              refine s_y (v := .pointer (some ⟨b19, 2, none⟩)) rfl (y_fld (o := 0) T36.fld_30_2_2 rfl) ?_
              refine s_y (v := .slice a16 (Int.toNat (wd * hi)) c17) rfl (y_load T36.one_24 rfl ((B.b 4 rfl).cell (j := 2) rfl)) ?_
              refine s_y (v := .int .i64 k) rfl (y_move rfl) ?_
              refine s_y (v := .float .f32 r199) rfl (y_move rfl) ?_
              refine s_y (v := .pointer (some (sat a16 ((k).toNat * 1)))) rfl (y_idx T36.sl_24_34_1 rfl rfl ((B.o 3 rfl).rd.addr (by omega)) (by omega) (by omega)) ?_
              refine s_k0 rfl (k_stO (k := kF) (i := k) (j := 0) (x' := fop .quo .f32 (FloatKind.nearest .f32 (v195 - 4)) 1082130432) (new := [.float .f32 r199]) T36.sz_34_1 rfl rfl rfl rfl rfl (by simp [Value.oneCell']) (by decide) (B.o 3 rfl) (by omega) (by omega) (by decide) (by rintro q ⟨_, rfl, _⟩; exact ⟨_, rfl, hc203⟩) (fun w214 hU215 => ?_))
              replace B : Bu w no w214 [.ow kF a16 (Int.toNat (wd * hi)) c17 34 (put zY k (fop .quo .f32 (FloatKind.nearest .f32 (v195 - 4)) 1082130432)), .blk b9 [.slice aq nq cq, .int .i64 (((q + 1) + 1) + 1), .int .u64 (sdY Xq (((q + 1) + 1) + 1))] 131, .ow kF a14 (Int.toNat (wd * hi)) c15 34 (put zX k (fop .quo .f32 (FloatKind.nearest .f32 (v172 - 4)) 1082130432)), .ow kF a12 (Int.toNat (wd * hi)) c13 34 (put zE k (fop .quo .f32 (FloatKind.nearest .f32 (v159 - 8)) 1082130432)), .blk b19 [.slice a12 (Int.toNat (wd * hi)) c13, .slice a14 (Int.toNat (wd * hi)) c15, .slice a16 (Int.toNat (wd * hi)) c17] 30, .blk b4 [.slice none 0 0, .slice none 0 0, .slice none 0 0] 30, .blk b1 [.int .i64 wd, .int .i64 hi, .bool false, .slice asp nsp csp, .slice als nls cls] 26, .rd kY aq nq Xq, .rd kF asp nsp Xsp, .rd kF als nls Xls] := B.upd [3] rfl hU215
              clear hU215
              refine s_nil ?_
              refine W_region (by kernel_rfl) ?_
              refine s_y (v := .int .i64 k) rfl (y_move rfl) ?_
              refine s_y (v := .int .i64 (k + 1)) rfl (y_add rfl rfl rfl (by omega)) ?_
              refine s_y (v := .int .i64 (k + 1)) rfl (y_assign rfl) ?_
              refine s_nil ?_
              refine ⟨⟨_, k + 1, ((q + 1) + 1) + 1, _, _, _, Fits.eq ⟨rfl, rfl, rfl, rfl, rfl, rfl, trivial⟩, (B.pick [3, 2, 0, 4, 1, 5, 6, 7, 8, 9] rfl rfl), (by omega), (by omega), (by omega), (by omega), (by first | exact hzE | (simp only [put_length]; exact hzE)), (by first | exact hzX | (simp only [put_length]; exact hzX)), (by first | exact hzY | (simp only [put_length]; exact hzY)), (gqL_put gzE (by omega) (by omega) (by omega) (qv_gq (by omega) (by omega))), (gqL_put gzX (by omega) (by omega) (by omega) (qv_gq (by omega) (by omega))), (gqL_put gzY (by omega) (by omega) (by omega) (qv_gq (by omega) (by omega))), (edP_Y (by omega) (by omega) (by omega) (Or.inr c211) (edP_X (by omega) (by omega) (by omega) (Or.inr c188) (edP_E (by omega) (by omega) (by omega) c41 hed)))⟩, ?_⟩
              show (wd * hi - (k + 1)).toNat < (wd * hi - k).toNat
              omega
            · refine m_y (v := .bool false) 10 rfl (by kernel_rfl) rfl rfl (fun w' e' => y_lss rfl rfl (decide_eq_false c211)) ?_
              refine m_y (v := .bool false) 11 rfl (by kernel_rfl) rfl rfl (fun w' e' => y_pick_f rfl rfl) ?_
              refine m_done (by kernel_rfl) (fun w216 e217 => ?_)
              replace B := B.ext0 e217
              clear e217
              clear B0_208 R209
              refine W_if_f (by decide) rfl ?_
              refine W_skip ?_
              refine W_region (by kernel_rfl) ?_
              refine s_y (v := .int .i64 k) rfl (y_move rfl) ?_
              refine s_y (v := .int .i64 (k + 1)) rfl (y_add rfl rfl rfl (by omega)) ?_
              refine s_y (v := .int .i64 (k + 1)) rfl (y_assign rfl) ?_
              refine s_nil ?_
              refine ⟨⟨_, k + 1, ((q + 1) + 1) + 1, _, _, _, Fits.eq ⟨rfl, rfl, rfl, rfl, rfl, rfl, trivial⟩, (B.pick [2, 1, 3, 4, 0, 5, 6, 7, 8, 9] rfl rfl), (by omega), (by omega), (by omega), (by omega), (by first | exact hzE | (simp only [put_length]; exact hzE)), (by first | exact hzX | (simp only [put_length]; exact hzX)), (by first | exact hzY | (simp only [put_length]; exact hzY)), (gqL_put gzE (by omega) (by omega) (by omega) (qv_gq (by omega) (by omega))), (gqL_put gzX (by omega) (by omega) (by omega) (qv_gq (by omega) (by omega))), gzY, (edP_X (by omega) (by omega) (by omega) (Or.inr c188) (edP_E (by omega) (by omega) (by omega) c41 hed))⟩, ?_⟩
              show (wd * hi - (k + 1)).toNat < (wd * hi - k).toNat
              omega
          · refine m_y (v := .bool false) 10 rfl (by kernel_rfl) rfl rfl (fun w' e' => y_lss rfl rfl (decide_eq_false c188)) ?_
            refine m_y (v := .bool false) 11 rfl (by kernel_rfl) rfl rfl (fun w' e' => y_pick_f rfl rfl) ?_
            refine m_done (by kernel_rfl) (fun w218 e219 => ?_)
            replace B := B.ext0 e219
            clear e219
            clear B0_185 R186
            refine W_if_f (by decide) rfl ?_
            refine W_skip ?_
            refine W_seq ?_
            refine W_region (by kernel_rfl) ?_
            refine s_y (v := .pointer (some ⟨b9, 0, none⟩)) rfl (y_move rfl) ?_
            refine s_k rfl (k_call T36.fn_81 (c_s_pick (by omega) (by omega) (by omega) (by omega) (B.all.pick [0, 7] rfl) (B.pw.pick [0, 7] rfl rfl)) rfl ?_)
            rintro _ w220 ⟨v222, rfl, hp223, hU221⟩
            replace B : Bu w no w220 [.blk b9 [.slice aq nq cq, .int .i64 (((q + 1) + 1) + 1), .int .u64 (sdY Xq (((q + 1) + 1) + 1))] 131, .ow kF a12 (Int.toNat (wd * hi)) c13 34 (put zE k (fop .quo .f32 (FloatKind.nearest .f32 (v159 - 8)) 1082130432)), .ow kF a14 (Int.toNat (wd * hi)) c15 34 zX, .ow kF a16 (Int.toNat (wd * hi)) c17 34 zY, .blk b19 [.slice a12 (Int.toNat (wd * hi)) c13, .slice a14 (Int.toNat (wd * hi)) c15, .slice a16 (Int.toNat (wd * hi)) c17] 30, .blk b4 [.slice none 0 0, .slice none 0 0, .slice none 0 0] 30, .blk b1 [.int .i64 wd, .int .i64 hi, .bool false, .slice asp nsp csp, .slice als nls cls] 26, .rd kY aq nq Xq, .rd kF asp nsp Xsp, .rd kF als nls Xls] := B.upd [0] rfl hU221
            clear hU221
            have hb224 := pk_b Xq (n := 9) ((q + 1) + 1) (by omega)
            rw [← hp223] at hb224
            refine s_y (v := .int .i64 (v222 - 4)) rfl (y_sub rfl rfl rfl (by omega)) ?_
            refine s_y (v := .float .f32 (FloatKind.nearest .f32 (v222 - 4))) rfl (y_if T36.und_2 T36.flt_34_f32 rfl) ?_
            refine s_n rfl (n_arith (by decide) rfl rfl) ?_
            rintro _ w228 e229 ⟨r226, rfl, hr227⟩
            replace B := B.ext0 e229
            clear e229
            have hc230 := fopC hr227 (cn_nearest .f32 (v222 - 4)) (cnLit (k := .f32) (t := 1082130432) (by kernel_rfl) (by kernel_rfl))
            refine s_y (v := .float .f32 r226) rfl (y_assign rfl) ?_
            refine s_nil ?_
            refine W_seq ?_
            have B0_235 := B
            refine W_draw (no) T36.mx (by kernel_rfl) (fun w233 e234 => ?_)
            have R236 := Ext.refl (no) w228
            replace R236 := R236.trans (Ext0.any e234)
            replace B := B.ext0 e234
            clear e234
            refine m_y (v := .pointer (some ⟨b1, 2, none⟩)) 0 rfl (by kernel_rfl) rfl rfl (fun w' e' => y_fld (o := 0) T36.fld_26_2_2 rfl) ?_
            refine m_y (v := .bool false) 1 rfl (by kernel_rfl) rfl rfl (fun w' e' => y_load T36.one_4 rfl (((B0_235.b 6 rfl).ext0 e').cell (j := 2) rfl)) ?_
            refine m_y (v := .bool false) 2 rfl (by kernel_rfl) rfl rfl (fun w' e' => y_move rfl) ?_
            refine m_y (v := .int .i64 k) 3 rfl (by kernel_rfl) rfl rfl (fun w' e' => y_move rfl) ?_
            refine m_y (v := .pointer (some ⟨b1, 0, none⟩)) 4 rfl (by kernel_rfl) rfl rfl (fun w' e' => y_fld (o := 0) T36.fld_26_0_0 rfl) ?_
            refine m_y (v := .int .i64 wd) 5 rfl (by kernel_rfl) rfl rfl (fun w' e' => y_load T36.one_2 rfl (((B0_235.b 6 rfl).ext0 e').cell (j := 0) rfl)) ?_
            have hm237 := rem_b (x := k) (m := wd) (by omega) (by omega)
            refine m_y (v := .int .i64 (k % wd)) 6 rfl (by kernel_rfl) rfl rfl (fun w' e' => y_rem rfl rfl (by omega) (by omega) rfl) ?_
            refine m_y (v := .pointer (some ⟨b1, 0, none⟩)) 7 rfl (by kernel_rfl) rfl rfl (fun w' e' => y_fld (o := 0) T36.fld_26_0_0 rfl) ?_
            refine m_y (v := .int .i64 wd) 8 rfl (by kernel_rfl) rfl rfl (fun w' e' => y_load T36.one_2 rfl (((B0_235.b 6 rfl).ext0 e').cell (j := 0) rfl)) ?_
            refine m_y (v := .int .i64 (wd - 1)) 9 rfl (by kernel_rfl) rfl rfl (fun w' e' => y_sub rfl rfl rfl (by omega)) ?_
            by_cases c238 : (k % wd) < (wd - 1)
            · refine m_y (v := .bool true) 10 rfl (by kernel_rfl) rfl rfl (fun w' e' => y_lss rfl rfl (decide_eq_true c238)) ?_
              refine m_y (v := .bool true) 11 rfl (by kernel_rfl) rfl rfl (fun w' e' => y_pick_f rfl rfl) ?_
              refine m_done (by kernel_rfl) (fun w239 e240 => ?_)
              replace B := B.ext0 e240
              clear e240
              clear B0_235 R236
              refine W_if_t (by decide) rfl ?_
              refine W_region (by kernel_rfl) ?_
              refine s_y (v := .pointer (some ⟨b19, 2, none⟩)) rfl (y_fld (o := 0) T36.fld_30_2_2 rfl) ?_
              refine s_y (v := .slice a16 (Int.toNat (wd * hi)) c17) rfl (y_load T36.one_24 rfl ((B.b 4 rfl).cell (j := 2) rfl)) ?_
              refine s_y (v := .int .i64 k) rfl (y_move rfl) ?_
              refine s_y (v := .float .f32 r226) rfl (y_move rfl) ?_
              refine s_y (v := .pointer (some (sat a16 ((k).toNat * 1)))) rfl (y_idx T36.sl_24_34_1 rfl rfl ((B.o 3 rfl).rd.addr (by omega)) (by omega) (by omega)) ?_
              refine s_k0 rfl (k_stO (k := kF) (i := k) (j := 0) (x' := fop .quo .f32 (FloatKind.nearest .f32 (v222 - 4)) 1082130432) (new := [.float .f32 r226]) T36.sz_34_1 rfl rfl rfl rfl rfl (by simp [Value.oneCell']) (by decide) (B.o 3 rfl) (by omega) (by omega) (by decide) (by rintro q ⟨_, rfl, _⟩; exact ⟨_, rfl, hc230⟩) (fun w241 hU242 => ?_))
              replace B : Bu w no w241 [.ow kF a16 (Int.toNat (wd * hi)) c17 34 (put zY k (fop .quo .f32 (FloatKind.nearest .f32 (v222 - 4)) 1082130432)), .blk b9 [.slice aq nq cq, .int .i64 (((q + 1) + 1) + 1), .int .u64 (sdY Xq (((q + 1) + 1) + 1))] 131, .ow kF a12 (Int.toNat (wd * hi)) c13 34 (put zE k (fop .quo .f32 (FloatKind.nearest .f32 (v159 - 8)) 1082130432)), .ow kF a14 (Int.toNat (wd * hi)) c15 34 zX, .blk b19 [.slice a12 (Int.toNat (wd * hi)) c13, .slice a14 (Int.toNat (wd * hi)) c15, .slice a16 (Int.toNat (wd * hi)) c17] 30, .blk b4 [.slice none 0 0, .slice none 0 0, .slice none 0 0] 30, .blk b1 [.int .i64 wd, .int .i64 hi, .bool false, .slice asp nsp csp, .slice als nls cls] 26, .rd kY aq nq Xq, .rd kF asp nsp Xsp, .rd kF als nls Xls] := B.upd [3] rfl hU242
              clear hU242
              refine s_nil ?_
              refine W_region (by kernel_rfl) ?_
              refine s_y (v := .int .i64 k) rfl (y_move rfl) ?_
              refine s_y (v := .int .i64 (k + 1)) rfl (y_add rfl rfl rfl (by omega)) ?_
              refine s_y (v := .int .i64 (k + 1)) rfl (y_assign rfl) ?_
              refine s_nil ?_
              refine ⟨⟨_, k + 1, ((q + 1) + 1) + 1, _, _, _, Fits.eq ⟨rfl, rfl, rfl, rfl, rfl, rfl, trivial⟩, (B.pick [2, 3, 0, 4, 1, 5, 6, 7, 8, 9] rfl rfl), (by omega), (by omega), (by omega), (by omega), (by first | exact hzE | (simp only [put_length]; exact hzE)), (by first | exact hzX | (simp only [put_length]; exact hzX)), (by first | exact hzY | (simp only [put_length]; exact hzY)), (gqL_put gzE (by omega) (by omega) (by omega) (qv_gq (by omega) (by omega))), gzX, (gqL_put gzY (by omega) (by omega) (by omega) (qv_gq (by omega) (by omega))), (edP_Y (by omega) (by omega) (by omega) (Or.inr c238) (edP_E (by omega) (by omega) (by omega) c41 hed))⟩, ?_⟩
              show (wd * hi - (k + 1)).toNat < (wd * hi - k).toNat
              omega
            · refine m_y (v := .bool false) 10 rfl (by kernel_rfl) rfl rfl (fun w' e' => y_lss rfl rfl (decide_eq_false c238)) ?_
              refine m_y (v := .bool false) 11 rfl (by kernel_rfl) rfl rfl (fun w' e' => y_pick_f rfl rfl) ?_
              refine m_done (by kernel_rfl) (fun w243 e244 => ?_)
              replace B := B.ext0 e244
              clear e244
              clear B0_235 R236
              refine W_if_f (by decide) rfl ?_
              refine W_skip ?_
              refine W_region (by kernel_rfl) ?_
              refine s_y (v := .int .i64 k) rfl (y_move rfl) ?_
              refine s_y (v := .int .i64 (k + 1)) rfl (y_add rfl rfl rfl (by omega)) ?_
              refine s_y (v := .int .i64 (k + 1)) rfl (y_assign rfl) ?_
              refine s_nil ?_
              refine ⟨⟨_, k + 1, ((q + 1) + 1) + 1, _, _, _, Fits.eq ⟨rfl, rfl, rfl, rfl, rfl, rfl, trivial⟩, (B.pick [1, 2, 3, 4, 0, 5, 6, 7, 8, 9] rfl rfl), (by omega), (by omega), (by omega), (by omega), (by first | exact hzE | (simp only [put_length]; exact hzE)), (by first | exact hzX | (simp only [put_length]; exact hzX)), (by first | exact hzY | (simp only [put_length]; exact hzY)), (gqL_put gzE (by omega) (by omega) (by omega) (qv_gq (by omega) (by omega))), gzX, gzY, (edP_E (by omega) (by omega) (by omega) c41 hed)⟩, ?_⟩
              show (wd * hi - (k + 1)).toNat < (wd * hi - k).toNat
              omega
        · refine m_skip 3 rfl (by kernel_rfl) rfl ?_
          refine m_skip 4 rfl (by kernel_rfl) rfl ?_
          refine m_skip 5 rfl (by kernel_rfl) rfl ?_
          refine m_skip 6 rfl (by kernel_rfl) rfl ?_
          refine m_skip 7 rfl (by kernel_rfl) rfl ?_
          refine m_skip 8 rfl (by kernel_rfl) rfl ?_
          refine m_skip 9 rfl (by kernel_rfl) rfl ?_
          refine m_skip 10 rfl (by kernel_rfl) rfl ?_
          refine m_y (v := .bool true) 11 rfl (by kernel_rfl) rfl rfl (fun w' e' => y_pick_t rfl rfl) ?_
          refine m_done (by kernel_rfl) (fun w245 e246 => ?_)
          replace B := B.ext0 e246
          clear e246
          clear B0_185 R186
          refine W_if_t (by decide) rfl ?_
          refine W_region (by kernel_rfl) ?_
          refine s_y (v := .pointer (some ⟨b19, 1, none⟩)) rfl (y_fld (o := 0) T36.fld_30_1_1 rfl) ?_
          refine s_y (v := .slice a14 (Int.toNat (wd * hi)) c15) rfl (y_load T36.one_24 rfl ((B.b 4 rfl).cell (j := 1) rfl)) ?_
          refine s_y (v := .int .i64 k) rfl (y_move rfl) ?_
          refine s_y (v := .float .f32 r176) rfl (y_move rfl) ?_
          refine s_y (v := .pointer (some (sat a14 ((k).toNat * 1)))) rfl (y_idx T36.sl_24_34_1 rfl rfl ((B.o 2 rfl).rd.addr (by omega)) (by omega) (by omega)) ?_
          refine s_k0 rfl (k_stO (k := kF) (i := k) (j := 0) (x' := fop .quo .f32 (FloatKind.nearest .f32 (v172 - 4)) 1082130432) (new := [.float .f32 r176]) T36.sz_34_1 rfl rfl rfl rfl rfl (by simp [Value.oneCell']) (by decide) (B.o 2 rfl) (by omega) (by omega) (by decide) (by rintro q ⟨_, rfl, _⟩; exact ⟨_, rfl, hc180⟩) (fun w247 hU248 => ?_))
          replace B : Bu w no w247 [.ow kF a14 (Int.toNat (wd * hi)) c15 34 (put zX k (fop .quo .f32 (FloatKind.nearest .f32 (v172 - 4)) 1082130432)), .blk b9 [.slice aq nq cq, .int .i64 ((q + 1) + 1), .int .u64 (sdY Xq ((q + 1) + 1))] 131, .ow kF a12 (Int.toNat (wd * hi)) c13 34 (put zE k (fop .quo .f32 (FloatKind.nearest .f32 (v159 - 8)) 1082130432)), .ow kF a16 (Int.toNat (wd * hi)) c17 34 zY, .blk b19 [.slice a12 (Int.toNat (wd * hi)) c13, .slice a14 (Int.toNat (wd * hi)) c15, .slice a16 (Int.toNat (wd * hi)) c17] 30, .blk b4 [.slice none 0 0, .slice none 0 0, .slice none 0 0] 30, .blk b1 [.int .i64 wd, .int .i64 hi, .bool true, .slice asp nsp csp, .slice als nls cls] 26, .rd kY aq nq Xq, .rd kF asp nsp Xsp, .rd kF als nls Xls] := B.upd [2] rfl hU248
          clear hU248
          refine s_nil ?_
          refine W_seq ?_
          refine W_region (by kernel_rfl) ?_
          refine s_y (v := .pointer (some ⟨b9, 0, none⟩)) rfl (y_move rfl) ?_
          refine s_k rfl (k_call T36.fn_81 (c_s_pick (by omega) (by omega) (by omega) (by omega) (B.all.pick [1, 7] rfl) (B.pw.pick [1, 7] rfl rfl)) rfl ?_)
          rintro _ w249 ⟨v251, rfl, hp252, hU250⟩
          replace B : Bu w no w249 [.blk b9 [.slice aq nq cq, .int .i64 (((q + 1) + 1) + 1), .int .u64 (sdY Xq (((q + 1) + 1) + 1))] 131, .ow kF a14 (Int.toNat (wd * hi)) c15 34 (put zX k (fop .quo .f32 (FloatKind.nearest .f32 (v172 - 4)) 1082130432)), .ow kF a12 (Int.toNat (wd * hi)) c13 34 (put zE k (fop .quo .f32 (FloatKind.nearest .f32 (v159 - 8)) 1082130432)), .ow kF a16 (Int.toNat (wd * hi)) c17 34 zY, .blk b19 [.slice a12 (Int.toNat (wd * hi)) c13, .slice a14 (Int.toNat (wd * hi)) c15, .slice a16 (Int.toNat (wd * hi)) c17] 30, .blk b4 [.slice none 0 0, .slice none 0 0, .slice none 0 0] 30, .blk b1 [.int .i64 wd, .int .i64 hi, .bool true, .slice asp nsp csp, .slice als nls cls] 26, .rd kY aq nq Xq, .rd kF asp nsp Xsp, .rd kF als nls Xls] := B.upd [1] rfl hU250
          clear hU250
          have hb253 := pk_b Xq (n := 9) ((q + 1) + 1) (by omega)
          rw [← hp252] at hb253
          refine s_y (v := .int .i64 (v251 - 4)) rfl (y_sub rfl rfl rfl (by omega)) ?_
          refine s_y (v := .float .f32 (FloatKind.nearest .f32 (v251 - 4))) rfl (y_if T36.und_2 T36.flt_34_f32 rfl) ?_
          refine s_n rfl (n_arith (by decide) rfl rfl) ?_
          rintro _ w257 e258 ⟨r255, rfl, hr256⟩
          replace B := B.ext0 e258
          clear e258
          have hc259 := fopC hr256 (cn_nearest .f32 (v251 - 4)) (cnLit (k := .f32) (t := 1082130432) (by kernel_rfl) (by kernel_rfl))
          refine s_y (v := .float .f32 r255) rfl (y_assign rfl) ?_
          refine s_nil ?_
          refine W_seq ?_
          have B0_264 := B
          refine W_draw (no) T36.mx (by kernel_rfl) (fun w262 e263 => ?_)
          have R265 := Ext.refl (no) w257
          replace R265 := R265.trans (Ext0.any e263)
          replace B := B.ext0 e263
          clear e263
          refine m_y (v := .pointer (some ⟨b1, 2, none⟩)) 0 rfl (by kernel_rfl) rfl rfl (fun w' e' => y_fld (o := 0) T36.fld_26_2_2 rfl) ?_
          refine m_y (v := .bool true) 1 rfl (by kernel_rfl) rfl rfl (fun w' e' => y_load T36.one_4 rfl (((B0_264.b 6 rfl).ext0 e').cell (j := 2) rfl)) ?_
          refine m_y (v := .bool true) 2 rfl (by kernel_rfl) rfl rfl (fun w' e' => y_move rfl) ?_
          refine m_skip 3 rfl (by kernel_rfl) rfl ?_
          refine m_skip 4 rfl (by kernel_rfl) rfl ?_
          refine m_skip 5 rfl (by kernel_rfl) rfl ?_
          refine m_skip 6 rfl (by kernel_rfl) rfl ?_
          refine m_skip 7 rfl (by kernel_rfl) rfl ?_
          refine m_skip 8 rfl (by kernel_rfl) rfl ?_
          refine m_skip 9 rfl (by kernel_rfl) rfl ?_
          refine m_skip 10 rfl (by kernel_rfl) rfl ?_
          refine m_y (v := .bool true) 11 rfl (by kernel_rfl) rfl rfl (fun w' e' => y_pick_t rfl rfl) ?_
          refine m_done (by kernel_rfl) (fun w266 e267 => ?_)
          replace B := B.ext0 e267
          clear e267
          clear B0_264 R265
          refine W_if_t (by decide) rfl ?_
          refine W_region (by kernel_rfl) ?_
          refine s_y (v := .pointer (some ⟨b19, 2, none⟩)) rfl (y_fld (o := 0) T36.fld_30_2_2 rfl) ?_
          refine s_y (v := .slice a16 (Int.toNat (wd * hi)) c17) rfl (y_load T36.one_24 rfl ((B.b 4 rfl).cell (j := 2) rfl)) ?_
          refine s_y (v := .int .i64 k) rfl (y_move rfl) ?_
          refine s_y (v := .float .f32 r255) rfl (y_move rfl) ?_
          refine s_y (v := .pointer (some (sat a16 ((k).toNat * 1)))) rfl (y_idx T36.sl_24_34_1 rfl rfl ((B.o 3 rfl).rd.addr (by omega)) (by omega) (by omega)) ?_
          refine s_k0 rfl (k_stO (k := kF) (i := k) (j := 0) (x' := fop .quo .f32 (FloatKind.nearest .f32 (v251 - 4)) 1082130432) (new := [.float .f32 r255]) T36.sz_34_1 rfl rfl rfl rfl rfl (by simp [Value.oneCell']) (by decide) (B.o 3 rfl) (by omega) (by omega) (by decide) (by rintro q ⟨_, rfl, _⟩; exact ⟨_, rfl, hc259⟩) (fun w268 hU269 => ?_))
          replace B : Bu w no w268 [.ow kF a16 (Int.toNat (wd * hi)) c17 34 (put zY k (fop .quo .f32 (FloatKind.nearest .f32 (v251 - 4)) 1082130432)), .blk b9 [.slice aq nq cq, .int .i64 (((q + 1) + 1) + 1), .int .u64 (sdY Xq (((q + 1) + 1) + 1))] 131, .ow kF a14 (Int.toNat (wd * hi)) c15 34 (put zX k (fop .quo .f32 (FloatKind.nearest .f32 (v172 - 4)) 1082130432)), .ow kF a12 (Int.toNat (wd * hi)) c13 34 (put zE k (fop .quo .f32 (FloatKind.nearest .f32 (v159 - 8)) 1082130432)), .blk b19 [.slice a12 (Int.toNat (wd * hi)) c13, .slice a14 (Int.toNat (wd * hi)) c15, .slice a16 (Int.toNat (wd * hi)) c17] 30, .blk b4 [.slice none 0 0, .slice none 0 0, .slice none 0 0] 30, .blk b1 [.int .i64 wd, .int .i64 hi, .bool true, .slice asp nsp csp, .slice als nls cls] 26, .rd kY aq nq Xq, .rd kF asp nsp Xsp, .rd kF als nls Xls] := B.upd [3] rfl hU269
          clear hU269
          refine s_nil ?_
          refine W_region (by kernel_rfl) ?_
          refine s_y (v := .int .i64 k) rfl (y_move rfl) ?_
          refine s_y (v := .int .i64 (k + 1)) rfl (y_add rfl rfl rfl (by omega)) ?_
          refine s_y (v := .int .i64 (k + 1)) rfl (y_assign rfl) ?_
          refine s_nil ?_
          refine ⟨⟨_, k + 1, ((q + 1) + 1) + 1, _, _, _, Fits.eq ⟨rfl, rfl, rfl, rfl, rfl, rfl, trivial⟩, (B.pick [3, 2, 0, 4, 1, 5, 6, 7, 8, 9] rfl rfl), (by omega), (by omega), (by omega), (by omega), (by first | exact hzE | (simp only [put_length]; exact hzE)), (by first | exact hzX | (simp only [put_length]; exact hzX)), (by first | exact hzY | (simp only [put_length]; exact hzY)), (gqL_put gzE (by omega) (by omega) (by omega) (qv_gq (by omega) (by omega))), (gqL_put gzX (by omega) (by omega) (by omega) (qv_gq (by omega) (by omega))), (gqL_put gzY (by omega) (by omega) (by omega) (qv_gq (by omega) (by omega))), (edP_Y (by omega) (by omega) (by omega) (Or.inl rfl) (edP_X (by omega) (by omega) (by omega) (Or.inl rfl) (edP_E (by omega) (by omega) (by omega) c41 hed)))⟩, ?_⟩
          show (wd * hi - (k + 1)).toNat < (wd * hi - k).toNat
          omega
    · refine s_y (v := .bool false) rfl (y_lss rfl rfl (decide_eq_false c26)) ?_
      refine s_nil ?_
      refine W_if_f (by decide) rfl ?_
      refine W_exit ?_
      refine W_seq ?_
      refine W_region (by kernel_rfl) ?_
      refine s_y (v := .agg #[.slice a12 (Int.toNat (wd * hi)) c13, .slice a14 (Int.toNat (wd * hi)) c15, .slice a16 (Int.toNat (wd * hi)) c17]) rfl (y_loadn (b := b19) (o := 0) (vs := [.slice a12 (Int.toNat (wd * hi)) c13, .slice a14 (Int.toNat (wd * hi)) c15, .slice a16 (Int.toNat (wd * hi)) c17]) T36.agg_30_3 rfl rfl ((B.b 3 rfl).cells (o := 0) rfl)) ?_
      refine s_k0 rfl (k_stB (v := .agg #[.slice a12 (Int.toNat (wd * hi)) c13, .slice a14 (Int.toNat (wd * hi)) c15, .slice a16 (Int.toNat (wd * hi)) c17]) (n := 3) (cs' := [.slice a12 (Int.toNat (wd * hi)) c13, .slice a14 (Int.toNat (wd * hi)) c15, .slice a16 (Int.toNat (wd * hi)) c17]) T36.sz_30_3 rfl rfl rfl (B.b 5 rfl) (by simp [Value.cells, Value.oneCell']) (Nat.le_of_ble_eq_true rfl) rfl (fun w270 hU271 => ?_))
      replace B : Bu w no w270 [.blk b4 [.slice a12 (Int.toNat (wd * hi)) c13, .slice a14 (Int.toNat (wd * hi)) c15, .slice a16 (Int.toNat (wd * hi)) c17] 30, .ow kF a12 (Int.toNat (wd * hi)) c13 34 zE, .ow kF a14 (Int.toNat (wd * hi)) c15 34 zX, .ow kF a16 (Int.toNat (wd * hi)) c17 34 zY, .blk b19 [.slice a12 (Int.toNat (wd * hi)) c13, .slice a14 (Int.toNat (wd * hi)) c15, .slice a16 (Int.toNat (wd * hi)) c17] 30, .blk b9 [.slice aq nq cq, .int .i64 q, .int .u64 (sdY Xq q)] 131, .blk b1 [.int .i64 wd, .int .i64 hi, .bool wr, .slice asp nsp csp, .slice als nls cls] 26, .rd kY aq nq Xq, .rd kF asp nsp Xsp, .rd kF als nls Xls] := B.upd [5] rfl hU271
      clear hU271
      refine s_nil ?_
      refine W_ret ?_
      refine ret1 (v := .agg #[.slice a12 (Int.toNat (wd * hi)) c13, .slice a14 (Int.toNat (wd * hi)) c15, .slice a16 (Int.toNat (wd * hi)) c17]) rfl rfl ⟨_, [.slice a12 (Int.toNat (wd * hi)) c13, .slice a14 (Int.toNat (wd * hi)) c15, .slice a16 (Int.toNat (wd * hi)) c17], _, rfl, (B.b 0 rfl), T36.agg_30_3, rfl⟩ ⟨_, rfl, ?_⟩
      exact ⟨_, _, _, _, _, _, _, _, _, _, _, _, rfl, (field_O hv (by omega) (by omega) (by omega) hed), (And.intro gzE (And.intro gzX gzY)), B.give [1, 2, 3] rfl rfl rfl⟩
namespace T24
theorem mx : Try.prog.follows .mixedOrders = true := by kernel_rfl
theorem int_2_i64 : Try.prog.underlying 2 = some (.int .i64) := by kernel_rfl
theorem one_5 : oneB Try.prog 5 = true := by kernel_rfl
theorem sl_22_5_1 : slB Try.prog 22 5 1 = true := by kernel_rfl
theorem und_5 : (Try.prog.underlying 5).isSome = true := by kernel_rfl
end T24
set_option maxRecDepth 100000 in
set_option maxHeartbeats 4000000 in
theorem c_l_r8At {aq : Option Addr} {nq : Nat} {cq : Nat} {Xq : List Nat} {k : Int} {n : Int} {w : World} (qq : Rd w kY aq nq Xq) (k0 : 0 ≤ k) (n0 : 1 ≤ n) (gq : nq ≤ 9223372036854775807) :
    Calls Try.prog 24 #[.slice aq nq cq, .int .i64 k, .int .i64 n] w (Rt fun v w' => ∃ uv : Int, v = .int .i64 uv ∧ uv = r8A Xq k n ∧ Ext0 w w') := by
  have hlq := qq.len
  have B : Bu w no w [.rd kY aq nq Xq] := Bu.ro (All.cons qq All.nil) rfl
  refine calls_W (n := 22) Try.func24 rfl rfl (Nat.le_of_ble_eq_true rfl) ?_
  refine W_seq ?_
  refine W_region (by kernel_rfl) ?_
  refine s_y (v := .int .i64 0) rfl (y_assign rfl) ?_
  refine s_nil ?_
  refine W_seq ?_
  refine W_seq ?_
  refine W_region (by kernel_rfl) ?_
  refine s_y (v := .int .i64 n) rfl (y_move rfl) ?_
  by_cases c1 : n ≤ 1
  · refine s_y (v := .bool true) rfl (y_leq rfl rfl (decide_eq_true c1)) ?_
    refine s_y (v := .bool true) rfl (y_move rfl) ?_
    refine s_skip rfl ?_
    refine s_skip rfl ?_
    refine s_skip rfl ?_
    refine s_skip rfl ?_
    refine s_y (v := .bool true) rfl (y_pick_t rfl rfl) ?_
    refine s_nil ?_
    refine W_if_t (by decide) rfl ?_
    refine W_seq ?_
    refine W_region (by kernel_rfl) ?_
    refine s_y (v := .int .i64 0) rfl (y_assign rfl) ?_
    refine s_nil ?_
    refine W_ret ?_
    refine ret1 (v := .int .i64 0) rfl rfl rfl ⟨_, rfl, ?_⟩
    exact ⟨_, rfl, (r8A_zero hlq (by omega)).symm, B.ext⟩
  · refine s_y (v := .bool false) rfl (y_leq rfl rfl (decide_eq_false c1)) ?_
    refine s_y (v := .bool false) rfl (y_move rfl) ?_
    refine s_y (v := .int .i64 k) rfl (y_move rfl) ?_
    refine s_y (v := .slice aq nq cq) rfl (y_move rfl) ?_
    refine s_y (v := .int .i64 ((nq : Nat) : Int)) rfl (y_len T24.sl_22_5_1 rfl rfl) ?_
    by_cases c2 : ((nq : Nat) : Int) ≤ k
    · refine s_y (v := .bool true) rfl (y_geq rfl rfl (decide_eq_true c2)) ?_
      refine s_y (v := .bool true) rfl (y_pick_f rfl rfl) ?_
      refine s_nil ?_
      refine W_if_t (by decide) rfl ?_
      refine W_seq ?_
      refine W_region (by kernel_rfl) ?_
      refine s_y (v := .int .i64 0) rfl (y_assign rfl) ?_
      refine s_nil ?_
      refine W_ret ?_
      refine ret1 (v := .int .i64 0) rfl rfl rfl ⟨_, rfl, ?_⟩
      exact ⟨_, rfl, (r8A_zero hlq (by omega)).symm, B.ext⟩
    · refine s_y (v := .bool false) rfl (y_geq rfl rfl (decide_eq_false c2)) ?_
      refine s_y (v := .bool false) rfl (y_pick_f rfl rfl) ?_
      refine s_nil ?_
      refine W_if_f (by decide) rfl ?_
      refine W_skip ?_
      refine W_seq ?_
      refine W_region (by kernel_rfl) ?_
      refine s_y (v := .slice aq nq cq) rfl (y_move rfl) ?_
      refine s_y (v := .int .i64 k) rfl (y_move rfl) ?_
      refine s_y (v := .pointer (some (sat aq ((k).toNat * 1)))) rfl (y_idx T24.sl_22_5_1 rfl rfl ((B.r 0 rfl).addr (by omega)) (by omega) (by omega)) ?_
      obtain ⟨hb4, hR3⟩ := Rd.atY (B.r 0 rfl) k (by omega) (by omega)
      refine s_y (v := .int .u8 (byt Xq k)) rfl (y_load T24.one_5 rfl (hR3.cell (i := 0) rfl)) ?_
      refine s_y (v := .int .i64 (byt Xq k)) rfl (y_ii T24.und_5 T24.int_2_i64 rfl (IntWalk.i64_in _ (by omega))) ?_
      refine s_y (v := .int .i64 n) rfl (y_move rfl) ?_
      have hm5 := rem_b (x := byt Xq k) (m := n) (by omega) (by omega)
      refine s_y (v := .int .i64 ((byt Xq k) % n)) rfl (y_rem rfl rfl (by omega) (by omega) rfl) ?_
      refine s_y (v := .int .i64 ((byt Xq k) % n)) rfl (y_assign rfl) ?_
      refine s_nil ?_
      refine W_ret ?_
      refine ret1 (v := .int .i64 ((byt Xq k) % n)) rfl rfl rfl ⟨_, rfl, ?_⟩
      exact ⟨_, rfl, (r8A_at hlq (by omega) (by omega)).symm, B.ext⟩
namespace T117
theorem mx : Try.prog.follows .mixedOrders = true := by kernel_rfl
theorem slt_24 : SlT Try.prog 24 34 1 4 (.float .f32 0) := ⟨by kernel_rfl, by kernel_rfl, rfl, by decide⟩
end T117
set_option maxRecDepth 100000 in
set_option maxHeartbeats 4000000 in
theorem c_i_copyOf {a : Option Addr} {n : Nat} {c : Nat} {X : List Nat} {w : World} (q : Rd w kF a n X) (hb : n ≤ 1048576) :
    Calls Try.prog 117 #[.slice a n c] w (Rt fun v w' => ∃ (a1 : Option Addr) (c1 : Nat), v = .slice a1 n c1 ∧ New w w' [.ow kF a1 n c1 34 X]) := by
  have hl := q.len
  have B : Bu w no w [.rd kF a n X] := Bu.ro (All.cons q All.nil) rfl
  refine calls_W (n := 6) Try.func117 rfl rfl (Nat.le_of_ble_eq_true rfl) ?_
  refine W_seq ?_
  refine W_region (by kernel_rfl) ?_
  refine s_y (v := .slice none 0 0) rfl (y_assign rfl) ?_
  refine s_nil ?_
  refine W_seq ?_
  refine W_region (by kernel_rfl) ?_
  refine s_k rfl (k_bsliceO (k := kF) (n := 0) (cells := #[]) (X := []) T117.slt_24 (by decide) (by first | rfl | kernel_rfl) (rfl : Reps kF [] []) rfl (fun b1 w2 hN3 => ?_))
  replace B := B.new1 hN3
  clear hN3
  refine s_y (v := .slice a n c) rfl (y_move rfl) ?_
  refine s_k rfl (k_appO (k := kF) T117.slt_24 rfl rfl rfl (B.o 0 rfl) (B.r 1 rfl) (by omega) (by unfold maxLen; omega) (fun a4 c5 w6 hU7 => ?_))
  replace B : Bu w no w6 [.ow kF a4 (0 + n) c5 34 (([] : List Nat) ++ X), .rd kF a n X] := B.upd [0] rfl hU7
  clear hU7
  refine s_y (v := .slice a4 (0 + n) c5) rfl (y_assign rfl) ?_
  refine s_nil ?_
  refine W_ret ?_
  refine ret1 (v := .slice a4 (0 + n) c5) rfl rfl rfl ⟨_, rfl, ?_⟩
  replace B : Bu w no w6 [.ow kF a4 n c5 34 X, .rd kF a n X] := B.castX 0 rfl (by omega) rfl
  exact ⟨_, _, (by rw [(show 0 + n = n from (by omega))]), B.give [0] rfl rfl rfl⟩
namespace T68
theorem mx : Try.prog.follows .mixedOrders = true := by kernel_rfl
theorem agg_30_3 : aggB Try.prog 30 3 = true := by kernel_rfl
theorem fld_30_0_0 : fldB Try.prog 30 0 0 = true := by kernel_rfl
theorem fld_30_1_1 : fldB Try.prog 30 1 1 = true := by kernel_rfl
theorem fld_30_2_2 : fldB Try.prog 30 2 2 = true := by kernel_rfl
theorem fn_117 : fnB Try.prog 117 = true := by kernel_rfl
theorem one_24 : oneB Try.prog 24 = true := by kernel_rfl
theorem sz_30_3 : szB Try.prog 30 3 = true := by kernel_rfl
theorem zero_30 : zeroB Try.prog 30 (.agg #[.slice none 0 0, .slice none 0 0, .slice none 0 0]) := by unfold zeroB; kernel_rfl
end T68
set_option maxRecDepth 100000 in
set_option maxHeartbeats 4000000 in
theorem c_i_copyField {afe : Option Addr} {nfe : Nat} {cfe : Nat} {Xfe : List Nat} {afx : Option Addr} {nfx : Nat} {cfx : Nat} {Xfx : List Nat} {afy : Option Addr} {nfy : Nat} {cfy : Nat} {Xfy : List Nat} {w : World} (qfe : Rd w kF afe nfe Xfe) (qfx : Rd w kF afx nfx Xfx) (qfy : Rd w kF afy nfy Xfy) (b1 : nfe ≤ 1048576) (b2 : nfx ≤ 1048576) (b3 : nfy ≤ 1048576) :
    Calls Try.prog 68 #[.agg #[.slice afe nfe cfe, .slice afx nfx cfx, .slice afy nfy cfy]] w (Rt fun v w' => ∃ (a1 : Option Addr) (c1 : Nat) (a2 : Option Addr) (c2 : Nat) (a3 : Option Addr) (c3 : Nat), v = .agg #[.slice a1 nfe c1, .slice a2 nfx c2, .slice a3 nfy c3] ∧ New w w' [.ow kF a1 nfe c1 34 Xfe, .ow kF a2 nfx c2 34 Xfx, .ow kF a3 nfy c3 34 Xfy]) := by
  have hlfe := qfe.len
  have hlfx := qfx.len
  have hlfy := qfy.len
  have B : Bu w no w [.rd kF afe nfe Xfe, .rd kF afx nfx Xfx, .rd kF afy nfy Xfy] := Bu.ro (All.cons qfe (All.cons qfx (All.cons qfy All.nil))) rfl
  refine calls_W (n := 13) Try.func68 rfl rfl (Nat.le_of_ble_eq_true rfl) ?_
  refine W_seq ?_
  refine W_region (by kernel_rfl) ?_
  refine s_k rfl (k_boxN (v := .agg #[.slice afe nfe cfe, .slice afx nfx cfx, .slice afy nfy cfy]) (cs := [.slice afe nfe cfe, .slice afx nfx cfx, .slice afy nfy cfy]) rfl rfl (fun b1 w2 hN3 => ?_))
  replace B := B.new1 hN3
  clear hN3
  refine s_k rfl (k_allocN (z := (.agg #[.slice none 0 0, .slice none 0 0, .slice none 0 0])) (cs := [.slice none 0 0, .slice none 0 0, .slice none 0 0]) T68.zero_30 rfl (fun b4 w5 hN6 => ?_))
  replace B := B.new1 hN6
  clear hN6
  refine s_nil ?_
  refine W_seq ?_
  have B0_11 := B
  refine W_draw (no) T68.mx (by kernel_rfl) (fun w9 e10 => ?_)
  have R12 := Ext.refl (no) w5
  replace R12 := R12.trans (Ext0.any e10)
  replace B := B.ext0 e10
  clear e10
  refine m_y (v := .pointer (some ⟨b1, 0, none⟩)) 0 rfl (by kernel_rfl) rfl rfl (fun w' e' => y_fld (o := 0) T68.fld_30_0_0 rfl) ?_
  refine m_y (v := .slice afe nfe cfe) 1 rfl (by kernel_rfl) rfl rfl (fun w' e' => y_load T68.one_24 rfl (((B0_11.b 1 rfl).ext0 e').cell (j := 0) rfl)) ?_
  refine m_y (v := .pointer (some ⟨b1, 1, none⟩)) 3 rfl (by kernel_rfl) rfl rfl (fun w' e' => y_fld (o := 0) T68.fld_30_1_1 rfl) ?_
  refine m_y (v := .slice afx nfx cfx) 4 rfl (by kernel_rfl) rfl rfl (fun w' e' => y_load T68.one_24 rfl (((B0_11.b 1 rfl).ext0 e').cell (j := 1) rfl)) ?_
  refine m_y (v := .pointer (some ⟨b1, 2, none⟩)) 6 rfl (by kernel_rfl) rfl rfl (fun w' e' => y_fld (o := 0) T68.fld_30_2_2 rfl) ?_
  refine m_y (v := .slice afy nfy cfy) 7 rfl (by kernel_rfl) rfl rfl (fun w' e' => y_load T68.one_24 rfl (((B0_11.b 1 rfl).ext0 e').cell (j := 2) rfl)) ?_
  refine m_k 2 [5, 8, 9, 10] rfl (by kernel_rfl) rfl rfl (fun w13 e14 => ?_)
  replace R12 := R12.trans (Ext0.any e14)
  replace B := B.ext0 e14
  clear e14
  refine k_call T68.fn_117 (c_i_copyOf (B.r 2 rfl) (by omega)) rfl ?_
  rintro _ w15 ⟨a16, c17, rfl, hN18⟩
  replace R12 := R12.trans (Ext0.any hN18.ext)
  replace B := B.new1 hN18
  clear hN18
  refine ⟨fun _ => R12, ?_⟩
  refine m_k 5 [8, 9, 10] rfl (by kernel_rfl) rfl rfl (fun w19 e20 => ?_)
  replace R12 := R12.trans (Ext0.any e20)
  replace B := B.ext0 e20
  clear e20
  refine k_call T68.fn_117 (c_i_copyOf (B.r 4 rfl) (by omega)) rfl ?_
  rintro _ w21 ⟨a22, c23, rfl, hN24⟩
  replace R12 := R12.trans (Ext0.any hN24.ext)
  replace B := B.new1 hN24
  clear hN24
  refine ⟨fun _ => R12, ?_⟩
  refine m_k 8 [9, 10] rfl (by kernel_rfl) rfl rfl (fun w25 e26 => ?_)
  replace R12 := R12.trans (Ext0.any e26)
  replace B := B.ext0 e26
  clear e26
  refine k_call T68.fn_117 (c_i_copyOf (B.r 6 rfl) (by omega)) rfl ?_
  rintro _ w27 ⟨a28, c29, rfl, hN30⟩
  replace R12 := R12.trans (Ext0.any hN30.ext)
  replace B := B.new1 hN30
  clear hN30
  refine ⟨fun _ => R12, ?_⟩
  refine m_y (v := .agg #[.slice a16 nfe c17, .slice a22 nfx c23, .slice a28 nfy c29]) 9 rfl (by kernel_rfl) rfl rfl (fun w' e' => y_build (cells := #[.slice a16 nfe c17, .slice a22 nfx c23, .slice a28 nfy c29]) (by kernel_rfl)) ?_
  refine m_kt 10 [] rfl (by kernel_rfl) rfl rfl (by kernel_rfl) (fun w33 e34 => ?_)
  replace R12 := R12.trans (Ext0.any e34)
  replace B := B.ext0 e34
  clear e34
  refine k_stB (v := .agg #[.slice a16 nfe c17, .slice a22 nfx c23, .slice a28 nfy c29]) (n := 3) (cs' := [.slice a16 nfe c17, .slice a22 nfx c23, .slice a28 nfy c29]) T68.sz_30_3 rfl rfl rfl (B.b 3 rfl) (by simp [Value.cells, Value.oneCell']) (Nat.le_of_ble_eq_true rfl) rfl (fun w31 hU32 => ?_)
  clear R12
  replace B : Bu w no w31 [.blk b4 [.slice a16 nfe c17, .slice a22 nfx c23, .slice a28 nfy c29] 30, .ow kF a28 nfy c29 34 Xfy, .ow kF a22 nfx c23 34 Xfx, .ow kF a16 nfe c17 34 Xfe, .blk b1 [.slice afe nfe cfe, .slice afx nfx cfx, .slice afy nfy cfy] 30, .rd kF afe nfe Xfe, .rd kF afx nfx Xfx, .rd kF afy nfy Xfy] := B.upd [3] rfl hU32
  clear hU32
  refine m_done (by kernel_rfl) (fun w35 e36 => ?_)
  replace B := B.ext0 e36
  clear e36
  clear B0_11
  refine W_ret ?_
  refine ret1 (v := .agg #[.slice a16 nfe c17, .slice a22 nfx c23, .slice a28 nfy c29]) rfl rfl ⟨_, [.slice a16 nfe c17, .slice a22 nfx c23, .slice a28 nfy c29], _, rfl, (B.b 0 rfl), T68.agg_30_3, rfl⟩ ⟨_, rfl, ?_⟩
  exact ⟨_, _, _, _, _, _, rfl, B.give [3, 2, 1] rfl rfl rfl⟩
namespace T70
theorem mx : Try.prog.follows .mixedOrders = true := by kernel_rfl
theorem agg_26_5 : aggB Try.prog 26 5 = true := by kernel_rfl
theorem agg_30_3 : aggB Try.prog 30 3 = true := by kernel_rfl
theorem fn_41 : fnB Try.prog 41 = true := by kernel_rfl
theorem sz_30_3 : szB Try.prog 30 3 = true := by kernel_rfl
theorem zero_30 : zeroB Try.prog 30 (.agg #[.slice none 0 0, .slice none 0 0, .slice none 0 0]) := by unfold zeroB; kernel_rfl
end T70
set_option maxRecDepth 100000 in
set_option maxHeartbeats 4000000 in
theorem c_i_validField {wd : Int} {hi : Int} {wr : Bool} {asp : Option Addr} {nsp : Nat} {csp : Nat} {Xsp : List Nat} {als : Option Addr} {nls : Nat} {cls : Nat} {Xls : List Nat} {afe : Option Addr} {nfe : Nat} {cfe : Nat} {Xfe : List Nat} {afx : Option Addr} {nfx : Nat} {cfx : Nat} {Xfx : List Nat} {afy : Option Addr} {nfy : Nat} {cfy : Nat} {Xfy : List Nat} {w : World} (qsp : Rd w kF asp nsp Xsp) (qls : Rd w kF als nls Xls) (qfe : Rd w kF afe nfe Xfe) (qfx : Rd w kF afx nfx Xfx) (qfy : Rd w kF afy nfy Xfy) (hbsp : nsp ≤ 9223372036854775806) (hbls : nls ≤ 9223372036854775806) (hbfe : nfe ≤ 9223372036854775806) (hbfx : nfx ≤ 9223372036854775806) (hbfy : nfy ≤ 9223372036854775806) :
    Calls Try.prog 70 #[.agg #[.int .i64 wd, .int .i64 hi, .bool wr, .slice asp nsp csp, .slice als nls cls], .agg #[.slice afe nfe cfe, .slice afx nfx cfx, .slice afy nfy cfy]] w (Rt fun v w' => (fieldB wd hi wr Xsp Xls Xfe Xfx Xfy = true ∧ v = .tuple #[.agg #[.slice afe nfe cfe, .slice afx nfx cfx, .slice afy nfy cfy], .bool true] ∧ Ext0 w w') ∨ (fieldB wd hi wr Xsp Xls Xfe Xfx Xfy = false ∧ v = .tuple #[.agg #[.slice none 0 0, .slice none 0 0, .slice none 0 0], .bool false] ∧ Ext0 w w')) := by
  have hlsp := qsp.len
  have hlls := qls.len
  have hlfe := qfe.len
  have hlfx := qfx.len
  have hlfy := qfy.len
  have B : Bu w no w [.rd kF asp nsp Xsp, .rd kF als nls Xls, .rd kF afe nfe Xfe, .rd kF afx nfx Xfx, .rd kF afy nfy Xfy] := Bu.ro (All.cons qsp (All.cons qls (All.cons qfe (All.cons qfx (All.cons qfy All.nil))))) rfl
  refine calls_W (n := 12) Try.func70 rfl rfl (Nat.le_of_ble_eq_true rfl) ?_
  refine W_seq ?_
  refine W_region (by kernel_rfl) ?_
  refine s_k rfl (k_boxN (v := .agg #[.int .i64 wd, .int .i64 hi, .bool wr, .slice asp nsp csp, .slice als nls cls]) (cs := [.int .i64 wd, .int .i64 hi, .bool wr, .slice asp nsp csp, .slice als nls cls]) rfl rfl (fun b1 w2 hN3 => ?_))
  replace B := B.new1 hN3
  clear hN3
  refine s_k rfl (k_boxN (v := .agg #[.slice afe nfe cfe, .slice afx nfx cfx, .slice afy nfy cfy]) (cs := [.slice afe nfe cfe, .slice afx nfx cfx, .slice afy nfy cfy]) rfl rfl (fun b4 w5 hN6 => ?_))
  replace B := B.new1 hN6
  clear hN6
  refine s_k rfl (k_allocN (z := (.agg #[.slice none 0 0, .slice none 0 0, .slice none 0 0])) (cs := [.slice none 0 0, .slice none 0 0, .slice none 0 0]) T70.zero_30 rfl (fun b7 w8 hN9 => ?_))
  replace B := B.new1 hN9
  clear hN9
  refine s_y (v := .bool false) rfl (y_assign rfl) ?_
  refine s_nil ?_
  refine W_seq ?_
  refine W_seq ?_
  refine W_region (by kernel_rfl) ?_
  refine s_y (v := .agg #[.int .i64 wd, .int .i64 hi, .bool wr, .slice asp nsp csp, .slice als nls cls]) rfl (y_loadn (b := b1) (o := 0) (vs := [.int .i64 wd, .int .i64 hi, .bool wr, .slice asp nsp csp, .slice als nls cls]) T70.agg_26_5 rfl rfl ((B.b 2 rfl).cells (o := 0) rfl)) ?_
  refine s_y (v := .agg #[.slice afe nfe cfe, .slice afx nfx cfx, .slice afy nfy cfy]) rfl (y_loadn (b := b4) (o := 0) (vs := [.slice afe nfe cfe, .slice afx nfx cfx, .slice afy nfy cfy]) T70.agg_30_3 rfl rfl ((B.b 1 rfl).cells (o := 0) rfl)) ?_
  refine s_k rfl (k_call T70.fn_41 (c_i_IsField (B.r 3 rfl) (B.r 4 rfl) (B.r 5 rfl) (B.r 6 rfl) (B.r 7 rfl) (by omega) (by omega) (by omega) (by omega) (by omega)) rfl ?_)
  rintro v12 w10 ⟨hv13, e11⟩
  replace B := B.ext0 e11
  clear e11
  by_cases c14 : fieldB wd hi wr Xsp Xls Xfe Xfx Xfy = true
  · have hb15 := fieldB_b c14
    obtain rfl : v12 = .bool true := hv13.trans (congrArg Value.bool c14)
    refine s_y (v := .bool false) rfl (y_not rfl rfl) ?_
    refine s_nil ?_
    refine W_if_f (by decide) rfl ?_
    refine W_skip ?_
    refine W_seq ?_
    refine W_region (by kernel_rfl) ?_
    refine s_y (v := .agg #[.slice afe nfe cfe, .slice afx nfx cfx, .slice afy nfy cfy]) rfl (y_loadn (b := b4) (o := 0) (vs := [.slice afe nfe cfe, .slice afx nfx cfx, .slice afy nfy cfy]) T70.agg_30_3 rfl rfl ((B.b 1 rfl).cells (o := 0) rfl)) ?_
    refine s_k0 rfl (k_stB (v := .agg #[.slice afe nfe cfe, .slice afx nfx cfx, .slice afy nfy cfy]) (n := 3) (cs' := [.slice afe nfe cfe, .slice afx nfx cfx, .slice afy nfy cfy]) T70.sz_30_3 rfl rfl rfl (B.b 0 rfl) (by simp [Value.cells, Value.oneCell']) (Nat.le_of_ble_eq_true rfl) rfl (fun w16 hU17 => ?_))
    replace B : Bu w no w16 [.blk b7 [.slice afe nfe cfe, .slice afx nfx cfx, .slice afy nfy cfy] 30, .blk b4 [.slice afe nfe cfe, .slice afx nfx cfx, .slice afy nfy cfy] 30, .blk b1 [.int .i64 wd, .int .i64 hi, .bool wr, .slice asp nsp csp, .slice als nls cls] 26, .rd kF asp nsp Xsp, .rd kF als nls Xls, .rd kF afe nfe Xfe, .rd kF afx nfx Xfx, .rd kF afy nfy Xfy] := B.upd [0] rfl hU17
    clear hU17
    refine s_y (v := .bool true) rfl (y_assign rfl) ?_
    refine s_nil ?_
    refine W_ret ?_
    refine ret2 (v1 := .agg #[.slice afe nfe cfe, .slice afx nfx cfx, .slice afy nfy cfy]) (v2 := .bool true) rfl rfl rfl ⟨_, [.slice afe nfe cfe, .slice afx nfx cfx, .slice afy nfy cfy], _, rfl, (B.b 0 rfl), T70.agg_30_3, rfl⟩ rfl ⟨_, rfl, ?_⟩
    have hcond : fieldB wd hi wr Xsp Xls Xfe Xfx Xfy = true := by simp only [c14, Bool.and_true, Bool.true_and, Bool.and_false, Bool.false_and, Bool.not_true, Bool.not_false, Bool.or_true, Bool.true_or, Bool.or_false, Bool.false_or]
    exact .inl ⟨hcond, ⟨rfl, B.ext⟩⟩
  · obtain rfl : v12 = .bool false := hv13.trans (congrArg Value.bool (Bool.eq_false_iff.2 c14))
    refine s_y (v := .bool true) rfl (y_not rfl rfl) ?_
    refine s_nil ?_
    refine W_if_t (by decide) rfl ?_
    refine W_seq ?_
    refine W_region (by kernel_rfl) ?_
    refine s_y (v := .agg #[.slice none 0 0, .slice none 0 0, .slice none 0 0]) rfl (y_build (cells := #[.slice none 0 0, .slice none 0 0, .slice none 0 0]) (by kernel_rfl)) ?_
    refine s_k0 rfl (k_stB (v := .agg #[.slice none 0 0, .slice none 0 0, .slice none 0 0]) (n := 3) (cs' := [.slice none 0 0, .slice none 0 0, .slice none 0 0]) T70.sz_30_3 rfl rfl rfl (B.b 0 rfl) (by simp [Value.cells, Value.oneCell']) (Nat.le_of_ble_eq_true rfl) rfl (fun w18 hU19 => ?_))
    replace B : Bu w no w18 [.blk b7 [.slice none 0 0, .slice none 0 0, .slice none 0 0] 30, .blk b4 [.slice afe nfe cfe, .slice afx nfx cfx, .slice afy nfy cfy] 30, .blk b1 [.int .i64 wd, .int .i64 hi, .bool wr, .slice asp nsp csp, .slice als nls cls] 26, .rd kF asp nsp Xsp, .rd kF als nls Xls, .rd kF afe nfe Xfe, .rd kF afx nfx Xfx, .rd kF afy nfy Xfy] := B.upd [0] rfl hU19
    clear hU19
    refine s_y (v := .bool false) rfl (y_assign rfl) ?_
    refine s_nil ?_
    refine W_ret ?_
    refine ret2 (v1 := .agg #[.slice none 0 0, .slice none 0 0, .slice none 0 0]) (v2 := .bool false) rfl rfl rfl ⟨_, [.slice none 0 0, .slice none 0 0, .slice none 0 0], _, rfl, (B.b 0 rfl), T70.agg_30_3, rfl⟩ rfl ⟨_, rfl, ?_⟩
    exact .inr ⟨by simp only [(Bool.eq_false_iff.2 c14), Bool.and_true, Bool.true_and, Bool.and_false, Bool.false_and, Bool.not_true, Bool.not_false, Bool.or_true, Bool.true_or, Bool.or_false, Bool.false_or], rfl, B.ext⟩
namespace T16
theorem mx : Try.prog.follows .mixedOrders = true := by kernel_rfl
theorem agg_26_5 : aggB Try.prog 26 5 = true := by kernel_rfl
theorem agg_30_3 : aggB Try.prog 30 3 = true := by kernel_rfl
theorem fld_30_0_0 : fldB Try.prog 30 0 0 = true := by kernel_rfl
theorem fn_41 : fnB Try.prog 41 = true := by kernel_rfl
theorem fn_67 : fnB Try.prog 67 = true := by kernel_rfl
theorem fn_68 : fnB Try.prog 68 = true := by kernel_rfl
theorem fn_69 : fnB Try.prog 69 = true := by kernel_rfl
theorem fn_70 : fnB Try.prog 70 = true := by kernel_rfl
theorem one_24 : oneB Try.prog 24 = true := by kernel_rfl
theorem sl_24_34_1 : slB Try.prog 24 34 1 = true := by kernel_rfl
theorem sz_30_3 : szB Try.prog 30 3 = true := by kernel_rfl
theorem sz_34_1 : szB Try.prog 34 1 = true := by kernel_rfl
theorem zero_30 : zeroB Try.prog 30 (.agg #[.slice none 0 0, .slice none 0 0, .slice none 0 0]) := by unfold zeroB; kernel_rfl
end T16
set_option maxRecDepth 100000 in
set_option maxHeartbeats 4000000 in
theorem c_i_PutValue {wd : Int} {hi : Int} {wr : Bool} {asp : Option Addr} {nsp : Nat} {csp : Nat} {Xsp : List Nat} {als : Option Addr} {nls : Nat} {cls : Nat} {Xls : List Nat} {afe : Option Addr} {nfe : Nat} {cfe : Nat} {Xfe : List Nat} {afx : Option Addr} {nfx : Nat} {cfx : Nat} {Xfx : List Nat} {afy : Option Addr} {nfy : Nat} {cfy : Nat} {Xfy : List Nat} {x : Int} {y : Int} {v1 : Nat} {V : Nat} {w : World} (qsp : Rd w kF asp nsp Xsp) (qls : Rd w kF als nls Xls) (qfe : Rd w kF afe nfe Xfe) (qfx : Rd w kF afx nfx Xfx) (qfy : Rd w kF afy nfy Xfy) (hv1 : Cn .f32 v1 V) (hbsp : nsp ≤ 9223372036854775806) (hbls : nls ≤ 9223372036854775806) (hbfe : nfe ≤ 9223372036854775806) (hbfx : nfx ≤ 9223372036854775806) (hbfy : nfy ≤ 9223372036854775806) :
    Calls Try.prog 16 #[.agg #[.int .i64 wd, .int .i64 hi, .bool wr, .slice asp nsp csp, .slice als nls cls], .agg #[.slice afe nfe cfe, .slice afx nfx cfx, .slice afy nfy cfy], .int .i64 x, .int .i64 y, .float .f32 v1] w (Rt fun v w' => (putB wd hi wr Xsp Xls Xfe Xfx Xfy x y V = true ∧ ∃ (a1 : Option Addr) (c1 : Nat) (a2 : Option Addr) (c2 : Nat) (a3 : Option Addr) (c3 : Nat), v = .tuple #[.agg #[.slice a1 nfe c1, .slice a2 nfx c2, .slice a3 nfy c3], .bool true] ∧ New w w' [.ow kF a1 nfe c1 34 (put Xfe (x + wd * y) V), .ow kF a2 nfx c2 34 Xfx, .ow kF a3 nfy c3 34 Xfy]) ∨ (putB wd hi wr Xsp Xls Xfe Xfx Xfy x y V = false ∧ v = .tuple #[.agg #[.slice none 0 0, .slice none 0 0, .slice none 0 0], .bool false] ∧ Ext0 w w')) := by
  have hlsp := qsp.len
  have hlls := qls.len
  have hlfe := qfe.len
  have hlfx := qfx.len
  have hlfy := qfy.len
  have B : Bu w no w [.rd kF asp nsp Xsp, .rd kF als nls Xls, .rd kF afe nfe Xfe, .rd kF afx nfx Xfx, .rd kF afy nfy Xfy] := Bu.ro (All.cons qsp (All.cons qls (All.cons qfe (All.cons qfx (All.cons qfy All.nil))))) rfl
  refine calls_W (n := 40) Try.func16 rfl rfl (Nat.le_of_ble_eq_true rfl) ?_
  refine W_seq ?_
  refine W_region (by kernel_rfl) ?_
  refine s_k rfl (k_boxN (v := .agg #[.int .i64 wd, .int .i64 hi, .bool wr, .slice asp nsp csp, .slice als nls cls]) (cs := [.int .i64 wd, .int .i64 hi, .bool wr, .slice asp nsp csp, .slice als nls cls]) rfl rfl (fun b1 w2 hN3 => ?_))
  replace B := B.new1 hN3
  clear hN3
  refine s_k rfl (k_boxN (v := .agg #[.slice afe nfe cfe, .slice afx nfx cfx, .slice afy nfy cfy]) (cs := [.slice afe nfe cfe, .slice afx nfx cfx, .slice afy nfy cfy]) rfl rfl (fun b4 w5 hN6 => ?_))
  replace B := B.new1 hN6
  clear hN6
  refine s_k rfl (k_allocN (z := (.agg #[.slice none 0 0, .slice none 0 0, .slice none 0 0])) (cs := [.slice none 0 0, .slice none 0 0, .slice none 0 0]) T16.zero_30 rfl (fun b7 w8 hN9 => ?_))
  replace B := B.new1 hN9
  clear hN9
  refine s_y (v := .bool false) rfl (y_assign rfl) ?_
  refine s_nil ?_
  refine W_seq ?_
  refine W_seq ?_
  refine W_region (by kernel_rfl) ?_
  refine s_y (v := .agg #[.int .i64 wd, .int .i64 hi, .bool wr, .slice asp nsp csp, .slice als nls cls]) rfl (y_loadn (b := b1) (o := 0) (vs := [.int .i64 wd, .int .i64 hi, .bool wr, .slice asp nsp csp, .slice als nls cls]) T16.agg_26_5 rfl rfl ((B.b 2 rfl).cells (o := 0) rfl)) ?_
  refine s_y (v := .agg #[.slice afe nfe cfe, .slice afx nfx cfx, .slice afy nfy cfy]) rfl (y_loadn (b := b4) (o := 0) (vs := [.slice afe nfe cfe, .slice afx nfx cfx, .slice afy nfy cfy]) T16.agg_30_3 rfl rfl ((B.b 1 rfl).cells (o := 0) rfl)) ?_
  refine s_k rfl (k_call T16.fn_41 (c_i_IsField (B.r 3 rfl) (B.r 4 rfl) (B.r 5 rfl) (B.r 6 rfl) (B.r 7 rfl) (by omega) (by omega) (by omega) (by omega) (by omega)) rfl ?_)
  rintro v12 w10 ⟨hv13, e11⟩
  replace B := B.ext0 e11
  clear e11
  by_cases c14 : fieldB wd hi wr Xsp Xls Xfe Xfx Xfy = true
  · have hb15 := fieldB_b c14
    obtain rfl : v12 = .bool true := hv13.trans (congrArg Value.bool c14)
    refine s_y (v := .bool false) rfl (y_not rfl rfl) ?_
    refine s_y (v := .bool false) rfl (y_move rfl) ?_
    refine s_y (v := .agg #[.int .i64 wd, .int .i64 hi, .bool wr, .slice asp nsp csp, .slice als nls cls]) rfl (y_loadn (b := b1) (o := 0) (vs := [.int .i64 wd, .int .i64 hi, .bool wr, .slice asp nsp csp, .slice als nls cls]) T16.agg_26_5 rfl rfl ((B.b 2 rfl).cells (o := 0) rfl)) ?_
    refine s_y (v := .int .i64 x) rfl (y_move rfl) ?_
    refine s_y (v := .int .i64 y) rfl (y_move rfl) ?_
    refine s_k rfl (k_call T16.fn_67 (c_i_isCell (by omega) (by omega) (by omega) (by omega)) rfl ?_)
    rintro v18 w16 ⟨hv19, e17⟩
    replace B := B.ext0 e17
    clear e17
    by_cases c20 : cellB wd hi x y = true
    · have hb21 := cellB_b c20
      obtain rfl : v18 = .bool true := hv19.trans (congrArg Value.bool c20)
      refine s_y (v := .bool false) rfl (y_not rfl rfl) ?_
      refine s_y (v := .bool false) rfl (y_pick_f rfl rfl) ?_
      refine s_nil ?_
      refine W_if_f (by decide) rfl ?_
      refine W_skip ?_
      refine W_seq ?_
      refine W_region (by kernel_rfl) ?_
      refine s_y (v := .agg #[.slice afe nfe cfe, .slice afx nfx cfx, .slice afy nfy cfy]) rfl (y_loadn (b := b4) (o := 0) (vs := [.slice afe nfe cfe, .slice afx nfx cfx, .slice afy nfy cfy]) T16.agg_30_3 rfl rfl ((B.b 1 rfl).cells (o := 0) rfl)) ?_
      refine s_k rfl (k_call T16.fn_68 (c_i_copyField (B.r 5 rfl) (B.r 6 rfl) (B.r 7 rfl) (by omega) (by omega) (by omega)) rfl ?_)
      rintro _ w22 ⟨a23, c24, a25, c26, a27, c28, rfl, hN29⟩
      replace B := B.new3 hN29
      clear hN29
      refine s_k rfl (k_allocN (z := (.agg #[.slice none 0 0, .slice none 0 0, .slice none 0 0])) (cs := [.slice none 0 0, .slice none 0 0, .slice none 0 0]) T16.zero_30 rfl (fun b30 w31 hN32 => ?_))
      replace B := B.new1 hN32
      clear hN32
      refine s_k0 rfl (k_stB (v := .agg #[.slice a23 nfe c24, .slice a25 nfx c26, .slice a27 nfy c28]) (n := 3) (cs' := [.slice a23 nfe c24, .slice a25 nfx c26, .slice a27 nfy c28]) T16.sz_30_3 rfl rfl rfl (B.b 0 rfl) (by simp [Value.cells, Value.oneCell']) (Nat.le_of_ble_eq_true rfl) rfl (fun w33 hU34 => ?_))
      replace B : Bu w no w33 [.blk b30 [.slice a23 nfe c24, .slice a25 nfx c26, .slice a27 nfy c28] 30, .ow kF a23 nfe c24 34 Xfe, .ow kF a25 nfx c26 34 Xfx, .ow kF a27 nfy c28 34 Xfy, .blk b7 [.slice none 0 0, .slice none 0 0, .slice none 0 0] 30, .blk b4 [.slice afe nfe cfe, .slice afx nfx cfx, .slice afy nfy cfy] 30, .blk b1 [.int .i64 wd, .int .i64 hi, .bool wr, .slice asp nsp csp, .slice als nls cls] 26, .rd kF asp nsp Xsp, .rd kF als nls Xls, .rd kF afe nfe Xfe, .rd kF afx nfx Xfx, .rd kF afy nfy Xfy] := B.upd [0] rfl hU34
      clear hU34
      refine s_nil ?_
      refine W_seq ?_
      have B0_39 := B
      refine W_draw (no) T16.mx (by kernel_rfl) (fun w37 e38 => ?_)
      have R40 := Ext.refl (no) w33
      replace R40 := R40.trans (Ext0.any e38)
      replace B := B.ext0 e38
      clear e38
      refine m_y (v := .pointer (some ⟨b30, 0, none⟩)) 0 rfl (by kernel_rfl) rfl rfl (fun w' e' => y_fld (o := 0) T16.fld_30_0_0 rfl) ?_
      refine m_y (v := .slice a23 nfe c24) 1 rfl (by kernel_rfl) rfl rfl (fun w' e' => y_load T16.one_24 rfl (((B0_39.b 0 rfl).ext0 e').cell (j := 0) rfl)) ?_
      refine m_y (v := .agg #[.int .i64 wd, .int .i64 hi, .bool wr, .slice asp nsp csp, .slice als nls cls]) 2 rfl (by kernel_rfl) rfl rfl (fun w' e' => y_loadn (b := b1) (o := 0) (vs := [.int .i64 wd, .int .i64 hi, .bool wr, .slice asp nsp csp, .slice als nls cls]) T16.agg_26_5 rfl rfl (((B0_39.b 6 rfl).ext0 e').cells (o := 0) rfl)) ?_
      refine m_y (v := .int .i64 x) 3 rfl (by kernel_rfl) rfl rfl (fun w' e' => y_move rfl) ?_
      refine m_y (v := .int .i64 y) 4 rfl (by kernel_rfl) rfl rfl (fun w' e' => y_move rfl) ?_
      refine m_y (v := .float .f32 v1) 6 rfl (by kernel_rfl) rfl rfl (fun w' e' => y_move rfl) ?_
      refine m_k 5 [7, 8] rfl (by kernel_rfl) rfl rfl (fun w41 e42 => ?_)
      replace R40 := R40.trans (Ext0.any e42)
      replace B := B.ext0 e42
      clear e42
      refine k_call T16.fn_69 (c_i_at (by omega) (by omega) (by omega) (by omega) (by omega) (by omega) (by omega) (by omega)) rfl ?_
      rintro _ w43 ⟨rfl, e44⟩
      replace R40 := R40.trans (Ext0.any e44)
      replace B := B.ext0 e44
      clear e44
      refine ⟨fun _ => R40, ?_⟩
      have hat45 := atI_b (wd := wd) (hi := hi) (x := x) (y := y) (by omega) (by omega)
      refine m_y (v := .pointer (some (sat a23 ((atI wd hi x y).toNat * 1)))) 7 rfl (by kernel_rfl) rfl rfl (fun w' e' => y_idx T16.sl_24_34_1 rfl rfl ((B.o 1 rfl).rd.addr (by omega)) (by omega) (by omega)) ?_
      refine m_kt 8 [] rfl (by kernel_rfl) rfl rfl (by kernel_rfl) (fun w48 e49 => ?_)
      replace R40 := R40.trans (Ext0.any e49)
      replace B := B.ext0 e49
      clear e49
      refine k_stO (k := kF) (i := atI wd hi x y) (j := 0) (x' := V) (new := [.float .f32 v1]) T16.sz_34_1 rfl rfl rfl rfl rfl (by simp [Value.oneCell']) (by decide) (B.o 1 rfl) (by omega) (by omega) (by decide) (by rintro q ⟨_, rfl, _⟩; exact ⟨_, rfl, hv1⟩) (fun w46 hU47 => ?_)
      clear R40
      replace B : Bu w no w46 [.ow kF a23 nfe c24 34 (put Xfe (atI wd hi x y) V), .blk b30 [.slice a23 nfe c24, .slice a25 nfx c26, .slice a27 nfy c28] 30, .ow kF a25 nfx c26 34 Xfx, .ow kF a27 nfy c28 34 Xfy, .blk b7 [.slice none 0 0, .slice none 0 0, .slice none 0 0] 30, .blk b4 [.slice afe nfe cfe, .slice afx nfx cfx, .slice afy nfy cfy] 30, .blk b1 [.int .i64 wd, .int .i64 hi, .bool wr, .slice asp nsp csp, .slice als nls cls] 26, .rd kF asp nsp Xsp, .rd kF als nls Xls, .rd kF afe nfe Xfe, .rd kF afx nfx Xfx, .rd kF afy nfy Xfy] := B.upd [1] rfl hU47
      clear hU47
      refine m_done (by kernel_rfl) (fun w50 e51 => ?_)
      replace B := B.ext0 e51
      clear e51
      clear B0_39
      refine W_seq ?_
      refine W_region (by kernel_rfl) ?_
      refine s_y (v := .agg #[.int .i64 wd, .int .i64 hi, .bool wr, .slice asp nsp csp, .slice als nls cls]) rfl (y_loadn (b := b1) (o := 0) (vs := [.int .i64 wd, .int .i64 hi, .bool wr, .slice asp nsp csp, .slice als nls cls]) T16.agg_26_5 rfl rfl ((B.b 6 rfl).cells (o := 0) rfl)) ?_
      refine s_y (v := .agg #[.slice a23 nfe c24, .slice a25 nfx c26, .slice a27 nfy c28]) rfl (y_loadn (b := b30) (o := 0) (vs := [.slice a23 nfe c24, .slice a25 nfx c26, .slice a27 nfy c28]) T16.agg_30_3 rfl rfl ((B.b 1 rfl).cells (o := 0) rfl)) ?_
      refine s_k rfl (k_call T16.fn_70 (c_i_validField (B.r 7 rfl) (B.r 8 rfl) ((B.o 0 rfl).rd) ((B.o 2 rfl).rd) ((B.o 3 rfl).rd) (by omega) (by omega) (by omega) (by omega) (by omega)) rfl ?_)
      rintro v54 w52 hx53
      by_cases c55 : fieldB wd hi wr Xsp Xls (put Xfe (atI wd hi x y) V) Xfx Xfy = true
      · have hb56 := fieldB_b c55
        obtain ⟨rfl, e57⟩ := (hx53.resolve_right (fun hz => by rw [c55] at hz; cases hz.1)).2
        clear hx53
        replace B := B.ext0 e57
        clear e57
        refine s_y (v := .agg #[.slice a23 nfe c24, .slice a25 nfx c26, .slice a27 nfy c28]) rfl (y_extract rfl rfl) ?_
        refine s_y (v := .bool true) rfl (y_extract rfl rfl) ?_
        refine s_k0 rfl (k_stB (v := .agg #[.slice a23 nfe c24, .slice a25 nfx c26, .slice a27 nfy c28]) (n := 3) (cs' := [.slice a23 nfe c24, .slice a25 nfx c26, .slice a27 nfy c28]) T16.sz_30_3 rfl rfl rfl (B.b 4 rfl) (by simp [Value.cells, Value.oneCell']) (Nat.le_of_ble_eq_true rfl) rfl (fun w58 hU59 => ?_))
        replace B : Bu w no w58 [.blk b7 [.slice a23 nfe c24, .slice a25 nfx c26, .slice a27 nfy c28] 30, .ow kF a23 nfe c24 34 (put Xfe (atI wd hi x y) V), .blk b30 [.slice a23 nfe c24, .slice a25 nfx c26, .slice a27 nfy c28] 30, .ow kF a25 nfx c26 34 Xfx, .ow kF a27 nfy c28 34 Xfy, .blk b4 [.slice afe nfe cfe, .slice afx nfx cfx, .slice afy nfy cfy] 30, .blk b1 [.int .i64 wd, .int .i64 hi, .bool wr, .slice asp nsp csp, .slice als nls cls] 26, .rd kF asp nsp Xsp, .rd kF als nls Xls, .rd kF afe nfe Xfe, .rd kF afx nfx Xfx, .rd kF afy nfy Xfy] := B.upd [4] rfl hU59
        clear hU59
        refine s_y (v := .bool true) rfl (y_assign rfl) ?_
        refine s_nil ?_
        refine W_ret ?_
        refine ret2 (v1 := .agg #[.slice a23 nfe c24, .slice a25 nfx c26, .slice a27 nfy c28]) (v2 := .bool true) rfl rfl rfl ⟨_, [.slice a23 nfe c24, .slice a25 nfx c26, .slice a27 nfy c28], _, rfl, (B.b 0 rfl), T16.agg_30_3, rfl⟩ rfl ⟨_, rfl, ?_⟩
        have hval : valB wd hi wr Xsp Xls Xfe Xfx Xfy x y = true := by simp only [valB, c14, c20, c55, Bool.and_true, Bool.true_and, Bool.and_false, Bool.false_and, Bool.not_true, Bool.not_false, Bool.or_true, Bool.true_or, Bool.or_false, Bool.false_or]
        have hat2 : atI wd hi x y = x + wd * y := atI_in (by omega) (by omega) (by omega) (by omega)
        have hcond : putB wd hi wr Xsp Xls Xfe Xfx Xfy x y V = true := (put_fits hval).symm.trans (by rw [← hat2]; exact c55)
        replace B : Bu w no w58 [.blk b7 [.slice a23 nfe c24, .slice a25 nfx c26, .slice a27 nfy c28] 30, .ow kF a23 nfe c24 34 (put Xfe (x + wd * y) V), .blk b30 [.slice a23 nfe c24, .slice a25 nfx c26, .slice a27 nfy c28] 30, .ow kF a25 nfx c26 34 Xfx, .ow kF a27 nfy c28 34 Xfy, .blk b4 [.slice afe nfe cfe, .slice afx nfx cfx, .slice afy nfy cfy] 30, .blk b1 [.int .i64 wd, .int .i64 hi, .bool wr, .slice asp nsp csp, .slice als nls cls] 26, .rd kF asp nsp Xsp, .rd kF als nls Xls, .rd kF afe nfe Xfe, .rd kF afx nfx Xfx, .rd kF afy nfy Xfy] := B.castX 1 rfl rfl (congrArg (fun q => put Xfe q V) (atI_in (by omega) (by omega) (by omega) (by omega)))
        exact .inl ⟨hcond, ⟨_, _, _, _, _, _, rfl, B.give [1, 3, 4] rfl rfl rfl⟩⟩
      · obtain ⟨_, rfl, e60⟩ := hx53.resolve_left (fun hz => c55 hz.1)
        clear hx53
        replace B := B.ext0 e60
        clear e60
        refine s_y (v := .agg #[.slice none 0 0, .slice none 0 0, .slice none 0 0]) rfl (y_extract rfl rfl) ?_
        refine s_y (v := .bool false) rfl (y_extract rfl rfl) ?_
        refine s_k0 rfl (k_stB (v := .agg #[.slice none 0 0, .slice none 0 0, .slice none 0 0]) (n := 3) (cs' := [.slice none 0 0, .slice none 0 0, .slice none 0 0]) T16.sz_30_3 rfl rfl rfl (B.b 4 rfl) (by simp [Value.cells, Value.oneCell']) (Nat.le_of_ble_eq_true rfl) rfl (fun w61 hU62 => ?_))
        replace B : Bu w no w61 [.blk b7 [.slice none 0 0, .slice none 0 0, .slice none 0 0] 30, .ow kF a23 nfe c24 34 (put Xfe (atI wd hi x y) V), .blk b30 [.slice a23 nfe c24, .slice a25 nfx c26, .slice a27 nfy c28] 30, .ow kF a25 nfx c26 34 Xfx, .ow kF a27 nfy c28 34 Xfy, .blk b4 [.slice afe nfe cfe, .slice afx nfx cfx, .slice afy nfy cfy] 30, .blk b1 [.int .i64 wd, .int .i64 hi, .bool wr, .slice asp nsp csp, .slice als nls cls] 26, .rd kF asp nsp Xsp, .rd kF als nls Xls, .rd kF afe nfe Xfe, .rd kF afx nfx Xfx, .rd kF afy nfy Xfy] := B.upd [4] rfl hU62
        clear hU62
        refine s_y (v := .bool false) rfl (y_assign rfl) ?_
        refine s_nil ?_
        refine W_ret ?_
        refine ret2 (v1 := .agg #[.slice none 0 0, .slice none 0 0, .slice none 0 0]) (v2 := .bool false) rfl rfl rfl ⟨_, [.slice none 0 0, .slice none 0 0, .slice none 0 0], _, rfl, (B.b 0 rfl), T16.agg_30_3, rfl⟩ rfl ⟨_, rfl, ?_⟩
        have hval : valB wd hi wr Xsp Xls Xfe Xfx Xfy x y = true := by simp only [valB, c14, c20, (Bool.eq_false_iff.2 c55), Bool.and_true, Bool.true_and, Bool.and_false, Bool.false_and, Bool.not_true, Bool.not_false, Bool.or_true, Bool.true_or, Bool.or_false, Bool.false_or]
        have hat2 : atI wd hi x y = x + wd * y := atI_in (by omega) (by omega) (by omega) (by omega)
        exact .inr ⟨(put_fits hval).symm.trans (by rw [← hat2]; exact (Bool.eq_false_iff.2 c55)), rfl, B.ext⟩
    · obtain rfl : v18 = .bool false := hv19.trans (congrArg Value.bool (Bool.eq_false_iff.2 c20))
      refine s_y (v := .bool true) rfl (y_not rfl rfl) ?_
      refine s_y (v := .bool true) rfl (y_pick_f rfl rfl) ?_
      refine s_nil ?_
      refine W_if_t (by decide) rfl ?_
      refine W_seq ?_
      refine W_region (by kernel_rfl) ?_
      refine s_y (v := .agg #[.slice none 0 0, .slice none 0 0, .slice none 0 0]) rfl (y_build (cells := #[.slice none 0 0, .slice none 0 0, .slice none 0 0]) (by kernel_rfl)) ?_
      refine s_k0 rfl (k_stB (v := .agg #[.slice none 0 0, .slice none 0 0, .slice none 0 0]) (n := 3) (cs' := [.slice none 0 0, .slice none 0 0, .slice none 0 0]) T16.sz_30_3 rfl rfl rfl (B.b 0 rfl) (by simp [Value.cells, Value.oneCell']) (Nat.le_of_ble_eq_true rfl) rfl (fun w63 hU64 => ?_))
      replace B : Bu w no w63 [.blk b7 [.slice none 0 0, .slice none 0 0, .slice none 0 0] 30, .blk b4 [.slice afe nfe cfe, .slice afx nfx cfx, .slice afy nfy cfy] 30, .blk b1 [.int .i64 wd, .int .i64 hi, .bool wr, .slice asp nsp csp, .slice als nls cls] 26, .rd kF asp nsp Xsp, .rd kF als nls Xls, .rd kF afe nfe Xfe, .rd kF afx nfx Xfx, .rd kF afy nfy Xfy] := B.upd [0] rfl hU64
      clear hU64
      refine s_y (v := .bool false) rfl (y_assign rfl) ?_
      refine s_nil ?_
      refine W_ret ?_
      refine ret2 (v1 := .agg #[.slice none 0 0, .slice none 0 0, .slice none 0 0]) (v2 := .bool false) rfl rfl rfl ⟨_, [.slice none 0 0, .slice none 0 0, .slice none 0 0], _, rfl, (B.b 0 rfl), T16.agg_30_3, rfl⟩ rfl ⟨_, rfl, ?_⟩
      exact .inr ⟨by simp only [putB, valB, c14, (Bool.eq_false_iff.2 c20), Bool.and_true, Bool.true_and, Bool.and_false, Bool.false_and, Bool.not_true, Bool.not_false, Bool.or_true, Bool.true_or, Bool.or_false, Bool.false_or], rfl, B.ext⟩
  · obtain rfl : v12 = .bool false := hv13.trans (congrArg Value.bool (Bool.eq_false_iff.2 c14))
    refine s_y (v := .bool true) rfl (y_not rfl rfl) ?_
    refine s_y (v := .bool true) rfl (y_move rfl) ?_
    refine s_skip rfl ?_
    refine s_skip rfl ?_
    refine s_skip rfl ?_
    refine s_skip rfl ?_
    refine s_skip rfl ?_
    refine s_y (v := .bool true) rfl (y_pick_t rfl rfl) ?_
    refine s_nil ?_
    refine W_if_t (by decide) rfl ?_
    refine W_seq ?_
    refine W_region (by kernel_rfl) ?_
    refine s_y (v := .agg #[.slice none 0 0, .slice none 0 0, .slice none 0 0]) rfl (y_build (cells := #[.slice none 0 0, .slice none 0 0, .slice none 0 0]) (by kernel_rfl)) ?_
    refine s_k0 rfl (k_stB (v := .agg #[.slice none 0 0, .slice none 0 0, .slice none 0 0]) (n := 3) (cs' := [.slice none 0 0, .slice none 0 0, .slice none 0 0]) T16.sz_30_3 rfl rfl rfl (B.b 0 rfl) (by simp [Value.cells, Value.oneCell']) (Nat.le_of_ble_eq_true rfl) rfl (fun w65 hU66 => ?_))
    replace B : Bu w no w65 [.blk b7 [.slice none 0 0, .slice none 0 0, .slice none 0 0] 30, .blk b4 [.slice afe nfe cfe, .slice afx nfx cfx, .slice afy nfy cfy] 30, .blk b1 [.int .i64 wd, .int .i64 hi, .bool wr, .slice asp nsp csp, .slice als nls cls] 26, .rd kF asp nsp Xsp, .rd kF als nls Xls, .rd kF afe nfe Xfe, .rd kF afx nfx Xfx, .rd kF afy nfy Xfy] := B.upd [0] rfl hU66
    clear hU66
    refine s_y (v := .bool false) rfl (y_assign rfl) ?_
    refine s_nil ?_
    refine W_ret ?_
    refine ret2 (v1 := .agg #[.slice none 0 0, .slice none 0 0, .slice none 0 0]) (v2 := .bool false) rfl rfl rfl ⟨_, [.slice none 0 0, .slice none 0 0, .slice none 0 0], _, rfl, (B.b 0 rfl), T16.agg_30_3, rfl⟩ rfl ⟨_, rfl, ?_⟩
    exact .inr ⟨by simp only [putB, valB, (Bool.eq_false_iff.2 c14), Bool.and_true, Bool.true_and, Bool.and_false, Bool.false_and, Bool.not_true, Bool.not_false, Bool.or_true, Bool.true_or, Bool.or_false, Bool.false_or], rfl, B.ext⟩
namespace T37
theorem mx : Try.prog.follows .mixedOrders = true := by kernel_rfl
theorem agg_26_5 : aggB Try.prog 26 5 = true := by kernel_rfl
theorem agg_30_3 : aggB Try.prog 30 3 = true := by kernel_rfl
theorem fld_30_0_0 : fldB Try.prog 30 0 0 = true := by kernel_rfl
theorem fn_41 : fnB Try.prog 41 = true := by kernel_rfl
theorem fn_67 : fnB Try.prog 67 = true := by kernel_rfl
theorem fn_69 : fnB Try.prog 69 = true := by kernel_rfl
theorem one_24 : oneB Try.prog 24 = true := by kernel_rfl
theorem one_34 : oneB Try.prog 34 = true := by kernel_rfl
theorem sl_24_34_1 : slB Try.prog 24 34 1 = true := by kernel_rfl
end T37
set_option maxRecDepth 100000 in
set_option maxHeartbeats 4000000 in
theorem c_i_ValueAt {wd : Int} {hi : Int} {wr : Bool} {asp : Option Addr} {nsp : Nat} {csp : Nat} {Xsp : List Nat} {als : Option Addr} {nls : Nat} {cls : Nat} {Xls : List Nat} {afe : Option Addr} {nfe : Nat} {cfe : Nat} {Xfe : List Nat} {afx : Option Addr} {nfx : Nat} {cfx : Nat} {Xfx : List Nat} {afy : Option Addr} {nfy : Nat} {cfy : Nat} {Xfy : List Nat} {x : Int} {y : Int} {w : World} (qsp : Rd w kF asp nsp Xsp) (qls : Rd w kF als nls Xls) (qfe : Rd w kF afe nfe Xfe) (qfx : Rd w kF afx nfx Xfx) (qfy : Rd w kF afy nfy Xfy) (hbsp : nsp ≤ 9223372036854775806) (hbls : nls ≤ 9223372036854775806) (hbfe : nfe ≤ 9223372036854775806) (hbfx : nfx ≤ 9223372036854775806) (hbfy : nfy ≤ 9223372036854775806) :
    Calls Try.prog 37 #[.agg #[.int .i64 wd, .int .i64 hi, .bool wr, .slice asp nsp csp, .slice als nls cls], .agg #[.slice afe nfe cfe, .slice afx nfx cfx, .slice afy nfy cfy], .int .i64 x, .int .i64 y] w (Rt fun v w' => (valB wd hi wr Xsp Xls Xfe Xfx Xfy x y = true ∧ ∃ (r1 : Nat), v = .tuple #[.float .f32 r1, .bool true] ∧ Cn .f32 r1 (el Xfe (atI wd hi x y)) ∧ Ext0 w w') ∨ (valB wd hi wr Xsp Xls Xfe Xfx Xfy x y = false ∧ v = .tuple #[.float .f32 0, .bool false] ∧ Ext0 w w')) := by
  have hlsp := qsp.len
  have hlls := qls.len
  have hlfe := qfe.len
  have hlfx := qfx.len
  have hlfy := qfy.len
  have B : Bu w no w [.rd kF asp nsp Xsp, .rd kF als nls Xls, .rd kF afe nfe Xfe, .rd kF afx nfx Xfx, .rd kF afy nfy Xfy] := Bu.ro (All.cons qsp (All.cons qls (All.cons qfe (All.cons qfx (All.cons qfy All.nil))))) rfl
  refine calls_W (n := 29) Try.func37 rfl rfl (Nat.le_of_ble_eq_true rfl) ?_
  refine W_seq ?_
  refine W_region (by kernel_rfl) ?_
  refine s_k rfl (k_boxN (v := .agg #[.int .i64 wd, .int .i64 hi, .bool wr, .slice asp nsp csp, .slice als nls cls]) (cs := [.int .i64 wd, .int .i64 hi, .bool wr, .slice asp nsp csp, .slice als nls cls]) rfl rfl (fun b1 w2 hN3 => ?_))
  replace B := B.new1 hN3
  clear hN3
  refine s_k rfl (k_boxN (v := .agg #[.slice afe nfe cfe, .slice afx nfx cfx, .slice afy nfy cfy]) (cs := [.slice afe nfe cfe, .slice afx nfx cfx, .slice afy nfy cfy]) rfl rfl (fun b4 w5 hN6 => ?_))
  replace B := B.new1 hN6
  clear hN6
  refine s_y (v := .float .f32 0) rfl (y_assign rfl) ?_
  refine s_y (v := .bool false) rfl (y_assign rfl) ?_
  refine s_nil ?_
  refine W_seq ?_
  refine W_seq ?_
  refine W_region (by kernel_rfl) ?_
  refine s_y (v := .agg #[.int .i64 wd, .int .i64 hi, .bool wr, .slice asp nsp csp, .slice als nls cls]) rfl (y_loadn (b := b1) (o := 0) (vs := [.int .i64 wd, .int .i64 hi, .bool wr, .slice asp nsp csp, .slice als nls cls]) T37.agg_26_5 rfl rfl ((B.b 1 rfl).cells (o := 0) rfl)) ?_
  refine s_y (v := .agg #[.slice afe nfe cfe, .slice afx nfx cfx, .slice afy nfy cfy]) rfl (y_loadn (b := b4) (o := 0) (vs := [.slice afe nfe cfe, .slice afx nfx cfx, .slice afy nfy cfy]) T37.agg_30_3 rfl rfl ((B.b 0 rfl).cells (o := 0) rfl)) ?_
  refine s_k rfl (k_call T37.fn_41 (c_i_IsField (B.r 2 rfl) (B.r 3 rfl) (B.r 4 rfl) (B.r 5 rfl) (B.r 6 rfl) (by omega) (by omega) (by omega) (by omega) (by omega)) rfl ?_)
  rintro v9 w7 ⟨hv10, e8⟩
  replace B := B.ext0 e8
  clear e8
  by_cases c11 : fieldB wd hi wr Xsp Xls Xfe Xfx Xfy = true
  · have hb12 := fieldB_b c11
    obtain rfl : v9 = .bool true := hv10.trans (congrArg Value.bool c11)
    refine s_y (v := .bool false) rfl (y_not rfl rfl) ?_
    refine s_y (v := .bool false) rfl (y_move rfl) ?_
    refine s_y (v := .agg #[.int .i64 wd, .int .i64 hi, .bool wr, .slice asp nsp csp, .slice als nls cls]) rfl (y_loadn (b := b1) (o := 0) (vs := [.int .i64 wd, .int .i64 hi, .bool wr, .slice asp nsp csp, .slice als nls cls]) T37.agg_26_5 rfl rfl ((B.b 1 rfl).cells (o := 0) rfl)) ?_
    refine s_y (v := .int .i64 x) rfl (y_move rfl) ?_
    refine s_y (v := .int .i64 y) rfl (y_move rfl) ?_
    refine s_k rfl (k_call T37.fn_67 (c_i_isCell (by omega) (by omega) (by omega) (by omega)) rfl ?_)
    rintro v15 w13 ⟨hv16, e14⟩
    replace B := B.ext0 e14
    clear e14
    by_cases c17 : cellB wd hi x y = true
    · have hb18 := cellB_b c17
      obtain rfl : v15 = .bool true := hv16.trans (congrArg Value.bool c17)
      refine s_y (v := .bool false) rfl (y_not rfl rfl) ?_
      refine s_y (v := .bool false) rfl (y_pick_f rfl rfl) ?_
      refine s_nil ?_
      refine W_if_f (by decide) rfl ?_
      refine W_skip ?_
      refine W_seq ?_
      have B0_23 := B
      refine W_draw (no) T37.mx (by kernel_rfl) (fun w21 e22 => ?_)
      have R24 := Ext.refl (no) w13
      replace R24 := R24.trans (Ext0.any e22)
      replace B := B.ext0 e22
      clear e22
      refine m_y (v := .pointer (some ⟨b4, 0, none⟩)) 0 rfl (by kernel_rfl) rfl rfl (fun w' e' => y_fld (o := 0) T37.fld_30_0_0 rfl) ?_
      refine m_y (v := .slice afe nfe cfe) 1 rfl (by kernel_rfl) rfl rfl (fun w' e' => y_load T37.one_24 rfl (((B0_23.b 0 rfl).ext0 e').cell (j := 0) rfl)) ?_
      refine m_y (v := .agg #[.int .i64 wd, .int .i64 hi, .bool wr, .slice asp nsp csp, .slice als nls cls]) 2 rfl (by kernel_rfl) rfl rfl (fun w' e' => y_loadn (b := b1) (o := 0) (vs := [.int .i64 wd, .int .i64 hi, .bool wr, .slice asp nsp csp, .slice als nls cls]) T37.agg_26_5 rfl rfl (((B0_23.b 1 rfl).ext0 e').cells (o := 0) rfl)) ?_
      refine m_y (v := .int .i64 x) 3 rfl (by kernel_rfl) rfl rfl (fun w' e' => y_move rfl) ?_
      refine m_y (v := .int .i64 y) 4 rfl (by kernel_rfl) rfl rfl (fun w' e' => y_move rfl) ?_
      refine m_k 5 [6, 7, 8, 9] rfl (by kernel_rfl) rfl rfl (fun w25 e26 => ?_)
      replace R24 := R24.trans (Ext0.any e26)
      replace B := B.ext0 e26
      clear e26
      refine k_call T37.fn_69 (c_i_at (by omega) (by omega) (by omega) (by omega) (by omega) (by omega) (by omega) (by omega)) rfl ?_
      rintro _ w27 ⟨rfl, e28⟩
      replace R24 := R24.trans (Ext0.any e28)
      replace B := B.ext0 e28
      clear e28
      refine ⟨fun _ => R24, ?_⟩
      have hat29 := atI_b (wd := wd) (hi := hi) (x := x) (y := y) (by omega) (by omega)
      refine m_y (v := .pointer (some (sat afe ((atI wd hi x y).toNat * 1)))) 6 rfl (by kernel_rfl) rfl rfl (fun w' e' => y_idx T37.sl_24_34_1 rfl rfl ((B.r 4 rfl).addr (by omega)) (by omega) (by omega)) ?_
      obtain ⟨r31, hr32, hR30⟩ := Rd.atF (B0_23.r 4 rfl) (atI wd hi x y) (by omega) (by omega)
      refine m_y (v := .float .f32 r31) 7 rfl (by kernel_rfl) rfl rfl (fun w' e' => y_load T37.one_34 rfl ((hR30.ext0 e').cell (i := 0) rfl)) ?_
      refine m_y (v := .float .f32 r31) 8 rfl (by kernel_rfl) rfl rfl (fun w' e' => y_assign rfl) ?_
      refine m_y (v := .bool true) 9 rfl (by kernel_rfl) rfl rfl (fun w' e' => y_assign rfl) ?_
      refine m_done (by kernel_rfl) (fun w33 e34 => ?_)
      replace B := B.ext0 e34
      clear e34
      clear B0_23 R24
      refine W_ret ?_
      refine ret2 (v1 := .float .f32 r31) (v2 := .bool true) rfl rfl rfl rfl rfl ⟨_, rfl, ?_⟩
      have hcond : valB wd hi wr Xsp Xls Xfe Xfx Xfy x y = true := by simp only [valB, c11, c17, Bool.and_true, Bool.true_and, Bool.and_false, Bool.false_and, Bool.not_true, Bool.not_false, Bool.or_true, Bool.true_or, Bool.or_false, Bool.false_or]
      exact .inl ⟨hcond, ⟨_, rfl, hr32, B.ext⟩⟩
    · obtain rfl : v15 = .bool false := hv16.trans (congrArg Value.bool (Bool.eq_false_iff.2 c17))
      refine s_y (v := .bool true) rfl (y_not rfl rfl) ?_
      refine s_y (v := .bool true) rfl (y_pick_f rfl rfl) ?_
      refine s_nil ?_
      refine W_if_t (by decide) rfl ?_
      refine W_seq ?_
      refine W_region (by kernel_rfl) ?_
      refine s_y (v := .float .f32 0) rfl (y_assign rfl) ?_
      refine s_y (v := .bool false) rfl (y_assign rfl) ?_
      refine s_nil ?_
      refine W_ret ?_
      refine ret2 (v1 := .float .f32 0) (v2 := .bool false) rfl rfl rfl rfl rfl ⟨_, rfl, ?_⟩
      exact .inr ⟨by simp only [valB, c11, (Bool.eq_false_iff.2 c17), Bool.and_true, Bool.true_and, Bool.and_false, Bool.false_and, Bool.not_true, Bool.not_false, Bool.or_true, Bool.true_or, Bool.or_false, Bool.false_or], rfl, B.ext⟩
  · obtain rfl : v9 = .bool false := hv10.trans (congrArg Value.bool (Bool.eq_false_iff.2 c11))
    refine s_y (v := .bool true) rfl (y_not rfl rfl) ?_
    refine s_y (v := .bool true) rfl (y_move rfl) ?_
    refine s_skip rfl ?_
    refine s_skip rfl ?_
    refine s_skip rfl ?_
    refine s_skip rfl ?_
    refine s_skip rfl ?_
    refine s_y (v := .bool true) rfl (y_pick_t rfl rfl) ?_
    refine s_nil ?_
    refine W_if_t (by decide) rfl ?_
    refine W_seq ?_
    refine W_region (by kernel_rfl) ?_
    refine s_y (v := .float .f32 0) rfl (y_assign rfl) ?_
    refine s_y (v := .bool false) rfl (y_assign rfl) ?_
    refine s_nil ?_
    refine W_ret ?_
    refine ret2 (v1 := .float .f32 0) (v2 := .bool false) rfl rfl rfl rfl rfl ⟨_, rfl, ?_⟩
    exact .inr ⟨by simp only [valB, (Bool.eq_false_iff.2 c11), Bool.and_true, Bool.true_and, Bool.and_false, Bool.false_and, Bool.not_true, Bool.not_false, Bool.or_true, Bool.true_or, Bool.or_false, Bool.false_or], rfl, B.ext⟩
namespace T91
theorem mx : Try.prog.follows .mixedOrders = true := by kernel_rfl
end T91
set_option maxRecDepth 100000 in
set_option maxHeartbeats 4000000 in
theorem c_i_size {x : Nat} {X : Nat} {w : World} (hx : Cn .f32 x X) :
    Calls Try.prog 91 #[.float .f32 x] w (Rt fun v w' => (∃ r, v = .float .f32 r ∧ Cn .f32 r (szX X)) ∧ Ext0 w w') := by
  have B : Bu w no w [] := Bu.ro All.nil rfl
  refine calls_W (n := 10) Try.func91 rfl rfl (Nat.le_of_ble_eq_true rfl) ?_
  refine W_seq ?_
  refine W_region (by kernel_rfl) ?_
  refine s_y (v := .float .f32 0) rfl (y_assign rfl) ?_
  refine s_nil ?_
  refine W_seq ?_
  refine W_seq ?_
  refine W_region (by kernel_rfl) ?_
  refine s_y (v := .float .f32 x) rfl (y_move rfl) ?_
  by_cases c1 : flt .f32 X 0 = true
  · refine s_y (v := .bool true) rfl (y_flss rfl rfl (fltC hx (cnLit (k := .f32) (t := 0) (by kernel_rfl) (by kernel_rfl)) c1)) ?_
    refine s_nil ?_
    refine W_if_t (by decide) rfl ?_
    refine W_seq ?_
    refine W_region (by kernel_rfl) ?_
    refine s_y (v := .float .f32 x) rfl (y_move rfl) ?_
    refine s_y (v := .float .f32 (Op.negFloat .f32 x)) rfl (y_fneg rfl) ?_
    refine s_y (v := .float .f32 (Op.negFloat .f32 x)) rfl (y_assign rfl) ?_
    refine s_nil ?_
    refine W_ret ?_
    refine ret1 (v := .float .f32 (Op.negFloat .f32 x)) rfl rfl rfl ⟨_, rfl, ?_⟩
    exact ⟨⟨_, rfl, cnT (negC hx) (by simp [szX, *])⟩, B.ext⟩
  · refine s_y (v := .bool false) rfl (y_flss rfl rfl (fltC hx (cnLit (k := .f32) (t := 0) (by kernel_rfl) (by kernel_rfl)) (Bool.eq_false_iff.2 c1))) ?_
    refine s_nil ?_
    refine W_if_f (by decide) rfl ?_
    refine W_skip ?_
    refine W_seq ?_
    refine W_seq ?_
    refine W_region (by kernel_rfl) ?_
    refine s_y (v := .float .f32 x) rfl (y_move rfl) ?_
    by_cases c2 : feq .f32 X 0 = true
    · refine s_y (v := .bool true) rfl (y_feql rfl rfl (feqC hx (cnLit (k := .f32) (t := 0) (by kernel_rfl) (by kernel_rfl)) c2)) ?_
      refine s_nil ?_
      refine W_if_t (by decide) rfl ?_
      refine W_seq ?_
      refine W_region (by kernel_rfl) ?_
      refine s_y (v := .float .f32 0) rfl (y_assign rfl) ?_
      refine s_nil ?_
      refine W_ret ?_
      refine ret1 (v := .float .f32 0) rfl rfl rfl ⟨_, rfl, ?_⟩
      exact ⟨⟨_, rfl, cnT (cnLit (k := .f32) (t := 0) (by kernel_rfl) (by kernel_rfl)) (by simp [szX, *])⟩, B.ext⟩
    · refine s_y (v := .bool false) rfl (y_feql rfl rfl (feqC hx (cnLit (k := .f32) (t := 0) (by kernel_rfl) (by kernel_rfl)) (Bool.eq_false_iff.2 c2))) ?_
      refine s_nil ?_
      refine W_if_f (by decide) rfl ?_
      refine W_skip ?_
      refine W_seq ?_
      refine W_region (by kernel_rfl) ?_
      refine s_y (v := .float .f32 x) rfl (y_move rfl) ?_
      refine s_y (v := .float .f32 x) rfl (y_assign rfl) ?_
      refine s_nil ?_
      refine W_ret ?_
      refine ret1 (v := .float .f32 x) rfl rfl rfl ⟨_, rfl, ?_⟩
      exact ⟨⟨_, rfl, cnT hx (by simp [szX, *])⟩, B.ext⟩
namespace T94
theorem mx : Try.prog.follows .mixedOrders = true := by kernel_rfl
theorem fld_30_0_0 : fldB Try.prog 30 0 0 = true := by kernel_rfl
theorem fn_91 : fnB Try.prog 91 = true := by kernel_rfl
theorem one_24 : oneB Try.prog 24 = true := by kernel_rfl
theorem one_34 : oneB Try.prog 34 = true := by kernel_rfl
theorem sl_24_34_1 : slB Try.prog 24 34 1 = true := by kernel_rfl
end T94
set_option maxRecDepth 100000 in
set_option maxHeartbeats 4000000 in
theorem c_i_peakOf {afe : Option Addr} {nfe : Nat} {cfe : Nat} {Xfe : List Nat} {afx : Option Addr} {nfx : Nat} {cfx : Nat} {Xfx : List Nat} {afy : Option Addr} {nfy : Nat} {cfy : Nat} {Xfy : List Nat} {w : World} (qfe : Rd w kF afe nfe Xfe) (qfx : Rd w kF afx nfx Xfx) (qfy : Rd w kF afy nfy Xfy) (hbfe : nfe ≤ 9223372036854775806) :
    Calls Try.prog 94 #[.agg #[.slice afe nfe cfe, .slice afx nfx cfx, .slice afy nfy cfy]] w (Rt fun v w' => v = .int .i64 (peakI Xfe Xfe.length) ∧ Ext0 w w') := by
  have hlfe := qfe.len
  have hlfx := qfx.len
  have hlfy := qfy.len
  have B : Bu w no w [.rd kF afe nfe Xfe, .rd kF afx nfx Xfx, .rd kF afy nfy Xfy] := Bu.ro (All.cons qfe (All.cons qfx (All.cons qfy All.nil))) rfl
  refine calls_W (n := 35) Try.func94 rfl rfl (Nat.le_of_ble_eq_true rfl) ?_
  refine W_seq ?_
  refine W_region (by kernel_rfl) ?_
  refine s_k rfl (k_boxN (v := .agg #[.slice afe nfe cfe, .slice afx nfx cfx, .slice afy nfy cfy]) (cs := [.slice afe nfe cfe, .slice afx nfx cfx, .slice afy nfy cfy]) rfl rfl (fun b1 w2 hN3 => ?_))
  replace B := B.new1 hN3
  clear hN3
  refine s_y (v := .int .i64 0) rfl (y_assign rfl) ?_
  refine s_nil ?_
  refine W_seq ?_
  refine W_region (by kernel_rfl) ?_
  refine s_y (v := .int .i64 (-1)) rfl (y_assign rfl) ?_
  refine s_nil ?_
  refine W_seq ?_
  refine W_seq ?_
  refine W_region (by kernel_rfl) ?_
  refine s_y (v := .pointer (some ⟨b1, 0, none⟩)) rfl (y_fld (o := 0) T94.fld_30_0_0 rfl) ?_
  refine s_y (v := .slice afe nfe cfe) rfl (y_load T94.one_24 rfl ((B.b 0 rfl).cell (j := 0) rfl)) ?_
  refine s_y (v := .int .i64 ((nfe : Nat) : Int)) rfl (y_len T94.sl_24_34_1 rfl rfl) ?_
  refine s_y (v := .int .i64 0) rfl (y_move rfl) ?_
  refine s_nil ?_
  refine W_block ?_
  refine W_loop (fun ρ' w' => ∃ (ρ1 : Env) (k : Int) (b : Int), ρ' = updL ρ1 [(1, .pointer (some ⟨b1, 0, none⟩)), (2, .int .i64 0), (3, .int .i64 b), (7, .slice afe nfe cfe), (8, .int .i64 ((nfe : Nat) : Int)), (9, .int .i64 k)] ∧ Bu w no w' [.blk b1 [.slice afe nfe cfe, .slice afx nfx cfx, .slice afy nfy cfy] 30, .rd kF afe nfe Xfe, .rd kF afx nfx Xfx, .rd kF afy nfy Xfy] ∧ (0 ≤ k) ∧ (k ≤ (nfe : Int)) ∧ (-1 ≤ b) ∧ (b < k) ∧ (b = peakI Xfe k.toNat)) (fun ρ' _ => ((nfe : Int) - iv (ρ' 9)).toNat) ?_ ?_
  · exact ⟨_, 0, (-1), Fits.eq ⟨rfl, rfl, rfl, rfl, rfl, rfl, trivial⟩, B, (Int.le_refl _), (by omega), (by omega), (by omega), rfl⟩
  · clear B; rintro _ w4 ⟨ρ5, k, b, rfl, B, h0k, h1k, hb0, hb1, hq⟩
    refine W_seq ?_
    refine W_region (by kernel_rfl) ?_
    by_cases c6 : k < ((nfe : Nat) : Int)
    · refine s_y (v := .bool true) rfl (y_lss rfl rfl (decide_eq_true c6)) ?_
      refine s_nil ?_
      refine W_seq ?_
      refine W_if_t (by decide) rfl ?_
      refine W_skip ?_
      refine W_seq ?_
      refine W_block ?_
      refine W_seq ?_
      refine W_region (by kernel_rfl) ?_
      refine s_y (v := .int .i64 k) rfl (y_move rfl) ?_
      refine s_y (v := .pointer (some (sat afe ((k).toNat * 1)))) rfl (y_idx T94.sl_24_34_1 rfl rfl ((B.r 1 rfl).addr (by omega)) (by omega) (by omega)) ?_
      obtain ⟨r8, hr9, hR7⟩ := Rd.atF (B.r 1 rfl) k (by omega) (by omega)
      refine s_y (v := .float .f32 r8) rfl (y_load T94.one_34 rfl (hR7.cell (i := 0) rfl)) ?_
      refine s_y (v := .int .i64 k) rfl (y_assign rfl) ?_
      refine s_y (v := .float .f32 r8) rfl (y_assign rfl) ?_
      refine s_nil ?_
      refine W_seq ?_
      have B0_14 := B
      refine W_draw (no) T94.mx (by kernel_rfl) (fun w12 e13 => ?_)
      have R15 := Ext.refl (no) w4
      replace R15 := R15.trans (Ext0.any e13)
      replace B := B.ext0 e13
      clear e13
      refine m_y (v := .float .f32 r8) 0 rfl (by kernel_rfl) rfl rfl (fun w' e' => y_move rfl) ?_
      refine m_y (v := .float .f32 r8) 1 rfl (by kernel_rfl) rfl rfl (fun w' e' => y_move rfl) ?_
      by_cases c16 : feq .f32 (el Xfe k) (el Xfe k) = true
      · refine m_y (v := .bool true) 2 rfl (by kernel_rfl) rfl rfl (fun w' e' => y_feql rfl rfl (feqC hr9 hr9 c16)) ?_
        refine m_y (v := .bool true) 3 rfl (by kernel_rfl) rfl rfl (fun w' e' => y_move rfl) ?_
        refine m_y (v := .int .i64 b) 4 rfl (by kernel_rfl) rfl rfl (fun w' e' => y_move rfl) ?_
        by_cases c17 : b < 0
        · refine m_y (v := .bool true) 5 rfl (by kernel_rfl) rfl rfl (fun w' e' => y_lss rfl rfl (decide_eq_true c17)) ?_
          refine m_y (v := .bool true) 6 rfl (by kernel_rfl) rfl rfl (fun w' e' => y_move rfl) ?_
          refine m_skip 7 rfl (by kernel_rfl) rfl ?_
          refine m_skip 8 rfl (by kernel_rfl) rfl ?_
          refine m_skip 9 rfl (by kernel_rfl) rfl ?_
          refine m_skip 10 rfl (by kernel_rfl) rfl ?_
          refine m_skip 11 rfl (by kernel_rfl) rfl ?_
          refine m_skip 12 rfl (by kernel_rfl) rfl ?_
          refine m_skip 13 rfl (by kernel_rfl) rfl ?_
          refine m_skip 14 rfl (by kernel_rfl) rfl ?_
          refine m_skip 15 rfl (by kernel_rfl) rfl ?_
          refine m_y (v := .bool true) 16 rfl (by kernel_rfl) rfl rfl (fun w' e' => y_pick_t rfl rfl) ?_
          refine m_y (v := .bool true) 17 rfl (by kernel_rfl) rfl rfl (fun w' e' => y_pick_t rfl rfl) ?_
          refine m_done (by kernel_rfl) (fun w18 e19 => ?_)
          replace B := B.ext0 e19
          clear e19
          clear B0_14 R15
          refine W_if_t (by decide) rfl ?_
          refine W_region (by kernel_rfl) ?_
          refine s_y (v := .int .i64 k) rfl (y_move rfl) ?_
          refine s_y (v := .int .i64 k) rfl (y_assign rfl) ?_
          refine s_nil ?_
          refine W_region (by kernel_rfl) ?_
          refine s_y (v := .int .i64 (k + 1)) rfl (y_add rfl rfl rfl (by omega)) ?_
          refine s_y (v := .int .i64 (k + 1)) rfl (y_move rfl) ?_
          refine s_nil ?_
          refine ⟨⟨_, k + 1, k, Fits.eq ⟨rfl, rfl, rfl, rfl, rfl, rfl, trivial⟩, B, (by omega), (by omega), (by omega), (by omega), (peak_yes (by omega) hq (by simp only [Bool.false_or, (decide_eq_true c6), c16, (decide_eq_true c17), Bool.and_true, Bool.true_and, Bool.and_false, Bool.false_and, Bool.not_true, Bool.not_false, Bool.or_true, Bool.true_or, Bool.or_false, Bool.false_or]))⟩, ?_⟩
          show ((nfe : Int) - (k + 1)).toNat < ((nfe : Int) - k).toNat
          omega
        · refine m_y (v := .bool false) 5 rfl (by kernel_rfl) rfl rfl (fun w' e' => y_lss rfl rfl (decide_eq_false c17)) ?_
          refine m_y (v := .bool false) 6 rfl (by kernel_rfl) rfl rfl (fun w' e' => y_move rfl) ?_
          refine m_y (v := .float .f32 r8) 7 rfl (by kernel_rfl) rfl rfl (fun w' e' => y_move rfl) ?_
          refine m_y (v := .pointer (some ⟨b1, 0, none⟩)) 9 rfl (by kernel_rfl) rfl rfl (fun w' e' => y_fld (o := 0) T94.fld_30_0_0 rfl) ?_
          refine m_y (v := .slice afe nfe cfe) 10 rfl (by kernel_rfl) rfl rfl (fun w' e' => y_load T94.one_24 rfl (((B0_14.b 0 rfl).ext0 e').cell (j := 0) rfl)) ?_
          refine m_y (v := .int .i64 b) 11 rfl (by kernel_rfl) rfl rfl (fun w' e' => y_move rfl) ?_
          refine m_y (v := .pointer (some (sat afe ((b).toNat * 1)))) 12 rfl (by kernel_rfl) rfl rfl (fun w' e' => y_idx T94.sl_24_34_1 rfl rfl ((B.r 1 rfl).addr (by omega)) (by omega) (by omega)) ?_
          obtain ⟨r21, hr22, hR20⟩ := Rd.atF (B0_14.r 1 rfl) b (by omega) (by omega)
          refine m_y (v := .float .f32 r21) 13 rfl (by kernel_rfl) rfl rfl (fun w' e' => y_load T94.one_34 rfl ((hR20.ext0 e').cell (i := 0) rfl)) ?_
          refine m_k 8 [14, 15, 16, 17] rfl (by kernel_rfl) rfl rfl (fun w23 e24 => ?_)
          replace R15 := R15.trans (Ext0.any e24)
          replace B := B.ext0 e24
          clear e24
          refine k_call T94.fn_91 (c_i_size hr9) rfl ?_
          rintro _ w25 ⟨⟨r27, rfl, hr28⟩, e26⟩
          replace R15 := R15.trans (Ext0.any e26)
          replace B := B.ext0 e26
          clear e26
          refine ⟨fun _ => R15, ?_⟩
          refine m_k 14 [15, 16, 17] rfl (by kernel_rfl) rfl rfl (fun w29 e30 => ?_)
          replace R15 := R15.trans (Ext0.any e30)
          replace B := B.ext0 e30
          clear e30
          refine k_call T94.fn_91 (c_i_size hr22) rfl ?_
          rintro _ w31 ⟨⟨r33, rfl, hr34⟩, e32⟩
          replace R15 := R15.trans (Ext0.any e32)
          replace B := B.ext0 e32
          clear e32
          refine ⟨fun _ => R15, ?_⟩
          by_cases c35 : fgt .f32 (szX (el Xfe k)) (szX (el Xfe b)) = true
          · refine m_y (v := .bool true) 15 rfl (by kernel_rfl) rfl rfl (fun w' e' => y_fgtr rfl rfl (fgtC hr28 hr34 c35)) ?_
            refine m_y (v := .bool true) 16 rfl (by kernel_rfl) rfl rfl (fun w' e' => y_pick_f rfl rfl) ?_
            refine m_y (v := .bool true) 17 rfl (by kernel_rfl) rfl rfl (fun w' e' => y_pick_t rfl rfl) ?_
            refine m_done (by kernel_rfl) (fun w36 e37 => ?_)
            replace B := B.ext0 e37
            clear e37
            clear B0_14 R15
            refine W_if_t (by decide) rfl ?_
            refine W_region (by kernel_rfl) ?_
            refine s_y (v := .int .i64 k) rfl (y_move rfl) ?_
            refine s_y (v := .int .i64 k) rfl (y_assign rfl) ?_
            refine s_nil ?_
            refine W_region (by kernel_rfl) ?_
            refine s_y (v := .int .i64 (k + 1)) rfl (y_add rfl rfl rfl (by omega)) ?_
            refine s_y (v := .int .i64 (k + 1)) rfl (y_move rfl) ?_
            refine s_nil ?_
            refine ⟨⟨_, k + 1, k, Fits.eq ⟨rfl, rfl, rfl, rfl, rfl, rfl, trivial⟩, B, (by omega), (by omega), (by omega), (by omega), (peak_yes (by omega) hq (by simp only [Bool.false_or, (decide_eq_true c6), c16, (decide_eq_false c17), c35, Bool.and_true, Bool.true_and, Bool.and_false, Bool.false_and, Bool.not_true, Bool.not_false, Bool.or_true, Bool.true_or, Bool.or_false, Bool.false_or]))⟩, ?_⟩
            show ((nfe : Int) - (k + 1)).toNat < ((nfe : Int) - k).toNat
            omega
          · refine m_y (v := .bool false) 15 rfl (by kernel_rfl) rfl rfl (fun w' e' => y_fgtr rfl rfl (fgtC hr28 hr34 (Bool.eq_false_iff.2 c35))) ?_
            refine m_y (v := .bool false) 16 rfl (by kernel_rfl) rfl rfl (fun w' e' => y_pick_f rfl rfl) ?_
            refine m_y (v := .bool false) 17 rfl (by kernel_rfl) rfl rfl (fun w' e' => y_pick_t rfl rfl) ?_
            refine m_done (by kernel_rfl) (fun w38 e39 => ?_)
            replace B := B.ext0 e39
            clear e39
            clear B0_14 R15
            refine W_if_f (by decide) rfl ?_
            refine W_skip ?_
            refine W_region (by kernel_rfl) ?_
            refine s_y (v := .int .i64 (k + 1)) rfl (y_add rfl rfl rfl (by omega)) ?_
            refine s_y (v := .int .i64 (k + 1)) rfl (y_move rfl) ?_
            refine s_nil ?_
            refine ⟨⟨_, k + 1, b, Fits.eq ⟨rfl, rfl, rfl, rfl, rfl, rfl, trivial⟩, B, (by omega), (by omega), (by omega), (by omega), (peak_no (by omega) hq (by simp only [Bool.false_or, (decide_eq_true c6), c16, (decide_eq_false c17), (Bool.eq_false_iff.2 c35), Bool.and_true, Bool.true_and, Bool.and_false, Bool.false_and, Bool.not_true, Bool.not_false, Bool.or_true, Bool.true_or, Bool.or_false, Bool.false_or]))⟩, ?_⟩
            show ((nfe : Int) - (k + 1)).toNat < ((nfe : Int) - k).toNat
            omega
      · refine m_y (v := .bool false) 2 rfl (by kernel_rfl) rfl rfl (fun w' e' => y_feql rfl rfl (feqC hr9 hr9 (Bool.eq_false_iff.2 c16))) ?_
        refine m_y (v := .bool false) 3 rfl (by kernel_rfl) rfl rfl (fun w' e' => y_move rfl) ?_
        refine m_skip 4 rfl (by kernel_rfl) rfl ?_
        refine m_skip 5 rfl (by kernel_rfl) rfl ?_
        refine m_skip 6 rfl (by kernel_rfl) rfl ?_
        refine m_skip 7 rfl (by kernel_rfl) rfl ?_
        refine m_skip 8 rfl (by kernel_rfl) rfl ?_
        refine m_skip 9 rfl (by kernel_rfl) rfl ?_
        refine m_skip 10 rfl (by kernel_rfl) rfl ?_
        refine m_skip 11 rfl (by kernel_rfl) rfl ?_
        refine m_skip 12 rfl (by kernel_rfl) rfl ?_
        refine m_skip 13 rfl (by kernel_rfl) rfl ?_
        refine m_skip 14 rfl (by kernel_rfl) rfl ?_
        refine m_skip 15 rfl (by kernel_rfl) rfl ?_
        refine m_skip 16 rfl (by kernel_rfl) rfl ?_
        refine m_y (v := .bool false) 17 rfl (by kernel_rfl) rfl rfl (fun w' e' => y_pick_f rfl rfl) ?_
        refine m_done (by kernel_rfl) (fun w40 e41 => ?_)
        replace B := B.ext0 e41
        clear e41
        clear B0_14 R15
        refine W_if_f (by decide) rfl ?_
        refine W_skip ?_
        refine W_region (by kernel_rfl) ?_
        refine s_y (v := .int .i64 (k + 1)) rfl (y_add rfl rfl rfl (by omega)) ?_
        refine s_y (v := .int .i64 (k + 1)) rfl (y_move rfl) ?_
        refine s_nil ?_
        refine ⟨⟨_, k + 1, b, Fits.eq ⟨rfl, rfl, rfl, rfl, rfl, rfl, trivial⟩, B, (by omega), (by omega), (by omega), (by omega), (peak_no (by omega) hq (by simp only [Bool.false_or, (decide_eq_true c6), (Bool.eq_false_iff.2 c16), Bool.and_true, Bool.true_and, Bool.and_false, Bool.false_and, Bool.not_true, Bool.not_false, Bool.or_true, Bool.true_or, Bool.or_false, Bool.false_or]))⟩, ?_⟩
        show ((nfe : Int) - (k + 1)).toNat < ((nfe : Int) - k).toNat
        omega
    · refine s_y (v := .bool false) rfl (y_lss rfl rfl (decide_eq_false c6)) ?_
      refine s_nil ?_
      refine W_seq ?_
      refine W_if_f (by decide) rfl ?_
      refine W_exit ?_
      refine W_seq ?_
      refine W_region (by kernel_rfl) ?_
      refine s_y (v := .int .i64 b) rfl (y_move rfl) ?_
      refine s_y (v := .int .i64 b) rfl (y_assign rfl) ?_
      refine s_nil ?_
      refine W_ret ?_
      refine ret1 (v := .int .i64 b) rfl rfl rfl ⟨_, rfl, ?_⟩
      exact ⟨congrArg (Value.int .i64) (by rw [hq]; congr 1; omega), B.ext⟩
namespace T38
theorem mx : Try.prog.follows .mixedOrders = true := by kernel_rfl
theorem agg_26_5 : aggB Try.prog 26 5 = true := by kernel_rfl
theorem agg_30_3 : aggB Try.prog 30 3 = true := by kernel_rfl
theorem fld_30_0_0 : fldB Try.prog 30 0 0 = true := by kernel_rfl
theorem fn_41 : fnB Try.prog 41 = true := by kernel_rfl
theorem fn_94 : fnB Try.prog 94 = true := by kernel_rfl
theorem one_24 : oneB Try.prog 24 = true := by kernel_rfl
theorem one_34 : oneB Try.prog 34 = true := by kernel_rfl
theorem sl_24_34_1 : slB Try.prog 24 34 1 = true := by kernel_rfl
end T38
set_option maxRecDepth 100000 in
set_option maxHeartbeats 4000000 in
theorem c_i_PeakOf {wd : Int} {hi : Int} {wr : Bool} {asp : Option Addr} {nsp : Nat} {csp : Nat} {Xsp : List Nat} {als : Option Addr} {nls : Nat} {cls : Nat} {Xls : List Nat} {afe : Option Addr} {nfe : Nat} {cfe : Nat} {Xfe : List Nat} {afx : Option Addr} {nfx : Nat} {cfx : Nat} {Xfx : List Nat} {afy : Option Addr} {nfy : Nat} {cfy : Nat} {Xfy : List Nat} {w : World} (qsp : Rd w kF asp nsp Xsp) (qls : Rd w kF als nls Xls) (qfe : Rd w kF afe nfe Xfe) (qfx : Rd w kF afx nfx Xfx) (qfy : Rd w kF afy nfy Xfy) (hbsp : nsp ≤ 9223372036854775806) (hbls : nls ≤ 9223372036854775806) (hbfe : nfe ≤ 9223372036854775806) (hbfx : nfx ≤ 9223372036854775806) (hbfy : nfy ≤ 9223372036854775806) :
    Calls Try.prog 38 #[.agg #[.int .i64 wd, .int .i64 hi, .bool wr, .slice asp nsp csp, .slice als nls cls], .agg #[.slice afe nfe cfe, .slice afx nfx cfx, .slice afy nfy cfy]] w (Rt fun v w' => (peakB wd hi wr Xsp Xls Xfe Xfx Xfy = true ∧ ∃ (r1 : Nat), v = .tuple #[.int .i64 (peakI Xfe Xfe.length), .float .f32 r1, .bool true] ∧ Cn .f32 r1 (el Xfe (peakI Xfe Xfe.length)) ∧ Ext0 w w') ∨ (peakB wd hi wr Xsp Xls Xfe Xfx Xfy = false ∧ v = .tuple #[.int .i64 0, .float .f32 0, .bool false] ∧ Ext0 w w')) := by
  have hlsp := qsp.len
  have hlls := qls.len
  have hlfe := qfe.len
  have hlfx := qfx.len
  have hlfy := qfy.len
  have B : Bu w no w [.rd kF asp nsp Xsp, .rd kF als nls Xls, .rd kF afe nfe Xfe, .rd kF afx nfx Xfx, .rd kF afy nfy Xfy] := Bu.ro (All.cons qsp (All.cons qls (All.cons qfe (All.cons qfx (All.cons qfy All.nil))))) rfl
  refine calls_W (n := 24) Try.func38 rfl rfl (Nat.le_of_ble_eq_true rfl) ?_
  refine W_seq ?_
  refine W_region (by kernel_rfl) ?_
  refine s_k rfl (k_boxN (v := .agg #[.int .i64 wd, .int .i64 hi, .bool wr, .slice asp nsp csp, .slice als nls cls]) (cs := [.int .i64 wd, .int .i64 hi, .bool wr, .slice asp nsp csp, .slice als nls cls]) rfl rfl (fun b1 w2 hN3 => ?_))
  replace B := B.new1 hN3
  clear hN3
  refine s_k rfl (k_boxN (v := .agg #[.slice afe nfe cfe, .slice afx nfx cfx, .slice afy nfy cfy]) (cs := [.slice afe nfe cfe, .slice afx nfx cfx, .slice afy nfy cfy]) rfl rfl (fun b4 w5 hN6 => ?_))
  replace B := B.new1 hN6
  clear hN6
  refine s_y (v := .int .i64 0) rfl (y_assign rfl) ?_
  refine s_y (v := .float .f32 0) rfl (y_assign rfl) ?_
  refine s_y (v := .bool false) rfl (y_assign rfl) ?_
  refine s_nil ?_
  refine W_seq ?_
  refine W_region (by kernel_rfl) ?_
  refine s_y (v := .agg #[.slice afe nfe cfe, .slice afx nfx cfx, .slice afy nfy cfy]) rfl (y_loadn (b := b4) (o := 0) (vs := [.slice afe nfe cfe, .slice afx nfx cfx, .slice afy nfy cfy]) T38.agg_30_3 rfl rfl ((B.b 0 rfl).cells (o := 0) rfl)) ?_
  refine s_k rfl (k_call T38.fn_94 (c_i_peakOf (B.r 4 rfl) (B.r 5 rfl) (B.r 6 rfl) (by omega)) rfl ?_)
  rintro _ w7 ⟨rfl, e8⟩
  replace B := B.ext0 e8
  clear e8
  have hpk9 := peakI_b Xfe (List.length Xfe)
  refine s_y (v := .int .i64 (peakI Xfe Xfe.length)) rfl (y_assign rfl) ?_
  refine s_nil ?_
  refine W_seq ?_
  refine W_seq ?_
  refine W_region (by kernel_rfl) ?_
  refine s_y (v := .agg #[.int .i64 wd, .int .i64 hi, .bool wr, .slice asp nsp csp, .slice als nls cls]) rfl (y_loadn (b := b1) (o := 0) (vs := [.int .i64 wd, .int .i64 hi, .bool wr, .slice asp nsp csp, .slice als nls cls]) T38.agg_26_5 rfl rfl ((B.b 1 rfl).cells (o := 0) rfl)) ?_
  refine s_y (v := .agg #[.slice afe nfe cfe, .slice afx nfx cfx, .slice afy nfy cfy]) rfl (y_loadn (b := b4) (o := 0) (vs := [.slice afe nfe cfe, .slice afx nfx cfx, .slice afy nfy cfy]) T38.agg_30_3 rfl rfl ((B.b 0 rfl).cells (o := 0) rfl)) ?_
  refine s_k rfl (k_call T38.fn_41 (c_i_IsField (B.r 2 rfl) (B.r 3 rfl) (B.r 4 rfl) (B.r 5 rfl) (B.r 6 rfl) (by omega) (by omega) (by omega) (by omega) (by omega)) rfl ?_)
  rintro v12 w10 ⟨hv13, e11⟩
  replace B := B.ext0 e11
  clear e11
  by_cases c14 : fieldB wd hi wr Xsp Xls Xfe Xfx Xfy = true
  · have hb15 := fieldB_b c14
    obtain rfl : v12 = .bool true := hv13.trans (congrArg Value.bool c14)
    refine s_y (v := .bool false) rfl (y_not rfl rfl) ?_
    refine s_y (v := .bool false) rfl (y_move rfl) ?_
    refine s_y (v := .int .i64 (peakI Xfe Xfe.length)) rfl (y_move rfl) ?_
    by_cases c16 : (peakI Xfe Xfe.length) < 0
    · refine s_y (v := .bool true) rfl (y_lss rfl rfl (decide_eq_true c16)) ?_
      refine s_y (v := .bool true) rfl (y_pick_f rfl rfl) ?_
      refine s_nil ?_
      refine W_if_t (by decide) rfl ?_
      refine W_seq ?_
      refine W_region (by kernel_rfl) ?_
      refine s_y (v := .int .i64 0) rfl (y_assign rfl) ?_
      refine s_y (v := .float .f32 0) rfl (y_assign rfl) ?_
      refine s_y (v := .bool false) rfl (y_assign rfl) ?_
      refine s_nil ?_
      refine W_ret ?_
      refine ret3 (v1 := .int .i64 0) (v2 := .float .f32 0) (v3 := .bool false) rfl rfl rfl rfl rfl rfl rfl ⟨_, rfl, ?_⟩
      exact .inr ⟨by simp only [peakB, c14, (decide_eq_true c16), Bool.and_true, Bool.true_and, Bool.false_and, Bool.and_false, decide_eq_true_eq, decide_eq_false_iff_not, Bool.and_true, Bool.true_and, Bool.and_false, Bool.false_and, Bool.not_true, Bool.not_false, Bool.or_true, Bool.true_or, Bool.or_false, Bool.false_or] <;> omega, rfl, B.ext⟩
    · refine s_y (v := .bool false) rfl (y_lss rfl rfl (decide_eq_false c16)) ?_
      refine s_y (v := .bool false) rfl (y_pick_f rfl rfl) ?_
      refine s_nil ?_
      refine W_if_f (by decide) rfl ?_
      refine W_skip ?_
      refine W_seq ?_
      have B0_21 := B
      refine W_draw (no) T38.mx (by kernel_rfl) (fun w19 e20 => ?_)
      have R22 := Ext.refl (no) w10
      replace R22 := R22.trans (Ext0.any e20)
      replace B := B.ext0 e20
      clear e20
      refine m_y (v := .int .i64 (peakI Xfe Xfe.length)) 0 rfl (by kernel_rfl) rfl rfl (fun w' e' => y_move rfl) ?_
      refine m_y (v := .pointer (some ⟨b4, 0, none⟩)) 1 rfl (by kernel_rfl) rfl rfl (fun w' e' => y_fld (o := 0) T38.fld_30_0_0 rfl) ?_
      refine m_y (v := .slice afe nfe cfe) 2 rfl (by kernel_rfl) rfl rfl (fun w' e' => y_load T38.one_24 rfl (((B0_21.b 0 rfl).ext0 e').cell (j := 0) rfl)) ?_
      refine m_y (v := .int .i64 (peakI Xfe Xfe.length)) 3 rfl (by kernel_rfl) rfl rfl (fun w' e' => y_move rfl) ?_
      refine m_y (v := .pointer (some (sat afe ((peakI Xfe Xfe.length).toNat * 1)))) 4 rfl (by kernel_rfl) rfl rfl (fun w' e' => y_idx T38.sl_24_34_1 rfl rfl ((B.r 4 rfl).addr (by omega)) (by omega) (by omega)) ?_
      obtain ⟨r24, hr25, hR23⟩ := Rd.atF (B0_21.r 4 rfl) (peakI Xfe Xfe.length) (by omega) (by omega)
      refine m_y (v := .float .f32 r24) 5 rfl (by kernel_rfl) rfl rfl (fun w' e' => y_load T38.one_34 rfl ((hR23.ext0 e').cell (i := 0) rfl)) ?_
      refine m_y (v := .int .i64 (peakI Xfe Xfe.length)) 6 rfl (by kernel_rfl) rfl rfl (fun w' e' => y_assign rfl) ?_
      refine m_y (v := .float .f32 r24) 7 rfl (by kernel_rfl) rfl rfl (fun w' e' => y_assign rfl) ?_
      refine m_y (v := .bool true) 8 rfl (by kernel_rfl) rfl rfl (fun w' e' => y_assign rfl) ?_
      refine m_done (by kernel_rfl) (fun w26 e27 => ?_)
      replace B := B.ext0 e27
      clear e27
      clear B0_21 R22
      refine W_ret ?_
      refine ret3 (v1 := .int .i64 (peakI Xfe Xfe.length)) (v2 := .float .f32 r24) (v3 := .bool true) rfl rfl rfl rfl rfl rfl rfl ⟨_, rfl, ?_⟩
      have hcond : peakB wd hi wr Xsp Xls Xfe Xfx Xfy = true := by simp only [peakB, c14, (decide_eq_false c16), Bool.and_true, Bool.true_and, Bool.false_and, Bool.and_false, decide_eq_true_eq, decide_eq_false_iff_not, Bool.and_true, Bool.true_and, Bool.and_false, Bool.false_and, Bool.not_true, Bool.not_false, Bool.or_true, Bool.true_or, Bool.or_false, Bool.false_or] <;> omega
      exact .inl ⟨hcond, ⟨_, rfl, hr25, B.ext⟩⟩
  · obtain rfl : v12 = .bool false := hv13.trans (congrArg Value.bool (Bool.eq_false_iff.2 c14))
    refine s_y (v := .bool true) rfl (y_not rfl rfl) ?_
    refine s_y (v := .bool true) rfl (y_move rfl) ?_
    refine s_skip rfl ?_
    refine s_skip rfl ?_
    refine s_y (v := .bool true) rfl (y_pick_t rfl rfl) ?_
    refine s_nil ?_
    refine W_if_t (by decide) rfl ?_
    refine W_seq ?_
    refine W_region (by kernel_rfl) ?_
    refine s_y (v := .int .i64 0) rfl (y_assign rfl) ?_
    refine s_y (v := .float .f32 0) rfl (y_assign rfl) ?_
    refine s_y (v := .bool false) rfl (y_assign rfl) ?_
    refine s_nil ?_
    refine W_ret ?_
    refine ret3 (v1 := .int .i64 0) (v2 := .float .f32 0) (v3 := .bool false) rfl rfl rfl rfl rfl rfl rfl ⟨_, rfl, ?_⟩
    exact .inr ⟨by simp only [peakB, (Bool.eq_false_iff.2 c14), Bool.and_true, Bool.true_and, Bool.false_and, Bool.and_false, decide_eq_true_eq, decide_eq_false_iff_not, Bool.and_true, Bool.true_and, Bool.and_false, Bool.false_and, Bool.not_true, Bool.not_false, Bool.or_true, Bool.true_or, Bool.or_false, Bool.false_or], rfl, B.ext⟩
namespace T132
theorem mx : Try.prog.follows .mixedOrders = true := by kernel_rfl
theorem flt_53_f64 : Try.prog.underlying 53 = some (.float .f64) := by kernel_rfl
theorem one_34 : oneB Try.prog 34 = true := by kernel_rfl
theorem sl_24_34_1 : slB Try.prog 24 34 1 = true := by kernel_rfl
theorem und_34 : (Try.prog.underlying 34).isSome = true := by kernel_rfl
end T132
set_option maxRecDepth 100000 in
set_option maxHeartbeats 4000000 in
theorem c_i_squares {s0 : Nat} {S0 : Nat} {aa : Option Addr} {na : Nat} {ca : Nat} {Xa : List Nat} {w : World} (hs0 : Cn .f64 s0 S0) (qa : Rd w kF aa na Xa) (hb : na ≤ 9223372036854775806) :
    Calls Try.prog 132 #[.float .f64 s0, .slice aa na ca] w (Rt fun v w' => (∃ r, v = .float .f64 r ∧ Cn .f64 r (sqT S0 Xa na)) ∧ Ext0 w w') := by
  have hla := qa.len
  have B : Bu w no w [.rd kF aa na Xa] := Bu.ro (All.cons qa All.nil) rfl
  refine calls_W (n := 22) Try.func132 rfl rfl (Nat.le_of_ble_eq_true rfl) ?_
  refine W_seq ?_
  refine W_region (by kernel_rfl) ?_
  refine s_y (v := .float .f64 0) rfl (y_assign rfl) ?_
  refine s_nil ?_
  refine W_seq ?_
  refine W_seq ?_
  refine W_region (by kernel_rfl) ?_
  refine s_y (v := .slice aa na ca) rfl (y_move rfl) ?_
  refine s_y (v := .int .i64 ((na : Nat) : Int)) rfl (y_len T132.sl_24_34_1 rfl rfl) ?_
  refine s_y (v := .int .i64 0) rfl (y_move rfl) ?_
  refine s_nil ?_
  refine W_block ?_
  refine W_loop (fun ρ' w' => ∃ (ρ1 : Env) (k : Int) (r : Nat), ρ' = updL ρ1 [(0, .float .f64 r), (4, .float .f64 0), (7, .slice aa na ca), (8, .int .i64 ((na : Nat) : Int)), (9, .int .i64 k)] ∧ Bu w no w' [.rd kF aa na Xa] ∧ (0 ≤ k) ∧ (k ≤ (na : Int)) ∧ (Cn .f64 r (sqT S0 Xa (Int.toNat k)))) (fun ρ' _ => ((na : Int) - iv (ρ' 9)).toNat) ?_ ?_
  · exact ⟨_, 0, s0, Fits.eq ⟨rfl, rfl, rfl, rfl, rfl, trivial⟩, B, (Int.le_refl _), (by omega), hs0⟩
  · clear B; rintro _ w1 ⟨ρ2, k, r, rfl, B, h0k, h1k, hr⟩
    refine W_seq ?_
    refine W_region (by kernel_rfl) ?_
    by_cases c3 : k < ((na : Nat) : Int)
    · refine s_y (v := .bool true) rfl (y_lss rfl rfl (decide_eq_true c3)) ?_
      refine s_nil ?_
      refine W_seq ?_
      refine W_if_t (by decide) rfl ?_
      refine W_skip ?_
      refine W_seq ?_
      refine W_block ?_
      refine W_seq ?_
      refine W_region (by kernel_rfl) ?_
      refine s_y (v := .pointer (some (sat aa ((k).toNat * 1)))) rfl (y_idx T132.sl_24_34_1 rfl rfl ((B.r 0 rfl).addr (by omega)) (by omega) (by omega)) ?_
      obtain ⟨r5, hr6, hR4⟩ := Rd.atF (B.r 0 rfl) k (by omega) (by omega)
      refine s_y (v := .float .f32 r5) rfl (y_load T132.one_34 rfl (hR4.cell (i := 0) rfl)) ?_
      refine s_y (v := .float .f32 r5) rfl (y_assign rfl) ?_
      refine s_nil ?_
      refine W_region (by kernel_rfl) ?_
      refine s_y (v := .float .f64 r) rfl (y_move rfl) ?_
      refine s_y (v := .float .f32 r5) rfl (y_move rfl) ?_
      refine s_n rfl (n_wide T132.und_34 T132.flt_53_f64 rfl) ?_
      rintro _ w9 e10 ⟨r7, rfl, hr8⟩
      replace B := B.ext0 e10
      clear e10
      have hc11 := wideC hr8 hr6
      refine s_y (v := .float .f32 r5) rfl (y_move rfl) ?_
      refine s_n rfl (n_wide T132.und_34 T132.flt_53_f64 rfl) ?_
      rintro _ w14 e15 ⟨r12, rfl, hr13⟩
      replace B := B.ext0 e15
      clear e15
      have hc16 := wideC hr13 hr6
      refine s_n rfl (n_arith (by decide) rfl rfl) ?_
      rintro _ w20 e21 ⟨r18, rfl, hr19⟩
      replace B := B.ext0 e21
      clear e21
      have hc22 := fopC hr19 hc11 hc16
      refine s_n rfl (n_arith (by decide) rfl rfl) ?_
      rintro _ w26 e27 ⟨r24, rfl, hr25⟩
      replace B := B.ext0 e27
      clear e27
      have hc28 := fopC hr25 hr hc22
      refine s_y (v := .float .f64 r24) rfl (y_assign rfl) ?_
      refine s_nil ?_
      refine W_region (by kernel_rfl) ?_
      refine s_y (v := .int .i64 (k + 1)) rfl (y_add rfl rfl rfl (by omega)) ?_
      refine s_y (v := .int .i64 (k + 1)) rfl (y_move rfl) ?_
      refine s_nil ?_
      refine ⟨⟨_, k + 1, r24, Fits.eq ⟨rfl, rfl, rfl, rfl, rfl, trivial⟩, B, (by omega), (by omega), (cnT hc28 (sqT_next h0k))⟩, ?_⟩
      show ((na : Int) - (k + 1)).toNat < ((na : Int) - k).toNat
      omega
    · refine s_y (v := .bool false) rfl (y_lss rfl rfl (decide_eq_false c3)) ?_
      refine s_nil ?_
      refine W_seq ?_
      refine W_if_f (by decide) rfl ?_
      refine W_exit ?_
      refine W_seq ?_
      refine W_region (by kernel_rfl) ?_
      refine s_y (v := .float .f64 r) rfl (y_move rfl) ?_
      refine s_y (v := .float .f64 r) rfl (y_assign rfl) ?_
      refine s_nil ?_
      refine W_ret ?_
      refine ret1 (v := .float .f64 r) rfl rfl rfl ⟨_, rfl, ?_⟩
      exact ⟨⟨_, rfl, cnT hr (congrArg (sqT S0 Xa) (by omega))⟩, B.ext⟩
namespace T95
theorem mx : Try.prog.follows .mixedOrders = true := by kernel_rfl
theorem fld_30_0_0 : fldB Try.prog 30 0 0 = true := by kernel_rfl
theorem fld_30_1_1 : fldB Try.prog 30 1 1 = true := by kernel_rfl
theorem fld_30_2_2 : fldB Try.prog 30 2 2 = true := by kernel_rfl
theorem flt_34_f32 : Try.prog.underlying 34 = some (.float .f32) := by kernel_rfl
theorem fn_132 : fnB Try.prog 132 = true := by kernel_rfl
theorem one_24 : oneB Try.prog 24 = true := by kernel_rfl
theorem und_53 : (Try.prog.underlying 53).isSome = true := by kernel_rfl
end T95
set_option maxRecDepth 100000 in
set_option maxHeartbeats 4000000 in
theorem c_i_energyOf {afe : Option Addr} {nfe : Nat} {cfe : Nat} {Xfe : List Nat} {afx : Option Addr} {nfx : Nat} {cfx : Nat} {Xfx : List Nat} {afy : Option Addr} {nfy : Nat} {cfy : Nat} {Xfy : List Nat} {w : World} (qfe : Rd w kF afe nfe Xfe) (qfx : Rd w kF afx nfx Xfx) (qfy : Rd w kF afy nfy Xfy) (hbfe : nfe ≤ 9223372036854775806) (hbfx : nfx ≤ 9223372036854775806) (hbfy : nfy ≤ 9223372036854775806) (hok : okN (enT Xfe Xfx Xfy) = true) :
    Calls Try.prog 95 #[.agg #[.slice afe nfe cfe, .slice afx nfx cfx, .slice afy nfy cfy]] w (Rt fun v w' => (∃ r, v = .float .f32 r ∧ Cn .f32 r (narrow (enT Xfe Xfx Xfy))) ∧ Ext0 w w') := by
  have hlfe := qfe.len
  have hlfx := qfx.len
  have hlfy := qfy.len
  have B : Bu w no w [.rd kF afe nfe Xfe, .rd kF afx nfx Xfx, .rd kF afy nfy Xfy] := Bu.ro (All.cons qfe (All.cons qfx (All.cons qfy All.nil))) rfl
  have hen : enT Xfe Xfx Xfy = sqT (sqT (sqT 0 Xfe nfe) Xfx nfx) Xfy nfy := by unfold enT; rw [hlfe, hlfx, hlfy]
  refine calls_W (n := 13) Try.func95 rfl rfl (Nat.le_of_ble_eq_true rfl) ?_
  refine W_seq ?_
  refine W_region (by kernel_rfl) ?_
  refine s_k rfl (k_boxN (v := .agg #[.slice afe nfe cfe, .slice afx nfx cfx, .slice afy nfy cfy]) (cs := [.slice afe nfe cfe, .slice afx nfx cfx, .slice afy nfy cfy]) rfl rfl (fun b1 w2 hN3 => ?_))
  replace B := B.new1 hN3
  clear hN3
  refine s_y (v := .float .f32 0) rfl (y_assign rfl) ?_
  refine s_nil ?_
  refine W_seq ?_
  have B0_8 := B
  refine W_draw (no) T95.mx (by kernel_rfl) (fun w6 e7 => ?_)
  have R9 := Ext.refl (no) w2
  replace R9 := R9.trans (Ext0.any e7)
  replace B := B.ext0 e7
  clear e7
  refine m_y (v := .pointer (some ⟨b1, 0, none⟩)) 0 rfl (by kernel_rfl) rfl rfl (fun w' e' => y_fld (o := 0) T95.fld_30_0_0 rfl) ?_
  refine m_y (v := .slice afe nfe cfe) 1 rfl (by kernel_rfl) rfl rfl (fun w' e' => y_load T95.one_24 rfl (((B0_8.b 0 rfl).ext0 e').cell (j := 0) rfl)) ?_
  refine m_y (v := .pointer (some ⟨b1, 1, none⟩)) 3 rfl (by kernel_rfl) rfl rfl (fun w' e' => y_fld (o := 0) T95.fld_30_1_1 rfl) ?_
  refine m_y (v := .slice afx nfx cfx) 4 rfl (by kernel_rfl) rfl rfl (fun w' e' => y_load T95.one_24 rfl (((B0_8.b 0 rfl).ext0 e').cell (j := 1) rfl)) ?_
  refine m_y (v := .pointer (some ⟨b1, 2, none⟩)) 6 rfl (by kernel_rfl) rfl rfl (fun w' e' => y_fld (o := 0) T95.fld_30_2_2 rfl) ?_
  refine m_y (v := .slice afy nfy cfy) 7 rfl (by kernel_rfl) rfl rfl (fun w' e' => y_load T95.one_24 rfl (((B0_8.b 0 rfl).ext0 e').cell (j := 2) rfl)) ?_
  refine m_k 2 [5, 8, 9, 10] rfl (by kernel_rfl) rfl rfl (fun w10 e11 => ?_)
  replace R9 := R9.trans (Ext0.any e11)
  replace B := B.ext0 e11
  clear e11
  refine k_call T95.fn_132 (c_i_squares (cnLit (k := .f64) (t := 0) (by kernel_rfl) (by kernel_rfl)) (B.r 1 rfl) (by omega)) rfl ?_
  rintro _ w12 ⟨⟨r14, rfl, hr15⟩, e13⟩
  replace R9 := R9.trans (Ext0.any e13)
  replace B := B.ext0 e13
  clear e13
  refine ⟨fun _ => R9, ?_⟩
  refine m_k 5 [8, 9, 10] rfl (by kernel_rfl) rfl rfl (fun w16 e17 => ?_)
  replace R9 := R9.trans (Ext0.any e17)
  replace B := B.ext0 e17
  clear e17
  refine k_call T95.fn_132 (c_i_squares hr15 (B.r 2 rfl) (by omega)) rfl ?_
  rintro _ w18 ⟨⟨r20, rfl, hr21⟩, e19⟩
  replace R9 := R9.trans (Ext0.any e19)
  replace B := B.ext0 e19
  clear e19
  refine ⟨fun _ => R9, ?_⟩
  refine m_k 8 [9, 10] rfl (by kernel_rfl) rfl rfl (fun w22 e23 => ?_)
  replace R9 := R9.trans (Ext0.any e23)
  replace B := B.ext0 e23
  clear e23
  refine k_call T95.fn_132 (c_i_squares hr21 (B.r 3 rfl) (by omega)) rfl ?_
  rintro _ w24 ⟨⟨r26, rfl, hr27⟩, e25⟩
  replace R9 := R9.trans (Ext0.any e25)
  replace B := B.ext0 e25
  clear e25
  refine ⟨fun _ => R9, ?_⟩
  refine m_n 9 [10] rfl (by kernel_rfl) rfl rfl (fun w' e' => n_narrow T95.und_53 T95.flt_34_f32 rfl hr27 (hen ▸ hok)) ?_
  rintro _ ⟨r28, rfl, hr29⟩
  refine m_y (v := .float .f32 r28) 10 rfl (by kernel_rfl) rfl rfl (fun w' e' => y_assign rfl) ?_
  refine m_done (by kernel_rfl) (fun w32 e33 => ?_)
  replace B := B.ext0 e33
  clear e33
  clear B0_8 R9
  refine W_ret ?_
  refine ret1 (v := .float .f32 r28) rfl rfl rfl ⟨_, rfl, ?_⟩
  exact ⟨⟨_, rfl, cnT hr29 (congrArg narrow hen.symm)⟩, B.ext⟩
namespace T39
theorem mx : Try.prog.follows .mixedOrders = true := by kernel_rfl
theorem agg_26_5 : aggB Try.prog 26 5 = true := by kernel_rfl
theorem agg_30_3 : aggB Try.prog 30 3 = true := by kernel_rfl
theorem fn_41 : fnB Try.prog 41 = true := by kernel_rfl
theorem fn_95 : fnB Try.prog 95 = true := by kernel_rfl
end T39
set_option maxRecDepth 100000 in
set_option maxHeartbeats 4000000 in
theorem c_i_EnergyOf {wd : Int} {hi : Int} {wr : Bool} {asp : Option Addr} {nsp : Nat} {csp : Nat} {Xsp : List Nat} {als : Option Addr} {nls : Nat} {cls : Nat} {Xls : List Nat} {afe : Option Addr} {nfe : Nat} {cfe : Nat} {Xfe : List Nat} {afx : Option Addr} {nfx : Nat} {cfx : Nat} {Xfx : List Nat} {afy : Option Addr} {nfy : Nat} {cfy : Nat} {Xfy : List Nat} {w : World} (qsp : Rd w kF asp nsp Xsp) (qls : Rd w kF als nls Xls) (qfe : Rd w kF afe nfe Xfe) (qfx : Rd w kF afx nfx Xfx) (qfy : Rd w kF afy nfy Xfy) (hbsp : nsp ≤ 9223372036854775806) (hbls : nls ≤ 9223372036854775806) (hbfe : nfe ≤ 9223372036854775806) (hbfx : nfx ≤ 9223372036854775806) (hbfy : nfy ≤ 9223372036854775806) (hok : okN (enT Xfe Xfx Xfy) = true) :
    Calls Try.prog 39 #[.agg #[.int .i64 wd, .int .i64 hi, .bool wr, .slice asp nsp csp, .slice als nls cls], .agg #[.slice afe nfe cfe, .slice afx nfx cfx, .slice afy nfy cfy]] w (Rt fun v w' => (fieldB wd hi wr Xsp Xls Xfe Xfx Xfy = true ∧ ∃ (r1 : Nat), v = .tuple #[.float .f32 r1, .bool true] ∧ Cn .f32 r1 (narrow (enT Xfe Xfx Xfy)) ∧ Ext0 w w') ∨ (fieldB wd hi wr Xsp Xls Xfe Xfx Xfy = false ∧ v = .tuple #[.float .f32 0, .bool false] ∧ Ext0 w w')) := by
  have hlsp := qsp.len
  have hlls := qls.len
  have hlfe := qfe.len
  have hlfx := qfx.len
  have hlfy := qfy.len
  have B : Bu w no w [.rd kF asp nsp Xsp, .rd kF als nls Xls, .rd kF afe nfe Xfe, .rd kF afx nfx Xfx, .rd kF afy nfy Xfy] := Bu.ro (All.cons qsp (All.cons qls (All.cons qfe (All.cons qfx (All.cons qfy All.nil))))) rfl
  refine calls_W (n := 12) Try.func39 rfl rfl (Nat.le_of_ble_eq_true rfl) ?_
  refine W_seq ?_
  refine W_region (by kernel_rfl) ?_
  refine s_k rfl (k_boxN (v := .agg #[.int .i64 wd, .int .i64 hi, .bool wr, .slice asp nsp csp, .slice als nls cls]) (cs := [.int .i64 wd, .int .i64 hi, .bool wr, .slice asp nsp csp, .slice als nls cls]) rfl rfl (fun b1 w2 hN3 => ?_))
  replace B := B.new1 hN3
  clear hN3
  refine s_k rfl (k_boxN (v := .agg #[.slice afe nfe cfe, .slice afx nfx cfx, .slice afy nfy cfy]) (cs := [.slice afe nfe cfe, .slice afx nfx cfx, .slice afy nfy cfy]) rfl rfl (fun b4 w5 hN6 => ?_))
  replace B := B.new1 hN6
  clear hN6
  refine s_y (v := .float .f32 0) rfl (y_assign rfl) ?_
  refine s_y (v := .bool false) rfl (y_assign rfl) ?_
  refine s_nil ?_
  refine W_seq ?_
  refine W_seq ?_
  refine W_region (by kernel_rfl) ?_
  refine s_y (v := .agg #[.int .i64 wd, .int .i64 hi, .bool wr, .slice asp nsp csp, .slice als nls cls]) rfl (y_loadn (b := b1) (o := 0) (vs := [.int .i64 wd, .int .i64 hi, .bool wr, .slice asp nsp csp, .slice als nls cls]) T39.agg_26_5 rfl rfl ((B.b 1 rfl).cells (o := 0) rfl)) ?_
  refine s_y (v := .agg #[.slice afe nfe cfe, .slice afx nfx cfx, .slice afy nfy cfy]) rfl (y_loadn (b := b4) (o := 0) (vs := [.slice afe nfe cfe, .slice afx nfx cfx, .slice afy nfy cfy]) T39.agg_30_3 rfl rfl ((B.b 0 rfl).cells (o := 0) rfl)) ?_
  refine s_k rfl (k_call T39.fn_41 (c_i_IsField (B.r 2 rfl) (B.r 3 rfl) (B.r 4 rfl) (B.r 5 rfl) (B.r 6 rfl) (by omega) (by omega) (by omega) (by omega) (by omega)) rfl ?_)
  rintro v9 w7 ⟨hv10, e8⟩
  replace B := B.ext0 e8
  clear e8
  by_cases c11 : fieldB wd hi wr Xsp Xls Xfe Xfx Xfy = true
  · have hb12 := fieldB_b c11
    obtain rfl : v9 = .bool true := hv10.trans (congrArg Value.bool c11)
    refine s_y (v := .bool false) rfl (y_not rfl rfl) ?_
    refine s_nil ?_
    refine W_if_f (by decide) rfl ?_
    refine W_skip ?_
    refine W_seq ?_
    refine W_region (by kernel_rfl) ?_
    refine s_y (v := .agg #[.slice afe nfe cfe, .slice afx nfx cfx, .slice afy nfy cfy]) rfl (y_loadn (b := b4) (o := 0) (vs := [.slice afe nfe cfe, .slice afx nfx cfx, .slice afy nfy cfy]) T39.agg_30_3 rfl rfl ((B.b 0 rfl).cells (o := 0) rfl)) ?_
    refine s_k rfl (k_call T39.fn_95 (c_i_energyOf (B.r 4 rfl) (B.r 5 rfl) (B.r 6 rfl) (by omega) (by omega) (by omega) hok) rfl ?_)
    rintro _ w13 ⟨⟨r15, rfl, hr16⟩, e14⟩
    replace B := B.ext0 e14
    clear e14
    refine s_y (v := .float .f32 r15) rfl (y_assign rfl) ?_
    refine s_y (v := .bool true) rfl (y_assign rfl) ?_
    refine s_nil ?_
    refine W_ret ?_
    refine ret2 (v1 := .float .f32 r15) (v2 := .bool true) rfl rfl rfl rfl rfl ⟨_, rfl, ?_⟩
    have hcond : fieldB wd hi wr Xsp Xls Xfe Xfx Xfy = true := by simp only [c11, Bool.and_true, Bool.true_and, Bool.and_false, Bool.false_and, Bool.not_true, Bool.not_false, Bool.or_true, Bool.true_or, Bool.or_false, Bool.false_or]
    exact .inl ⟨hcond, ⟨_, rfl, hr16, B.ext⟩⟩
  · obtain rfl : v9 = .bool false := hv10.trans (congrArg Value.bool (Bool.eq_false_iff.2 c11))
    refine s_y (v := .bool true) rfl (y_not rfl rfl) ?_
    refine s_nil ?_
    refine W_if_t (by decide) rfl ?_
    refine W_seq ?_
    refine W_region (by kernel_rfl) ?_
    refine s_y (v := .float .f32 0) rfl (y_assign rfl) ?_
    refine s_y (v := .bool false) rfl (y_assign rfl) ?_
    refine s_nil ?_
    refine W_ret ?_
    refine ret2 (v1 := .float .f32 0) (v2 := .bool false) rfl rfl rfl rfl rfl ⟨_, rfl, ?_⟩
    exact .inr ⟨by simp only [(Bool.eq_false_iff.2 c11), Bool.and_true, Bool.true_and, Bool.and_false, Bool.false_and, Bool.not_true, Bool.not_false, Bool.or_true, Bool.true_or, Bool.or_false, Bool.false_or], rfl, B.ext⟩
namespace T96
theorem mx : Try.prog.follows .mixedOrders = true := by kernel_rfl
theorem one_34 : oneB Try.prog 34 = true := by kernel_rfl
end T96
set_option maxRecDepth 100000 in
set_option maxHeartbeats 4000000 in
theorem c_i_ScaleField_1 {r : Nat} {R : Nat} {r2 : Nat} {R2 : Nat} {b : Nat} {s : Nat} {S : Nat} {w : World} (h1 : Cn .f32 r R) (h2 : Cn .f32 r2 R2) (hs : Cn .f32 s S) (Pb : Sl w (some ⟨b, 0, none⟩) [.float .f32 s]) :
    Calls Try.prog 96 #[.float .f32 r, .float .f32 r2, .pointer (some ⟨b, 0, none⟩)] w (Rt fun v w' => (∃ r, v = .float .f32 r ∧ Cn .f32 r (fop .mul .f32 R S)) ∧ Ext0 w w') := by
  have B : Bu w no w [.sl (some ⟨b, 0, none⟩) [.float .f32 s]] := Bu.ro (All.cons Pb All.nil) rfl
  refine calls_W (n := 9) Try.func96 rfl rfl (Nat.le_of_ble_eq_true rfl) ?_
  refine W_seq ?_
  refine W_region (by kernel_rfl) ?_
  refine s_y (v := .float .f32 0) rfl (y_assign rfl) ?_
  refine s_nil ?_
  refine W_seq ?_
  refine W_region (by kernel_rfl) ?_
  refine s_y (v := .float .f32 r) rfl (y_move rfl) ?_
  refine s_y (v := .float .f32 s) rfl (y_load T96.one_34 rfl ((B.s 0 rfl).cell (j := 0) rfl)) ?_
  refine s_n rfl (n_arith (by decide) rfl rfl) ?_
  rintro _ w4 e5 ⟨r2, rfl, hr3⟩
  replace B := B.ext0 e5
  clear e5
  have hc6 := fopC hr3 h1 hs
  refine s_y (v := .float .f32 r2) rfl (y_assign rfl) ?_
  refine s_nil ?_
  refine W_ret ?_
  refine ret1 (v := .float .f32 r2) rfl rfl rfl ⟨_, rfl, ?_⟩
  exact ⟨⟨_, rfl, hc6⟩, B.ext⟩
end Go.Proofs.Ytgohmocjjmkepaa
