/- Walks: what the functions under FnCones do (part 4). Printed by a program of this claim's author. -/
import Derived.Test.YtgohmocjjmkepaaConesW2
set_option linter.unusedSimpArgs false
set_option linter.unusedVariables false
open Go.Wv
namespace Go.Proofs.Ytgohmocjjmkepaa
open Go.Proofs
namespace T79
theorem mx : Try.prog.follows .mixedOrders = true := by kernel_rfl
theorem agg_30_3 : aggB Try.prog 30 3 = true := by kernel_rfl
theorem fld_26_0_0 : fldB Try.prog 26 0 0 = true := by kernel_rfl
theorem fld_26_1_1 : fldB Try.prog 26 1 1 = true := by kernel_rfl
theorem fld_26_2_2 : fldB Try.prog 26 2 2 = true := by kernel_rfl
theorem fld_30_0_0 : fldB Try.prog 30 0 0 = true := by kernel_rfl
theorem fld_30_1_1 : fldB Try.prog 30 1 1 = true := by kernel_rfl
theorem fld_30_2_2 : fldB Try.prog 30 2 2 = true := by kernel_rfl
theorem flt_34_f32 : Try.prog.underlying 34 = some (.float .f32) := by kernel_rfl
theorem fn_120 : fnB Try.prog 120 = true := by kernel_rfl
theorem fn_121 : fnB Try.prog 121 = true := by kernel_rfl
theorem fn_122 : fnB Try.prog 122 = true := by kernel_rfl
theorem fn_123 : fnB Try.prog 123 = true := by kernel_rfl
theorem fn_124 : fnB Try.prog 124 = true := by kernel_rfl
theorem fn_81 : fnB Try.prog 81 = true := by kernel_rfl
theorem fn_92 : fnB Try.prog 92 = true := by kernel_rfl
theorem fn_93 : fnB Try.prog 93 = true := by kernel_rfl
theorem fn_99 : fnB Try.prog 99 = true := by kernel_rfl
theorem one_2 : oneB Try.prog 2 = true := by kernel_rfl
theorem one_24 : oneB Try.prog 24 = true := by kernel_rfl
theorem one_4 : oneB Try.prog 4 = true := by kernel_rfl
theorem sl_24_34_1 : slB Try.prog 24 34 1 = true := by kernel_rfl
theorem sz_30_3 : szB Try.prog 30 3 = true := by kernel_rfl
theorem sz_34_1 : szB Try.prog 34 1 = true := by kernel_rfl
theorem und_2 : (Try.prog.underlying 2).isSome = true := by kernel_rfl
theorem zero_30 : zeroB Try.prog 30 (.agg #[.slice none 0 0, .slice none 0 0, .slice none 0 0]) := by unfold zeroB; kernel_rfl
end T79
set_option maxRecDepth 100000 in
set_option maxHeartbeats 4000000 in
theorem c_s_l02DrawField {bs : Nat} {b : Nat} {o : Nat} {wd : Int} {hi : Int} {wr : Bool} {asp : Option Addr} {nsp : Nat} {csp : Nat} {Xsp : List Nat} {als : Option Addr} {nls : Nat} {cls : Nat} {Xls : List Nat} {aq : Option Addr} {nq cq : Nat} {Xq : List Nat} {p : Int} {w : World} (h1 : 3 ≤ wd) (h2 : wd ≤ 16) (h3 : 3 ≤ hi) (h4 : hi ≤ 16) (hp0 : 0 ≤ p) (hp1 : p ≤ 1000) (hv : validS wd hi Xsp Xls = true) (hbsp : nsp ≤ 9223372036854775806) (hbls : nls ≤ 9223372036854775806) (HA : All w [.blk bs [.slice aq nq cq, .int .i64 p, .int .u64 (sdY Xq p)] 131, .rd kF asp nsp Xsp, .rd kF als nls Xls, .sl (some ⟨b, o, none⟩) [.int .i64 wd, .int .i64 hi, .bool wr, .slice asp nsp csp, .slice als nls cls], .rd kY aq nq Xq]) (HP : Pw [.blk bs [.slice aq nq cq, .int .i64 p, .int .u64 (sdY Xq p)] 131, .rd kF asp nsp Xsp, .rd kF als nls Xls, .sl (some ⟨b, o, none⟩) [.int .i64 wd, .int .i64 hi, .bool wr, .slice asp nsp csp, .slice als nls cls], .rd kY aq nq Xq]) :
    Calls Try.prog 79 #[.pointer (some ⟨bs, 0, none⟩), .pointer (some ⟨b, o, none⟩)] w (Rt fun v w' => ∃ (pe : Int) (a1 : Option Addr) (n1 : Nat) (c1 : Nat) (X1 : List Nat) (a2 : Option Addr) (n2 : Nat) (c2 : Nat) (X2 : List Nat) (a3 : Option Addr) (n3 : Nat) (c3 : Nat) (X3 : List Nat), v = .agg #[.slice a1 n1 c1, .slice a2 n2 c2, .slice a3 n3 c3] ∧ fieldB wd hi wr Xsp Xls X1 X2 X3 = true ∧ Upd w w' [.blk bs [.slice aq nq cq, .int .i64 p, .int .u64 (sdY Xq p)] 131] [.blk bs [.slice aq nq cq, .int .i64 pe, .int .u64 (sdY Xq pe)] 131, .ow kF a1 n1 c1 34 X1, .ow kF a2 n2 c2 34 X2, .ow kF a3 n3 c3 34 X3]) := by
  have B : Bu w (hasW [.blk bs [.slice aq nq cq, .int .i64 p, .int .u64 (sdY Xq p)] 131]) w [.blk bs [.slice aq nq cq, .int .i64 p, .int .u64 (sdY Xq p)] 131, .rd kF asp nsp Xsp, .rd kF als nls Xls, .sl (some ⟨b, o, none⟩) [.int .i64 wd, .int .i64 hi, .bool wr, .slice asp nsp csp, .slice als nls cls], .rd kY aq nq Xq] := Bu.initW (W := [.blk bs [.slice aq nq cq, .int .i64 p, .int .u64 (sdY Xq p)] 131]) (R := [.rd kF asp nsp Xsp, .rd kF als nls Xls, .sl (some ⟨b, o, none⟩) [.int .i64 wd, .int .i64 hi, .bool wr, .slice asp nsp csp, .slice als nls cls], .rd kY aq nq Xq]) HA HP rfl
  have hlsp := (B.r 1 rfl).len
  have hlls := (B.r 2 rfl).len
  have hlq := (B.r 4 rfl).len
  have hwh := mul16 (And.intro (And.intro h1 h2) (And.intro h3 h4))
  refine calls_W (n := 143) Try.func79 rfl rfl (Nat.le_of_ble_eq_true rfl) ?_
  refine W_seq ?_
  refine W_region (by kernel_rfl) ?_
  refine s_k rfl (k_allocN (z := (.agg #[.slice none 0 0, .slice none 0 0, .slice none 0 0])) (cs := [.slice none 0 0, .slice none 0 0, .slice none 0 0]) T79.zero_30 rfl (fun b1 w2 hN3 => ?_))
  replace B := B.new1 hN3
  clear hN3
  refine s_nil ?_
  refine W_seq ?_
  have B0_8 := B
  refine W_draw (no) T79.mx (by kernel_rfl) (fun w6 e7 => ?_)
  have R9 := Ext.refl (no) w2
  replace R9 := R9.trans (Ext0.any e7)
  replace B := B.ext0 e7
  clear e7
  refine m_y (v := .pointer (some ⟨b, o, none⟩)) 0 rfl (by kernel_rfl) rfl rfl (fun w' e' => y_move rfl) ?_
  refine m_y (v := .pointer (some ⟨b, o, none⟩)) 1 rfl (by kernel_rfl) rfl rfl (fun w' e' => y_nil rfl) ?_
  refine m_y (v := .pointer (some ⟨b, o, none⟩)) 2 rfl (by kernel_rfl) rfl rfl (fun w' e' => y_fld (o := o + 0) T79.fld_26_0_0 rfl) ?_
  refine m_y (v := .int .i64 wd) 3 rfl (by kernel_rfl) rfl rfl (fun w' e' => y_load T79.one_2 rfl (((B0_8.s 4 rfl).ext0 e').cell (j := 0) rfl)) ?_
  refine m_y (v := .pointer (some ⟨b, o, none⟩)) 5 rfl (by kernel_rfl) rfl rfl (fun w' e' => y_move rfl) ?_
  refine m_y (v := .pointer (some ⟨b, o, none⟩)) 6 rfl (by kernel_rfl) rfl rfl (fun w' e' => y_nil rfl) ?_
  refine m_y (v := .pointer (some ⟨b, o + 1, none⟩)) 7 rfl (by kernel_rfl) rfl rfl (fun w' e' => y_fld (o := o + 0) T79.fld_26_1_1 rfl) ?_
  refine m_y (v := .int .i64 hi) 8 rfl (by kernel_rfl) rfl rfl (fun w' e' => y_load T79.one_2 rfl (((B0_8.s 4 rfl).ext0 e').cell (j := 1) rfl)) ?_
  refine m_k 4 [9, 10, 11, 12, 13] rfl (by kernel_rfl) rfl rfl (fun w10 e11 => ?_)
  replace R9 := R9.trans (Ext0.any e11)
  replace B := B.ext0 e11
  clear e11
  refine k_call T79.fn_121 (c_s_l00Min) rfl ?_
  rintro _ w12 ⟨rfl, e13⟩
  replace R9 := R9.trans (Ext0.any e13)
  replace B := B.ext0 e13
  clear e13
  refine ⟨fun _ => R9, ?_⟩
  rw [show (min 17 wd : Int) = wd by omega]
  refine m_k 9 [10, 11, 12, 13] rfl (by kernel_rfl) rfl rfl (fun w14 e15 => ?_)
  replace R9 := R9.trans (Ext0.any e15)
  replace B := B.ext0 e15
  clear e15
  refine k_call T79.fn_121 (c_s_l00Min) rfl ?_
  rintro _ w16 ⟨rfl, e17⟩
  replace R9 := R9.trans (Ext0.any e17)
  replace B := B.ext0 e17
  clear e17
  refine ⟨fun _ => R9, ?_⟩
  rw [show (min 17 hi : Int) = hi by omega]
  have hm18 := mulb (a := wd) (b := hi) (by omega) (by omega) (by omega) (by omega)
  refine m_y (v := .int .i64 (wd * hi)) 10 rfl (by kernel_rfl) rfl rfl (fun w' e' => y_mul rfl rfl rfl (by omega)) ?_
  refine m_k 11 [12, 13] rfl (by kernel_rfl) rfl rfl (fun w19 e20 => ?_)
  replace R9 := R9.trans (Ext0.any e20)
  replace B := B.ext0 e20
  clear e20
  refine k_call T79.fn_121 (c_s_l00Min) rfl ?_
  rintro _ w21 ⟨rfl, e22⟩
  replace R9 := R9.trans (Ext0.any e22)
  replace B := B.ext0 e22
  clear e22
  refine ⟨fun _ => R9, ?_⟩
  rw [show (min 289 (wd * hi) : Int) = wd * hi by omega]
  refine m_k 12 [13] rfl (by kernel_rfl) rfl rfl (fun w23 e24 => ?_)
  replace R9 := R9.trans (Ext0.any e24)
  replace B := B.ext0 e24
  clear e24
  refine k_call T79.fn_120 (c_s_l00Max) rfl ?_
  rintro _ w25 ⟨rfl, e26⟩
  replace R9 := R9.trans (Ext0.any e26)
  replace B := B.ext0 e26
  clear e26
  refine ⟨fun _ => R9, ?_⟩
  rw [show (max 0 (wd * hi) : Int) = wd * hi by omega]
  refine m_y (v := .int .i64 (wd * hi)) 13 rfl (by kernel_rfl) rfl rfl (fun w' e' => y_assign rfl) ?_
  refine m_done (by kernel_rfl) (fun w27 e28 => ?_)
  replace B := B.ext0 e28
  clear e28
  clear B0_8 R9
  refine W_seq ?_
  refine W_region (by kernel_rfl) ?_
  refine s_y (v := .int .i64 (wd * hi)) rfl (y_move rfl) ?_
  refine s_k rfl (k_call T79.fn_92 (c_s_l02Zero (by omega) (by omega)) rfl ?_)
  rintro _ w29 ⟨a30, c31, a32, c33, a34, c35, rfl, hN36⟩
  replace B := B.new3 hN36
  clear hN36
  refine s_k rfl (k_allocN (z := (.agg #[.slice none 0 0, .slice none 0 0, .slice none 0 0])) (cs := [.slice none 0 0, .slice none 0 0, .slice none 0 0]) T79.zero_30 rfl (fun b37 w38 hN39 => ?_))
  replace B := B.new1 hN39
  clear hN39
  refine s_k0 rfl (k_stB (v := .agg #[.slice a30 (Int.toNat (wd * hi)) c31, .slice a32 (Int.toNat (wd * hi)) c33, .slice a34 (Int.toNat (wd * hi)) c35]) (n := 3) (cs' := [.slice a30 (Int.toNat (wd * hi)) c31, .slice a32 (Int.toNat (wd * hi)) c33, .slice a34 (Int.toNat (wd * hi)) c35]) T79.sz_30_3 rfl rfl rfl (B.b 0 rfl) (by simp [Value.cells, Value.oneCell']) (Nat.le_of_ble_eq_true rfl) rfl (fun w40 hU41 => ?_))
  replace B : Bu w (hasW [.blk bs [.slice aq nq cq, .int .i64 p, .int .u64 (sdY Xq p)] 131]) w40 [.blk b37 [.slice a30 (Int.toNat (wd * hi)) c31, .slice a32 (Int.toNat (wd * hi)) c33, .slice a34 (Int.toNat (wd * hi)) c35] 30, .ow kF a30 (Int.toNat (wd * hi)) c31 34 (List.replicate (Int.toNat (wd * hi)) 0), .ow kF a32 (Int.toNat (wd * hi)) c33 34 (List.replicate (Int.toNat (wd * hi)) 0), .ow kF a34 (Int.toNat (wd * hi)) c35 34 (List.replicate (Int.toNat (wd * hi)) 0), .blk b1 [.slice none 0 0, .slice none 0 0, .slice none 0 0] 30, .blk bs [.slice aq nq cq, .int .i64 p, .int .u64 (sdY Xq p)] 131, .rd kF asp nsp Xsp, .rd kF als nls Xls, .sl (some ⟨b, o, none⟩) [.int .i64 wd, .int .i64 hi, .bool wr, .slice asp nsp csp, .slice als nls cls], .rd kY aq nq Xq] := B.upd [0] rfl hU41
  clear hU41
  refine s_nil ?_
  refine W_seq ?_
  refine W_region (by kernel_rfl) ?_
  refine s_y (v := .pointer (some ⟨bs, 0, none⟩)) rfl (y_move rfl) ?_
  refine s_k rfl (k_call T79.fn_81 (c_s_pick (by omega) (by omega) (by omega) (by omega) (B.all.pick [5, 9] rfl) (B.pw.pick [5, 9] rfl rfl)) rfl ?_)
  rintro _ w42 ⟨v44, rfl, hp45, hU43⟩
  replace B : Bu w (hasW [.blk bs [.slice aq nq cq, .int .i64 p, .int .u64 (sdY Xq p)] 131]) w42 [.blk bs [.slice aq nq cq, .int .i64 (p + 1), .int .u64 (sdY Xq (p + 1))] 131, .blk b37 [.slice a30 (Int.toNat (wd * hi)) c31, .slice a32 (Int.toNat (wd * hi)) c33, .slice a34 (Int.toNat (wd * hi)) c35] 30, .ow kF a30 (Int.toNat (wd * hi)) c31 34 (List.replicate (Int.toNat (wd * hi)) 0), .ow kF a32 (Int.toNat (wd * hi)) c33 34 (List.replicate (Int.toNat (wd * hi)) 0), .ow kF a34 (Int.toNat (wd * hi)) c35 34 (List.replicate (Int.toNat (wd * hi)) 0), .blk b1 [.slice none 0 0, .slice none 0 0, .slice none 0 0] 30, .rd kF asp nsp Xsp, .rd kF als nls Xls, .sl (some ⟨b, o, none⟩) [.int .i64 wd, .int .i64 hi, .bool wr, .slice asp nsp csp, .slice als nls cls], .rd kY aq nq Xq] := B.upd [5] rfl hU43
  clear hU43
  have hb46 := pk_b Xq (n := 4) p (by omega)
  rw [← hp45] at hb46
  refine s_y (v := .int .i64 v44) rfl (y_assign rfl) ?_
  refine s_nil ?_
  refine W_seq ?_
  refine W_seq ?_
  refine W_region (by kernel_rfl) ?_
  refine s_y (v := .int .i64 0) rfl (y_assign rfl) ?_
  refine s_nil ?_
  refine W_block ?_
  refine W_loop (fun ρ' w' => ∃ (ρ1 : Env) (k : Int) (q : Int) (zE : List Nat) (zX : List Nat) (zY : List Nat), ρ' = updL ρ1 [(0, .pointer (some ⟨bs, 0, none⟩)), (1, .pointer (some ⟨b, o, none⟩)), (4, .pointer (some ⟨b1, 0, none⟩)), (5, .int .i64 (wd * hi)), (6, .pointer (some ⟨b37, 0, none⟩)), (7, .int .i64 v44), (8, .int .i64 k)] ∧ Bu w (hasW [.blk bs [.slice aq nq cq, .int .i64 p, .int .u64 (sdY Xq p)] 131]) w' [.ow kF a30 (Int.toNat (wd * hi)) c31 34 zE, .ow kF a32 (Int.toNat (wd * hi)) c33 34 zX, .ow kF a34 (Int.toNat (wd * hi)) c35 34 zY, .blk bs [.slice aq nq cq, .int .i64 q, .int .u64 (sdY Xq q)] 131, .blk b37 [.slice a30 (Int.toNat (wd * hi)) c31, .slice a32 (Int.toNat (wd * hi)) c33, .slice a34 (Int.toNat (wd * hi)) c35] 30, .blk b1 [.slice none 0 0, .slice none 0 0, .slice none 0 0] 30, .rd kF asp nsp Xsp, .rd kF als nls Xls, .sl (some ⟨b, o, none⟩) [.int .i64 wd, .int .i64 hi, .bool wr, .slice asp nsp csp, .slice als nls cls], .rd kY aq nq Xq] ∧ (0 ≤ k) ∧ (k ≤ wd * hi) ∧ (p + 1 ≤ q) ∧ (q ≤ p + 1 + 40 * k) ∧ (zE.length = Int.toNat (wd * hi)) ∧ (zX.length = Int.toNat (wd * hi)) ∧ (zY.length = Int.toNat (wd * hi))) (fun ρ' _ => (wd * hi - iv (ρ' 8)).toNat) ?_ ?_
  · exact ⟨_, 0, p + 1, _, _, _, Fits.eq ⟨rfl, rfl, rfl, rfl, rfl, rfl, rfl, trivial⟩, (B.pick [2, 3, 4, 0, 1, 5, 6, 7, 8, 9] rfl rfl), (Int.le_refl _), (by omega), (Int.le_refl _), (by omega), (by simp), (by simp), (by simp)⟩
  · clear B; rintro _ w47 ⟨ρ48, k, q, zE, zX, zY, rfl, B, h0k, h1k, hq0, hq1, hzE, hzX, hzY⟩
    refine W_seq ?_
    refine W_seq ?_
    refine W_region (by kernel_rfl) ?_
    refine s_y (v := .int .i64 k) rfl (y_move rfl) ?_
    refine s_y (v := .int .i64 (wd * hi)) rfl (y_move rfl) ?_
    by_cases c49 : k < (wd * hi)
    · refine s_y (v := .bool true) rfl (y_lss rfl rfl (decide_eq_true c49)) ?_
      refine s_nil ?_
      refine W_if_t (by decide) rfl ?_
      refine W_skip ?_
      refine W_seq ?_
      refine W_block ?_
      refine W_seq ?_
      refine W_seq ?_
      refine W_region (by kernel_rfl) ?_
      refine s_y (v := .int .i64 v44) rfl (y_move rfl) ?_
      by_cases c50 : v44 = 0
      · refine s_y (v := .bool true) rfl (y_eql rfl rfl (decide_eq_true c50)) ?_
        refine s_y (v := .bool true) rfl (y_move rfl) ?_
        refine s_y (v := .pointer (some ⟨bs, 0, none⟩)) rfl (y_move rfl) ?_
        refine s_k rfl (k_call T79.fn_99 (c_s_one (by omega) (by omega) (by omega) (by omega) (B.all.pick [3, 9] rfl) (B.pw.pick [3, 9] rfl rfl)) rfl ?_)
        rintro _ w51 ⟨vb53, rfl, hp54, hU52⟩
        replace B : Bu w (hasW [.blk bs [.slice aq nq cq, .int .i64 p, .int .u64 (sdY Xq p)] 131]) w51 [.blk bs [.slice aq nq cq, .int .i64 (q + 1), .int .u64 (sdY Xq (q + 1))] 131, .ow kF a30 (Int.toNat (wd * hi)) c31 34 zE, .ow kF a32 (Int.toNat (wd * hi)) c33 34 zX, .ow kF a34 (Int.toNat (wd * hi)) c35 34 zY, .blk b37 [.slice a30 (Int.toNat (wd * hi)) c31, .slice a32 (Int.toNat (wd * hi)) c33, .slice a34 (Int.toNat (wd * hi)) c35] 30, .blk b1 [.slice none 0 0, .slice none 0 0, .slice none 0 0] 30, .rd kF asp nsp Xsp, .rd kF als nls Xls, .sl (some ⟨b, o, none⟩) [.int .i64 wd, .int .i64 hi, .bool wr, .slice asp nsp csp, .slice als nls cls], .rd kY aq nq Xq] := B.upd [3] rfl hU52
        clear hU52
        refine s_y (v := .bool (!vb53)) rfl (y_not rfl rfl) ?_
        refine s_y (v := .bool (!vb53)) rfl (y_pick_t rfl rfl) ?_
        refine s_nil ?_
        cases vb53
        · refine W_if_t (by decide) rfl ?_
          refine W_exit ?_
          refine W_region (by kernel_rfl) ?_
          refine s_y (v := .int .i64 k) rfl (y_move rfl) ?_
          refine s_y (v := .int .i64 (k + 1)) rfl (y_add rfl rfl rfl (by omega)) ?_
          refine s_y (v := .int .i64 (k + 1)) rfl (y_assign rfl) ?_
          refine s_nil ?_
          refine ⟨⟨_, k + 1, q + 1, _, _, _, Fits.eq ⟨rfl, rfl, rfl, rfl, rfl, rfl, rfl, trivial⟩, (B.pick [1, 2, 3, 0, 4, 5, 6, 7, 8, 9] rfl rfl), (by omega), (by omega), (by omega), (by omega), (by first | exact hzE | (simp only [put_length]; exact hzE)), (by first | exact hzX | (simp only [put_length]; exact hzX)), (by first | exact hzY | (simp only [put_length]; exact hzY))⟩, ?_⟩
          show (wd * hi - (k + 1)).toNat < (wd * hi - k).toNat
          omega
        · refine W_if_f (by decide) rfl ?_
          refine W_skip ?_
          refine W_seq ?_
          have B0_59 := B
          refine W_draw (at1 bs) T79.mx (by kernel_rfl) (fun w57 e58 => ?_)
          have R60 := Ext.refl (at1 bs) w51
          replace R60 := R60.trans (Ext0.any e58)
          replace B := B.ext0 e58
          clear e58
          refine m_y (v := .pointer (some ⟨b37, 0, none⟩)) 0 rfl (by kernel_rfl) rfl rfl (fun w' e' => y_fld (o := 0) T79.fld_30_0_0 rfl) ?_
          refine m_y (v := .slice a30 (Int.toNat (wd * hi)) c31) 1 rfl (by kernel_rfl) rfl rfl (fun w' e' => y_load T79.one_24 rfl ((B0_59.bx 4 0 rfl rfl rfl rfl e' (fun _ h => h)).cell (j := 0) rfl)) ?_
          refine m_y (v := .int .i64 k) 2 rfl (by kernel_rfl) rfl rfl (fun w' e' => y_move rfl) ?_
          refine m_y (v := .pointer (some ⟨bs, 0, none⟩)) 3 rfl (by kernel_rfl) rfl rfl (fun w' e' => y_move rfl) ?_
          refine m_k 4 [5, 6, 7, 8, 9] rfl (by kernel_rfl) rfl rfl (fun w61 e62 => ?_)
          replace R60 := R60.trans (Ext0.any e62)
          replace B := B.ext0 e62
          clear e62
          refine k_call T79.fn_81 (c_s_pick (by omega) (by omega) (by omega) (by omega) (B.all.pick [0, 9] rfl) (B.pw.pick [0, 9] rfl rfl)) rfl ?_
          rintro _ w63 ⟨v65, rfl, hp66, hU64⟩
          replace R60 := R60.trans hU64.at1
          replace B : Bu w (hasW [.blk bs [.slice aq nq cq, .int .i64 p, .int .u64 (sdY Xq p)] 131]) w63 [.blk bs [.slice aq nq cq, .int .i64 ((q + 1) + 1), .int .u64 (sdY Xq ((q + 1) + 1))] 131, .ow kF a30 (Int.toNat (wd * hi)) c31 34 zE, .ow kF a32 (Int.toNat (wd * hi)) c33 34 zX, .ow kF a34 (Int.toNat (wd * hi)) c35 34 zY, .blk b37 [.slice a30 (Int.toNat (wd * hi)) c31, .slice a32 (Int.toNat (wd * hi)) c33, .slice a34 (Int.toNat (wd * hi)) c35] 30, .blk b1 [.slice none 0 0, .slice none 0 0, .slice none 0 0] 30, .rd kF asp nsp Xsp, .rd kF als nls Xls, .sl (some ⟨b, o, none⟩) [.int .i64 wd, .int .i64 hi, .bool wr, .slice asp nsp csp, .slice als nls cls], .rd kY aq nq Xq] := B.upd [0] rfl hU64
          clear hU64
          refine ⟨fun _ => R60, ?_⟩
          have hb67 := pk_b Xq (n := 17) (q + 1) (by omega)
          rw [← hp66] at hb67
          refine m_y (v := .int .i64 (v65 - 8)) 5 rfl (by kernel_rfl) rfl rfl (fun w' e' => y_sub rfl rfl rfl (by omega)) ?_
          refine m_y (v := .float .f32 (FloatKind.nearest .f32 (v65 - 8))) 6 rfl (by kernel_rfl) rfl rfl (fun w' e' => y_if T79.und_2 T79.flt_34_f32 rfl) ?_
          refine m_n 7 [8, 9] rfl (by kernel_rfl) rfl rfl (fun w' e' => n_arith (by decide) rfl rfl) ?_
          rintro _ ⟨r69, rfl, hr70⟩
          have hc73 := fopC hr70 (cn_nearest .f32 (v65 - 8)) (cnLit (k := .f32) (t := 1082130432) (by kernel_rfl) (by kernel_rfl))
          refine m_y (v := .pointer (some (sat a30 ((k).toNat * 1)))) 8 rfl (by kernel_rfl) rfl rfl (fun w' e' => y_idx T79.sl_24_34_1 rfl rfl ((B.o 1 rfl).rd.addr (by omega)) (by omega) (by omega)) ?_
          refine m_kt 9 [] rfl (by kernel_rfl) rfl rfl (by kernel_rfl) (fun w76 e77 => ?_)
          replace R60 := R60.trans (Ext0.any e77)
          replace B := B.ext0 e77
          clear e77
          refine k_stO (k := kF) (i := k) (j := 0) (x' := fop .quo .f32 (FloatKind.nearest .f32 (v65 - 8)) 1082130432) (new := [.float .f32 r69]) T79.sz_34_1 rfl rfl rfl rfl rfl (by simp [Value.oneCell']) (by decide) (B.o 1 rfl) (by omega) (by omega) (by decide) (by rintro q ⟨_, rfl, _⟩; exact ⟨_, rfl, hc73⟩) (fun w74 hU75 => ?_)
          clear R60
          replace B : Bu w (hasW [.blk bs [.slice aq nq cq, .int .i64 p, .int .u64 (sdY Xq p)] 131]) w74 [.ow kF a30 (Int.toNat (wd * hi)) c31 34 (put zE k (fop .quo .f32 (FloatKind.nearest .f32 (v65 - 8)) 1082130432)), .blk bs [.slice aq nq cq, .int .i64 ((q + 1) + 1), .int .u64 (sdY Xq ((q + 1) + 1))] 131, .ow kF a32 (Int.toNat (wd * hi)) c33 34 zX, .ow kF a34 (Int.toNat (wd * hi)) c35 34 zY, .blk b37 [.slice a30 (Int.toNat (wd * hi)) c31, .slice a32 (Int.toNat (wd * hi)) c33, .slice a34 (Int.toNat (wd * hi)) c35] 30, .blk b1 [.slice none 0 0, .slice none 0 0, .slice none 0 0] 30, .rd kF asp nsp Xsp, .rd kF als nls Xls, .sl (some ⟨b, o, none⟩) [.int .i64 wd, .int .i64 hi, .bool wr, .slice asp nsp csp, .slice als nls cls], .rd kY aq nq Xq] := B.upd [1] rfl hU75
          clear hU75
          refine m_done (by kernel_rfl) (fun w78 e79 => ?_)
          replace B := B.ext0 e79
          clear e79
          clear B0_59
          refine W_seq ?_
          refine W_seq ?_
          refine W_region (by kernel_rfl) ?_
          refine s_y (v := .int .i64 v44) rfl (y_move rfl) ?_
          by_cases c80 : 1 < v44
          · refine s_y (v := .bool true) rfl (y_gtr rfl rfl (decide_eq_true c80)) ?_
            refine s_nil ?_
            refine W_if_t (by decide) rfl ?_
            refine W_seq ?_
            have B0_85 := B
            refine W_draw (at1 bs) T79.mx (by kernel_rfl) (fun w83 e84 => ?_)
            have R86 := Ext.refl (at1 bs) w78
            replace R86 := R86.trans (Ext0.any e84)
            replace B := B.ext0 e84
            clear e84
            refine m_y (v := .pointer (some ⟨b37, 1, none⟩)) 0 rfl (by kernel_rfl) rfl rfl (fun w' e' => y_fld (o := 0) T79.fld_30_1_1 rfl) ?_
            refine m_y (v := .slice a32 (Int.toNat (wd * hi)) c33) 1 rfl (by kernel_rfl) rfl rfl (fun w' e' => y_load T79.one_24 rfl ((B0_85.bx 4 1 rfl rfl rfl rfl e' (fun _ h => h)).cell (j := 1) rfl)) ?_
            refine m_y (v := .int .i64 k) 2 rfl (by kernel_rfl) rfl rfl (fun w' e' => y_move rfl) ?_
            refine m_y (v := .pointer (some ⟨bs, 0, none⟩)) 3 rfl (by kernel_rfl) rfl rfl (fun w' e' => y_move rfl) ?_
            refine m_k 4 [5, 6, 7, 8, 9] rfl (by kernel_rfl) rfl rfl (fun w87 e88 => ?_)
            replace R86 := R86.trans (Ext0.any e88)
            replace B := B.ext0 e88
            clear e88
            refine k_call T79.fn_81 (c_s_pick (by omega) (by omega) (by omega) (by omega) (B.all.pick [1, 9] rfl) (B.pw.pick [1, 9] rfl rfl)) rfl ?_
            rintro _ w89 ⟨v91, rfl, hp92, hU90⟩
            replace R86 := R86.trans hU90.at1
            replace B : Bu w (hasW [.blk bs [.slice aq nq cq, .int .i64 p, .int .u64 (sdY Xq p)] 131]) w89 [.blk bs [.slice aq nq cq, .int .i64 (((q + 1) + 1) + 1), .int .u64 (sdY Xq (((q + 1) + 1) + 1))] 131, .ow kF a30 (Int.toNat (wd * hi)) c31 34 (put zE k (fop .quo .f32 (FloatKind.nearest .f32 (v65 - 8)) 1082130432)), .ow kF a32 (Int.toNat (wd * hi)) c33 34 zX, .ow kF a34 (Int.toNat (wd * hi)) c35 34 zY, .blk b37 [.slice a30 (Int.toNat (wd * hi)) c31, .slice a32 (Int.toNat (wd * hi)) c33, .slice a34 (Int.toNat (wd * hi)) c35] 30, .blk b1 [.slice none 0 0, .slice none 0 0, .slice none 0 0] 30, .rd kF asp nsp Xsp, .rd kF als nls Xls, .sl (some ⟨b, o, none⟩) [.int .i64 wd, .int .i64 hi, .bool wr, .slice asp nsp csp, .slice als nls cls], .rd kY aq nq Xq] := B.upd [1] rfl hU90
            clear hU90
            refine ⟨fun _ => R86, ?_⟩
            have hb93 := pk_b Xq (n := 17) ((q + 1) + 1) (by omega)
            rw [← hp92] at hb93
            refine m_y (v := .int .i64 (v91 - 8)) 5 rfl (by kernel_rfl) rfl rfl (fun w' e' => y_sub rfl rfl rfl (by omega)) ?_
            refine m_y (v := .float .f32 (FloatKind.nearest .f32 (v91 - 8))) 6 rfl (by kernel_rfl) rfl rfl (fun w' e' => y_if T79.und_2 T79.flt_34_f32 rfl) ?_
            refine m_n 7 [8, 9] rfl (by kernel_rfl) rfl rfl (fun w' e' => n_arith (by decide) rfl rfl) ?_
            rintro _ ⟨r95, rfl, hr96⟩
            have hc99 := fopC hr96 (cn_nearest .f32 (v91 - 8)) (cnLit (k := .f32) (t := 1082130432) (by kernel_rfl) (by kernel_rfl))
            refine m_y (v := .pointer (some (sat a32 ((k).toNat * 1)))) 8 rfl (by kernel_rfl) rfl rfl (fun w' e' => y_idx T79.sl_24_34_1 rfl rfl ((B.o 2 rfl).rd.addr (by omega)) (by omega) (by omega)) ?_
            refine m_kt 9 [] rfl (by kernel_rfl) rfl rfl (by kernel_rfl) (fun w102 e103 => ?_)
            replace R86 := R86.trans (Ext0.any e103)
            replace B := B.ext0 e103
            clear e103
            refine k_stO (k := kF) (i := k) (j := 0) (x' := fop .quo .f32 (FloatKind.nearest .f32 (v91 - 8)) 1082130432) (new := [.float .f32 r95]) T79.sz_34_1 rfl rfl rfl rfl rfl (by simp [Value.oneCell']) (by decide) (B.o 2 rfl) (by omega) (by omega) (by decide) (by rintro q ⟨_, rfl, _⟩; exact ⟨_, rfl, hc99⟩) (fun w100 hU101 => ?_)
            clear R86
            replace B : Bu w (hasW [.blk bs [.slice aq nq cq, .int .i64 p, .int .u64 (sdY Xq p)] 131]) w100 [.ow kF a32 (Int.toNat (wd * hi)) c33 34 (put zX k (fop .quo .f32 (FloatKind.nearest .f32 (v91 - 8)) 1082130432)), .blk bs [.slice aq nq cq, .int .i64 (((q + 1) + 1) + 1), .int .u64 (sdY Xq (((q + 1) + 1) + 1))] 131, .ow kF a30 (Int.toNat (wd * hi)) c31 34 (put zE k (fop .quo .f32 (FloatKind.nearest .f32 (v65 - 8)) 1082130432)), .ow kF a34 (Int.toNat (wd * hi)) c35 34 zY, .blk b37 [.slice a30 (Int.toNat (wd * hi)) c31, .slice a32 (Int.toNat (wd * hi)) c33, .slice a34 (Int.toNat (wd * hi)) c35] 30, .blk b1 [.slice none 0 0, .slice none 0 0, .slice none 0 0] 30, .rd kF asp nsp Xsp, .rd kF als nls Xls, .sl (some ⟨b, o, none⟩) [.int .i64 wd, .int .i64 hi, .bool wr, .slice asp nsp csp, .slice als nls cls], .rd kY aq nq Xq] := B.upd [2] rfl hU101
            clear hU101
            refine m_done (by kernel_rfl) (fun w104 e105 => ?_)
            replace B := B.ext0 e105
            clear e105
            clear B0_85
            have B0_110 := B
            refine W_draw (at1 bs) T79.mx (by kernel_rfl) (fun w108 e109 => ?_)
            have R111 := Ext.refl (at1 bs) w104
            replace R111 := R111.trans (Ext0.any e109)
            replace B := B.ext0 e109
            clear e109
            refine m_y (v := .pointer (some ⟨b37, 2, none⟩)) 0 rfl (by kernel_rfl) rfl rfl (fun w' e' => y_fld (o := 0) T79.fld_30_2_2 rfl) ?_
            refine m_y (v := .slice a34 (Int.toNat (wd * hi)) c35) 1 rfl (by kernel_rfl) rfl rfl (fun w' e' => y_load T79.one_24 rfl ((B0_110.bx 4 1 rfl rfl rfl rfl e' (fun _ h => h)).cell (j := 2) rfl)) ?_
            refine m_y (v := .int .i64 k) 2 rfl (by kernel_rfl) rfl rfl (fun w' e' => y_move rfl) ?_
            refine m_y (v := .pointer (some ⟨bs, 0, none⟩)) 3 rfl (by kernel_rfl) rfl rfl (fun w' e' => y_move rfl) ?_
            refine m_k 4 [5, 6] rfl (by kernel_rfl) rfl rfl (fun w112 e113 => ?_)
            replace R111 := R111.trans (Ext0.any e113)
            replace B := B.ext0 e113
            clear e113
            refine k_call T79.fn_122 (c_s_l01DrawPlain (by omega) (by omega) (B.all.pick [1, 9] rfl) (B.pw.pick [1, 9] rfl rfl)) rfl ?_
            rintro _ w114 ⟨c116, rfl, hp117, hU115⟩
            replace R111 := R111.trans hU115.at1
            replace B : Bu w (hasW [.blk bs [.slice aq nq cq, .int .i64 p, .int .u64 (sdY Xq p)] 131]) w114 [.blk bs [.slice aq nq cq, .int .i64 ((((q + 1) + 1) + 1) + 1 + 1), .int .u64 (sdY Xq ((((q + 1) + 1) + 1) + 1 + 1))] 131, .ow kF a32 (Int.toNat (wd * hi)) c33 34 (put zX k (fop .quo .f32 (FloatKind.nearest .f32 (v91 - 8)) 1082130432)), .ow kF a30 (Int.toNat (wd * hi)) c31 34 (put zE k (fop .quo .f32 (FloatKind.nearest .f32 (v65 - 8)) 1082130432)), .ow kF a34 (Int.toNat (wd * hi)) c35 34 zY, .blk b37 [.slice a30 (Int.toNat (wd * hi)) c31, .slice a32 (Int.toNat (wd * hi)) c33, .slice a34 (Int.toNat (wd * hi)) c35] 30, .blk b1 [.slice none 0 0, .slice none 0 0, .slice none 0 0] 30, .rd kF asp nsp Xsp, .rd kF als nls Xls, .sl (some ⟨b, o, none⟩) [.int .i64 wd, .int .i64 hi, .bool wr, .slice asp nsp csp, .slice als nls cls], .rd kY aq nq Xq] := B.upd [1] rfl hU115
            clear hU115
            refine ⟨fun _ => R111, ?_⟩
            refine m_y (v := .pointer (some (sat a34 ((k).toNat * 1)))) 5 rfl (by kernel_rfl) rfl rfl (fun w' e' => y_idx T79.sl_24_34_1 rfl rfl ((B.o 3 rfl).rd.addr (by omega)) (by omega) (by omega)) ?_
            refine m_kt 6 [] rfl (by kernel_rfl) rfl rfl (by kernel_rfl) (fun w120 e121 => ?_)
            replace R111 := R111.trans (Ext0.any e121)
            replace B := B.ext0 e121
            clear e121
            refine k_stO (k := kF) (i := k) (j := 0) (x' := can .f32 c116) (new := [.float .f32 c116]) T79.sz_34_1 rfl rfl rfl rfl rfl (by simp [Value.oneCell']) (by decide) (B.o 3 rfl) (by omega) (by omega) (by decide) (by rintro q ⟨_, rfl, _⟩; exact ⟨_, rfl, (cnR hp117)⟩) (fun w118 hU119 => ?_)
            clear R111
            replace B : Bu w (hasW [.blk bs [.slice aq nq cq, .int .i64 p, .int .u64 (sdY Xq p)] 131]) w118 [.ow kF a34 (Int.toNat (wd * hi)) c35 34 (put zY k (can .f32 c116)), .blk bs [.slice aq nq cq, .int .i64 ((((q + 1) + 1) + 1) + 1 + 1), .int .u64 (sdY Xq ((((q + 1) + 1) + 1) + 1 + 1))] 131, .ow kF a32 (Int.toNat (wd * hi)) c33 34 (put zX k (fop .quo .f32 (FloatKind.nearest .f32 (v91 - 8)) 1082130432)), .ow kF a30 (Int.toNat (wd * hi)) c31 34 (put zE k (fop .quo .f32 (FloatKind.nearest .f32 (v65 - 8)) 1082130432)), .blk b37 [.slice a30 (Int.toNat (wd * hi)) c31, .slice a32 (Int.toNat (wd * hi)) c33, .slice a34 (Int.toNat (wd * hi)) c35] 30, .blk b1 [.slice none 0 0, .slice none 0 0, .slice none 0 0] 30, .rd kF asp nsp Xsp, .rd kF als nls Xls, .sl (some ⟨b, o, none⟩) [.int .i64 wd, .int .i64 hi, .bool wr, .slice asp nsp csp, .slice als nls cls], .rd kY aq nq Xq] := B.upd [3] rfl hU119
            clear hU119
            refine m_done (by kernel_rfl) (fun w122 e123 => ?_)
            replace B := B.ext0 e123
            clear e123
            clear B0_110
            refine W_seq ?_
            refine W_region (by kernel_rfl) ?_
            refine s_y (v := .int .i64 v44) rfl (y_move rfl) ?_
            by_cases c124 : v44 = 3
            · refine s_y (v := .bool true) rfl (y_eql rfl rfl (decide_eq_true c124)) ?_
              refine s_y (v := .bool true) rfl (y_move rfl) ?_
              refine s_y (v := .pointer (some ⟨bs, 0, none⟩)) rfl (y_move rfl) ?_
              refine s_k rfl (k_call T79.fn_99 (c_s_one (by omega) (by omega) (by omega) (by omega) (B.all.pick [1, 9] rfl) (B.pw.pick [1, 9] rfl rfl)) rfl ?_)
              rintro _ w125 ⟨vb127, rfl, hp128, hU126⟩
              replace B : Bu w (hasW [.blk bs [.slice aq nq cq, .int .i64 p, .int .u64 (sdY Xq p)] 131]) w125 [.blk bs [.slice aq nq cq, .int .i64 (((((q + 1) + 1) + 1) + 1 + 1) + 1), .int .u64 (sdY Xq (((((q + 1) + 1) + 1) + 1 + 1) + 1))] 131, .ow kF a34 (Int.toNat (wd * hi)) c35 34 (put zY k (can .f32 c116)), .ow kF a32 (Int.toNat (wd * hi)) c33 34 (put zX k (fop .quo .f32 (FloatKind.nearest .f32 (v91 - 8)) 1082130432)), .ow kF a30 (Int.toNat (wd * hi)) c31 34 (put zE k (fop .quo .f32 (FloatKind.nearest .f32 (v65 - 8)) 1082130432)), .blk b37 [.slice a30 (Int.toNat (wd * hi)) c31, .slice a32 (Int.toNat (wd * hi)) c33, .slice a34 (Int.toNat (wd * hi)) c35] 30, .blk b1 [.slice none 0 0, .slice none 0 0, .slice none 0 0] 30, .rd kF asp nsp Xsp, .rd kF als nls Xls, .sl (some ⟨b, o, none⟩) [.int .i64 wd, .int .i64 hi, .bool wr, .slice asp nsp csp, .slice als nls cls], .rd kY aq nq Xq] := B.upd [1] rfl hU126
              clear hU126
              refine s_y (v := .bool vb127) rfl (y_pick_t rfl rfl) ?_
              refine s_nil ?_
              cases vb127
              · refine W_if_f (by decide) rfl ?_
                refine W_skip ?_
                refine W_region (by kernel_rfl) ?_
                refine s_y (v := .int .i64 k) rfl (y_move rfl) ?_
                refine s_y (v := .int .i64 (k + 1)) rfl (y_add rfl rfl rfl (by omega)) ?_
                refine s_y (v := .int .i64 (k + 1)) rfl (y_assign rfl) ?_
                refine s_nil ?_
                refine ⟨⟨_, k + 1, ((((q + 1) + 1) + 1) + 1 + 1) + 1, _, _, _, Fits.eq ⟨rfl, rfl, rfl, rfl, rfl, rfl, rfl, trivial⟩, (B.pick [3, 2, 1, 0, 4, 5, 6, 7, 8, 9] rfl rfl), (by omega), (by omega), (by omega), (by omega), (by first | exact hzE | (simp only [put_length]; exact hzE)), (by first | exact hzX | (simp only [put_length]; exact hzX)), (by first | exact hzY | (simp only [put_length]; exact hzY))⟩, ?_⟩
                show (wd * hi - (k + 1)).toNat < (wd * hi - k).toNat
                omega
              · refine W_if_t (by decide) rfl ?_
                have B0_133 := B
                refine W_draw (at1 bs) T79.mx (by kernel_rfl) (fun w131 e132 => ?_)
                have R134 := Ext.refl (at1 bs) w125
                replace R134 := R134.trans (Ext0.any e132)
                replace B := B.ext0 e132
                clear e132
                refine m_y (v := .pointer (some ⟨b37, 0, none⟩)) 0 rfl (by kernel_rfl) rfl rfl (fun w' e' => y_fld (o := 0) T79.fld_30_0_0 rfl) ?_
                refine m_y (v := .slice a30 (Int.toNat (wd * hi)) c31) 1 rfl (by kernel_rfl) rfl rfl (fun w' e' => y_load T79.one_24 rfl ((B0_133.bx 4 0 rfl rfl rfl rfl e' (fun _ h => h)).cell (j := 0) rfl)) ?_
                refine m_y (v := .int .i64 k) 2 rfl (by kernel_rfl) rfl rfl (fun w' e' => y_move rfl) ?_
                refine m_y (v := .pointer (some ⟨bs, 0, none⟩)) 3 rfl (by kernel_rfl) rfl rfl (fun w' e' => y_move rfl) ?_
                refine m_k 4 [5, 6] rfl (by kernel_rfl) rfl rfl (fun w135 e136 => ?_)
                replace R134 := R134.trans (Ext0.any e136)
                replace B := B.ext0 e136
                clear e136
                refine k_call T79.fn_123 (c_s_l01DrawFloat (by omega) (by omega) (B.all.pick [0, 9] rfl) (B.pw.pick [0, 9] rfl rfl)) rfl ?_
                rintro _ w137 ⟨c139, v140, rfl, hp141, hp142, hp143, hU138⟩
                replace R134 := R134.trans hU138.at1
                replace B : Bu w (hasW [.blk bs [.slice aq nq cq, .int .i64 p, .int .u64 (sdY Xq p)] 131]) w137 [.blk bs [.slice aq nq cq, .int .i64 v140, .int .u64 (sdY Xq v140)] 131, .ow kF a34 (Int.toNat (wd * hi)) c35 34 (put zY k (can .f32 c116)), .ow kF a32 (Int.toNat (wd * hi)) c33 34 (put zX k (fop .quo .f32 (FloatKind.nearest .f32 (v91 - 8)) 1082130432)), .ow kF a30 (Int.toNat (wd * hi)) c31 34 (put zE k (fop .quo .f32 (FloatKind.nearest .f32 (v65 - 8)) 1082130432)), .blk b37 [.slice a30 (Int.toNat (wd * hi)) c31, .slice a32 (Int.toNat (wd * hi)) c33, .slice a34 (Int.toNat (wd * hi)) c35] 30, .blk b1 [.slice none 0 0, .slice none 0 0, .slice none 0 0] 30, .rd kF asp nsp Xsp, .rd kF als nls Xls, .sl (some ⟨b, o, none⟩) [.int .i64 wd, .int .i64 hi, .bool wr, .slice asp nsp csp, .slice als nls cls], .rd kY aq nq Xq] := B.upd [0] rfl hU138
                clear hU138
                refine ⟨fun _ => R134, ?_⟩
                refine m_y (v := .pointer (some (sat a30 ((k).toNat * 1)))) 5 rfl (by kernel_rfl) rfl rfl (fun w' e' => y_idx T79.sl_24_34_1 rfl rfl ((B.o 3 rfl).rd.addr (by omega)) (by omega) (by omega)) ?_
                refine m_kt 6 [] rfl (by kernel_rfl) rfl rfl (by kernel_rfl) (fun w146 e147 => ?_)
                replace R134 := R134.trans (Ext0.any e147)
                replace B := B.ext0 e147
                clear e147
                refine k_stO (k := kF) (i := k) (j := 0) (x' := can .f32 c139) (new := [.float .f32 c139]) T79.sz_34_1 rfl rfl rfl rfl rfl (by simp [Value.oneCell']) (by decide) (B.o 3 rfl) (by omega) (by omega) (by decide) (by rintro q ⟨_, rfl, _⟩; exact ⟨_, rfl, (cnR hp141)⟩) (fun w144 hU145 => ?_)
                clear R134
                replace B : Bu w (hasW [.blk bs [.slice aq nq cq, .int .i64 p, .int .u64 (sdY Xq p)] 131]) w144 [.ow kF a30 (Int.toNat (wd * hi)) c31 34 (put (put zE k (fop .quo .f32 (FloatKind.nearest .f32 (v65 - 8)) 1082130432)) k (can .f32 c139)), .blk bs [.slice aq nq cq, .int .i64 v140, .int .u64 (sdY Xq v140)] 131, .ow kF a34 (Int.toNat (wd * hi)) c35 34 (put zY k (can .f32 c116)), .ow kF a32 (Int.toNat (wd * hi)) c33 34 (put zX k (fop .quo .f32 (FloatKind.nearest .f32 (v91 - 8)) 1082130432)), .blk b37 [.slice a30 (Int.toNat (wd * hi)) c31, .slice a32 (Int.toNat (wd * hi)) c33, .slice a34 (Int.toNat (wd * hi)) c35] 30, .blk b1 [.slice none 0 0, .slice none 0 0, .slice none 0 0] 30, .rd kF asp nsp Xsp, .rd kF als nls Xls, .sl (some ⟨b, o, none⟩) [.int .i64 wd, .int .i64 hi, .bool wr, .slice asp nsp csp, .slice als nls cls], .rd kY aq nq Xq] := B.upd [3] rfl hU145
                clear hU145
                refine m_done (by kernel_rfl) (fun w148 e149 => ?_)
                replace B := B.ext0 e149
                clear e149
                clear B0_133
                refine W_region (by kernel_rfl) ?_
                refine s_y (v := .int .i64 k) rfl (y_move rfl) ?_
                refine s_y (v := .int .i64 (k + 1)) rfl (y_add rfl rfl rfl (by omega)) ?_
                refine s_y (v := .int .i64 (k + 1)) rfl (y_assign rfl) ?_
                refine s_nil ?_
                refine ⟨⟨_, k + 1, v140, _, _, _, Fits.eq ⟨rfl, rfl, rfl, rfl, rfl, rfl, rfl, trivial⟩, (B.pick [0, 3, 2, 1, 4, 5, 6, 7, 8, 9] rfl rfl), (by omega), (by omega), (by omega), (by omega), (by first | exact hzE | (simp only [put_length]; exact hzE)), (by first | exact hzX | (simp only [put_length]; exact hzX)), (by first | exact hzY | (simp only [put_length]; exact hzY))⟩, ?_⟩
                show (wd * hi - (k + 1)).toNat < (wd * hi - k).toNat
                omega
            · refine s_y (v := .bool false) rfl (y_eql rfl rfl (decide_eq_false c124)) ?_
              refine s_y (v := .bool false) rfl (y_move rfl) ?_
              refine s_skip rfl ?_
              refine s_skip rfl ?_
              refine s_y (v := .bool false) rfl (y_pick_f rfl rfl) ?_
              refine s_nil ?_
              refine W_if_f (by decide) rfl ?_
              refine W_skip ?_
              refine W_region (by kernel_rfl) ?_
              refine s_y (v := .int .i64 k) rfl (y_move rfl) ?_
              refine s_y (v := .int .i64 (k + 1)) rfl (y_add rfl rfl rfl (by omega)) ?_
              refine s_y (v := .int .i64 (k + 1)) rfl (y_assign rfl) ?_
              refine s_nil ?_
              refine ⟨⟨_, k + 1, (((q + 1) + 1) + 1) + 1 + 1, _, _, _, Fits.eq ⟨rfl, rfl, rfl, rfl, rfl, rfl, rfl, trivial⟩, (B.pick [3, 2, 0, 1, 4, 5, 6, 7, 8, 9] rfl rfl), (by omega), (by omega), (by omega), (by omega), (by first | exact hzE | (simp only [put_length]; exact hzE)), (by first | exact hzX | (simp only [put_length]; exact hzX)), (by first | exact hzY | (simp only [put_length]; exact hzY))⟩, ?_⟩
              show (wd * hi - (k + 1)).toNat < (wd * hi - k).toNat
              omega
          · refine s_y (v := .bool false) rfl (y_gtr rfl rfl (decide_eq_false c80)) ?_
            refine s_nil ?_
            refine W_if_f (by decide) rfl ?_
            refine W_skip ?_
            refine W_seq ?_
            refine W_region (by kernel_rfl) ?_
            refine s_y (v := .int .i64 v44) rfl (y_move rfl) ?_
            by_cases c150 : v44 = 3
            · refine s_y (v := .bool true) rfl (y_eql rfl rfl (decide_eq_true c150)) ?_
              refine s_y (v := .bool true) rfl (y_move rfl) ?_
              refine s_y (v := .pointer (some ⟨bs, 0, none⟩)) rfl (y_move rfl) ?_
              refine s_k rfl (k_call T79.fn_99 (c_s_one (by omega) (by omega) (by omega) (by omega) (B.all.pick [1, 9] rfl) (B.pw.pick [1, 9] rfl rfl)) rfl ?_)
              rintro _ w151 ⟨vb153, rfl, hp154, hU152⟩
              replace B : Bu w (hasW [.blk bs [.slice aq nq cq, .int .i64 p, .int .u64 (sdY Xq p)] 131]) w151 [.blk bs [.slice aq nq cq, .int .i64 (((q + 1) + 1) + 1), .int .u64 (sdY Xq (((q + 1) + 1) + 1))] 131, .ow kF a30 (Int.toNat (wd * hi)) c31 34 (put zE k (fop .quo .f32 (FloatKind.nearest .f32 (v65 - 8)) 1082130432)), .ow kF a32 (Int.toNat (wd * hi)) c33 34 zX, .ow kF a34 (Int.toNat (wd * hi)) c35 34 zY, .blk b37 [.slice a30 (Int.toNat (wd * hi)) c31, .slice a32 (Int.toNat (wd * hi)) c33, .slice a34 (Int.toNat (wd * hi)) c35] 30, .blk b1 [.slice none 0 0, .slice none 0 0, .slice none 0 0] 30, .rd kF asp nsp Xsp, .rd kF als nls Xls, .sl (some ⟨b, o, none⟩) [.int .i64 wd, .int .i64 hi, .bool wr, .slice asp nsp csp, .slice als nls cls], .rd kY aq nq Xq] := B.upd [1] rfl hU152
              clear hU152
              refine s_y (v := .bool vb153) rfl (y_pick_t rfl rfl) ?_
              refine s_nil ?_
              cases vb153
              · refine W_if_f (by decide) rfl ?_
                refine W_skip ?_
                refine W_region (by kernel_rfl) ?_
                refine s_y (v := .int .i64 k) rfl (y_move rfl) ?_
                refine s_y (v := .int .i64 (k + 1)) rfl (y_add rfl rfl rfl (by omega)) ?_
                refine s_y (v := .int .i64 (k + 1)) rfl (y_assign rfl) ?_
                refine s_nil ?_
                refine ⟨⟨_, k + 1, ((q + 1) + 1) + 1, _, _, _, Fits.eq ⟨rfl, rfl, rfl, rfl, rfl, rfl, rfl, trivial⟩, (B.pick [1, 2, 3, 0, 4, 5, 6, 7, 8, 9] rfl rfl), (by omega), (by omega), (by omega), (by omega), (by first | exact hzE | (simp only [put_length]; exact hzE)), (by first | exact hzX | (simp only [put_length]; exact hzX)), (by first | exact hzY | (simp only [put_length]; exact hzY))⟩, ?_⟩
                show (wd * hi - (k + 1)).toNat < (wd * hi - k).toNat
                omega
              · refine W_if_t (by decide) rfl ?_
                have B0_159 := B
                refine W_draw (at1 bs) T79.mx (by kernel_rfl) (fun w157 e158 => ?_)
                have R160 := Ext.refl (at1 bs) w151
                replace R160 := R160.trans (Ext0.any e158)
                replace B := B.ext0 e158
                clear e158
                refine m_y (v := .pointer (some ⟨b37, 0, none⟩)) 0 rfl (by kernel_rfl) rfl rfl (fun w' e' => y_fld (o := 0) T79.fld_30_0_0 rfl) ?_
                refine m_y (v := .slice a30 (Int.toNat (wd * hi)) c31) 1 rfl (by kernel_rfl) rfl rfl (fun w' e' => y_load T79.one_24 rfl ((B0_159.bx 4 0 rfl rfl rfl rfl e' (fun _ h => h)).cell (j := 0) rfl)) ?_
                refine m_y (v := .int .i64 k) 2 rfl (by kernel_rfl) rfl rfl (fun w' e' => y_move rfl) ?_
                refine m_y (v := .pointer (some ⟨bs, 0, none⟩)) 3 rfl (by kernel_rfl) rfl rfl (fun w' e' => y_move rfl) ?_
                refine m_k 4 [5, 6] rfl (by kernel_rfl) rfl rfl (fun w161 e162 => ?_)
                replace R160 := R160.trans (Ext0.any e162)
                replace B := B.ext0 e162
                clear e162
                refine k_call T79.fn_123 (c_s_l01DrawFloat (by omega) (by omega) (B.all.pick [0, 9] rfl) (B.pw.pick [0, 9] rfl rfl)) rfl ?_
                rintro _ w163 ⟨c165, v166, rfl, hp167, hp168, hp169, hU164⟩
                replace R160 := R160.trans hU164.at1
                replace B : Bu w (hasW [.blk bs [.slice aq nq cq, .int .i64 p, .int .u64 (sdY Xq p)] 131]) w163 [.blk bs [.slice aq nq cq, .int .i64 v166, .int .u64 (sdY Xq v166)] 131, .ow kF a30 (Int.toNat (wd * hi)) c31 34 (put zE k (fop .quo .f32 (FloatKind.nearest .f32 (v65 - 8)) 1082130432)), .ow kF a32 (Int.toNat (wd * hi)) c33 34 zX, .ow kF a34 (Int.toNat (wd * hi)) c35 34 zY, .blk b37 [.slice a30 (Int.toNat (wd * hi)) c31, .slice a32 (Int.toNat (wd * hi)) c33, .slice a34 (Int.toNat (wd * hi)) c35] 30, .blk b1 [.slice none 0 0, .slice none 0 0, .slice none 0 0] 30, .rd kF asp nsp Xsp, .rd kF als nls Xls, .sl (some ⟨b, o, none⟩) [.int .i64 wd, .int .i64 hi, .bool wr, .slice asp nsp csp, .slice als nls cls], .rd kY aq nq Xq] := B.upd [0] rfl hU164
                clear hU164
                refine ⟨fun _ => R160, ?_⟩
                refine m_y (v := .pointer (some (sat a30 ((k).toNat * 1)))) 5 rfl (by kernel_rfl) rfl rfl (fun w' e' => y_idx T79.sl_24_34_1 rfl rfl ((B.o 1 rfl).rd.addr (by omega)) (by omega) (by omega)) ?_
                refine m_kt 6 [] rfl (by kernel_rfl) rfl rfl (by kernel_rfl) (fun w172 e173 => ?_)
                replace R160 := R160.trans (Ext0.any e173)
                replace B := B.ext0 e173
                clear e173
                refine k_stO (k := kF) (i := k) (j := 0) (x' := can .f32 c165) (new := [.float .f32 c165]) T79.sz_34_1 rfl rfl rfl rfl rfl (by simp [Value.oneCell']) (by decide) (B.o 1 rfl) (by omega) (by omega) (by decide) (by rintro q ⟨_, rfl, _⟩; exact ⟨_, rfl, (cnR hp167)⟩) (fun w170 hU171 => ?_)
                clear R160
                replace B : Bu w (hasW [.blk bs [.slice aq nq cq, .int .i64 p, .int .u64 (sdY Xq p)] 131]) w170 [.ow kF a30 (Int.toNat (wd * hi)) c31 34 (put (put zE k (fop .quo .f32 (FloatKind.nearest .f32 (v65 - 8)) 1082130432)) k (can .f32 c165)), .blk bs [.slice aq nq cq, .int .i64 v166, .int .u64 (sdY Xq v166)] 131, .ow kF a32 (Int.toNat (wd * hi)) c33 34 zX, .ow kF a34 (Int.toNat (wd * hi)) c35 34 zY, .blk b37 [.slice a30 (Int.toNat (wd * hi)) c31, .slice a32 (Int.toNat (wd * hi)) c33, .slice a34 (Int.toNat (wd * hi)) c35] 30, .blk b1 [.slice none 0 0, .slice none 0 0, .slice none 0 0] 30, .rd kF asp nsp Xsp, .rd kF als nls Xls, .sl (some ⟨b, o, none⟩) [.int .i64 wd, .int .i64 hi, .bool wr, .slice asp nsp csp, .slice als nls cls], .rd kY aq nq Xq] := B.upd [1] rfl hU171
                clear hU171
                refine m_done (by kernel_rfl) (fun w174 e175 => ?_)
                replace B := B.ext0 e175
                clear e175
                clear B0_159
                refine W_region (by kernel_rfl) ?_
                refine s_y (v := .int .i64 k) rfl (y_move rfl) ?_
                refine s_y (v := .int .i64 (k + 1)) rfl (y_add rfl rfl rfl (by omega)) ?_
                refine s_y (v := .int .i64 (k + 1)) rfl (y_assign rfl) ?_
                refine s_nil ?_
                refine ⟨⟨_, k + 1, v166, _, _, _, Fits.eq ⟨rfl, rfl, rfl, rfl, rfl, rfl, rfl, trivial⟩, (B.pick [0, 2, 3, 1, 4, 5, 6, 7, 8, 9] rfl rfl), (by omega), (by omega), (by omega), (by omega), (by first | exact hzE | (simp only [put_length]; exact hzE)), (by first | exact hzX | (simp only [put_length]; exact hzX)), (by first | exact hzY | (simp only [put_length]; exact hzY))⟩, ?_⟩
                show (wd * hi - (k + 1)).toNat < (wd * hi - k).toNat
                omega
            · refine s_y (v := .bool false) rfl (y_eql rfl rfl (decide_eq_false c150)) ?_
              refine s_y (v := .bool false) rfl (y_move rfl) ?_
              refine s_skip rfl ?_
              refine s_skip rfl ?_
              refine s_y (v := .bool false) rfl (y_pick_f rfl rfl) ?_
              refine s_nil ?_
              refine W_if_f (by decide) rfl ?_
              refine W_skip ?_
              refine W_region (by kernel_rfl) ?_
              refine s_y (v := .int .i64 k) rfl (y_move rfl) ?_
              refine s_y (v := .int .i64 (k + 1)) rfl (y_add rfl rfl rfl (by omega)) ?_
              refine s_y (v := .int .i64 (k + 1)) rfl (y_assign rfl) ?_
              refine s_nil ?_
              refine ⟨⟨_, k + 1, (q + 1) + 1, _, _, _, Fits.eq ⟨rfl, rfl, rfl, rfl, rfl, rfl, rfl, trivial⟩, (B.pick [0, 2, 3, 1, 4, 5, 6, 7, 8, 9] rfl rfl), (by omega), (by omega), (by omega), (by omega), (by first | exact hzE | (simp only [put_length]; exact hzE)), (by first | exact hzX | (simp only [put_length]; exact hzX)), (by first | exact hzY | (simp only [put_length]; exact hzY))⟩, ?_⟩
              show (wd * hi - (k + 1)).toNat < (wd * hi - k).toNat
              omega
      · refine s_y (v := .bool false) rfl (y_eql rfl rfl (decide_eq_false c50)) ?_
        refine s_y (v := .bool false) rfl (y_move rfl) ?_
        refine s_skip rfl ?_
        refine s_skip rfl ?_
        refine s_skip rfl ?_
        refine s_y (v := .bool false) rfl (y_pick_f rfl rfl) ?_
        refine s_nil ?_
        refine W_if_f (by decide) rfl ?_
        refine W_skip ?_
        refine W_seq ?_
        have B0_180 := B
        refine W_draw (at1 bs) T79.mx (by kernel_rfl) (fun w178 e179 => ?_)
        have R181 := Ext.refl (at1 bs) w47
        replace R181 := R181.trans (Ext0.any e179)
        replace B := B.ext0 e179
        clear e179
        refine m_y (v := .pointer (some ⟨b37, 0, none⟩)) 0 rfl (by kernel_rfl) rfl rfl (fun w' e' => y_fld (o := 0) T79.fld_30_0_0 rfl) ?_
        refine m_y (v := .slice a30 (Int.toNat (wd * hi)) c31) 1 rfl (by kernel_rfl) rfl rfl (fun w' e' => y_load T79.one_24 rfl ((B0_180.bx 4 3 rfl rfl rfl rfl e' (fun _ h => h)).cell (j := 0) rfl)) ?_
        refine m_y (v := .int .i64 k) 2 rfl (by kernel_rfl) rfl rfl (fun w' e' => y_move rfl) ?_
        refine m_y (v := .pointer (some ⟨bs, 0, none⟩)) 3 rfl (by kernel_rfl) rfl rfl (fun w' e' => y_move rfl) ?_
        refine m_k 4 [5, 6, 7, 8, 9] rfl (by kernel_rfl) rfl rfl (fun w182 e183 => ?_)
        replace R181 := R181.trans (Ext0.any e183)
        replace B := B.ext0 e183
        clear e183
        refine k_call T79.fn_81 (c_s_pick (by omega) (by omega) (by omega) (by omega) (B.all.pick [3, 9] rfl) (B.pw.pick [3, 9] rfl rfl)) rfl ?_
        rintro _ w184 ⟨v186, rfl, hp187, hU185⟩
        replace R181 := R181.trans hU185.at1
        replace B : Bu w (hasW [.blk bs [.slice aq nq cq, .int .i64 p, .int .u64 (sdY Xq p)] 131]) w184 [.blk bs [.slice aq nq cq, .int .i64 (q + 1), .int .u64 (sdY Xq (q + 1))] 131, .ow kF a30 (Int.toNat (wd * hi)) c31 34 zE, .ow kF a32 (Int.toNat (wd * hi)) c33 34 zX, .ow kF a34 (Int.toNat (wd * hi)) c35 34 zY, .blk b37 [.slice a30 (Int.toNat (wd * hi)) c31, .slice a32 (Int.toNat (wd * hi)) c33, .slice a34 (Int.toNat (wd * hi)) c35] 30, .blk b1 [.slice none 0 0, .slice none 0 0, .slice none 0 0] 30, .rd kF asp nsp Xsp, .rd kF als nls Xls, .sl (some ⟨b, o, none⟩) [.int .i64 wd, .int .i64 hi, .bool wr, .slice asp nsp csp, .slice als nls cls], .rd kY aq nq Xq] := B.upd [3] rfl hU185
        clear hU185
        refine ⟨fun _ => R181, ?_⟩
        have hb188 := pk_b Xq (n := 17) q (by omega)
        rw [← hp187] at hb188
        refine m_y (v := .int .i64 (v186 - 8)) 5 rfl (by kernel_rfl) rfl rfl (fun w' e' => y_sub rfl rfl rfl (by omega)) ?_
        refine m_y (v := .float .f32 (FloatKind.nearest .f32 (v186 - 8))) 6 rfl (by kernel_rfl) rfl rfl (fun w' e' => y_if T79.und_2 T79.flt_34_f32 rfl) ?_
        refine m_n 7 [8, 9] rfl (by kernel_rfl) rfl rfl (fun w' e' => n_arith (by decide) rfl rfl) ?_
        rintro _ ⟨r190, rfl, hr191⟩
        have hc194 := fopC hr191 (cn_nearest .f32 (v186 - 8)) (cnLit (k := .f32) (t := 1082130432) (by kernel_rfl) (by kernel_rfl))
        refine m_y (v := .pointer (some (sat a30 ((k).toNat * 1)))) 8 rfl (by kernel_rfl) rfl rfl (fun w' e' => y_idx T79.sl_24_34_1 rfl rfl ((B.o 1 rfl).rd.addr (by omega)) (by omega) (by omega)) ?_
        refine m_kt 9 [] rfl (by kernel_rfl) rfl rfl (by kernel_rfl) (fun w197 e198 => ?_)
        replace R181 := R181.trans (Ext0.any e198)
        replace B := B.ext0 e198
        clear e198
        refine k_stO (k := kF) (i := k) (j := 0) (x' := fop .quo .f32 (FloatKind.nearest .f32 (v186 - 8)) 1082130432) (new := [.float .f32 r190]) T79.sz_34_1 rfl rfl rfl rfl rfl (by simp [Value.oneCell']) (by decide) (B.o 1 rfl) (by omega) (by omega) (by decide) (by rintro q ⟨_, rfl, _⟩; exact ⟨_, rfl, hc194⟩) (fun w195 hU196 => ?_)
        clear R181
        replace B : Bu w (hasW [.blk bs [.slice aq nq cq, .int .i64 p, .int .u64 (sdY Xq p)] 131]) w195 [.ow kF a30 (Int.toNat (wd * hi)) c31 34 (put zE k (fop .quo .f32 (FloatKind.nearest .f32 (v186 - 8)) 1082130432)), .blk bs [.slice aq nq cq, .int .i64 (q + 1), .int .u64 (sdY Xq (q + 1))] 131, .ow kF a32 (Int.toNat (wd * hi)) c33 34 zX, .ow kF a34 (Int.toNat (wd * hi)) c35 34 zY, .blk b37 [.slice a30 (Int.toNat (wd * hi)) c31, .slice a32 (Int.toNat (wd * hi)) c33, .slice a34 (Int.toNat (wd * hi)) c35] 30, .blk b1 [.slice none 0 0, .slice none 0 0, .slice none 0 0] 30, .rd kF asp nsp Xsp, .rd kF als nls Xls, .sl (some ⟨b, o, none⟩) [.int .i64 wd, .int .i64 hi, .bool wr, .slice asp nsp csp, .slice als nls cls], .rd kY aq nq Xq] := B.upd [1] rfl hU196
        clear hU196
        refine m_done (by kernel_rfl) (fun w199 e200 => ?_)
        replace B := B.ext0 e200
        clear e200
        clear B0_180
        refine W_seq ?_
        refine W_seq ?_
        refine W_region (by kernel_rfl) ?_
        refine s_y (v := .int .i64 v44) rfl (y_move rfl) ?_
        by_cases c201 : 1 < v44
        · refine s_y (v := .bool true) rfl (y_gtr rfl rfl (decide_eq_true c201)) ?_
          refine s_nil ?_
          refine W_if_t (by decide) rfl ?_
          refine W_seq ?_
          have B0_206 := B
          refine W_draw (at1 bs) T79.mx (by kernel_rfl) (fun w204 e205 => ?_)
          have R207 := Ext.refl (at1 bs) w199
          replace R207 := R207.trans (Ext0.any e205)
          replace B := B.ext0 e205
          clear e205
          refine m_y (v := .pointer (some ⟨b37, 1, none⟩)) 0 rfl (by kernel_rfl) rfl rfl (fun w' e' => y_fld (o := 0) T79.fld_30_1_1 rfl) ?_
          refine m_y (v := .slice a32 (Int.toNat (wd * hi)) c33) 1 rfl (by kernel_rfl) rfl rfl (fun w' e' => y_load T79.one_24 rfl ((B0_206.bx 4 1 rfl rfl rfl rfl e' (fun _ h => h)).cell (j := 1) rfl)) ?_
          refine m_y (v := .int .i64 k) 2 rfl (by kernel_rfl) rfl rfl (fun w' e' => y_move rfl) ?_
          refine m_y (v := .pointer (some ⟨bs, 0, none⟩)) 3 rfl (by kernel_rfl) rfl rfl (fun w' e' => y_move rfl) ?_
          refine m_k 4 [5, 6, 7, 8, 9] rfl (by kernel_rfl) rfl rfl (fun w208 e209 => ?_)
          replace R207 := R207.trans (Ext0.any e209)
          replace B := B.ext0 e209
          clear e209
          refine k_call T79.fn_81 (c_s_pick (by omega) (by omega) (by omega) (by omega) (B.all.pick [1, 9] rfl) (B.pw.pick [1, 9] rfl rfl)) rfl ?_
          rintro _ w210 ⟨v212, rfl, hp213, hU211⟩
          replace R207 := R207.trans hU211.at1
          replace B : Bu w (hasW [.blk bs [.slice aq nq cq, .int .i64 p, .int .u64 (sdY Xq p)] 131]) w210 [.blk bs [.slice aq nq cq, .int .i64 ((q + 1) + 1), .int .u64 (sdY Xq ((q + 1) + 1))] 131, .ow kF a30 (Int.toNat (wd * hi)) c31 34 (put zE k (fop .quo .f32 (FloatKind.nearest .f32 (v186 - 8)) 1082130432)), .ow kF a32 (Int.toNat (wd * hi)) c33 34 zX, .ow kF a34 (Int.toNat (wd * hi)) c35 34 zY, .blk b37 [.slice a30 (Int.toNat (wd * hi)) c31, .slice a32 (Int.toNat (wd * hi)) c33, .slice a34 (Int.toNat (wd * hi)) c35] 30, .blk b1 [.slice none 0 0, .slice none 0 0, .slice none 0 0] 30, .rd kF asp nsp Xsp, .rd kF als nls Xls, .sl (some ⟨b, o, none⟩) [.int .i64 wd, .int .i64 hi, .bool wr, .slice asp nsp csp, .slice als nls cls], .rd kY aq nq Xq] := B.upd [1] rfl hU211
          clear hU211
          refine ⟨fun _ => R207, ?_⟩
          have hb214 := pk_b Xq (n := 17) (q + 1) (by omega)
          rw [← hp213] at hb214
          refine m_y (v := .int .i64 (v212 - 8)) 5 rfl (by kernel_rfl) rfl rfl (fun w' e' => y_sub rfl rfl rfl (by omega)) ?_
          refine m_y (v := .float .f32 (FloatKind.nearest .f32 (v212 - 8))) 6 rfl (by kernel_rfl) rfl rfl (fun w' e' => y_if T79.und_2 T79.flt_34_f32 rfl) ?_
          refine m_n 7 [8, 9] rfl (by kernel_rfl) rfl rfl (fun w' e' => n_arith (by decide) rfl rfl) ?_
          rintro _ ⟨r216, rfl, hr217⟩
          have hc220 := fopC hr217 (cn_nearest .f32 (v212 - 8)) (cnLit (k := .f32) (t := 1082130432) (by kernel_rfl) (by kernel_rfl))
          refine m_y (v := .pointer (some (sat a32 ((k).toNat * 1)))) 8 rfl (by kernel_rfl) rfl rfl (fun w' e' => y_idx T79.sl_24_34_1 rfl rfl ((B.o 2 rfl).rd.addr (by omega)) (by omega) (by omega)) ?_
          refine m_kt 9 [] rfl (by kernel_rfl) rfl rfl (by kernel_rfl) (fun w223 e224 => ?_)
          replace R207 := R207.trans (Ext0.any e224)
          replace B := B.ext0 e224
          clear e224
          refine k_stO (k := kF) (i := k) (j := 0) (x' := fop .quo .f32 (FloatKind.nearest .f32 (v212 - 8)) 1082130432) (new := [.float .f32 r216]) T79.sz_34_1 rfl rfl rfl rfl rfl (by simp [Value.oneCell']) (by decide) (B.o 2 rfl) (by omega) (by omega) (by decide) (by rintro q ⟨_, rfl, _⟩; exact ⟨_, rfl, hc220⟩) (fun w221 hU222 => ?_)
          clear R207
          replace B : Bu w (hasW [.blk bs [.slice aq nq cq, .int .i64 p, .int .u64 (sdY Xq p)] 131]) w221 [.ow kF a32 (Int.toNat (wd * hi)) c33 34 (put zX k (fop .quo .f32 (FloatKind.nearest .f32 (v212 - 8)) 1082130432)), .blk bs [.slice aq nq cq, .int .i64 ((q + 1) + 1), .int .u64 (sdY Xq ((q + 1) + 1))] 131, .ow kF a30 (Int.toNat (wd * hi)) c31 34 (put zE k (fop .quo .f32 (FloatKind.nearest .f32 (v186 - 8)) 1082130432)), .ow kF a34 (Int.toNat (wd * hi)) c35 34 zY, .blk b37 [.slice a30 (Int.toNat (wd * hi)) c31, .slice a32 (Int.toNat (wd * hi)) c33, .slice a34 (Int.toNat (wd * hi)) c35] 30, .blk b1 [.slice none 0 0, .slice none 0 0, .slice none 0 0] 30, .rd kF asp nsp Xsp, .rd kF als nls Xls, .sl (some ⟨b, o, none⟩) [.int .i64 wd, .int .i64 hi, .bool wr, .slice asp nsp csp, .slice als nls cls], .rd kY aq nq Xq] := B.upd [2] rfl hU222
          clear hU222
          refine m_done (by kernel_rfl) (fun w225 e226 => ?_)
          replace B := B.ext0 e226
          clear e226
          clear B0_206
          have B0_231 := B
          refine W_draw (at1 bs) T79.mx (by kernel_rfl) (fun w229 e230 => ?_)
          have R232 := Ext.refl (at1 bs) w225
          replace R232 := R232.trans (Ext0.any e230)
          replace B := B.ext0 e230
          clear e230
          refine m_y (v := .pointer (some ⟨b37, 2, none⟩)) 0 rfl (by kernel_rfl) rfl rfl (fun w' e' => y_fld (o := 0) T79.fld_30_2_2 rfl) ?_
          refine m_y (v := .slice a34 (Int.toNat (wd * hi)) c35) 1 rfl (by kernel_rfl) rfl rfl (fun w' e' => y_load T79.one_24 rfl ((B0_231.bx 4 1 rfl rfl rfl rfl e' (fun _ h => h)).cell (j := 2) rfl)) ?_
          refine m_y (v := .int .i64 k) 2 rfl (by kernel_rfl) rfl rfl (fun w' e' => y_move rfl) ?_
          refine m_y (v := .pointer (some ⟨bs, 0, none⟩)) 3 rfl (by kernel_rfl) rfl rfl (fun w' e' => y_move rfl) ?_
          refine m_k 4 [5, 6] rfl (by kernel_rfl) rfl rfl (fun w233 e234 => ?_)
          replace R232 := R232.trans (Ext0.any e234)
          replace B := B.ext0 e234
          clear e234
          refine k_call T79.fn_122 (c_s_l01DrawPlain (by omega) (by omega) (B.all.pick [1, 9] rfl) (B.pw.pick [1, 9] rfl rfl)) rfl ?_
          rintro _ w235 ⟨c237, rfl, hp238, hU236⟩
          replace R232 := R232.trans hU236.at1
          replace B : Bu w (hasW [.blk bs [.slice aq nq cq, .int .i64 p, .int .u64 (sdY Xq p)] 131]) w235 [.blk bs [.slice aq nq cq, .int .i64 (((q + 1) + 1) + 1 + 1), .int .u64 (sdY Xq (((q + 1) + 1) + 1 + 1))] 131, .ow kF a32 (Int.toNat (wd * hi)) c33 34 (put zX k (fop .quo .f32 (FloatKind.nearest .f32 (v212 - 8)) 1082130432)), .ow kF a30 (Int.toNat (wd * hi)) c31 34 (put zE k (fop .quo .f32 (FloatKind.nearest .f32 (v186 - 8)) 1082130432)), .ow kF a34 (Int.toNat (wd * hi)) c35 34 zY, .blk b37 [.slice a30 (Int.toNat (wd * hi)) c31, .slice a32 (Int.toNat (wd * hi)) c33, .slice a34 (Int.toNat (wd * hi)) c35] 30, .blk b1 [.slice none 0 0, .slice none 0 0, .slice none 0 0] 30, .rd kF asp nsp Xsp, .rd kF als nls Xls, .sl (some ⟨b, o, none⟩) [.int .i64 wd, .int .i64 hi, .bool wr, .slice asp nsp csp, .slice als nls cls], .rd kY aq nq Xq] := B.upd [1] rfl hU236
          clear hU236
          refine ⟨fun _ => R232, ?_⟩
          refine m_y (v := .pointer (some (sat a34 ((k).toNat * 1)))) 5 rfl (by kernel_rfl) rfl rfl (fun w' e' => y_idx T79.sl_24_34_1 rfl rfl ((B.o 3 rfl).rd.addr (by omega)) (by omega) (by omega)) ?_
          refine m_kt 6 [] rfl (by kernel_rfl) rfl rfl (by kernel_rfl) (fun w241 e242 => ?_)
          replace R232 := R232.trans (Ext0.any e242)
          replace B := B.ext0 e242
          clear e242
          refine k_stO (k := kF) (i := k) (j := 0) (x' := can .f32 c237) (new := [.float .f32 c237]) T79.sz_34_1 rfl rfl rfl rfl rfl (by simp [Value.oneCell']) (by decide) (B.o 3 rfl) (by omega) (by omega) (by decide) (by rintro q ⟨_, rfl, _⟩; exact ⟨_, rfl, (cnR hp238)⟩) (fun w239 hU240 => ?_)
          clear R232
          replace B : Bu w (hasW [.blk bs [.slice aq nq cq, .int .i64 p, .int .u64 (sdY Xq p)] 131]) w239 [.ow kF a34 (Int.toNat (wd * hi)) c35 34 (put zY k (can .f32 c237)), .blk bs [.slice aq nq cq, .int .i64 (((q + 1) + 1) + 1 + 1), .int .u64 (sdY Xq (((q + 1) + 1) + 1 + 1))] 131, .ow kF a32 (Int.toNat (wd * hi)) c33 34 (put zX k (fop .quo .f32 (FloatKind.nearest .f32 (v212 - 8)) 1082130432)), .ow kF a30 (Int.toNat (wd * hi)) c31 34 (put zE k (fop .quo .f32 (FloatKind.nearest .f32 (v186 - 8)) 1082130432)), .blk b37 [.slice a30 (Int.toNat (wd * hi)) c31, .slice a32 (Int.toNat (wd * hi)) c33, .slice a34 (Int.toNat (wd * hi)) c35] 30, .blk b1 [.slice none 0 0, .slice none 0 0, .slice none 0 0] 30, .rd kF asp nsp Xsp, .rd kF als nls Xls, .sl (some ⟨b, o, none⟩) [.int .i64 wd, .int .i64 hi, .bool wr, .slice asp nsp csp, .slice als nls cls], .rd kY aq nq Xq] := B.upd [3] rfl hU240
          clear hU240
          refine m_done (by kernel_rfl) (fun w243 e244 => ?_)
          replace B := B.ext0 e244
          clear e244
          clear B0_231
          refine W_seq ?_
          refine W_region (by kernel_rfl) ?_
          refine s_y (v := .int .i64 v44) rfl (y_move rfl) ?_
          by_cases c245 : v44 = 3
          · refine s_y (v := .bool true) rfl (y_eql rfl rfl (decide_eq_true c245)) ?_
            refine s_y (v := .bool true) rfl (y_move rfl) ?_
            refine s_y (v := .pointer (some ⟨bs, 0, none⟩)) rfl (y_move rfl) ?_
            refine s_k rfl (k_call T79.fn_99 (c_s_one (by omega) (by omega) (by omega) (by omega) (B.all.pick [1, 9] rfl) (B.pw.pick [1, 9] rfl rfl)) rfl ?_)
            rintro _ w246 ⟨vb248, rfl, hp249, hU247⟩
            replace B : Bu w (hasW [.blk bs [.slice aq nq cq, .int .i64 p, .int .u64 (sdY Xq p)] 131]) w246 [.blk bs [.slice aq nq cq, .int .i64 ((((q + 1) + 1) + 1 + 1) + 1), .int .u64 (sdY Xq ((((q + 1) + 1) + 1 + 1) + 1))] 131, .ow kF a34 (Int.toNat (wd * hi)) c35 34 (put zY k (can .f32 c237)), .ow kF a32 (Int.toNat (wd * hi)) c33 34 (put zX k (fop .quo .f32 (FloatKind.nearest .f32 (v212 - 8)) 1082130432)), .ow kF a30 (Int.toNat (wd * hi)) c31 34 (put zE k (fop .quo .f32 (FloatKind.nearest .f32 (v186 - 8)) 1082130432)), .blk b37 [.slice a30 (Int.toNat (wd * hi)) c31, .slice a32 (Int.toNat (wd * hi)) c33, .slice a34 (Int.toNat (wd * hi)) c35] 30, .blk b1 [.slice none 0 0, .slice none 0 0, .slice none 0 0] 30, .rd kF asp nsp Xsp, .rd kF als nls Xls, .sl (some ⟨b, o, none⟩) [.int .i64 wd, .int .i64 hi, .bool wr, .slice asp nsp csp, .slice als nls cls], .rd kY aq nq Xq] := B.upd [1] rfl hU247
            clear hU247
            refine s_y (v := .bool vb248) rfl (y_pick_t rfl rfl) ?_
            refine s_nil ?_
            cases vb248
            · refine W_if_f (by decide) rfl ?_
              refine W_skip ?_
              refine W_region (by kernel_rfl) ?_
              refine s_y (v := .int .i64 k) rfl (y_move rfl) ?_
              refine s_y (v := .int .i64 (k + 1)) rfl (y_add rfl rfl rfl (by omega)) ?_
              refine s_y (v := .int .i64 (k + 1)) rfl (y_assign rfl) ?_
              refine s_nil ?_
              refine ⟨⟨_, k + 1, (((q + 1) + 1) + 1 + 1) + 1, _, _, _, Fits.eq ⟨rfl, rfl, rfl, rfl, rfl, rfl, rfl, trivial⟩, (B.pick [3, 2, 1, 0, 4, 5, 6, 7, 8, 9] rfl rfl), (by omega), (by omega), (by omega), (by omega), (by first | exact hzE | (simp only [put_length]; exact hzE)), (by first | exact hzX | (simp only [put_length]; exact hzX)), (by first | exact hzY | (simp only [put_length]; exact hzY))⟩, ?_⟩
              show (wd * hi - (k + 1)).toNat < (wd * hi - k).toNat
              omega
            · refine W_if_t (by decide) rfl ?_
              have B0_254 := B
              refine W_draw (at1 bs) T79.mx (by kernel_rfl) (fun w252 e253 => ?_)
              have R255 := Ext.refl (at1 bs) w246
              replace R255 := R255.trans (Ext0.any e253)
              replace B := B.ext0 e253
              clear e253
              refine m_y (v := .pointer (some ⟨b37, 0, none⟩)) 0 rfl (by kernel_rfl) rfl rfl (fun w' e' => y_fld (o := 0) T79.fld_30_0_0 rfl) ?_
              refine m_y (v := .slice a30 (Int.toNat (wd * hi)) c31) 1 rfl (by kernel_rfl) rfl rfl (fun w' e' => y_load T79.one_24 rfl ((B0_254.bx 4 0 rfl rfl rfl rfl e' (fun _ h => h)).cell (j := 0) rfl)) ?_
              refine m_y (v := .int .i64 k) 2 rfl (by kernel_rfl) rfl rfl (fun w' e' => y_move rfl) ?_
              refine m_y (v := .pointer (some ⟨bs, 0, none⟩)) 3 rfl (by kernel_rfl) rfl rfl (fun w' e' => y_move rfl) ?_
              refine m_k 4 [5, 6] rfl (by kernel_rfl) rfl rfl (fun w256 e257 => ?_)
              replace R255 := R255.trans (Ext0.any e257)
              replace B := B.ext0 e257
              clear e257
              refine k_call T79.fn_123 (c_s_l01DrawFloat (by omega) (by omega) (B.all.pick [0, 9] rfl) (B.pw.pick [0, 9] rfl rfl)) rfl ?_
              rintro _ w258 ⟨c260, v261, rfl, hp262, hp263, hp264, hU259⟩
              replace R255 := R255.trans hU259.at1
              replace B : Bu w (hasW [.blk bs [.slice aq nq cq, .int .i64 p, .int .u64 (sdY Xq p)] 131]) w258 [.blk bs [.slice aq nq cq, .int .i64 v261, .int .u64 (sdY Xq v261)] 131, .ow kF a34 (Int.toNat (wd * hi)) c35 34 (put zY k (can .f32 c237)), .ow kF a32 (Int.toNat (wd * hi)) c33 34 (put zX k (fop .quo .f32 (FloatKind.nearest .f32 (v212 - 8)) 1082130432)), .ow kF a30 (Int.toNat (wd * hi)) c31 34 (put zE k (fop .quo .f32 (FloatKind.nearest .f32 (v186 - 8)) 1082130432)), .blk b37 [.slice a30 (Int.toNat (wd * hi)) c31, .slice a32 (Int.toNat (wd * hi)) c33, .slice a34 (Int.toNat (wd * hi)) c35] 30, .blk b1 [.slice none 0 0, .slice none 0 0, .slice none 0 0] 30, .rd kF asp nsp Xsp, .rd kF als nls Xls, .sl (some ⟨b, o, none⟩) [.int .i64 wd, .int .i64 hi, .bool wr, .slice asp nsp csp, .slice als nls cls], .rd kY aq nq Xq] := B.upd [0] rfl hU259
              clear hU259
              refine ⟨fun _ => R255, ?_⟩
              refine m_y (v := .pointer (some (sat a30 ((k).toNat * 1)))) 5 rfl (by kernel_rfl) rfl rfl (fun w' e' => y_idx T79.sl_24_34_1 rfl rfl ((B.o 3 rfl).rd.addr (by omega)) (by omega) (by omega)) ?_
              refine m_kt 6 [] rfl (by kernel_rfl) rfl rfl (by kernel_rfl) (fun w267 e268 => ?_)
              replace R255 := R255.trans (Ext0.any e268)
              replace B := B.ext0 e268
              clear e268
              refine k_stO (k := kF) (i := k) (j := 0) (x' := can .f32 c260) (new := [.float .f32 c260]) T79.sz_34_1 rfl rfl rfl rfl rfl (by simp [Value.oneCell']) (by decide) (B.o 3 rfl) (by omega) (by omega) (by decide) (by rintro q ⟨_, rfl, _⟩; exact ⟨_, rfl, (cnR hp262)⟩) (fun w265 hU266 => ?_)
              clear R255
              replace B : Bu w (hasW [.blk bs [.slice aq nq cq, .int .i64 p, .int .u64 (sdY Xq p)] 131]) w265 [.ow kF a30 (Int.toNat (wd * hi)) c31 34 (put (put zE k (fop .quo .f32 (FloatKind.nearest .f32 (v186 - 8)) 1082130432)) k (can .f32 c260)), .blk bs [.slice aq nq cq, .int .i64 v261, .int .u64 (sdY Xq v261)] 131, .ow kF a34 (Int.toNat (wd * hi)) c35 34 (put zY k (can .f32 c237)), .ow kF a32 (Int.toNat (wd * hi)) c33 34 (put zX k (fop .quo .f32 (FloatKind.nearest .f32 (v212 - 8)) 1082130432)), .blk b37 [.slice a30 (Int.toNat (wd * hi)) c31, .slice a32 (Int.toNat (wd * hi)) c33, .slice a34 (Int.toNat (wd * hi)) c35] 30, .blk b1 [.slice none 0 0, .slice none 0 0, .slice none 0 0] 30, .rd kF asp nsp Xsp, .rd kF als nls Xls, .sl (some ⟨b, o, none⟩) [.int .i64 wd, .int .i64 hi, .bool wr, .slice asp nsp csp, .slice als nls cls], .rd kY aq nq Xq] := B.upd [3] rfl hU266
              clear hU266
              refine m_done (by kernel_rfl) (fun w269 e270 => ?_)
              replace B := B.ext0 e270
              clear e270
              clear B0_254
              refine W_region (by kernel_rfl) ?_
              refine s_y (v := .int .i64 k) rfl (y_move rfl) ?_
              refine s_y (v := .int .i64 (k + 1)) rfl (y_add rfl rfl rfl (by omega)) ?_
              refine s_y (v := .int .i64 (k + 1)) rfl (y_assign rfl) ?_
              refine s_nil ?_
              refine ⟨⟨_, k + 1, v261, _, _, _, Fits.eq ⟨rfl, rfl, rfl, rfl, rfl, rfl, rfl, trivial⟩, (B.pick [0, 3, 2, 1, 4, 5, 6, 7, 8, 9] rfl rfl), (by omega), (by omega), (by omega), (by omega), (by first | exact hzE | (simp only [put_length]; exact hzE)), (by first | exact hzX | (simp only [put_length]; exact hzX)), (by first | exact hzY | (simp only [put_length]; exact hzY))⟩, ?_⟩
              show (wd * hi - (k + 1)).toNat < (wd * hi - k).toNat
              omega
          · refine s_y (v := .bool false) rfl (y_eql rfl rfl (decide_eq_false c245)) ?_
            refine s_y (v := .bool false) rfl (y_move rfl) ?_
            refine s_skip rfl ?_
            refine s_skip rfl ?_
            refine s_y (v := .bool false) rfl (y_pick_f rfl rfl) ?_
            refine s_nil ?_
            refine W_if_f (by decide) rfl ?_
            refine W_skip ?_
            refine W_region (by kernel_rfl) ?_
            refine s_y (v := .int .i64 k) rfl (y_move rfl) ?_
            refine s_y (v := .int .i64 (k + 1)) rfl (y_add rfl rfl rfl (by omega)) ?_
            refine s_y (v := .int .i64 (k + 1)) rfl (y_assign rfl) ?_
            refine s_nil ?_
            refine ⟨⟨_, k + 1, ((q + 1) + 1) + 1 + 1, _, _, _, Fits.eq ⟨rfl, rfl, rfl, rfl, rfl, rfl, rfl, trivial⟩, (B.pick [3, 2, 0, 1, 4, 5, 6, 7, 8, 9] rfl rfl), (by omega), (by omega), (by omega), (by omega), (by first | exact hzE | (simp only [put_length]; exact hzE)), (by first | exact hzX | (simp only [put_length]; exact hzX)), (by first | exact hzY | (simp only [put_length]; exact hzY))⟩, ?_⟩
            show (wd * hi - (k + 1)).toNat < (wd * hi - k).toNat
            omega
        · refine s_y (v := .bool false) rfl (y_gtr rfl rfl (decide_eq_false c201)) ?_
          refine s_nil ?_
          refine W_if_f (by decide) rfl ?_
          refine W_skip ?_
          refine W_seq ?_
          refine W_region (by kernel_rfl) ?_
          refine s_y (v := .int .i64 v44) rfl (y_move rfl) ?_
          by_cases c271 : v44 = 3
          · refine s_y (v := .bool true) rfl (y_eql rfl rfl (decide_eq_true c271)) ?_
            refine s_y (v := .bool true) rfl (y_move rfl) ?_
            refine s_y (v := .pointer (some ⟨bs, 0, none⟩)) rfl (y_move rfl) ?_
            refine s_k rfl (k_call T79.fn_99 (c_s_one (by omega) (by omega) (by omega) (by omega) (B.all.pick [1, 9] rfl) (B.pw.pick [1, 9] rfl rfl)) rfl ?_)
            rintro _ w272 ⟨vb274, rfl, hp275, hU273⟩
            replace B : Bu w (hasW [.blk bs [.slice aq nq cq, .int .i64 p, .int .u64 (sdY Xq p)] 131]) w272 [.blk bs [.slice aq nq cq, .int .i64 ((q + 1) + 1), .int .u64 (sdY Xq ((q + 1) + 1))] 131, .ow kF a30 (Int.toNat (wd * hi)) c31 34 (put zE k (fop .quo .f32 (FloatKind.nearest .f32 (v186 - 8)) 1082130432)), .ow kF a32 (Int.toNat (wd * hi)) c33 34 zX, .ow kF a34 (Int.toNat (wd * hi)) c35 34 zY, .blk b37 [.slice a30 (Int.toNat (wd * hi)) c31, .slice a32 (Int.toNat (wd * hi)) c33, .slice a34 (Int.toNat (wd * hi)) c35] 30, .blk b1 [.slice none 0 0, .slice none 0 0, .slice none 0 0] 30, .rd kF asp nsp Xsp, .rd kF als nls Xls, .sl (some ⟨b, o, none⟩) [.int .i64 wd, .int .i64 hi, .bool wr, .slice asp nsp csp, .slice als nls cls], .rd kY aq nq Xq] := B.upd [1] rfl hU273
            clear hU273
            refine s_y (v := .bool vb274) rfl (y_pick_t rfl rfl) ?_
            refine s_nil ?_
            cases vb274
            · refine W_if_f (by decide) rfl ?_
              refine W_skip ?_
              refine W_region (by kernel_rfl) ?_
              refine s_y (v := .int .i64 k) rfl (y_move rfl) ?_
              refine s_y (v := .int .i64 (k + 1)) rfl (y_add rfl rfl rfl (by omega)) ?_
              refine s_y (v := .int .i64 (k + 1)) rfl (y_assign rfl) ?_
              refine s_nil ?_
              refine ⟨⟨_, k + 1, (q + 1) + 1, _, _, _, Fits.eq ⟨rfl, rfl, rfl, rfl, rfl, rfl, rfl, trivial⟩, (B.pick [1, 2, 3, 0, 4, 5, 6, 7, 8, 9] rfl rfl), (by omega), (by omega), (by omega), (by omega), (by first | exact hzE | (simp only [put_length]; exact hzE)), (by first | exact hzX | (simp only [put_length]; exact hzX)), (by first | exact hzY | (simp only [put_length]; exact hzY))⟩, ?_⟩
              show (wd * hi - (k + 1)).toNat < (wd * hi - k).toNat
              omega
            · refine W_if_t (by decide) rfl ?_
              have B0_280 := B
              refine W_draw (at1 bs) T79.mx (by kernel_rfl) (fun w278 e279 => ?_)
              have R281 := Ext.refl (at1 bs) w272
              replace R281 := R281.trans (Ext0.any e279)
              replace B := B.ext0 e279
              clear e279
              refine m_y (v := .pointer (some ⟨b37, 0, none⟩)) 0 rfl (by kernel_rfl) rfl rfl (fun w' e' => y_fld (o := 0) T79.fld_30_0_0 rfl) ?_
              refine m_y (v := .slice a30 (Int.toNat (wd * hi)) c31) 1 rfl (by kernel_rfl) rfl rfl (fun w' e' => y_load T79.one_24 rfl ((B0_280.bx 4 0 rfl rfl rfl rfl e' (fun _ h => h)).cell (j := 0) rfl)) ?_
              refine m_y (v := .int .i64 k) 2 rfl (by kernel_rfl) rfl rfl (fun w' e' => y_move rfl) ?_
              refine m_y (v := .pointer (some ⟨bs, 0, none⟩)) 3 rfl (by kernel_rfl) rfl rfl (fun w' e' => y_move rfl) ?_
              refine m_k 4 [5, 6] rfl (by kernel_rfl) rfl rfl (fun w282 e283 => ?_)
              replace R281 := R281.trans (Ext0.any e283)
              replace B := B.ext0 e283
              clear e283
              refine k_call T79.fn_123 (c_s_l01DrawFloat (by omega) (by omega) (B.all.pick [0, 9] rfl) (B.pw.pick [0, 9] rfl rfl)) rfl ?_
              rintro _ w284 ⟨c286, v287, rfl, hp288, hp289, hp290, hU285⟩
              replace R281 := R281.trans hU285.at1
              replace B : Bu w (hasW [.blk bs [.slice aq nq cq, .int .i64 p, .int .u64 (sdY Xq p)] 131]) w284 [.blk bs [.slice aq nq cq, .int .i64 v287, .int .u64 (sdY Xq v287)] 131, .ow kF a30 (Int.toNat (wd * hi)) c31 34 (put zE k (fop .quo .f32 (FloatKind.nearest .f32 (v186 - 8)) 1082130432)), .ow kF a32 (Int.toNat (wd * hi)) c33 34 zX, .ow kF a34 (Int.toNat (wd * hi)) c35 34 zY, .blk b37 [.slice a30 (Int.toNat (wd * hi)) c31, .slice a32 (Int.toNat (wd * hi)) c33, .slice a34 (Int.toNat (wd * hi)) c35] 30, .blk b1 [.slice none 0 0, .slice none 0 0, .slice none 0 0] 30, .rd kF asp nsp Xsp, .rd kF als nls Xls, .sl (some ⟨b, o, none⟩) [.int .i64 wd, .int .i64 hi, .bool wr, .slice asp nsp csp, .slice als nls cls], .rd kY aq nq Xq] := B.upd [0] rfl hU285
              clear hU285
              refine ⟨fun _ => R281, ?_⟩
              refine m_y (v := .pointer (some (sat a30 ((k).toNat * 1)))) 5 rfl (by kernel_rfl) rfl rfl (fun w' e' => y_idx T79.sl_24_34_1 rfl rfl ((B.o 1 rfl).rd.addr (by omega)) (by omega) (by omega)) ?_
              refine m_kt 6 [] rfl (by kernel_rfl) rfl rfl (by kernel_rfl) (fun w293 e294 => ?_)
              replace R281 := R281.trans (Ext0.any e294)
              replace B := B.ext0 e294
              clear e294
              refine k_stO (k := kF) (i := k) (j := 0) (x' := can .f32 c286) (new := [.float .f32 c286]) T79.sz_34_1 rfl rfl rfl rfl rfl (by simp [Value.oneCell']) (by decide) (B.o 1 rfl) (by omega) (by omega) (by decide) (by rintro q ⟨_, rfl, _⟩; exact ⟨_, rfl, (cnR hp288)⟩) (fun w291 hU292 => ?_)
              clear R281
              replace B : Bu w (hasW [.blk bs [.slice aq nq cq, .int .i64 p, .int .u64 (sdY Xq p)] 131]) w291 [.ow kF a30 (Int.toNat (wd * hi)) c31 34 (put (put zE k (fop .quo .f32 (FloatKind.nearest .f32 (v186 - 8)) 1082130432)) k (can .f32 c286)), .blk bs [.slice aq nq cq, .int .i64 v287, .int .u64 (sdY Xq v287)] 131, .ow kF a32 (Int.toNat (wd * hi)) c33 34 zX, .ow kF a34 (Int.toNat (wd * hi)) c35 34 zY, .blk b37 [.slice a30 (Int.toNat (wd * hi)) c31, .slice a32 (Int.toNat (wd * hi)) c33, .slice a34 (Int.toNat (wd * hi)) c35] 30, .blk b1 [.slice none 0 0, .slice none 0 0, .slice none 0 0] 30, .rd kF asp nsp Xsp, .rd kF als nls Xls, .sl (some ⟨b, o, none⟩) [.int .i64 wd, .int .i64 hi, .bool wr, .slice asp nsp csp, .slice als nls cls], .rd kY aq nq Xq] := B.upd [1] rfl hU292
              clear hU292
              refine m_done (by kernel_rfl) (fun w295 e296 => ?_)
              replace B := B.ext0 e296
              clear e296
              clear B0_280
              refine W_region (by kernel_rfl) ?_
              refine s_y (v := .int .i64 k) rfl (y_move rfl) ?_
              refine s_y (v := .int .i64 (k + 1)) rfl (y_add rfl rfl rfl (by omega)) ?_
              refine s_y (v := .int .i64 (k + 1)) rfl (y_assign rfl) ?_
              refine s_nil ?_
              refine ⟨⟨_, k + 1, v287, _, _, _, Fits.eq ⟨rfl, rfl, rfl, rfl, rfl, rfl, rfl, trivial⟩, (B.pick [0, 2, 3, 1, 4, 5, 6, 7, 8, 9] rfl rfl), (by omega), (by omega), (by omega), (by omega), (by first | exact hzE | (simp only [put_length]; exact hzE)), (by first | exact hzX | (simp only [put_length]; exact hzX)), (by first | exact hzY | (simp only [put_length]; exact hzY))⟩, ?_⟩
              show (wd * hi - (k + 1)).toNat < (wd * hi - k).toNat
              omega
          · refine s_y (v := .bool false) rfl (y_eql rfl rfl (decide_eq_false c271)) ?_
            refine s_y (v := .bool false) rfl (y_move rfl) ?_
            refine s_skip rfl ?_
            refine s_skip rfl ?_
            refine s_y (v := .bool false) rfl (y_pick_f rfl rfl) ?_
            refine s_nil ?_
            refine W_if_f (by decide) rfl ?_
            refine W_skip ?_
            refine W_region (by kernel_rfl) ?_
            refine s_y (v := .int .i64 k) rfl (y_move rfl) ?_
            refine s_y (v := .int .i64 (k + 1)) rfl (y_add rfl rfl rfl (by omega)) ?_
            refine s_y (v := .int .i64 (k + 1)) rfl (y_assign rfl) ?_
            refine s_nil ?_
            refine ⟨⟨_, k + 1, q + 1, _, _, _, Fits.eq ⟨rfl, rfl, rfl, rfl, rfl, rfl, rfl, trivial⟩, (B.pick [0, 2, 3, 1, 4, 5, 6, 7, 8, 9] rfl rfl), (by omega), (by omega), (by omega), (by omega), (by first | exact hzE | (simp only [put_length]; exact hzE)), (by first | exact hzX | (simp only [put_length]; exact hzX)), (by first | exact hzY | (simp only [put_length]; exact hzY))⟩, ?_⟩
            show (wd * hi - (k + 1)).toNat < (wd * hi - k).toNat
            omega
    · refine s_y (v := .bool false) rfl (y_lss rfl rfl (decide_eq_false c49)) ?_
      refine s_nil ?_
      refine W_if_f (by decide) rfl ?_
      refine W_exit ?_
      refine W_seq ?_
      refine W_seq ?_
      refine W_region (by kernel_rfl) ?_
      refine s_y (v := .pointer (some ⟨b, o, none⟩)) rfl (y_move rfl) ?_
      refine s_k rfl (k_call T79.fn_124 (c_s_l02Is (B.r 6 rfl) (B.r 7 rfl) (B.s 8 rfl) (by omega) (by omega)) rfl ?_)
      rintro v299 w297 ⟨hv300, e298⟩
      replace B := B.ext0 e298
      clear e298
      have hk301 : validS wd hi Xsp Xls = true := hv
      have hb302 := validS_b hk301
      obtain rfl : v299 = .bool true := hv300.trans (congrArg Value.bool hk301)
      refine s_y (v := .bool false) rfl (y_not rfl rfl) ?_
      refine s_y (v := .bool false) rfl (y_move rfl) ?_
      refine s_y (v := .pointer (some ⟨b, o, none⟩)) rfl (y_move rfl) ?_
      refine s_y (v := .pointer (some ⟨b, o, none⟩)) rfl (y_nil rfl) ?_
      refine s_y (v := .pointer (some ⟨b, o + 2, none⟩)) rfl (y_fld (o := o + 0) T79.fld_26_2_2 rfl) ?_
      refine s_y (v := .bool wr) rfl (y_load T79.one_4 rfl ((B.s 8 rfl).cell (j := 2) rfl)) ?_
      refine s_y (v := .bool wr) rfl (y_pick_f rfl rfl) ?_
      refine s_nil ?_
      cases wr
      · refine W_if_f (by decide) rfl ?_
        refine W_skip ?_
        refine W_seq ?_
        refine W_seq ?_
        refine W_region (by kernel_rfl) ?_
        refine s_y (v := .int .i64 0) rfl (y_assign rfl) ?_
        refine s_nil ?_
        refine W_block ?_
        refine W_loop (fun ρ' w' => ∃ (ρ1 : Env) (ky : Int) (zE : List Nat) (zX : List Nat) (zY : List Nat), ρ' = updL ρ1 [(1, .pointer (some ⟨b, o, none⟩)), (4, .pointer (some ⟨b1, 0, none⟩)), (5, .int .i64 (wd * hi)), (6, .pointer (some ⟨b37, 0, none⟩)), (9, .int .i64 ky)] ∧ Bu w (hasW [.blk bs [.slice aq nq cq, .int .i64 p, .int .u64 (sdY Xq p)] 131]) w' [.ow kF a30 (Int.toNat (wd * hi)) c31 34 zE, .ow kF a32 (Int.toNat (wd * hi)) c33 34 zX, .ow kF a34 (Int.toNat (wd * hi)) c35 34 zY, .blk bs [.slice aq nq cq, .int .i64 q, .int .u64 (sdY Xq q)] 131, .blk b37 [.slice a30 (Int.toNat (wd * hi)) c31, .slice a32 (Int.toNat (wd * hi)) c33, .slice a34 (Int.toNat (wd * hi)) c35] 30, .blk b1 [.slice none 0 0, .slice none 0 0, .slice none 0 0] 30, .rd kF asp nsp Xsp, .rd kF als nls Xls, .sl (some ⟨b, o, none⟩) [.int .i64 wd, .int .i64 hi, .bool false, .slice asp nsp csp, .slice als nls cls], .rd kY aq nq Xq] ∧ (0 ≤ ky) ∧ (ky ≤ wd * hi) ∧ (zE.length = Int.toNat (wd * hi)) ∧ (zX.length = Int.toNat (wd * hi)) ∧ (zY.length = Int.toNat (wd * hi)) ∧ (∀ j, 0 ≤ j → j < ky → edgeB wd hi zE zX zY (j % wd) (j / wd) j = false)) (fun ρ' _ => (wd * hi - iv (ρ' 9)).toNat) ?_ ?_
        · exact ⟨_, 0, _, _, _, Fits.eq ⟨rfl, rfl, rfl, rfl, rfl, trivial⟩, B, (Int.le_refl _), (by omega), hzE, hzX, hzY, (by intro j h0 h1; omega)⟩
        · clear B; rintro _ w303 ⟨ρ304, ky, zE, zX, zY, rfl, B, h0ky, h1ky, hzE, hzX, hzY, hed⟩
          refine W_seq ?_
          refine W_seq ?_
          refine W_region (by kernel_rfl) ?_
          refine s_y (v := .int .i64 ky) rfl (y_move rfl) ?_
          refine s_y (v := .int .i64 (wd * hi)) rfl (y_move rfl) ?_
          by_cases c305 : ky < (wd * hi)
          · refine s_y (v := .bool true) rfl (y_lss rfl rfl (decide_eq_true c305)) ?_
            refine s_nil ?_
            refine W_if_t (by decide) rfl ?_
            refine W_skip ?_
            refine W_seq ?_
            refine W_block ?_
            refine W_seq ?_
            refine W_seq ?_
            have B0_310 := B
            refine W_draw (no) T79.mx (by kernel_rfl) (fun w308 e309 => ?_)
            have R311 := Ext.refl (no) w303
            replace R311 := R311.trans (Ext0.any e309)
            replace B := B.ext0 e309
            clear e309
            refine m_y (v := .pointer (some ⟨b, o, none⟩)) 0 rfl (by kernel_rfl) rfl rfl (fun w' e' => y_move rfl) ?_
            refine m_y (v := .int .i64 ky) 1 rfl (by kernel_rfl) rfl rfl (fun w' e' => y_move rfl) ?_
            refine m_y (v := .pointer (some ⟨b, o, none⟩)) 2 rfl (by kernel_rfl) rfl rfl (fun w' e' => y_move rfl) ?_
            refine m_y (v := .pointer (some ⟨b, o, none⟩)) 3 rfl (by kernel_rfl) rfl rfl (fun w' e' => y_nil rfl) ?_
            refine m_y (v := .pointer (some ⟨b, o, none⟩)) 4 rfl (by kernel_rfl) rfl rfl (fun w' e' => y_fld (o := o + 0) T79.fld_26_0_0 rfl) ?_
            refine m_y (v := .int .i64 wd) 5 rfl (by kernel_rfl) rfl rfl (fun w' e' => y_load T79.one_2 rfl (((B0_310.s 8 rfl).ext0 e').cell (j := 0) rfl)) ?_
            have hm312 := rem_b (x := ky) (m := wd) (by omega) (by omega)
            refine m_y (v := .int .i64 (ky % wd)) 6 rfl (by kernel_rfl) rfl rfl (fun w' e' => y_rem rfl rfl (by omega) (by omega) rfl) ?_
            refine m_y (v := .int .i64 ky) 7 rfl (by kernel_rfl) rfl rfl (fun w' e' => y_move rfl) ?_
            refine m_y (v := .pointer (some ⟨b, o, none⟩)) 8 rfl (by kernel_rfl) rfl rfl (fun w' e' => y_move rfl) ?_
            refine m_y (v := .pointer (some ⟨b, o, none⟩)) 9 rfl (by kernel_rfl) rfl rfl (fun w' e' => y_nil rfl) ?_
            refine m_y (v := .pointer (some ⟨b, o, none⟩)) 10 rfl (by kernel_rfl) rfl rfl (fun w' e' => y_fld (o := o + 0) T79.fld_26_0_0 rfl) ?_
            refine m_y (v := .int .i64 wd) 11 rfl (by kernel_rfl) rfl rfl (fun w' e' => y_load T79.one_2 rfl (((B0_310.s 8 rfl).ext0 e').cell (j := 0) rfl)) ?_
            have hm313 := quo_b (x := ky) (m := wd) (by omega) (by omega)
            refine m_y (v := .int .i64 (ky / wd)) 12 rfl (by kernel_rfl) rfl rfl (fun w' e' => y_quo rfl rfl (by omega) (by omega) (by omega) rfl) ?_
            refine m_kt 13 [] rfl (by kernel_rfl) rfl rfl (by kernel_rfl) (fun w314 e315 => ?_)
            replace R311 := R311.trans (Ext0.any e315)
            replace B := B.ext0 e315
            clear e315
            refine k_call T79.fn_93 (c_s_l02Border (B.s 8 rfl) (by omega) (by omega) (by omega) (by omega)) rfl ?_
            rintro v318 w316 ⟨hv319, e317⟩
            replace R311 := R311.trans (Ext0.any e317)
            replace B := B.ext0 e317
            clear e317
            by_cases c320 : bordB wd hi false (ky % wd) (ky / wd) = true
            · obtain rfl : v318 = .bool true := hv319.trans (congrArg Value.bool c320)
              refine m_done (by kernel_rfl) (fun w321 e322 => ?_)
              replace B := B.ext0 e322
              clear e322
              clear B0_310 R311
              refine W_if_t (by decide) rfl ?_
              refine W_region (by kernel_rfl) ?_
              refine s_y (v := .pointer (some ⟨b37, 0, none⟩)) rfl (y_fld (o := 0) T79.fld_30_0_0 rfl) ?_
              refine s_y (v := .slice a30 (Int.toNat (wd * hi)) c31) rfl (y_load T79.one_24 rfl ((B.b 4 rfl).cell (j := 0) rfl)) ?_
              refine s_y (v := .int .i64 ky) rfl (y_move rfl) ?_
              refine s_y (v := .pointer (some (sat a30 ((ky).toNat * 1)))) rfl (y_idx T79.sl_24_34_1 rfl rfl ((B.o 0 rfl).rd.addr (by omega)) (by omega) (by omega)) ?_
              refine s_k0 rfl (k_stO (k := kF) (i := ky) (j := 0) (x' := 0) (new := [.float .f32 0]) T79.sz_34_1 rfl rfl rfl rfl rfl (by simp [Value.oneCell']) (by decide) (B.o 0 rfl) (by omega) (by omega) (by decide) (by rintro q ⟨_, rfl, _⟩; exact ⟨_, rfl, (cnLit (k := .f32) (t := 0) (by kernel_rfl) (by kernel_rfl))⟩) (fun w323 hU324 => ?_))
              replace B : Bu w (hasW [.blk bs [.slice aq nq cq, .int .i64 p, .int .u64 (sdY Xq p)] 131]) w323 [.ow kF a30 (Int.toNat (wd * hi)) c31 34 (put zE ky 0), .ow kF a32 (Int.toNat (wd * hi)) c33 34 zX, .ow kF a34 (Int.toNat (wd * hi)) c35 34 zY, .blk bs [.slice aq nq cq, .int .i64 q, .int .u64 (sdY Xq q)] 131, .blk b37 [.slice a30 (Int.toNat (wd * hi)) c31, .slice a32 (Int.toNat (wd * hi)) c33, .slice a34 (Int.toNat (wd * hi)) c35] 30, .blk b1 [.slice none 0 0, .slice none 0 0, .slice none 0 0] 30, .rd kF asp nsp Xsp, .rd kF als nls Xls, .sl (some ⟨b, o, none⟩) [.int .i64 wd, .int .i64 hi, .bool false, .slice asp nsp csp, .slice als nls cls], .rd kY aq nq Xq] := B.upd [0] rfl hU324
              clear hU324
              refine s_nil ?_
              refine W_seq ?_
              refine W_seq ?_
              have B0_329 := B
              refine W_draw (no) T79.mx (by kernel_rfl) (fun w327 e328 => ?_)
              have R330 := Ext.refl (no) w323
              replace R330 := R330.trans (Ext0.any e328)
              replace B := B.ext0 e328
              clear e328
              refine m_y (v := .int .i64 ky) 0 rfl (by kernel_rfl) rfl rfl (fun w' e' => y_move rfl) ?_
              refine m_y (v := .pointer (some ⟨b, o, none⟩)) 1 rfl (by kernel_rfl) rfl rfl (fun w' e' => y_move rfl) ?_
              refine m_y (v := .pointer (some ⟨b, o, none⟩)) 2 rfl (by kernel_rfl) rfl rfl (fun w' e' => y_nil rfl) ?_
              refine m_y (v := .pointer (some ⟨b, o, none⟩)) 3 rfl (by kernel_rfl) rfl rfl (fun w' e' => y_fld (o := o + 0) T79.fld_26_0_0 rfl) ?_
              refine m_y (v := .int .i64 wd) 4 rfl (by kernel_rfl) rfl rfl (fun w' e' => y_load T79.one_2 rfl (((B0_329.s 8 rfl).ext0 e').cell (j := 0) rfl)) ?_
              have hm331 := quo_b (x := ky) (m := wd) (by omega) (by omega)
              refine m_y (v := .int .i64 (ky / wd)) 5 rfl (by kernel_rfl) rfl rfl (fun w' e' => y_quo rfl rfl (by omega) (by omega) (by omega) rfl) ?_
              refine m_y (v := .pointer (some ⟨b, o, none⟩)) 6 rfl (by kernel_rfl) rfl rfl (fun w' e' => y_move rfl) ?_
              refine m_y (v := .pointer (some ⟨b, o, none⟩)) 7 rfl (by kernel_rfl) rfl rfl (fun w' e' => y_nil rfl) ?_
              refine m_y (v := .pointer (some ⟨b, o + 1, none⟩)) 8 rfl (by kernel_rfl) rfl rfl (fun w' e' => y_fld (o := o + 0) T79.fld_26_1_1 rfl) ?_
              refine m_y (v := .int .i64 hi) 9 rfl (by kernel_rfl) rfl rfl (fun w' e' => y_load T79.one_2 rfl (((B0_329.s 8 rfl).ext0 e').cell (j := 1) rfl)) ?_
              refine m_y (v := .int .i64 (hi - 1)) 10 rfl (by kernel_rfl) rfl rfl (fun w' e' => y_sub rfl rfl rfl (by omega)) ?_
              by_cases c332 : (ky / wd) = (hi - 1)
              · refine m_y (v := .bool true) 11 rfl (by kernel_rfl) rfl rfl (fun w' e' => y_eql rfl rfl (decide_eq_true c332)) ?_
                refine m_done (by kernel_rfl) (fun w333 e334 => ?_)
                replace B := B.ext0 e334
                clear e334
                clear B0_329 R330
                refine W_if_t (by decide) rfl ?_
                refine W_region (by kernel_rfl) ?_
                refine s_y (v := .pointer (some ⟨b37, 1, none⟩)) rfl (y_fld (o := 0) T79.fld_30_1_1 rfl) ?_
                refine s_y (v := .slice a32 (Int.toNat (wd * hi)) c33) rfl (y_load T79.one_24 rfl ((B.b 4 rfl).cell (j := 1) rfl)) ?_
                refine s_y (v := .int .i64 ky) rfl (y_move rfl) ?_
                refine s_y (v := .pointer (some (sat a32 ((ky).toNat * 1)))) rfl (y_idx T79.sl_24_34_1 rfl rfl ((B.o 1 rfl).rd.addr (by omega)) (by omega) (by omega)) ?_
                refine s_k0 rfl (k_stO (k := kF) (i := ky) (j := 0) (x' := 0) (new := [.float .f32 0]) T79.sz_34_1 rfl rfl rfl rfl rfl (by simp [Value.oneCell']) (by decide) (B.o 1 rfl) (by omega) (by omega) (by decide) (by rintro q ⟨_, rfl, _⟩; exact ⟨_, rfl, (cnLit (k := .f32) (t := 0) (by kernel_rfl) (by kernel_rfl))⟩) (fun w335 hU336 => ?_))
                replace B : Bu w (hasW [.blk bs [.slice aq nq cq, .int .i64 p, .int .u64 (sdY Xq p)] 131]) w335 [.ow kF a32 (Int.toNat (wd * hi)) c33 34 (put zX ky 0), .ow kF a30 (Int.toNat (wd * hi)) c31 34 (put zE ky 0), .ow kF a34 (Int.toNat (wd * hi)) c35 34 zY, .blk bs [.slice aq nq cq, .int .i64 q, .int .u64 (sdY Xq q)] 131, .blk b37 [.slice a30 (Int.toNat (wd * hi)) c31, .slice a32 (Int.toNat (wd * hi)) c33, .slice a34 (Int.toNat (wd * hi)) c35] 30, .blk b1 [.slice none 0 0, .slice none 0 0, .slice none 0 0] 30, .rd kF asp nsp Xsp, .rd kF als nls Xls, .sl (some ⟨b, o, none⟩) [.int .i64 wd, .int .i64 hi, .bool false, .slice asp nsp csp, .slice als nls cls], .rd kY aq nq Xq] := B.upd [1] rfl hU336
                clear hU336
                refine s_nil ?_
                refine W_seq ?_
                have B0_341 := B
                refine W_draw (no) T79.mx (by kernel_rfl) (fun w339 e340 => ?_)
                have R342 := Ext.refl (no) w335
                replace R342 := R342.trans (Ext0.any e340)
                replace B := B.ext0 e340
                clear e340
                refine m_y (v := .int .i64 ky) 0 rfl (by kernel_rfl) rfl rfl (fun w' e' => y_move rfl) ?_
                refine m_y (v := .pointer (some ⟨b, o, none⟩)) 1 rfl (by kernel_rfl) rfl rfl (fun w' e' => y_move rfl) ?_
                refine m_y (v := .pointer (some ⟨b, o, none⟩)) 2 rfl (by kernel_rfl) rfl rfl (fun w' e' => y_nil rfl) ?_
                refine m_y (v := .pointer (some ⟨b, o, none⟩)) 3 rfl (by kernel_rfl) rfl rfl (fun w' e' => y_fld (o := o + 0) T79.fld_26_0_0 rfl) ?_
                refine m_y (v := .int .i64 wd) 4 rfl (by kernel_rfl) rfl rfl (fun w' e' => y_load T79.one_2 rfl (((B0_341.s 8 rfl).ext0 e').cell (j := 0) rfl)) ?_
                have hm343 := rem_b (x := ky) (m := wd) (by omega) (by omega)
                refine m_y (v := .int .i64 (ky % wd)) 5 rfl (by kernel_rfl) rfl rfl (fun w' e' => y_rem rfl rfl (by omega) (by omega) rfl) ?_
                refine m_y (v := .pointer (some ⟨b, o, none⟩)) 6 rfl (by kernel_rfl) rfl rfl (fun w' e' => y_move rfl) ?_
                refine m_y (v := .pointer (some ⟨b, o, none⟩)) 7 rfl (by kernel_rfl) rfl rfl (fun w' e' => y_nil rfl) ?_
                refine m_y (v := .pointer (some ⟨b, o, none⟩)) 8 rfl (by kernel_rfl) rfl rfl (fun w' e' => y_fld (o := o + 0) T79.fld_26_0_0 rfl) ?_
                refine m_y (v := .int .i64 wd) 9 rfl (by kernel_rfl) rfl rfl (fun w' e' => y_load T79.one_2 rfl (((B0_341.s 8 rfl).ext0 e').cell (j := 0) rfl)) ?_
                refine m_y (v := .int .i64 (wd - 1)) 10 rfl (by kernel_rfl) rfl rfl (fun w' e' => y_sub rfl rfl rfl (by omega)) ?_
                by_cases c344 : (ky % wd) = (wd - 1)
                · refine m_y (v := .bool true) 11 rfl (by kernel_rfl) rfl rfl (fun w' e' => y_eql rfl rfl (decide_eq_true c344)) ?_
                  refine m_done (by kernel_rfl) (fun w345 e346 => ?_)
                  replace B := B.ext0 e346
                  clear e346
                  clear B0_341 R342
                  refine W_if_t (by decide) rfl ?_
                  refine W_region (by kernel_rfl) ?_
                  refine s_y (v := .pointer (some ⟨b37, 2, none⟩)) rfl (y_fld (o := 0) T79.fld_30_2_2 rfl) ?_
                  refine s_y (v := .slice a34 (Int.toNat (wd * hi)) c35) rfl (y_load T79.one_24 rfl ((B.b 4 rfl).cell (j := 2) rfl)) ?_
                  refine s_y (v := .int .i64 ky) rfl (y_move rfl) ?_
                  refine s_y (v := .pointer (some (sat a34 ((ky).toNat * 1)))) rfl (y_idx T79.sl_24_34_1 rfl rfl ((B.o 2 rfl).rd.addr (by omega)) (by omega) (by omega)) ?_
                  refine s_k0 rfl (k_stO (k := kF) (i := ky) (j := 0) (x' := 0) (new := [.float .f32 0]) T79.sz_34_1 rfl rfl rfl rfl rfl (by simp [Value.oneCell']) (by decide) (B.o 2 rfl) (by omega) (by omega) (by decide) (by rintro q ⟨_, rfl, _⟩; exact ⟨_, rfl, (cnLit (k := .f32) (t := 0) (by kernel_rfl) (by kernel_rfl))⟩) (fun w347 hU348 => ?_))
                  replace B : Bu w (hasW [.blk bs [.slice aq nq cq, .int .i64 p, .int .u64 (sdY Xq p)] 131]) w347 [.ow kF a34 (Int.toNat (wd * hi)) c35 34 (put zY ky 0), .ow kF a32 (Int.toNat (wd * hi)) c33 34 (put zX ky 0), .ow kF a30 (Int.toNat (wd * hi)) c31 34 (put zE ky 0), .blk bs [.slice aq nq cq, .int .i64 q, .int .u64 (sdY Xq q)] 131, .blk b37 [.slice a30 (Int.toNat (wd * hi)) c31, .slice a32 (Int.toNat (wd * hi)) c33, .slice a34 (Int.toNat (wd * hi)) c35] 30, .blk b1 [.slice none 0 0, .slice none 0 0, .slice none 0 0] 30, .rd kF asp nsp Xsp, .rd kF als nls Xls, .sl (some ⟨b, o, none⟩) [.int .i64 wd, .int .i64 hi, .bool false, .slice asp nsp csp, .slice als nls cls], .rd kY aq nq Xq] := B.upd [2] rfl hU348
                  clear hU348
                  refine s_nil ?_
                  refine W_region (by kernel_rfl) ?_
                  refine s_y (v := .int .i64 ky) rfl (y_move rfl) ?_
                  refine s_y (v := .int .i64 (ky + 1)) rfl (y_add rfl rfl rfl (by omega)) ?_
                  refine s_y (v := .int .i64 (ky + 1)) rfl (y_assign rfl) ?_
                  refine s_nil ?_
                  refine ⟨⟨_, ky + 1, _, _, _, Fits.eq ⟨rfl, rfl, rfl, rfl, rfl, trivial⟩, (B.pick [2, 1, 0, 3, 4, 5, 6, 7, 8, 9] rfl rfl), (by omega), (by omega), (by first | exact hzE | (simp only [put_length]; exact hzE)), (by first | exact hzX | (simp only [put_length]; exact hzX)), (by first | exact hzY | (simp only [put_length]; exact hzY)), (edge_step (put_pre hzE h0ky (by omega)) (put_pre hzX h0ky (by omega)) (put_pre hzY h0ky (by omega)) hed (fun _ => put_self hzE h0ky (by omega)) (fun _ => put_self hzX h0ky (by omega)) (fun _ => put_self hzY h0ky (by omega)))⟩, ?_⟩
                  show (wd * hi - (ky + 1)).toNat < (wd * hi - ky).toNat
                  omega
                · refine m_y (v := .bool false) 11 rfl (by kernel_rfl) rfl rfl (fun w' e' => y_eql rfl rfl (decide_eq_false c344)) ?_
                  refine m_done (by kernel_rfl) (fun w349 e350 => ?_)
                  replace B := B.ext0 e350
                  clear e350
                  clear B0_341 R342
                  refine W_if_f (by decide) rfl ?_
                  refine W_skip ?_
                  refine W_region (by kernel_rfl) ?_
                  refine s_y (v := .int .i64 ky) rfl (y_move rfl) ?_
                  refine s_y (v := .int .i64 (ky + 1)) rfl (y_add rfl rfl rfl (by omega)) ?_
                  refine s_y (v := .int .i64 (ky + 1)) rfl (y_assign rfl) ?_
                  refine s_nil ?_
                  refine ⟨⟨_, ky + 1, _, _, _, Fits.eq ⟨rfl, rfl, rfl, rfl, rfl, trivial⟩, (B.pick [1, 0, 2, 3, 4, 5, 6, 7, 8, 9] rfl rfl), (by omega), (by omega), (by first | exact hzE | (simp only [put_length]; exact hzE)), (by first | exact hzX | (simp only [put_length]; exact hzX)), (by first | exact hzY | (simp only [put_length]; exact hzY)), (edge_step (put_pre hzE h0ky (by omega)) (put_pre hzX h0ky (by omega)) (fun _ _ _ => rfl) hed (fun _ => put_self hzE h0ky (by omega)) (fun _ => put_self hzX h0ky (by omega)) (fun hh => absurd hh c344))⟩, ?_⟩
                  show (wd * hi - (ky + 1)).toNat < (wd * hi - ky).toNat
                  omega
              · refine m_y (v := .bool false) 11 rfl (by kernel_rfl) rfl rfl (fun w' e' => y_eql rfl rfl (decide_eq_false c332)) ?_
                refine m_done (by kernel_rfl) (fun w351 e352 => ?_)
                replace B := B.ext0 e352
                clear e352
                clear B0_329 R330
                refine W_if_f (by decide) rfl ?_
                refine W_skip ?_
                refine W_seq ?_
                have B0_357 := B
                refine W_draw (no) T79.mx (by kernel_rfl) (fun w355 e356 => ?_)
                have R358 := Ext.refl (no) w351
                replace R358 := R358.trans (Ext0.any e356)
                replace B := B.ext0 e356
                clear e356
                refine m_y (v := .int .i64 ky) 0 rfl (by kernel_rfl) rfl rfl (fun w' e' => y_move rfl) ?_
                refine m_y (v := .pointer (some ⟨b, o, none⟩)) 1 rfl (by kernel_rfl) rfl rfl (fun w' e' => y_move rfl) ?_
                refine m_y (v := .pointer (some ⟨b, o, none⟩)) 2 rfl (by kernel_rfl) rfl rfl (fun w' e' => y_nil rfl) ?_
                refine m_y (v := .pointer (some ⟨b, o, none⟩)) 3 rfl (by kernel_rfl) rfl rfl (fun w' e' => y_fld (o := o + 0) T79.fld_26_0_0 rfl) ?_
                refine m_y (v := .int .i64 wd) 4 rfl (by kernel_rfl) rfl rfl (fun w' e' => y_load T79.one_2 rfl (((B0_357.s 8 rfl).ext0 e').cell (j := 0) rfl)) ?_
                have hm359 := rem_b (x := ky) (m := wd) (by omega) (by omega)
                refine m_y (v := .int .i64 (ky % wd)) 5 rfl (by kernel_rfl) rfl rfl (fun w' e' => y_rem rfl rfl (by omega) (by omega) rfl) ?_
                refine m_y (v := .pointer (some ⟨b, o, none⟩)) 6 rfl (by kernel_rfl) rfl rfl (fun w' e' => y_move rfl) ?_
                refine m_y (v := .pointer (some ⟨b, o, none⟩)) 7 rfl (by kernel_rfl) rfl rfl (fun w' e' => y_nil rfl) ?_
                refine m_y (v := .pointer (some ⟨b, o, none⟩)) 8 rfl (by kernel_rfl) rfl rfl (fun w' e' => y_fld (o := o + 0) T79.fld_26_0_0 rfl) ?_
                refine m_y (v := .int .i64 wd) 9 rfl (by kernel_rfl) rfl rfl (fun w' e' => y_load T79.one_2 rfl (((B0_357.s 8 rfl).ext0 e').cell (j := 0) rfl)) ?_
                refine m_y (v := .int .i64 (wd - 1)) 10 rfl (by kernel_rfl) rfl rfl (fun w' e' => y_sub rfl rfl rfl (by omega)) ?_
                by_cases c360 : (ky % wd) = (wd - 1)
                · refine m_y (v := .bool true) 11 rfl (by kernel_rfl) rfl rfl (fun w' e' => y_eql rfl rfl (decide_eq_true c360)) ?_
                  refine m_done (by kernel_rfl) (fun w361 e362 => ?_)
                  replace B := B.ext0 e362
                  clear e362
                  clear B0_357 R358
                  refine W_if_t (by decide) rfl ?_
                  refine W_region (by kernel_rfl) ?_
                  refine s_y (v := .pointer (some ⟨b37, 2, none⟩)) rfl (y_fld (o := 0) T79.fld_30_2_2 rfl) ?_
                  refine s_y (v := .slice a34 (Int.toNat (wd * hi)) c35) rfl (y_load T79.one_24 rfl ((B.b 4 rfl).cell (j := 2) rfl)) ?_
                  refine s_y (v := .int .i64 ky) rfl (y_move rfl) ?_
                  refine s_y (v := .pointer (some (sat a34 ((ky).toNat * 1)))) rfl (y_idx T79.sl_24_34_1 rfl rfl ((B.o 2 rfl).rd.addr (by omega)) (by omega) (by omega)) ?_
                  refine s_k0 rfl (k_stO (k := kF) (i := ky) (j := 0) (x' := 0) (new := [.float .f32 0]) T79.sz_34_1 rfl rfl rfl rfl rfl (by simp [Value.oneCell']) (by decide) (B.o 2 rfl) (by omega) (by omega) (by decide) (by rintro q ⟨_, rfl, _⟩; exact ⟨_, rfl, (cnLit (k := .f32) (t := 0) (by kernel_rfl) (by kernel_rfl))⟩) (fun w363 hU364 => ?_))
                  replace B : Bu w (hasW [.blk bs [.slice aq nq cq, .int .i64 p, .int .u64 (sdY Xq p)] 131]) w363 [.ow kF a34 (Int.toNat (wd * hi)) c35 34 (put zY ky 0), .ow kF a30 (Int.toNat (wd * hi)) c31 34 (put zE ky 0), .ow kF a32 (Int.toNat (wd * hi)) c33 34 zX, .blk bs [.slice aq nq cq, .int .i64 q, .int .u64 (sdY Xq q)] 131, .blk b37 [.slice a30 (Int.toNat (wd * hi)) c31, .slice a32 (Int.toNat (wd * hi)) c33, .slice a34 (Int.toNat (wd * hi)) c35] 30, .blk b1 [.slice none 0 0, .slice none 0 0, .slice none 0 0] 30, .rd kF asp nsp Xsp, .rd kF als nls Xls, .sl (some ⟨b, o, none⟩) [.int .i64 wd, .int .i64 hi, .bool false, .slice asp nsp csp, .slice als nls cls], .rd kY aq nq Xq] := B.upd [2] rfl hU364
                  clear hU364
                  refine s_nil ?_
                  refine W_region (by kernel_rfl) ?_
                  refine s_y (v := .int .i64 ky) rfl (y_move rfl) ?_
                  refine s_y (v := .int .i64 (ky + 1)) rfl (y_add rfl rfl rfl (by omega)) ?_
                  refine s_y (v := .int .i64 (ky + 1)) rfl (y_assign rfl) ?_
                  refine s_nil ?_
                  refine ⟨⟨_, ky + 1, _, _, _, Fits.eq ⟨rfl, rfl, rfl, rfl, rfl, trivial⟩, (B.pick [1, 2, 0, 3, 4, 5, 6, 7, 8, 9] rfl rfl), (by omega), (by omega), (by first | exact hzE | (simp only [put_length]; exact hzE)), (by first | exact hzX | (simp only [put_length]; exact hzX)), (by first | exact hzY | (simp only [put_length]; exact hzY)), (edge_step (put_pre hzE h0ky (by omega)) (fun _ _ _ => rfl) (put_pre hzY h0ky (by omega)) hed (fun _ => put_self hzE h0ky (by omega)) (fun hh => absurd hh c332) (fun _ => put_self hzY h0ky (by omega)))⟩, ?_⟩
                  show (wd * hi - (ky + 1)).toNat < (wd * hi - ky).toNat
                  omega
                · refine m_y (v := .bool false) 11 rfl (by kernel_rfl) rfl rfl (fun w' e' => y_eql rfl rfl (decide_eq_false c360)) ?_
                  refine m_done (by kernel_rfl) (fun w365 e366 => ?_)
                  replace B := B.ext0 e366
                  clear e366
                  clear B0_357 R358
                  refine W_if_f (by decide) rfl ?_
                  refine W_skip ?_
                  refine W_region (by kernel_rfl) ?_
                  refine s_y (v := .int .i64 ky) rfl (y_move rfl) ?_
                  refine s_y (v := .int .i64 (ky + 1)) rfl (y_add rfl rfl rfl (by omega)) ?_
                  refine s_y (v := .int .i64 (ky + 1)) rfl (y_assign rfl) ?_
                  refine s_nil ?_
                  refine ⟨⟨_, ky + 1, _, _, _, Fits.eq ⟨rfl, rfl, rfl, rfl, rfl, trivial⟩, B, (by omega), (by omega), (by first | exact hzE | (simp only [put_length]; exact hzE)), (by first | exact hzX | (simp only [put_length]; exact hzX)), (by first | exact hzY | (simp only [put_length]; exact hzY)), (edge_step (put_pre hzE h0ky (by omega)) (fun _ _ _ => rfl) (fun _ _ _ => rfl) hed (fun _ => put_self hzE h0ky (by omega)) (fun hh => absurd hh c332) (fun hh => absurd hh c360))⟩, ?_⟩
                  show (wd * hi - (ky + 1)).toNat < (wd * hi - ky).toNat
                  omega
            · obtain rfl : v318 = .bool false := hv319.trans (congrArg Value.bool (Bool.eq_false_iff.2 c320))
              refine m_done (by kernel_rfl) (fun w367 e368 => ?_)
              replace B := B.ext0 e368
              clear e368
              clear B0_310 R311
              refine W_if_f (by decide) rfl ?_
              refine W_skip ?_
              refine W_seq ?_
              refine W_seq ?_
              have B0_373 := B
              refine W_draw (no) T79.mx (by kernel_rfl) (fun w371 e372 => ?_)
              have R374 := Ext.refl (no) w367
              replace R374 := R374.trans (Ext0.any e372)
              replace B := B.ext0 e372
              clear e372
              refine m_y (v := .int .i64 ky) 0 rfl (by kernel_rfl) rfl rfl (fun w' e' => y_move rfl) ?_
              refine m_y (v := .pointer (some ⟨b, o, none⟩)) 1 rfl (by kernel_rfl) rfl rfl (fun w' e' => y_move rfl) ?_
              refine m_y (v := .pointer (some ⟨b, o, none⟩)) 2 rfl (by kernel_rfl) rfl rfl (fun w' e' => y_nil rfl) ?_
              refine m_y (v := .pointer (some ⟨b, o, none⟩)) 3 rfl (by kernel_rfl) rfl rfl (fun w' e' => y_fld (o := o + 0) T79.fld_26_0_0 rfl) ?_
              refine m_y (v := .int .i64 wd) 4 rfl (by kernel_rfl) rfl rfl (fun w' e' => y_load T79.one_2 rfl (((B0_373.s 8 rfl).ext0 e').cell (j := 0) rfl)) ?_
              have hm375 := quo_b (x := ky) (m := wd) (by omega) (by omega)
              refine m_y (v := .int .i64 (ky / wd)) 5 rfl (by kernel_rfl) rfl rfl (fun w' e' => y_quo rfl rfl (by omega) (by omega) (by omega) rfl) ?_
              refine m_y (v := .pointer (some ⟨b, o, none⟩)) 6 rfl (by kernel_rfl) rfl rfl (fun w' e' => y_move rfl) ?_
              refine m_y (v := .pointer (some ⟨b, o, none⟩)) 7 rfl (by kernel_rfl) rfl rfl (fun w' e' => y_nil rfl) ?_
              refine m_y (v := .pointer (some ⟨b, o + 1, none⟩)) 8 rfl (by kernel_rfl) rfl rfl (fun w' e' => y_fld (o := o + 0) T79.fld_26_1_1 rfl) ?_
              refine m_y (v := .int .i64 hi) 9 rfl (by kernel_rfl) rfl rfl (fun w' e' => y_load T79.one_2 rfl (((B0_373.s 8 rfl).ext0 e').cell (j := 1) rfl)) ?_
              refine m_y (v := .int .i64 (hi - 1)) 10 rfl (by kernel_rfl) rfl rfl (fun w' e' => y_sub rfl rfl rfl (by omega)) ?_
              by_cases c376 : (ky / wd) = (hi - 1)
              · refine m_y (v := .bool true) 11 rfl (by kernel_rfl) rfl rfl (fun w' e' => y_eql rfl rfl (decide_eq_true c376)) ?_
                refine m_done (by kernel_rfl) (fun w377 e378 => ?_)
                replace B := B.ext0 e378
                clear e378
                clear B0_373 R374
                refine W_if_t (by decide) rfl ?_
                refine W_region (by kernel_rfl) ?_
                refine s_y (v := .pointer (some ⟨b37, 1, none⟩)) rfl (y_fld (o := 0) T79.fld_30_1_1 rfl) ?_
                refine s_y (v := .slice a32 (Int.toNat (wd * hi)) c33) rfl (y_load T79.one_24 rfl ((B.b 4 rfl).cell (j := 1) rfl)) ?_
                refine s_y (v := .int .i64 ky) rfl (y_move rfl) ?_
                refine s_y (v := .pointer (some (sat a32 ((ky).toNat * 1)))) rfl (y_idx T79.sl_24_34_1 rfl rfl ((B.o 1 rfl).rd.addr (by omega)) (by omega) (by omega)) ?_
                refine s_k0 rfl (k_stO (k := kF) (i := ky) (j := 0) (x' := 0) (new := [.float .f32 0]) T79.sz_34_1 rfl rfl rfl rfl rfl (by simp [Value.oneCell']) (by decide) (B.o 1 rfl) (by omega) (by omega) (by decide) (by rintro q ⟨_, rfl, _⟩; exact ⟨_, rfl, (cnLit (k := .f32) (t := 0) (by kernel_rfl) (by kernel_rfl))⟩) (fun w379 hU380 => ?_))
                replace B : Bu w (hasW [.blk bs [.slice aq nq cq, .int .i64 p, .int .u64 (sdY Xq p)] 131]) w379 [.ow kF a32 (Int.toNat (wd * hi)) c33 34 (put zX ky 0), .ow kF a30 (Int.toNat (wd * hi)) c31 34 zE, .ow kF a34 (Int.toNat (wd * hi)) c35 34 zY, .blk bs [.slice aq nq cq, .int .i64 q, .int .u64 (sdY Xq q)] 131, .blk b37 [.slice a30 (Int.toNat (wd * hi)) c31, .slice a32 (Int.toNat (wd * hi)) c33, .slice a34 (Int.toNat (wd * hi)) c35] 30, .blk b1 [.slice none 0 0, .slice none 0 0, .slice none 0 0] 30, .rd kF asp nsp Xsp, .rd kF als nls Xls, .sl (some ⟨b, o, none⟩) [.int .i64 wd, .int .i64 hi, .bool false, .slice asp nsp csp, .slice als nls cls], .rd kY aq nq Xq] := B.upd [1] rfl hU380
                clear hU380
                refine s_nil ?_
                refine W_seq ?_
                have B0_385 := B
                refine W_draw (no) T79.mx (by kernel_rfl) (fun w383 e384 => ?_)
                have R386 := Ext.refl (no) w379
                replace R386 := R386.trans (Ext0.any e384)
                replace B := B.ext0 e384
                clear e384
                refine m_y (v := .int .i64 ky) 0 rfl (by kernel_rfl) rfl rfl (fun w' e' => y_move rfl) ?_
                refine m_y (v := .pointer (some ⟨b, o, none⟩)) 1 rfl (by kernel_rfl) rfl rfl (fun w' e' => y_move rfl) ?_
                refine m_y (v := .pointer (some ⟨b, o, none⟩)) 2 rfl (by kernel_rfl) rfl rfl (fun w' e' => y_nil rfl) ?_
                refine m_y (v := .pointer (some ⟨b, o, none⟩)) 3 rfl (by kernel_rfl) rfl rfl (fun w' e' => y_fld (o := o + 0) T79.fld_26_0_0 rfl) ?_
                refine m_y (v := .int .i64 wd) 4 rfl (by kernel_rfl) rfl rfl (fun w' e' => y_load T79.one_2 rfl (((B0_385.s 8 rfl).ext0 e').cell (j := 0) rfl)) ?_
                have hm387 := rem_b (x := ky) (m := wd) (by omega) (by omega)
                refine m_y (v := .int .i64 (ky % wd)) 5 rfl (by kernel_rfl) rfl rfl (fun w' e' => y_rem rfl rfl (by omega) (by omega) rfl) ?_
                refine m_y (v := .pointer (some ⟨b, o, none⟩)) 6 rfl (by kernel_rfl) rfl rfl (fun w' e' => y_move rfl) ?_
                refine m_y (v := .pointer (some ⟨b, o, none⟩)) 7 rfl (by kernel_rfl) rfl rfl (fun w' e' => y_nil rfl) ?_
                refine m_y (v := .pointer (some ⟨b, o, none⟩)) 8 rfl (by kernel_rfl) rfl rfl (fun w' e' => y_fld (o := o + 0) T79.fld_26_0_0 rfl) ?_
                refine m_y (v := .int .i64 wd) 9 rfl (by kernel_rfl) rfl rfl (fun w' e' => y_load T79.one_2 rfl (((B0_385.s 8 rfl).ext0 e').cell (j := 0) rfl)) ?_
                refine m_y (v := .int .i64 (wd - 1)) 10 rfl (by kernel_rfl) rfl rfl (fun w' e' => y_sub rfl rfl rfl (by omega)) ?_
                by_cases c388 : (ky % wd) = (wd - 1)
                · refine m_y (v := .bool true) 11 rfl (by kernel_rfl) rfl rfl (fun w' e' => y_eql rfl rfl (decide_eq_true c388)) ?_
                  refine m_done (by kernel_rfl) (fun w389 e390 => ?_)
                  replace B := B.ext0 e390
                  clear e390
                  clear B0_385 R386
                  refine W_if_t (by decide) rfl ?_
                  refine W_region (by kernel_rfl) ?_
                  refine s_y (v := .pointer (some ⟨b37, 2, none⟩)) rfl (y_fld (o := 0) T79.fld_30_2_2 rfl) ?_
                  refine s_y (v := .slice a34 (Int.toNat (wd * hi)) c35) rfl (y_load T79.one_24 rfl ((B.b 4 rfl).cell (j := 2) rfl)) ?_
                  refine s_y (v := .int .i64 ky) rfl (y_move rfl) ?_
                  refine s_y (v := .pointer (some (sat a34 ((ky).toNat * 1)))) rfl (y_idx T79.sl_24_34_1 rfl rfl ((B.o 2 rfl).rd.addr (by omega)) (by omega) (by omega)) ?_
                  refine s_k0 rfl (k_stO (k := kF) (i := ky) (j := 0) (x' := 0) (new := [.float .f32 0]) T79.sz_34_1 rfl rfl rfl rfl rfl (by simp [Value.oneCell']) (by decide) (B.o 2 rfl) (by omega) (by omega) (by decide) (by rintro q ⟨_, rfl, _⟩; exact ⟨_, rfl, (cnLit (k := .f32) (t := 0) (by kernel_rfl) (by kernel_rfl))⟩) (fun w391 hU392 => ?_))
                  replace B : Bu w (hasW [.blk bs [.slice aq nq cq, .int .i64 p, .int .u64 (sdY Xq p)] 131]) w391 [.ow kF a34 (Int.toNat (wd * hi)) c35 34 (put zY ky 0), .ow kF a32 (Int.toNat (wd * hi)) c33 34 (put zX ky 0), .ow kF a30 (Int.toNat (wd * hi)) c31 34 zE, .blk bs [.slice aq nq cq, .int .i64 q, .int .u64 (sdY Xq q)] 131, .blk b37 [.slice a30 (Int.toNat (wd * hi)) c31, .slice a32 (Int.toNat (wd * hi)) c33, .slice a34 (Int.toNat (wd * hi)) c35] 30, .blk b1 [.slice none 0 0, .slice none 0 0, .slice none 0 0] 30, .rd kF asp nsp Xsp, .rd kF als nls Xls, .sl (some ⟨b, o, none⟩) [.int .i64 wd, .int .i64 hi, .bool false, .slice asp nsp csp, .slice als nls cls], .rd kY aq nq Xq] := B.upd [2] rfl hU392
                  clear hU392
                  refine s_nil ?_
                  refine W_region (by kernel_rfl) ?_
                  refine s_y (v := .int .i64 ky) rfl (y_move rfl) ?_
                  refine s_y (v := .int .i64 (ky + 1)) rfl (y_add rfl rfl rfl (by omega)) ?_
                  refine s_y (v := .int .i64 (ky + 1)) rfl (y_assign rfl) ?_
                  refine s_nil ?_
                  refine ⟨⟨_, ky + 1, _, _, _, Fits.eq ⟨rfl, rfl, rfl, rfl, rfl, trivial⟩, (B.pick [2, 1, 0, 3, 4, 5, 6, 7, 8, 9] rfl rfl), (by omega), (by omega), (by first | exact hzE | (simp only [put_length]; exact hzE)), (by first | exact hzX | (simp only [put_length]; exact hzX)), (by first | exact hzY | (simp only [put_length]; exact hzY)), (edge_step (fun _ _ _ => rfl) (put_pre hzX h0ky (by omega)) (put_pre hzY h0ky (by omega)) hed (fun hh => absurd hh c320) (fun _ => put_self hzX h0ky (by omega)) (fun _ => put_self hzY h0ky (by omega)))⟩, ?_⟩
                  show (wd * hi - (ky + 1)).toNat < (wd * hi - ky).toNat
                  omega
                · refine m_y (v := .bool false) 11 rfl (by kernel_rfl) rfl rfl (fun w' e' => y_eql rfl rfl (decide_eq_false c388)) ?_
                  refine m_done (by kernel_rfl) (fun w393 e394 => ?_)
                  replace B := B.ext0 e394
                  clear e394
                  clear B0_385 R386
                  refine W_if_f (by decide) rfl ?_
                  refine W_skip ?_
                  refine W_region (by kernel_rfl) ?_
                  refine s_y (v := .int .i64 ky) rfl (y_move rfl) ?_
                  refine s_y (v := .int .i64 (ky + 1)) rfl (y_add rfl rfl rfl (by omega)) ?_
                  refine s_y (v := .int .i64 (ky + 1)) rfl (y_assign rfl) ?_
                  refine s_nil ?_
                  refine ⟨⟨_, ky + 1, _, _, _, Fits.eq ⟨rfl, rfl, rfl, rfl, rfl, trivial⟩, (B.pick [1, 0, 2, 3, 4, 5, 6, 7, 8, 9] rfl rfl), (by omega), (by omega), (by first | exact hzE | (simp only [put_length]; exact hzE)), (by first | exact hzX | (simp only [put_length]; exact hzX)), (by first | exact hzY | (simp only [put_length]; exact hzY)), (edge_step (fun _ _ _ => rfl) (put_pre hzX h0ky (by omega)) (fun _ _ _ => rfl) hed (fun hh => absurd hh c320) (fun _ => put_self hzX h0ky (by omega)) (fun hh => absurd hh c388))⟩, ?_⟩
                  show (wd * hi - (ky + 1)).toNat < (wd * hi - ky).toNat
                  omega
              · refine m_y (v := .bool false) 11 rfl (by kernel_rfl) rfl rfl (fun w' e' => y_eql rfl rfl (decide_eq_false c376)) ?_
                refine m_done (by kernel_rfl) (fun w395 e396 => ?_)
                replace B := B.ext0 e396
                clear e396
                clear B0_373 R374
                refine W_if_f (by decide) rfl ?_
                refine W_skip ?_
                refine W_seq ?_
                have B0_401 := B
                refine W_draw (no) T79.mx (by kernel_rfl) (fun w399 e400 => ?_)
                have R402 := Ext.refl (no) w395
                replace R402 := R402.trans (Ext0.any e400)
                replace B := B.ext0 e400
                clear e400
                refine m_y (v := .int .i64 ky) 0 rfl (by kernel_rfl) rfl rfl (fun w' e' => y_move rfl) ?_
                refine m_y (v := .pointer (some ⟨b, o, none⟩)) 1 rfl (by kernel_rfl) rfl rfl (fun w' e' => y_move rfl) ?_
                refine m_y (v := .pointer (some ⟨b, o, none⟩)) 2 rfl (by kernel_rfl) rfl rfl (fun w' e' => y_nil rfl) ?_
                refine m_y (v := .pointer (some ⟨b, o, none⟩)) 3 rfl (by kernel_rfl) rfl rfl (fun w' e' => y_fld (o := o + 0) T79.fld_26_0_0 rfl) ?_
                refine m_y (v := .int .i64 wd) 4 rfl (by kernel_rfl) rfl rfl (fun w' e' => y_load T79.one_2 rfl (((B0_401.s 8 rfl).ext0 e').cell (j := 0) rfl)) ?_
                have hm403 := rem_b (x := ky) (m := wd) (by omega) (by omega)
                refine m_y (v := .int .i64 (ky % wd)) 5 rfl (by kernel_rfl) rfl rfl (fun w' e' => y_rem rfl rfl (by omega) (by omega) rfl) ?_
                refine m_y (v := .pointer (some ⟨b, o, none⟩)) 6 rfl (by kernel_rfl) rfl rfl (fun w' e' => y_move rfl) ?_
                refine m_y (v := .pointer (some ⟨b, o, none⟩)) 7 rfl (by kernel_rfl) rfl rfl (fun w' e' => y_nil rfl) ?_
                refine m_y (v := .pointer (some ⟨b, o, none⟩)) 8 rfl (by kernel_rfl) rfl rfl (fun w' e' => y_fld (o := o + 0) T79.fld_26_0_0 rfl) ?_
                refine m_y (v := .int .i64 wd) 9 rfl (by kernel_rfl) rfl rfl (fun w' e' => y_load T79.one_2 rfl (((B0_401.s 8 rfl).ext0 e').cell (j := 0) rfl)) ?_
                refine m_y (v := .int .i64 (wd - 1)) 10 rfl (by kernel_rfl) rfl rfl (fun w' e' => y_sub rfl rfl rfl (by omega)) ?_
                by_cases c404 : (ky % wd) = (wd - 1)
                · refine m_y (v := .bool true) 11 rfl (by kernel_rfl) rfl rfl (fun w' e' => y_eql rfl rfl (decide_eq_true c404)) ?_
                  refine m_done (by kernel_rfl) (fun w405 e406 => ?_)
                  replace B := B.ext0 e406
                  clear e406
                  clear B0_401 R402
                  refine W_if_t (by decide) rfl ?_
                  refine W_region (by kernel_rfl) ?_
                  refine s_y (v := .pointer (some ⟨b37, 2, none⟩)) rfl (y_fld (o := 0) T79.fld_30_2_2 rfl) ?_
                  refine s_y (v := .slice a34 (Int.toNat (wd * hi)) c35) rfl (y_load T79.one_24 rfl ((B.b 4 rfl).cell (j := 2) rfl)) ?_
                  refine s_y (v := .int .i64 ky) rfl (y_move rfl) ?_
                  refine s_y (v := .pointer (some (sat a34 ((ky).toNat * 1)))) rfl (y_idx T79.sl_24_34_1 rfl rfl ((B.o 2 rfl).rd.addr (by omega)) (by omega) (by omega)) ?_
                  refine s_k0 rfl (k_stO (k := kF) (i := ky) (j := 0) (x' := 0) (new := [.float .f32 0]) T79.sz_34_1 rfl rfl rfl rfl rfl (by simp [Value.oneCell']) (by decide) (B.o 2 rfl) (by omega) (by omega) (by decide) (by rintro q ⟨_, rfl, _⟩; exact ⟨_, rfl, (cnLit (k := .f32) (t := 0) (by kernel_rfl) (by kernel_rfl))⟩) (fun w407 hU408 => ?_))
                  replace B : Bu w (hasW [.blk bs [.slice aq nq cq, .int .i64 p, .int .u64 (sdY Xq p)] 131]) w407 [.ow kF a34 (Int.toNat (wd * hi)) c35 34 (put zY ky 0), .ow kF a30 (Int.toNat (wd * hi)) c31 34 zE, .ow kF a32 (Int.toNat (wd * hi)) c33 34 zX, .blk bs [.slice aq nq cq, .int .i64 q, .int .u64 (sdY Xq q)] 131, .blk b37 [.slice a30 (Int.toNat (wd * hi)) c31, .slice a32 (Int.toNat (wd * hi)) c33, .slice a34 (Int.toNat (wd * hi)) c35] 30, .blk b1 [.slice none 0 0, .slice none 0 0, .slice none 0 0] 30, .rd kF asp nsp Xsp, .rd kF als nls Xls, .sl (some ⟨b, o, none⟩) [.int .i64 wd, .int .i64 hi, .bool false, .slice asp nsp csp, .slice als nls cls], .rd kY aq nq Xq] := B.upd [2] rfl hU408
                  clear hU408
                  refine s_nil ?_
                  refine W_region (by kernel_rfl) ?_
                  refine s_y (v := .int .i64 ky) rfl (y_move rfl) ?_
                  refine s_y (v := .int .i64 (ky + 1)) rfl (y_add rfl rfl rfl (by omega)) ?_
                  refine s_y (v := .int .i64 (ky + 1)) rfl (y_assign rfl) ?_
                  refine s_nil ?_
                  refine ⟨⟨_, ky + 1, _, _, _, Fits.eq ⟨rfl, rfl, rfl, rfl, rfl, trivial⟩, (B.pick [1, 2, 0, 3, 4, 5, 6, 7, 8, 9] rfl rfl), (by omega), (by omega), (by first | exact hzE | (simp only [put_length]; exact hzE)), (by first | exact hzX | (simp only [put_length]; exact hzX)), (by first | exact hzY | (simp only [put_length]; exact hzY)), (edge_step (fun _ _ _ => rfl) (fun _ _ _ => rfl) (put_pre hzY h0ky (by omega)) hed (fun hh => absurd hh c320) (fun hh => absurd hh c376) (fun _ => put_self hzY h0ky (by omega)))⟩, ?_⟩
                  show (wd * hi - (ky + 1)).toNat < (wd * hi - ky).toNat
                  omega
                · refine m_y (v := .bool false) 11 rfl (by kernel_rfl) rfl rfl (fun w' e' => y_eql rfl rfl (decide_eq_false c404)) ?_
                  refine m_done (by kernel_rfl) (fun w409 e410 => ?_)
                  replace B := B.ext0 e410
                  clear e410
                  clear B0_401 R402
                  refine W_if_f (by decide) rfl ?_
                  refine W_skip ?_
                  refine W_region (by kernel_rfl) ?_
                  refine s_y (v := .int .i64 ky) rfl (y_move rfl) ?_
                  refine s_y (v := .int .i64 (ky + 1)) rfl (y_add rfl rfl rfl (by omega)) ?_
                  refine s_y (v := .int .i64 (ky + 1)) rfl (y_assign rfl) ?_
                  refine s_nil ?_
                  refine ⟨⟨_, ky + 1, _, _, _, Fits.eq ⟨rfl, rfl, rfl, rfl, rfl, trivial⟩, B, (by omega), (by omega), (by first | exact hzE | (simp only [put_length]; exact hzE)), (by first | exact hzX | (simp only [put_length]; exact hzX)), (by first | exact hzY | (simp only [put_length]; exact hzY)), (edge_step (fun _ _ _ => rfl) (fun _ _ _ => rfl) (fun _ _ _ => rfl) hed (fun hh => absurd hh c320) (fun hh => absurd hh c376) (fun hh => absurd hh c404))⟩, ?_⟩
                  show (wd * hi - (ky + 1)).toNat < (wd * hi - ky).toNat
                  omega
          · refine s_y (v := .bool false) rfl (y_lss rfl rfl (decide_eq_false c305)) ?_
            refine s_nil ?_
            refine W_if_f (by decide) rfl ?_
            refine W_exit ?_
            refine W_seq ?_
            refine W_region (by kernel_rfl) ?_
            refine s_y (v := .agg #[.slice a30 (Int.toNat (wd * hi)) c31, .slice a32 (Int.toNat (wd * hi)) c33, .slice a34 (Int.toNat (wd * hi)) c35]) rfl (y_loadn (b := b37) (o := 0) (vs := [.slice a30 (Int.toNat (wd * hi)) c31, .slice a32 (Int.toNat (wd * hi)) c33, .slice a34 (Int.toNat (wd * hi)) c35]) T79.agg_30_3 rfl rfl ((B.b 4 rfl).cells (o := 0) rfl)) ?_
            refine s_k0 rfl (k_stB (v := .agg #[.slice a30 (Int.toNat (wd * hi)) c31, .slice a32 (Int.toNat (wd * hi)) c33, .slice a34 (Int.toNat (wd * hi)) c35]) (n := 3) (cs' := [.slice a30 (Int.toNat (wd * hi)) c31, .slice a32 (Int.toNat (wd * hi)) c33, .slice a34 (Int.toNat (wd * hi)) c35]) T79.sz_30_3 rfl rfl rfl (B.b 5 rfl) (by simp [Value.cells, Value.oneCell']) (Nat.le_of_ble_eq_true rfl) rfl (fun w411 hU412 => ?_))
            replace B : Bu w (hasW [.blk bs [.slice aq nq cq, .int .i64 p, .int .u64 (sdY Xq p)] 131]) w411 [.blk b1 [.slice a30 (Int.toNat (wd * hi)) c31, .slice a32 (Int.toNat (wd * hi)) c33, .slice a34 (Int.toNat (wd * hi)) c35] 30, .ow kF a30 (Int.toNat (wd * hi)) c31 34 zE, .ow kF a32 (Int.toNat (wd * hi)) c33 34 zX, .ow kF a34 (Int.toNat (wd * hi)) c35 34 zY, .blk bs [.slice aq nq cq, .int .i64 q, .int .u64 (sdY Xq q)] 131, .blk b37 [.slice a30 (Int.toNat (wd * hi)) c31, .slice a32 (Int.toNat (wd * hi)) c33, .slice a34 (Int.toNat (wd * hi)) c35] 30, .rd kF asp nsp Xsp, .rd kF als nls Xls, .sl (some ⟨b, o, none⟩) [.int .i64 wd, .int .i64 hi, .bool false, .slice asp nsp csp, .slice als nls cls], .rd kY aq nq Xq] := B.upd [5] rfl hU412
            clear hU412
            refine s_nil ?_
            refine W_ret ?_
            refine ret1 (v := .agg #[.slice a30 (Int.toNat (wd * hi)) c31, .slice a32 (Int.toNat (wd * hi)) c33, .slice a34 (Int.toNat (wd * hi)) c35]) rfl rfl ⟨_, [.slice a30 (Int.toNat (wd * hi)) c31, .slice a32 (Int.toNat (wd * hi)) c33, .slice a34 (Int.toNat (wd * hi)) c35], _, rfl, (B.b 0 rfl), T79.agg_30_3, rfl⟩ ⟨_, rfl, ?_⟩
            exact ⟨_, _, _, _, _, _, _, _, _, _, _, _, _, rfl, (field_yes hv (by omega) (by omega) (by omega) (fun j h0 h1 => hed j h0 (by omega))), B.wrote [4, 1, 2, 3] rfl rfl rfl⟩
      · refine W_if_t (by decide) rfl ?_
        refine W_seq ?_
        refine W_region (by kernel_rfl) ?_
        refine s_y (v := .agg #[.slice a30 (Int.toNat (wd * hi)) c31, .slice a32 (Int.toNat (wd * hi)) c33, .slice a34 (Int.toNat (wd * hi)) c35]) rfl (y_loadn (b := b37) (o := 0) (vs := [.slice a30 (Int.toNat (wd * hi)) c31, .slice a32 (Int.toNat (wd * hi)) c33, .slice a34 (Int.toNat (wd * hi)) c35]) T79.agg_30_3 rfl rfl ((B.b 4 rfl).cells (o := 0) rfl)) ?_
        refine s_k0 rfl (k_stB (v := .agg #[.slice a30 (Int.toNat (wd * hi)) c31, .slice a32 (Int.toNat (wd * hi)) c33, .slice a34 (Int.toNat (wd * hi)) c35]) (n := 3) (cs' := [.slice a30 (Int.toNat (wd * hi)) c31, .slice a32 (Int.toNat (wd * hi)) c33, .slice a34 (Int.toNat (wd * hi)) c35]) T79.sz_30_3 rfl rfl rfl (B.b 5 rfl) (by simp [Value.cells, Value.oneCell']) (Nat.le_of_ble_eq_true rfl) rfl (fun w413 hU414 => ?_))
        replace B : Bu w (hasW [.blk bs [.slice aq nq cq, .int .i64 p, .int .u64 (sdY Xq p)] 131]) w413 [.blk b1 [.slice a30 (Int.toNat (wd * hi)) c31, .slice a32 (Int.toNat (wd * hi)) c33, .slice a34 (Int.toNat (wd * hi)) c35] 30, .ow kF a30 (Int.toNat (wd * hi)) c31 34 zE, .ow kF a32 (Int.toNat (wd * hi)) c33 34 zX, .ow kF a34 (Int.toNat (wd * hi)) c35 34 zY, .blk bs [.slice aq nq cq, .int .i64 q, .int .u64 (sdY Xq q)] 131, .blk b37 [.slice a30 (Int.toNat (wd * hi)) c31, .slice a32 (Int.toNat (wd * hi)) c33, .slice a34 (Int.toNat (wd * hi)) c35] 30, .rd kF asp nsp Xsp, .rd kF als nls Xls, .sl (some ⟨b, o, none⟩) [.int .i64 wd, .int .i64 hi, .bool true, .slice asp nsp csp, .slice als nls cls], .rd kY aq nq Xq] := B.upd [5] rfl hU414
        clear hU414
        refine s_nil ?_
        refine W_ret ?_
        refine ret1 (v := .agg #[.slice a30 (Int.toNat (wd * hi)) c31, .slice a32 (Int.toNat (wd * hi)) c33, .slice a34 (Int.toNat (wd * hi)) c35]) rfl rfl ⟨_, [.slice a30 (Int.toNat (wd * hi)) c31, .slice a32 (Int.toNat (wd * hi)) c33, .slice a34 (Int.toNat (wd * hi)) c35], _, rfl, (B.b 0 rfl), T79.agg_30_3, rfl⟩ ⟨_, rfl, ?_⟩
        exact ⟨_, _, _, _, _, _, _, _, _, _, _, _, _, rfl, (field_wrap hv (by omega) (by omega) (by omega)), B.wrote [4, 1, 2, 3] rfl rfl rfl⟩
namespace T20
theorem mx : Try.prog.follows .mixedOrders = true := by kernel_rfl
theorem agg_30_3 : aggB Try.prog 30 3 = true := by kernel_rfl
theorem fn_63 : fnB Try.prog 63 = true := by kernel_rfl
theorem fn_79 : fnB Try.prog 79 = true := by kernel_rfl
theorem sz_30_3 : szB Try.prog 30 3 = true := by kernel_rfl
theorem zero_30 : zeroB Try.prog 30 (.agg #[.slice none 0 0, .slice none 0 0, .slice none 0 0]) := by unfold zeroB; kernel_rfl
end T20
set_option maxRecDepth 100000 in
set_option maxHeartbeats 4000000 in
theorem c_s_B10Field {aq : Option Addr} {nq : Nat} {cq : Nat} {Xq : List Nat} {wd : Int} {hi : Int} {wr : Bool} {asp : Option Addr} {nsp : Nat} {csp : Nat} {Xsp : List Nat} {als : Option Addr} {nls : Nat} {cls : Nat} {Xls : List Nat} {w : World} (qq : Rd w kY aq nq Xq) (qsp : Rd w kF asp nsp Xsp) (qls : Rd w kF als nls Xls) (h1 : 3 ≤ wd) (h2 : wd ≤ 16) (h3 : 3 ≤ hi) (h4 : hi ≤ 16) (hv : validS wd hi Xsp Xls = true) (hbsp : nsp ≤ 9223372036854775806) (hbls : nls ≤ 9223372036854775806) :
    Calls Try.prog 20 #[.slice aq nq cq, .agg #[.int .i64 wd, .int .i64 hi, .bool wr, .slice asp nsp csp, .slice als nls cls]] w (Rt fun v w' => ∃ (a1 : Option Addr) (n1 : Nat) (c1 : Nat) (X1 : List Nat) (a2 : Option Addr) (n2 : Nat) (c2 : Nat) (X2 : List Nat) (a3 : Option Addr) (n3 : Nat) (c3 : Nat) (X3 : List Nat), v = .agg #[.slice a1 n1 c1, .slice a2 n2 c2, .slice a3 n3 c3] ∧ fieldB wd hi wr Xsp Xls X1 X2 X3 = true ∧ New w w' [.ow kF a1 n1 c1 34 X1, .ow kF a2 n2 c2 34 X2, .ow kF a3 n3 c3 34 X3]) := by
  have hlq := qq.len
  have hlsp := qsp.len
  have hlls := qls.len
  have B : Bu w no w [.rd kY aq nq Xq, .rd kF asp nsp Xsp, .rd kF als nls Xls] := Bu.ro (All.cons qq (All.cons qsp (All.cons qls All.nil))) rfl
  refine calls_W (n := 10) Try.func20 rfl rfl (Nat.le_of_ble_eq_true rfl) ?_
  refine W_seq ?_
  refine W_region (by kernel_rfl) ?_
  refine s_k rfl (k_boxN (v := .agg #[.int .i64 wd, .int .i64 hi, .bool wr, .slice asp nsp csp, .slice als nls cls]) (cs := [.int .i64 wd, .int .i64 hi, .bool wr, .slice asp nsp csp, .slice als nls cls]) rfl rfl (fun b1 w2 hN3 => ?_))
  replace B := B.new1 hN3
  clear hN3
  refine s_k rfl (k_allocN (z := (.agg #[.slice none 0 0, .slice none 0 0, .slice none 0 0])) (cs := [.slice none 0 0, .slice none 0 0, .slice none 0 0]) T20.zero_30 rfl (fun b4 w5 hN6 => ?_))
  replace B := B.new1 hN6
  clear hN6
  refine s_nil ?_
  refine W_seq ?_
  refine W_region (by kernel_rfl) ?_
  refine s_y (v := .slice aq nq cq) rfl (y_move rfl) ?_
  refine s_k rfl (k_call T20.fn_63 (c_s_l00From (B.r 2 rfl)) rfl ?_)
  rintro _ w7 ⟨b9, rfl, hN8⟩
  replace B := B.new1 hN8
  clear hN8
  refine s_y (v := .pointer (some ⟨b9, 0, none⟩)) rfl (y_assign rfl) ?_
  refine s_nil ?_
  refine W_seq ?_
  refine W_region (by kernel_rfl) ?_
  refine s_y (v := .pointer (some ⟨b9, 0, none⟩)) rfl (y_move rfl) ?_
  have Bt := B.weakB 2 rfl
  refine s_k rfl (k_call T20.fn_79 (c_s_l02DrawField (by omega) (by omega) (by omega) (by omega) (by omega) (by omega) (by omega) (by omega) (by omega) (Bt.all.pick [0, 4, 5, 2, 3] rfl) (Bt.pw.pick [0, 4, 5, 2, 3] rfl rfl)) rfl ?_)
  rintro _ w10 ⟨v12, a13, c14, c15, v16, a17, c18, c19, v20, a21, c22, c23, v24, rfl, hp25, hU11⟩
  replace B : Bu w no w10 [.blk b9 [.slice aq nq cq, .int .i64 v12, .int .u64 (sdY Xq v12)] 131, .ow kF a13 c14 c15 34 v16, .ow kF a17 c18 c19 34 v20, .ow kF a21 c22 c23 34 v24, .blk b4 [.slice none 0 0, .slice none 0 0, .slice none 0 0] 30, .blk b1 [.int .i64 wd, .int .i64 hi, .bool wr, .slice asp nsp csp, .slice als nls cls] 26, .rd kY aq nq Xq, .rd kF asp nsp Xsp, .rd kF als nls Xls] := B.upd [0] rfl hU11
  clear hU11
  have hb26 := fieldB_b hp25
  refine s_k0 rfl (k_stB (v := .agg #[.slice a13 c14 c15, .slice a17 c18 c19, .slice a21 c22 c23]) (n := 3) (cs' := [.slice a13 c14 c15, .slice a17 c18 c19, .slice a21 c22 c23]) T20.sz_30_3 rfl rfl rfl (B.b 4 rfl) (by simp [Value.cells, Value.oneCell']) (Nat.le_of_ble_eq_true rfl) rfl (fun w27 hU28 => ?_))
  replace B : Bu w no w27 [.blk b4 [.slice a13 c14 c15, .slice a17 c18 c19, .slice a21 c22 c23] 30, .blk b9 [.slice aq nq cq, .int .i64 v12, .int .u64 (sdY Xq v12)] 131, .ow kF a13 c14 c15 34 v16, .ow kF a17 c18 c19 34 v20, .ow kF a21 c22 c23 34 v24, .blk b1 [.int .i64 wd, .int .i64 hi, .bool wr, .slice asp nsp csp, .slice als nls cls] 26, .rd kY aq nq Xq, .rd kF asp nsp Xsp, .rd kF als nls Xls] := B.upd [4] rfl hU28
  clear hU28
  refine s_nil ?_
  refine W_ret ?_
  refine ret1 (v := .agg #[.slice a13 c14 c15, .slice a17 c18 c19, .slice a21 c22 c23]) rfl rfl ⟨_, [.slice a13 c14 c15, .slice a17 c18 c19, .slice a21 c22 c23], _, rfl, (B.b 0 rfl), T20.agg_30_3, rfl⟩ ⟨_, rfl, ?_⟩
  exact ⟨_, _, _, _, _, _, _, _, _, _, _, _, rfl, hp25, B.give [2, 3, 4] rfl rfl rfl⟩
namespace T125
theorem mx : Try.prog.follows .mixedOrders = true := by kernel_rfl
theorem f32b_145 : f32bitsB Try.prog 145 := ⟨_, Try.func145, by kernel_rfl, by kernel_rfl, by kernel_rfl, by kernel_rfl⟩
theorem int_2_i64 : Try.prog.underlying 2 = some (.int .i64) := by kernel_rfl
theorem und_147 : (Try.prog.underlying 147).isSome = true := by kernel_rfl
end T125
set_option maxRecDepth 100000 in
set_option maxHeartbeats 4000000 in
theorem c_s_l01Bits {x : Nat} {X : Nat} {w : World} (hx : Cn .f32 x X) :
    Calls Try.prog 125 #[.float .f32 x] w (Rt fun v w' => v = .int .i64 (bitN X) ∧ Ext0 w w') := by
  have B : Bu w no w [] := Bu.ro All.nil rfl
  refine calls_W (n := 9) Try.func125 rfl rfl (Nat.le_of_ble_eq_true rfl) ?_
  refine W_seq ?_
  refine W_region (by kernel_rfl) ?_
  refine s_y (v := .int .i64 0) rfl (y_assign rfl) ?_
  refine s_nil ?_
  refine W_seq ?_
  refine W_seq ?_
  refine W_region (by kernel_rfl) ?_
  refine s_y (v := .float .f32 x) rfl (y_move rfl) ?_
  refine s_y (v := .float .f32 x) rfl (y_move rfl) ?_
  by_cases c1 : fne .f32 X X = true
  · refine s_y (v := .bool true) rfl (y_fneq rfl rfl (fneC hx hx c1)) ?_
    refine s_nil ?_
    refine W_if_t (by decide) rfl ?_
    refine W_seq ?_
    refine W_region (by kernel_rfl) ?_
    refine s_y (v := .int .i64 2143289344) rfl (y_assign rfl) ?_
    refine s_nil ?_
    refine W_ret ?_
    refine ret1 (v := .int .i64 2143289344) rfl rfl rfl ⟨_, rfl, ?_⟩
    exact ⟨congrArg (Value.int .i64) ((bitN_nan c1)), B.ext⟩
  · refine s_y (v := .bool false) rfl (y_fneq rfl rfl (fneC hx hx (Bool.eq_false_iff.2 c1))) ?_
    refine s_nil ?_
    refine W_if_f (by decide) rfl ?_
    refine W_skip ?_
    refine W_seq ?_
    refine W_region (by kernel_rfl) ?_
    refine s_y (v := .float .f32 x) rfl (y_move rfl) ?_
    refine s_k rfl (k_f32bits T125.f32b_145 rfl ?_)
    have hb2 := wid32 hx.2
    refine s_y (v := .int .i64 ((x : Nat) : Int)) rfl (y_ii T125.und_147 T125.int_2_i64 rfl (IntWalk.i64_in _ (by omega))) ?_
    refine s_y (v := .int .i64 ((x : Nat) : Int)) rfl (y_assign rfl) ?_
    refine s_nil ?_
    refine W_ret ?_
    refine ret1 (v := .int .i64 ((x : Nat) : Int)) rfl rfl rfl ⟨_, rfl, ?_⟩
    exact ⟨congrArg (Value.int .i64) ((bitN_num hx c1)), B.ext⟩
namespace T80
theorem mx : Try.prog.follows .mixedOrders = true := by kernel_rfl
theorem fn_125 : fnB Try.prog 125 = true := by kernel_rfl
end T80
set_option maxRecDepth 100000 in
set_option maxHeartbeats 4000000 in
theorem c_s_l01Same {x : Nat} {X : Nat} {y : Nat} {Y : Nat} {w : World} (hx : Cn .f32 x X) (hy : Cn .f32 y Y) :
    Calls Try.prog 80 #[.float .f32 x, .float .f32 y] w (Rt fun v w' => v = .bool (decide (bitN X = bitN Y)) ∧ Ext0 w w') := by
  have B : Bu w no w [] := Bu.ro All.nil rfl
  refine calls_W (n := 10) Try.func80 rfl rfl (Nat.le_of_ble_eq_true rfl) ?_
  refine W_seq ?_
  refine W_region (by kernel_rfl) ?_
  refine s_y (v := .bool false) rfl (y_assign rfl) ?_
  refine s_nil ?_
  refine W_seq ?_
  refine W_region (by kernel_rfl) ?_
  refine s_y (v := .float .f32 x) rfl (y_move rfl) ?_
  refine s_k rfl (k_call T80.fn_125 (c_s_l01Bits hx) rfl ?_)
  rintro _ w1 ⟨rfl, e2⟩
  replace B := B.ext0 e2
  clear e2
  refine s_y (v := .float .f32 y) rfl (y_move rfl) ?_
  refine s_k rfl (k_call T80.fn_125 (c_s_l01Bits hy) rfl ?_)
  rintro _ w3 ⟨rfl, e4⟩
  replace B := B.ext0 e4
  clear e4
  by_cases c5 : (bitN X) = (bitN Y)
  · refine s_y (v := .bool true) rfl (y_eql rfl rfl (decide_eq_true c5)) ?_
    refine s_y (v := .bool true) rfl (y_assign rfl) ?_
    refine s_nil ?_
    refine W_ret ?_
    refine ret1 (v := .bool true) rfl rfl rfl ⟨_, rfl, ?_⟩
    exact ⟨congrArg Value.bool (by simp only [(decide_eq_true c5), Bool.and_true, Bool.true_and, Bool.and_false, Bool.false_and, Bool.not_true, Bool.not_false, Bool.or_true, Bool.true_or, Bool.or_false, Bool.false_or]), B.ext⟩
  · refine s_y (v := .bool false) rfl (y_eql rfl rfl (decide_eq_false c5)) ?_
    refine s_y (v := .bool false) rfl (y_assign rfl) ?_
    refine s_nil ?_
    refine W_ret ?_
    refine ret1 (v := .bool false) rfl rfl rfl ⟨_, rfl, ?_⟩
    exact ⟨congrArg Value.bool (by simp only [(decide_eq_false c5), Bool.and_true, Bool.true_and, Bool.and_false, Bool.false_and, Bool.not_true, Bool.not_false, Bool.or_true, Bool.true_or, Bool.or_false, Bool.false_or]), B.ext⟩
namespace T21
theorem mx : Try.prog.follows .mixedOrders = true := by kernel_rfl
theorem fn_80 : fnB Try.prog 80 = true := by kernel_rfl
end T21
set_option maxRecDepth 100000 in
set_option maxHeartbeats 4000000 in
theorem c_s_SameNumber {x : Nat} {X : Nat} {y : Nat} {Y : Nat} {w : World} (hx : Cn .f32 x X) (hy : Cn .f32 y Y) :
    Calls Try.prog 21 #[.float .f32 x, .float .f32 y] w (Rt fun v w' => v = .bool (decide (bitN X = bitN Y)) ∧ Ext0 w w') := by
  have B : Bu w no w [] := Bu.ro All.nil rfl
  refine calls_W (n := 8) Try.func21 rfl rfl (Nat.le_of_ble_eq_true rfl) ?_
  refine W_seq ?_
  refine W_region (by kernel_rfl) ?_
  refine s_y (v := .bool false) rfl (y_assign rfl) ?_
  refine s_nil ?_
  refine W_seq ?_
  refine W_region (by kernel_rfl) ?_
  refine s_y (v := .float .f32 x) rfl (y_move rfl) ?_
  refine s_y (v := .float .f32 y) rfl (y_move rfl) ?_
  refine s_k rfl (k_call T21.fn_80 (c_s_l01Same hx hy) rfl ?_)
  rintro v3 w1 ⟨hv4, e2⟩
  replace B := B.ext0 e2
  clear e2
  by_cases c5 : decide (bitN X = bitN Y) = true
  · obtain rfl : v3 = .bool true := hv4.trans (congrArg Value.bool c5)
    refine s_y (v := .bool true) rfl (y_assign rfl) ?_
    refine s_nil ?_
    refine W_ret ?_
    refine ret1 (v := .bool true) rfl rfl rfl ⟨_, rfl, ?_⟩
    exact ⟨congrArg Value.bool (by simp only [c5, Bool.and_true, Bool.true_and, Bool.and_false, Bool.false_and, Bool.not_true, Bool.not_false, Bool.or_true, Bool.true_or, Bool.or_false, Bool.false_or]), B.ext⟩
  · obtain rfl : v3 = .bool false := hv4.trans (congrArg Value.bool (Bool.eq_false_iff.2 c5))
    refine s_y (v := .bool false) rfl (y_assign rfl) ?_
    refine s_nil ?_
    refine W_ret ?_
    refine ret1 (v := .bool false) rfl rfl rfl ⟨_, rfl, ?_⟩
    exact ⟨congrArg Value.bool (by simp only [(Bool.eq_false_iff.2 c5), Bool.and_true, Bool.true_and, Bool.and_false, Bool.false_and, Bool.not_true, Bool.not_false, Bool.or_true, Bool.true_or, Bool.or_false, Bool.false_or]), B.ext⟩
end Go.Proofs.Ytgohmocjjmkepaa
