/- Walks: what the functions under FnMirrors do (part 2). Printed by a program of this claim's author. -/
import Derived.Test.YtgohmocjjmkepaaMirrorsW0
set_option linter.unusedSimpArgs false
set_option linter.unusedVariables false
open Go.Wv
namespace Go.Proofs.Ytgohmocjjmkepaa
open Go.Proofs
namespace T79
theorem mx : Try.prog.follows .mixedOrders = true := by kernel_rfl
theorem agg_30_3 : aggB Try.prog 30 3 = true := by kernel_rfl
theorem fld_26_0_0 : fldB Try.prog 26 0 0 = true := by kernel_rfl
theorem fld_26_1_1 : fldB Try.prog 26 1 1 = true := by kernel_rfl
theorem fld_26_2_2 : fldB Try.prog 26 2 2 = true := by kernel_rfl
theorem fld_30_0_0 : fldB Try.prog 30 0 0 = true := by kernel_rfl
theorem fld_30_1_1 : fldB Try.prog 30 1 1 = true := by kernel_rfl
theorem fld_30_2_2 : fldB Try.prog 30 2 2 = true := by kernel_rfl
theorem flt_34_f32 : Try.prog.underlying 34 = some (.float .f32) := by kernel_rfl
theorem fn_120 : fnB Try.prog 120 = true := by kernel_rfl
theorem fn_121 : fnB Try.prog 121 = true := by kernel_rfl
theorem fn_122 : fnB Try.prog 122 = true := by kernel_rfl
theorem fn_123 : fnB Try.prog 123 = true := by kernel_rfl
theorem fn_124 : fnB Try.prog 124 = true := by kernel_rfl
theorem fn_81 : fnB Try.prog 81 = true := by kernel_rfl
theorem fn_92 : fnB Try.prog 92 = true := by kernel_rfl
theorem fn_93 : fnB Try.prog 93 = true := by kernel_rfl
theorem fn_99 : fnB Try.prog 99 = true := by kernel_rfl
theorem one_2 : oneB Try.prog 2 = true := by kernel_rfl
theorem one_24 : oneB Try.prog 24 = true := by kernel_rfl
theorem one_4 : oneB Try.prog 4 = true := by kernel_rfl
theorem sl_24_34_1 : slB Try.prog 24 34 1 = true := by kernel_rfl
theorem sz_30_3 : szB Try.prog 30 3 = true := by kernel_rfl
theorem sz_34_1 : szB Try.prog 34 1 = true := by kernel_rfl
theorem und_2 : (Try.prog.underlying 2).isSome = true := by kernel_rfl
theorem zero_30 : zeroB Try.prog 30 (.agg #[.slice none 0 0, .slice none 0 0, .slice none 0 0]) := by unfold zeroB; kernel_rfl
end T79
set_option maxRecDepth 100000 in
set_option maxHeartbeats 4000000 in
theorem c_s_l02DrawField {bs : Nat} {b : Nat} {o : Nat} {wd : Int} {hi : Int} {wr : Bool} {asp : Option Addr} {nsp : Nat} {csp : Nat} {Xsp : List Nat} {als : Option Addr} {nls : Nat} {cls : Nat} {Xls : List Nat} {aq : Option Addr} {nq cq : Nat} {Xq : List Nat} {p : Int} {w : World} (h1 : 3 ≤ wd) (h2 : wd ≤ 16) (h3 : 3 ≤ hi) (h4 : hi ≤ 16) (hp0 : 0 ≤ p) (hp1 : p ≤ 1000) (hv : validS wd hi Xsp Xls = true) (hbsp : nsp ≤ 9223372036854775806) (hbls : nls ≤ 9223372036854775806) (HA : All w [.blk bs [.slice aq nq cq, .int .i64 p, .int .u64 (sdY Xq p)] 131, .rd kF asp nsp Xsp, .rd kF als nls Xls, .sl (some ⟨b, o, none⟩) [.int .i64 wd, .int .i64 hi, .bool wr, .slice asp nsp csp, .slice als nls cls], .rd kY aq nq Xq]) (HP : Pw [.blk bs [.slice aq nq cq, .int .i64 p, .int .u64 (sdY Xq p)] 131, .rd kF asp nsp Xsp, .rd kF als nls Xls, .sl (some ⟨b, o, none⟩) [.int .i64 wd, .int .i64 hi, .bool wr, .slice asp nsp csp, .slice als nls cls], .rd kY aq nq Xq]) :
    Calls Try.prog 79 #[.pointer (some ⟨bs, 0, none⟩), .pointer (some ⟨b, o, none⟩)] w (Rt fun v w' => ∃ (pe : Int) (a1 : Option Addr) (n1 : Nat) (c1 : Nat) (X1 : List Nat) (a2 : Option Addr) (n2 : Nat) (c2 : Nat) (X2 : List Nat) (a3 : Option Addr) (n3 : Nat) (c3 : Nat) (X3 : List Nat), v = .agg #[.slice a1 n1 c1, .slice a2 n2 c2, .slice a3 n3 c3] ∧ fieldB wd hi wr Xsp Xls X1 X2 X3 = true ∧ Upd w w' [.blk bs [.slice aq nq cq, .int .i64 p, .int .u64 (sdY Xq p)] 131] [.blk bs [.slice aq nq cq, .int .i64 pe, .int .u64 (sdY Xq pe)] 131, .ow kF a1 n1 c1 34 X1, .ow kF a2 n2 c2 34 X2, .ow kF a3 n3 c3 34 X3]) := by
  have B : Bu w (hasW [.blk bs [.slice aq nq cq, .int .i64 p, .int .u64 (sdY Xq p)] 131]) w [.blk bs [.slice aq nq cq, .int .i64 p, .int .u64 (sdY Xq p)] 131, .rd kF asp nsp Xsp, .rd kF als nls Xls, .sl (some ⟨b, o, none⟩) [.int .i64 wd, .int .i64 hi, .bool wr, .slice asp nsp csp, .slice als nls cls], .rd kY aq nq Xq] := Bu.initW (W := [.blk bs [.slice aq nq cq, .int .i64 p, .int .u64 (sdY Xq p)] 131]) (R := [.rd kF asp nsp Xsp, .rd kF als nls Xls, .sl (some ⟨b, o, none⟩) [.int .i64 wd, .int .i64 hi, .bool wr, .slice asp nsp csp, .slice als nls cls], .rd kY aq nq Xq]) HA HP rfl
  have hlsp := (B.r 1 rfl).len
  have hlls := (B.r 2 rfl).len
  have hlq := (B.r 4 rfl).len
  have hwh := mul16 (And.intro (And.intro h1 h2) (And.intro h3 h4))
  refine calls_W (n := 143) Try.func79 rfl rfl (Nat.le_of_ble_eq_true rfl) ?_
  refine W_seq ?_
  refine W_region (by kernel_rfl) ?_
  refine s_k rfl (k_allocN (z := (.agg #[.slice none 0 0, .slice none 0 0, .slice none 0 0])) (cs := [.slice none 0 0, .slice none 0 0, .slice none 0 0]) T79.zero_30 rfl (fun b1 w2 hN3 => ?_))
  replace B := B.new1 hN3
  clear hN3
  refine s_nil ?_
  refine W_seq ?_
  have B0_8 := B
  refine W_draw (no) T79.mx (by kernel_rfl) (fun w6 e7 => ?_)
  have R9 := Ext.refl (no) w2
  replace R9 := R9.trans (Ext0.any e7)
  replace B := B.ext0 e7
  clear e7
  refine m_y (v := .pointer (some ⟨b, o, none⟩)) 0 rfl (by kernel_rfl) rfl rfl (fun w' e' => y_move rfl) ?_
  refine m_y (v := .pointer (some ⟨b, o, none⟩)) 1 rfl (by kernel_rfl) rfl rfl (fun w' e' => y_nil rfl) ?_
  refine m_y (v := .pointer (some ⟨b, o, none⟩)) 2 rfl (by kernel_rfl) rfl rfl (fun w' e' => y_fld (o := o + 0) T79.fld_26_0_0 rfl) ?_
  refine m_y (v := .int .i64 wd) 3 rfl (by kernel_rfl) rfl rfl (fun w' e' => y_load T79.one_2 rfl (((B0_8.s 4 rfl).ext0 e').cell (j := 0) rfl)) ?_
  refine m_y (v := .pointer (some ⟨b, o, none⟩)) 5 rfl (by kernel_rfl) rfl rfl (fun w' e' => y_move rfl) ?_
  refine m_y (v := .pointer (some ⟨b, o, none⟩)) 6 rfl (by kernel_rfl) rfl rfl (fun w' e' => y_nil rfl) ?_
  refine m_y (v := .pointer (some ⟨b, o + 1, none⟩)) 7 rfl (by kernel_rfl) rfl rfl (fun w' e' => y_fld (o := o + 0) T79.fld_26_1_1 rfl) ?_
  refine m_y (v := .int .i64 hi) 8 rfl (by kernel_rfl) rfl rfl (fun w' e' => y_load T79.one_2 rfl (((B0_8.s 4 rfl).ext0 e').cell (j := 1) rfl)) ?_
  refine m_k 4 [9, 10, 11, 12, 13] rfl (by kernel_rfl) rfl rfl (fun w10 e11 => ?_)
  replace R9 := R9.trans (Ext0.any e11)
  replace B := B.ext0 e11
  clear e11
  refine k_call T79.fn_121 (c_s_l00Min) rfl ?_
  rintro _ w12 ⟨rfl, e13⟩
  replace R9 := R9.trans (Ext0.any e13)
  replace B := B.ext0 e13
  clear e13
  refine ⟨fun _ => R9, ?_⟩
  rw [show (min 17 wd : Int) = wd by omega]
  refine m_k 9 [10, 11, 12, 13] rfl (by kernel_rfl) rfl rfl (fun w14 e15 => ?_)
  replace R9 := R9.trans (Ext0.any e15)
  replace B := B.ext0 e15
  clear e15
  refine k_call T79.fn_121 (c_s_l00Min) rfl ?_
  rintro _ w16 ⟨rfl, e17⟩
  replace R9 := R9.trans (Ext0.any e17)
  replace B := B.ext0 e17
  clear e17
  refine ⟨fun _ => R9, ?_⟩
  rw [show (min 17 hi : Int) = hi by omega]
  have hm18 := mulb (a := wd) (b := hi) (by omega) (by omega) (by omega) (by omega)
  refine m_y (v := .int .i64 (wd * hi)) 10 rfl (by kernel_rfl) rfl rfl (fun w' e' => y_mul rfl rfl rfl (by omega)) ?_
  refine m_k 11 [12, 13] rfl (by kernel_rfl) rfl rfl (fun w19 e20 => ?_)
  replace R9 := R9.trans (Ext0.any e20)
  replace B := B.ext0 e20
  clear e20
  refine k_call T79.fn_121 (c_s_l00Min) rfl ?_
  rintro _ w21 ⟨rfl, e22⟩
  replace R9 := R9.trans (Ext0.any e22)
  replace B := B.ext0 e22
  clear e22
  refine ⟨fun _ => R9, ?_⟩
  rw [show (min 289 (wd * hi) : Int) = wd * hi by omega]
  refine m_k 12 [13] rfl (by kernel_rfl) rfl rfl (fun w23 e24 => ?_)
  replace R9 := R9.trans (Ext0.any e24)
  replace B := B.ext0 e24
  clear e24
  refine k_call T79.fn_120 (c_s_l00Max) rfl ?_
  rintro _ w25 ⟨rfl, e26⟩
  replace R9 := R9.trans (Ext0.any e26)
  replace B := B.ext0 e26
  clear e26
  refine ⟨fun _ => R9, ?_⟩
  rw [show (max 0 (wd * hi) : Int) = wd * hi by omega]
  refine m_y (v := .int .i64 (wd * hi)) 13 rfl (by kernel_rfl) rfl rfl (fun w' e' => y_assign rfl) ?_
  refine m_done (by kernel_rfl) (fun w27 e28 => ?_)
  replace B := B.ext0 e28
  clear e28
  clear B0_8 R9
  refine W_seq ?_
  refine W_region (by kernel_rfl) ?_
  refine s_y (v := .int .i64 (wd * hi)) rfl (y_move rfl) ?_
  refine s_k rfl (k_call T79.fn_92 (c_s_l02Zero (by omega) (by omega)) rfl ?_)
  rintro _ w29 ⟨a30, c31, a32, c33, a34, c35, rfl, hN36⟩
  replace B := B.new3 hN36
  clear hN36
  refine s_k rfl (k_allocN (z := (.agg #[.slice none 0 0, .slice none 0 0, .slice none 0 0])) (cs := [.slice none 0 0, .slice none 0 0, .slice none 0 0]) T79.zero_30 rfl (fun b37 w38 hN39 => ?_))
  replace B := B.new1 hN39
  clear hN39
  refine s_k0 rfl (k_stB (v := .agg #[.slice a30 (Int.toNat (wd * hi)) c31, .slice a32 (Int.toNat (wd * hi)) c33, .slice a34 (Int.toNat (wd * hi)) c35]) (n := 3) (cs' := [.slice a30 (Int.toNat (wd * hi)) c31, .slice a32 (Int.toNat (wd * hi)) c33, .slice a34 (Int.toNat (wd * hi)) c35]) T79.sz_30_3 rfl rfl rfl (B.b 0 rfl) (by simp [Value.cells, Value.oneCell']) (Nat.le_of_ble_eq_true rfl) rfl (fun w40 hU41 => ?_))
  replace B : Bu w (hasW [.blk bs [.slice aq nq cq, .int .i64 p, .int .u64 (sdY Xq p)] 131]) w40 [.blk b37 [.slice a30 (Int.toNat (wd * hi)) c31, .slice a32 (Int.toNat (wd * hi)) c33, .slice a34 (Int.toNat (wd * hi)) c35] 30, .ow kF a30 (Int.toNat (wd * hi)) c31 34 (List.replicate (Int.toNat (wd * hi)) 0), .ow kF a32 (Int.toNat (wd * hi)) c33 34 (List.replicate (Int.toNat (wd * hi)) 0), .ow kF a34 (Int.toNat (wd * hi)) c35 34 (List.replicate (Int.toNat (wd * hi)) 0), .blk b1 [.slice none 0 0, .slice none 0 0, .slice none 0 0] 30, .blk bs [.slice aq nq cq, .int .i64 p, .int .u64 (sdY Xq p)] 131, .rd kF asp nsp Xsp, .rd kF als nls Xls, .sl (some ⟨b, o, none⟩) [.int .i64 wd, .int .i64 hi, .bool wr, .slice asp nsp csp, .slice als nls cls], .rd kY aq nq Xq] := B.upd [0] rfl hU41
  clear hU41
  refine s_nil ?_
  refine W_seq ?_
  refine W_region (by kernel_rfl) ?_
  refine s_y (v := .pointer (some ⟨bs, 0, none⟩)) rfl (y_move rfl) ?_
  refine s_k rfl (k_call T79.fn_81 (c_s_pick (by omega) (by omega) (by omega) (by omega) (B.all.pick [5, 9] rfl) (B.pw.pick [5, 9] rfl rfl)) rfl ?_)
  rintro _ w42 ⟨v44, rfl, hp45, hU43⟩
  replace B : Bu w (hasW [.blk bs [.slice aq nq cq, .int .i64 p, .int .u64 (sdY Xq p)] 131]) w42 [.blk bs [.slice aq nq cq, .int .i64 (p + 1), .int .u64 (sdY Xq (p + 1))] 131, .blk b37 [.slice a30 (Int.toNat (wd * hi)) c31, .slice a32 (Int.toNat (wd * hi)) c33, .slice a34 (Int.toNat (wd * hi)) c35] 30, .ow kF a30 (Int.toNat (wd * hi)) c31 34 (List.replicate (Int.toNat (wd * hi)) 0), .ow kF a32 (Int.toNat (wd * hi)) c33 34 (List.replicate (Int.toNat (wd * hi)) 0), .ow kF a34 (Int.toNat (wd * hi)) c35 34 (List.replicate (Int.toNat (wd * hi)) 0), .blk b1 [.slice none 0 0, .slice none 0 0, .slice none 0 0] 30, .rd kF asp nsp Xsp, .rd kF als nls Xls, .sl (some ⟨b, o, none⟩) [.int .i64 wd, .int .i64 hi, .bool wr, .slice asp nsp csp, .slice als nls cls], .rd kY aq nq Xq] := B.upd [5] rfl hU43
  clear hU43
  have hb46 := pk_b Xq (n := 4) p (by omega)
  rw [← hp45] at hb46
  refine s_y (v := .int .i64 v44) rfl (y_assign rfl) ?_
  refine s_nil ?_
  refine W_seq ?_
  refine W_seq ?_
  refine W_region (by kernel_rfl) ?_
  refine s_y (v := .int .i64 0) rfl (y_assign rfl) ?_
  refine s_nil ?_
  refine W_block ?_
  refine W_loop (fun ρ' w' => ∃ (ρ1 : Env) (k : Int) (q : Int) (zE : List Nat) (zX : List Nat) (zY : List Nat), ρ' = updL ρ1 [(0, .pointer (some ⟨bs, 0, none⟩)), (1, .pointer (some ⟨b, o, none⟩)), (4, .pointer (some ⟨b1, 0, none⟩)), (5, .int .i64 (wd * hi)), (6, .pointer (some ⟨b37, 0, none⟩)), (7, .int .i64 v44), (8, .int .i64 k)] ∧ Bu w (hasW [.blk bs [.slice aq nq cq, .int .i64 p, .int .u64 (sdY Xq p)] 131]) w' [.ow kF a30 (Int.toNat (wd * hi)) c31 34 zE, .ow kF a32 (Int.toNat (wd * hi)) c33 34 zX, .ow kF a34 (Int.toNat (wd * hi)) c35 34 zY, .blk bs [.slice aq nq cq, .int .i64 q, .int .u64 (sdY Xq q)] 131, .blk b37 [.slice a30 (Int.toNat (wd * hi)) c31, .slice a32 (Int.toNat (wd * hi)) c33, .slice a34 (Int.toNat (wd * hi)) c35] 30, .blk b1 [.slice none 0 0, .slice none 0 0, .slice none 0 0] 30, .rd kF asp nsp Xsp, .rd kF als nls Xls, .sl (some ⟨b, o, none⟩) [.int .i64 wd, .int .i64 hi, .bool wr, .slice asp nsp csp, .slice als nls cls], .rd kY aq nq Xq] ∧ (0 ≤ k) ∧ (k ≤ wd * hi) ∧ (p + 1 ≤ q) ∧ (q ≤ p + 1 + 40 * k) ∧ (zE.length = Int.toNat (wd * hi)) ∧ (zX.length = Int.toNat (wd * hi)) ∧ (zY.length = Int.toNat (wd * hi))) (fun ρ' _ => (wd * hi - iv (ρ' 8)).toNat) ?_ ?_
  · exact ⟨_, 0, p + 1, _, _, _, Fits.eq ⟨rfl, rfl, rfl, rfl, rfl, rfl, rfl, trivial⟩, (B.pick [2, 3, 4, 0, 1, 5, 6, 7, 8, 9] rfl rfl), (Int.le_refl _), (by omega), (Int.le_refl _), (by omega), (by simp), (by simp), (by simp)⟩
  · clear B; rintro _ w47 ⟨ρ48, k, q, zE, zX, zY, rfl, B, h0k, h1k, hq0, hq1, hzE, hzX, hzY⟩
    refine W_seq ?_
    refine W_seq ?_
    refine W_region (by kernel_rfl) ?_
    refine s_y (v := .int .i64 k) rfl (y_move rfl) ?_
    refine s_y (v := .int .i64 (wd * hi)) rfl (y_move rfl) ?_
    by_cases c49 : k < (wd * hi)
    · refine s_y (v := .bool true) rfl (y_lss rfl rfl (decide_eq_true c49)) ?_
      refine s_nil ?_
      refine W_if_t (by decide) rfl ?_
      refine W_skip ?_
      refine W_seq ?_
      refine W_block ?_
      refine W_seq ?_
      refine W_seq ?_
      refine W_region (by kernel_rfl) ?_
      refine s_y (v := .int .i64 v44) rfl (y_move rfl) ?_
      by_cases c50 : v44 = 0
      · refine s_y (v := .bool true) rfl (y_eql rfl rfl (decide_eq_true c50)) ?_
        refine s_y (v := .bool true) rfl (y_move rfl) ?_
        refine s_y (v := .pointer (some ⟨bs, 0, none⟩)) rfl (y_move rfl) ?_
        refine s_k rfl (k_call T79.fn_99 (c_s_one (by omega) (by omega) (by omega) (by omega) (B.all.pick [3, 9] rfl) (B.pw.pick [3, 9] rfl rfl)) rfl ?_)
        rintro _ w51 ⟨vb53, rfl, hp54, hU52⟩
        replace B : Bu w (hasW [.blk bs [.slice aq nq cq, .int .i64 p, .int .u64 (sdY Xq p)] 131]) w51 [.blk bs [.slice aq nq cq, .int .i64 (q + 1), .int .u64 (sdY Xq (q + 1))] 131, .ow kF a30 (Int.toNat (wd * hi)) c31 34 zE, .ow kF a32 (Int.toNat (wd * hi)) c33 34 zX, .ow kF a34 (Int.toNat (wd * hi)) c35 34 zY, .blk b37 [.slice a30 (Int.toNat (wd * hi)) c31, .slice a32 (Int.toNat (wd * hi)) c33, .slice a34 (Int.toNat (wd * hi)) c35] 30, .blk b1 [.slice none 0 0, .slice none 0 0, .slice none 0 0] 30, .rd kF asp nsp Xsp, .rd kF als nls Xls, .sl (some ⟨b, o, none⟩) [.int .i64 wd, .int .i64 hi, .bool wr, .slice asp nsp csp, .slice als nls cls], .rd kY aq nq Xq] := B.upd [3] rfl hU52
        clear hU52
        refine s_y (v := .bool (!vb53)) rfl (y_not rfl rfl) ?_
        refine s_y (v := .bool (!vb53)) rfl (y_pick_t rfl rfl) ?_
        refine s_nil ?_
        cases vb53
        · refine W_if_t (by decide) rfl ?_
          refine W_exit ?_
          refine W_region (by kernel_rfl) ?_
          refine s_y (v := .int .i64 k) rfl (y_move rfl) ?_
          refine s_y (v := .int .i64 (k + 1)) rfl (y_add rfl rfl rfl (by omega)) ?_
          refine s_y (v := .int .i64 (k + 1)) rfl (y_assign rfl) ?_
          refine s_nil ?_
          refine ⟨⟨_, k + 1, q + 1, _, _, _, Fits.eq ⟨rfl, rfl, rfl, rfl, rfl, rfl, rfl, trivial⟩, (B.pick [1, 2, 3, 0, 4, 5, 6, 7, 8, 9] rfl rfl), (by omega), (by omega), (by omega), (by omega), (by first | exact hzE | (simp only [put_length]; exact hzE)), (by first | exact hzX | (simp only [put_length]; exact hzX)), (by first | exact hzY | (simp only [put_length]; exact hzY))⟩, ?_⟩
          show (wd * hi - (k + 1)).toNat < (wd * hi - k).toNat
          omega
        · refine W_if_f (by decide) rfl ?_
          refine W_skip ?_
          refine W_seq ?_
          have B0_59 := B
          refine W_draw (at1 bs) T79.mx (by kernel_rfl) (fun w57 e58 => ?_)
          have R60 := Ext.refl (at1 bs) w51
          replace R60 := R60.trans (Ext0.any e58)
          replace B := B.ext0 e58
          clear e58
          refine m_y (v := .pointer (some ⟨b37, 0, none⟩)) 0 rfl (by kernel_rfl) rfl rfl (fun w' e' => y_fld (o := 0) T79.fld_30_0_0 rfl) ?_
          refine m_y (v := .slice a30 (Int.toNat (wd * hi)) c31) 1 rfl (by kernel_rfl) rfl rfl (fun w' e' => y_load T79.one_24 rfl ((B0_59.bx 4 0 rfl rfl rfl rfl e' (fun _ h => h)).cell (j := 0) rfl)) ?_
          refine m_y (v := .int .i64 k) 2 rfl (by kernel_rfl) rfl rfl (fun w' e' => y_move rfl) ?_
          refine m_y (v := .pointer (some ⟨bs, 0, none⟩)) 3 rfl (by kernel_rfl) rfl rfl (fun w' e' => y_move rfl) ?_
          refine m_k 4 [5, 6, 7, 8, 9] rfl (by kernel_rfl) rfl rfl (fun w61 e62 => ?_)
          replace R60 := R60.trans (Ext0.any e62)
          replace B := B.ext0 e62
          clear e62
          refine k_call T79.fn_81 (c_s_pick (by omega) (by omega) (by omega) (by omega) (B.all.pick [0, 9] rfl) (B.pw.pick [0, 9] rfl rfl)) rfl ?_
          rintro _ w63 ⟨v65, rfl, hp66, hU64⟩
          replace R60 := R60.trans hU64.at1
          replace B : Bu w (hasW [.blk bs [.slice aq nq cq, .int .i64 p, .int .u64 (sdY Xq p)] 131]) w63 [.blk bs [.slice aq nq cq, .int .i64 ((q + 1) + 1), .int .u64 (sdY Xq ((q + 1) + 1))] 131, .ow kF a30 (Int.toNat (wd * hi)) c31 34 zE, .ow kF a32 (Int.toNat (wd * hi)) c33 34 zX, .ow kF a34 (Int.toNat (wd * hi)) c35 34 zY, .blk b37 [.slice a30 (Int.toNat (wd * hi)) c31, .slice a32 (Int.toNat (wd * hi)) c33, .slice a34 (Int.toNat (wd * hi)) c35] 30, .blk b1 [.slice none 0 0, .slice none 0 0, .slice none 0 0] 30, .rd kF asp nsp Xsp, .rd kF als nls Xls, .sl (some ⟨b, o, none⟩) [.int .i64 wd, .int .i64 hi, .bool wr, .slice asp nsp csp, .slice als nls cls], .rd kY aq nq Xq] := B.upd [0] rfl hU64
          clear hU64
          refine ⟨fun _ => R60, ?_⟩
          have hb67 := pk_b Xq (n := 17) (q + 1) (by omega)
          rw [← hp66] at hb67
          refine m_y (v := .int .i64 (v65 - 8)) 5 rfl (by kernel_rfl) rfl rfl (fun w' e' => y_sub rfl rfl rfl (by omega)) ?_
          refine m_y (v := .float .f32 (FloatKind.nearest .f32 (v65 - 8))) 6 rfl (by kernel_rfl) rfl rfl (fun w' e' => y_if T79.und_2 T79.flt_34_f32 rfl) ?_
          refine m_n 7 [8, 9] rfl (by kernel_rfl) rfl rfl (fun w' e' => n_arith (by decide) rfl rfl) ?_
          rintro _ ⟨r69, rfl, hr70⟩
          have hc73 := fopC hr70 (can_nearest .f32 (v65 - 8)) (show can .f32 1082130432 = 1082130432 by kernel_rfl)
          refine m_y (v := .pointer (some (sat a30 ((k).toNat * 1)))) 8 rfl (by kernel_rfl) rfl rfl (fun w' e' => y_idx T79.sl_24_34_1 rfl rfl ((B.o 1 rfl).rd.addr (by omega)) (by omega) (by omega)) ?_
          refine m_kt 9 [] rfl (by kernel_rfl) rfl rfl (by kernel_rfl) (fun w76 e77 => ?_)
          replace R60 := R60.trans (Ext0.any e77)
          replace B := B.ext0 e77
          clear e77
          refine k_stO (k := kF) (i := k) (j := 0) (x' := fop .quo .f32 (FloatKind.nearest .f32 (v65 - 8)) 1082130432) (new := [.float .f32 r69]) T79.sz_34_1 rfl rfl rfl rfl rfl (by simp [Value.oneCell']) (by decide) (B.o 1 rfl) (by omega) (by omega) (by decide) (by rintro q ⟨_, rfl, _⟩; exact ⟨_, rfl, hc73⟩) (fun w74 hU75 => ?_)
          clear R60
          replace B : Bu w (hasW [.blk bs [.slice aq nq cq, .int .i64 p, .int .u64 (sdY Xq p)] 131]) w74 [.ow kF a30 (Int.toNat (wd * hi)) c31 34 (put zE k (fop .quo .f32 (FloatKind.nearest .f32 (v65 - 8)) 1082130432)), .blk bs [.slice aq nq cq, .int .i64 ((q + 1) + 1), .int .u64 (sdY Xq ((q + 1) + 1))] 131, .ow kF a32 (Int.toNat (wd * hi)) c33 34 zX, .ow kF a34 (Int.toNat (wd * hi)) c35 34 zY, .blk b37 [.slice a30 (Int.toNat (wd * hi)) c31, .slice a32 (Int.toNat (wd * hi)) c33, .slice a34 (Int.toNat (wd * hi)) c35] 30, .blk b1 [.slice none 0 0, .slice none 0 0, .slice none 0 0] 30, .rd kF asp nsp Xsp, .rd kF als nls Xls, .sl (some ⟨b, o, none⟩) [.int .i64 wd, .int .i64 hi, .bool wr, .slice asp nsp csp, .slice als nls cls], .rd kY aq nq Xq] := B.upd [1] rfl hU75
          clear hU75
          refine m_done (by kernel_rfl) (fun w78 e79 => ?_)
          replace B := B.ext0 e79
          clear e79
          clear B0_59
          refine W_seq ?_
          refine W_seq ?_
          refine W_region (by kernel_rfl) ?_
          refine s_y (v := .int .i64 v44) rfl (y_move rfl) ?_
          by_cases c80 : 1 < v44
          · refine s_y (v := .bool true) rfl (y_gtr rfl rfl (decide_eq_true c80)) ?_
            refine s_nil ?_
            refine W_if_t (by decide) rfl ?_
            refine W_seq ?_
            have B0_85 := B
            refine W_draw (at1 bs) T79.mx (by kernel_rfl) (fun w83 e84 => ?_)
            have R86 := Ext.refl (at1 bs) w78
            replace R86 := R86.trans (Ext0.any e84)
            replace B := B.ext0 e84
            clear e84
            refine m_y (v := .pointer (some ⟨b37, 1, none⟩)) 0 rfl (by kernel_rfl) rfl rfl (fun w' e' => y_fld (o := 0) T79.fld_30_1_1 rfl) ?_
            refine m_y (v := .slice a32 (Int.toNat (wd * hi)) c33) 1 rfl (by kernel_rfl) rfl rfl (fun w' e' => y_load T79.one_24 rfl ((B0_85.bx 4 1 rfl rfl rfl rfl e' (fun _ h => h)).cell (j := 1) rfl)) ?_
            refine m_y (v := .int .i64 k) 2 rfl (by kernel_rfl) rfl rfl (fun w' e' => y_move rfl) ?_
            refine m_y (v := .pointer (some ⟨bs, 0, none⟩)) 3 rfl (by kernel_rfl) rfl rfl (fun w' e' => y_move rfl) ?_
            refine m_k 4 [5, 6, 7, 8, 9] rfl (by kernel_rfl) rfl rfl (fun w87 e88 => ?_)
            replace R86 := R86.trans (Ext0.any e88)
            replace B := B.ext0 e88
            clear e88
            refine k_call T79.fn_81 (c_s_pick (by omega) (by omega) (by omega) (by omega) (B.all.pick [1, 9] rfl) (B.pw.pick [1, 9] rfl rfl)) rfl ?_
            rintro _ w89 ⟨v91, rfl, hp92, hU90⟩
            replace R86 := R86.trans hU90.at1
            replace B : Bu w (hasW [.blk bs [.slice aq nq cq, .int .i64 p, .int .u64 (sdY Xq p)] 131]) w89 [.blk bs [.slice aq nq cq, .int .i64 (((q + 1) + 1) + 1), .int .u64 (sdY Xq (((q + 1) + 1) + 1))] 131, .ow kF a30 (Int.toNat (wd * hi)) c31 34 (put zE k (fop .quo .f32 (FloatKind.nearest .f32 (v65 - 8)) 1082130432)), .ow kF a32 (Int.toNat (wd * hi)) c33 34 zX, .ow kF a34 (Int.toNat (wd * hi)) c35 34 zY, .blk b37 [.slice a30 (Int.toNat (wd * hi)) c31, .slice a32 (Int.toNat (wd * hi)) c33, .slice a34 (Int.toNat (wd * hi)) c35] 30, .blk b1 [.slice none 0 0, .slice none 0 0, .slice none 0 0] 30, .rd kF asp nsp Xsp, .rd kF als nls Xls, .sl (some ⟨b, o, none⟩) [.int .i64 wd, .int .i64 hi, .bool wr, .slice asp nsp csp, .slice als nls cls], .rd kY aq nq Xq] := B.upd [1] rfl hU90
            clear hU90
            refine ⟨fun _ => R86, ?_⟩
            have hb93 := pk_b Xq (n := 17) ((q + 1) + 1) (by omega)
            rw [← hp92] at hb93
            refine m_y (v := .int .i64 (v91 - 8)) 5 rfl (by kernel_rfl) rfl rfl (fun w' e' => y_sub rfl rfl rfl (by omega)) ?_
            refine m_y (v := .float .f32 (FloatKind.nearest .f32 (v91 - 8))) 6 rfl (by kernel_rfl) rfl rfl (fun w' e' => y_if T79.und_2 T79.flt_34_f32 rfl) ?_
            refine m_n 7 [8, 9] rfl (by kernel_rfl) rfl rfl (fun w' e' => n_arith (by decide) rfl rfl) ?_
            rintro _ ⟨r95, rfl, hr96⟩
            have hc99 := fopC hr96 (can_nearest .f32 (v91 - 8)) (show can .f32 1082130432 = 1082130432 by kernel_rfl)
            refine m_y (v := .pointer (some (sat a32 ((k).toNat * 1)))) 8 rfl (by kernel_rfl) rfl rfl (fun w' e' => y_idx T79.sl_24_34_1 rfl rfl ((B.o 2 rfl).rd.addr (by omega)) (by omega) (by omega)) ?_
            refine m_kt 9 [] rfl (by kernel_rfl) rfl rfl (by kernel_rfl) (fun w102 e103 => ?_)
            replace R86 := R86.trans (Ext0.any e103)
            replace B := B.ext0 e103
            clear e103
            refine k_stO (k := kF) (i := k) (j := 0) (x' := fop .quo .f32 (FloatKind.nearest .f32 (v91 - 8)) 1082130432) (new := [.float .f32 r95]) T79.sz_34_1 rfl rfl rfl rfl rfl (by simp [Value.oneCell']) (by decide) (B.o 2 rfl) (by omega) (by omega) (by decide) (by rintro q ⟨_, rfl, _⟩; exact ⟨_, rfl, hc99⟩) (fun w100 hU101 => ?_)
            clear R86
            replace B : Bu w (hasW [.blk bs [.slice aq nq cq, .int .i64 p, .int .u64 (sdY Xq p)] 131]) w100 [.ow kF a32 (Int.toNat (wd * hi)) c33 34 (put zX k (fop .quo .f32 (FloatKind.nearest .f32 (v91 - 8)) 1082130432)), .blk bs [.slice aq nq cq, .int .i64 (((q + 1) + 1) + 1), .int .u64 (sdY Xq (((q + 1) + 1) + 1))] 131, .ow kF a30 (Int.toNat (wd * hi)) c31 34 (put zE k (fop .quo .f32 (FloatKind.nearest .f32 (v65 - 8)) 1082130432)), .ow kF a34 (Int.toNat (wd * hi)) c35 34 zY, .blk b37 [.slice a30 (Int.toNat (wd * hi)) c31, .slice a32 (Int.toNat (wd * hi)) c33, .slice a34 (Int.toNat (wd * hi)) c35] 30, .blk b1 [.slice none 0 0, .slice none 0 0, .slice none 0 0] 30, .rd kF asp nsp Xsp, .rd kF als nls Xls, .sl (some ⟨b, o, none⟩) [.int .i64 wd, .int .i64 hi, .bool wr, .slice asp nsp csp, .slice als nls cls], .rd kY aq nq Xq] := B.upd [2] rfl hU101
            clear hU101
            refine m_done (by kernel_rfl) (fun w104 e105 => ?_)
            replace B := B.ext0 e105
            clear e105
            clear B0_85
            have B0_110 := B
            refine W_draw (at1 bs) T79.mx (by kernel_rfl) (fun w108 e109 => ?_)
            have R111 := Ext.refl (at1 bs) w104
            replace R111 := R111.trans (Ext0.any e109)
            replace B := B.ext0 e109
            clear e109
            refine m_y (v := .pointer (some ⟨b37, 2, none⟩)) 0 rfl (by kernel_rfl) rfl rfl (fun w' e' => y_fld (o := 0) T79.fld_30_2_2 rfl) ?_
            refine m_y (v := .slice a34 (Int.toNat (wd * hi)) c35) 1 rfl (by kernel_rfl) rfl rfl (fun w' e' => y_load T79.one_24 rfl ((B0_110.bx 4 1 rfl rfl rfl rfl e' (fun _ h => h)).cell (j := 2) rfl)) ?_
            refine m_y (v := .int .i64 k) 2 rfl (by kernel_rfl) rfl rfl (fun w' e' => y_move rfl) ?_
            refine m_y (v := .pointer (some ⟨bs, 0, none⟩)) 3 rfl (by kernel_rfl) rfl rfl (fun w' e' => y_move rfl) ?_
            refine m_k 4 [5, 6] rfl (by kernel_rfl) rfl rfl (fun w112 e113 => ?_)
            replace R111 := R111.trans (Ext0.any e113)
            replace B := B.ext0 e113
            clear e113
            refine k_call T79.fn_122 (c_s_l01DrawPlain (by omega) (by omega) (B.all.pick [1, 9] rfl) (B.pw.pick [1, 9] rfl rfl)) rfl ?_
            rintro _ w114 ⟨c116, rfl, hU115⟩
            replace R111 := R111.trans hU115.at1
            replace B : Bu w (hasW [.blk bs [.slice aq nq cq, .int .i64 p, .int .u64 (sdY Xq p)] 131]) w114 [.blk bs [.slice aq nq cq, .int .i64 ((((q + 1) + 1) + 1) + 1 + 1), .int .u64 (sdY Xq ((((q + 1) + 1) + 1) + 1 + 1))] 131, .ow kF a32 (Int.toNat (wd * hi)) c33 34 (put zX k (fop .quo .f32 (FloatKind.nearest .f32 (v91 - 8)) 1082130432)), .ow kF a30 (Int.toNat (wd * hi)) c31 34 (put zE k (fop .quo .f32 (FloatKind.nearest .f32 (v65 - 8)) 1082130432)), .ow kF a34 (Int.toNat (wd * hi)) c35 34 zY, .blk b37 [.slice a30 (Int.toNat (wd * hi)) c31, .slice a32 (Int.toNat (wd * hi)) c33, .slice a34 (Int.toNat (wd * hi)) c35] 30, .blk b1 [.slice none 0 0, .slice none 0 0, .slice none 0 0] 30, .rd kF asp nsp Xsp, .rd kF als nls Xls, .sl (some ⟨b, o, none⟩) [.int .i64 wd, .int .i64 hi, .bool wr, .slice asp nsp csp, .slice als nls cls], .rd kY aq nq Xq] := B.upd [1] rfl hU115
            clear hU115
            refine ⟨fun _ => R111, ?_⟩
            refine m_y (v := .pointer (some (sat a34 ((k).toNat * 1)))) 5 rfl (by kernel_rfl) rfl rfl (fun w' e' => y_idx T79.sl_24_34_1 rfl rfl ((B.o 3 rfl).rd.addr (by omega)) (by omega) (by omega)) ?_
            refine m_kt 6 [] rfl (by kernel_rfl) rfl rfl (by kernel_rfl) (fun w119 e120 => ?_)
            replace R111 := R111.trans (Ext0.any e120)
            replace B := B.ext0 e120
            clear e120
            refine k_stO (k := kF) (i := k) (j := 0) (x' := can .f32 c116) (new := [.float .f32 c116]) T79.sz_34_1 rfl rfl rfl rfl rfl (by simp [Value.oneCell']) (by decide) (B.o 3 rfl) (by omega) (by omega) (by decide) (by rintro q ⟨_, rfl, _⟩; exact ⟨_, rfl, rfl⟩) (fun w117 hU118 => ?_)
            clear R111
            replace B : Bu w (hasW [.blk bs [.slice aq nq cq, .int .i64 p, .int .u64 (sdY Xq p)] 131]) w117 [.ow kF a34 (Int.toNat (wd * hi)) c35 34 (put zY k (can .f32 c116)), .blk bs [.slice aq nq cq, .int .i64 ((((q + 1) + 1) + 1) + 1 + 1), .int .u64 (sdY Xq ((((q + 1) + 1) + 1) + 1 + 1))] 131, .ow kF a32 (Int.toNat (wd * hi)) c33 34 (put zX k (fop .quo .f32 (FloatKind.nearest .f32 (v91 - 8)) 1082130432)), .ow kF a30 (Int.toNat (wd * hi)) c31 34 (put zE k (fop .quo .f32 (FloatKind.nearest .f32 (v65 - 8)) 1082130432)), .blk b37 [.slice a30 (Int.toNat (wd * hi)) c31, .slice a32 (Int.toNat (wd * hi)) c33, .slice a34 (Int.toNat (wd * hi)) c35] 30, .blk b1 [.slice none 0 0, .slice none 0 0, .slice none 0 0] 30, .rd kF asp nsp Xsp, .rd kF als nls Xls, .sl (some ⟨b, o, none⟩) [.int .i64 wd, .int .i64 hi, .bool wr, .slice asp nsp csp, .slice als nls cls], .rd kY aq nq Xq] := B.upd [3] rfl hU118
            clear hU118
            refine m_done (by kernel_rfl) (fun w121 e122 => ?_)
            replace B := B.ext0 e122
            clear e122
            clear B0_110
            refine W_seq ?_
            refine W_region (by kernel_rfl) ?_
            refine s_y (v := .int .i64 v44) rfl (y_move rfl) ?_
            by_cases c123 : v44 = 3
            · refine s_y (v := .bool true) rfl (y_eql rfl rfl (decide_eq_true c123)) ?_
              refine s_y (v := .bool true) rfl (y_move rfl) ?_
              refine s_y (v := .pointer (some ⟨bs, 0, none⟩)) rfl (y_move rfl) ?_
              refine s_k rfl (k_call T79.fn_99 (c_s_one (by omega) (by omega) (by omega) (by omega) (B.all.pick [1, 9] rfl) (B.pw.pick [1, 9] rfl rfl)) rfl ?_)
              rintro _ w124 ⟨vb126, rfl, hp127, hU125⟩
              replace B : Bu w (hasW [.blk bs [.slice aq nq cq, .int .i64 p, .int .u64 (sdY Xq p)] 131]) w124 [.blk bs [.slice aq nq cq, .int .i64 (((((q + 1) + 1) + 1) + 1 + 1) + 1), .int .u64 (sdY Xq (((((q + 1) + 1) + 1) + 1 + 1) + 1))] 131, .ow kF a34 (Int.toNat (wd * hi)) c35 34 (put zY k (can .f32 c116)), .ow kF a32 (Int.toNat (wd * hi)) c33 34 (put zX k (fop .quo .f32 (FloatKind.nearest .f32 (v91 - 8)) 1082130432)), .ow kF a30 (Int.toNat (wd * hi)) c31 34 (put zE k (fop .quo .f32 (FloatKind.nearest .f32 (v65 - 8)) 1082130432)), .blk b37 [.slice a30 (Int.toNat (wd * hi)) c31, .slice a32 (Int.toNat (wd * hi)) c33, .slice a34 (Int.toNat (wd * hi)) c35] 30, .blk b1 [.slice none 0 0, .slice none 0 0, .slice none 0 0] 30, .rd kF asp nsp Xsp, .rd kF als nls Xls, .sl (some ⟨b, o, none⟩) [.int .i64 wd, .int .i64 hi, .bool wr, .slice asp nsp csp, .slice als nls cls], .rd kY aq nq Xq] := B.upd [1] rfl hU125
              clear hU125
              refine s_y (v := .bool vb126) rfl (y_pick_t rfl rfl) ?_
              refine s_nil ?_
              cases vb126
              · refine W_if_f (by decide) rfl ?_
                refine W_skip ?_
                refine W_region (by kernel_rfl) ?_
                refine s_y (v := .int .i64 k) rfl (y_move rfl) ?_
                refine s_y (v := .int .i64 (k + 1)) rfl (y_add rfl rfl rfl (by omega)) ?_
                refine s_y (v := .int .i64 (k + 1)) rfl (y_assign rfl) ?_
                refine s_nil ?_
                refine ⟨⟨_, k + 1, ((((q + 1) + 1) + 1) + 1 + 1) + 1, _, _, _, Fits.eq ⟨rfl, rfl, rfl, rfl, rfl, rfl, rfl, trivial⟩, (B.pick [3, 2, 1, 0, 4, 5, 6, 7, 8, 9] rfl rfl), (by omega), (by omega), (by omega), (by omega), (by first | exact hzE | (simp only [put_length]; exact hzE)), (by first | exact hzX | (simp only [put_length]; exact hzX)), (by first | exact hzY | (simp only [put_length]; exact hzY))⟩, ?_⟩
                show (wd * hi - (k + 1)).toNat < (wd * hi - k).toNat
                omega
              · refine W_if_t (by decide) rfl ?_
                have B0_132 := B
                refine W_draw (at1 bs) T79.mx (by kernel_rfl) (fun w130 e131 => ?_)
                have R133 := Ext.refl (at1 bs) w124
                replace R133 := R133.trans (Ext0.any e131)
                replace B := B.ext0 e131
                clear e131
                refine m_y (v := .pointer (some ⟨b37, 0, none⟩)) 0 rfl (by kernel_rfl) rfl rfl (fun w' e' => y_fld (o := 0) T79.fld_30_0_0 rfl) ?_
                refine m_y (v := .slice a30 (Int.toNat (wd * hi)) c31) 1 rfl (by kernel_rfl) rfl rfl (fun w' e' => y_load T79.one_24 rfl ((B0_132.bx 4 0 rfl rfl rfl rfl e' (fun _ h => h)).cell (j := 0) rfl)) ?_
                refine m_y (v := .int .i64 k) 2 rfl (by kernel_rfl) rfl rfl (fun w' e' => y_move rfl) ?_
                refine m_y (v := .pointer (some ⟨bs, 0, none⟩)) 3 rfl (by kernel_rfl) rfl rfl (fun w' e' => y_move rfl) ?_
                refine m_k 4 [5, 6] rfl (by kernel_rfl) rfl rfl (fun w134 e135 => ?_)
                replace R133 := R133.trans (Ext0.any e135)
                replace B := B.ext0 e135
                clear e135
                refine k_call T79.fn_123 (c_s_l01DrawFloat (by omega) (by omega) (B.all.pick [0, 9] rfl) (B.pw.pick [0, 9] rfl rfl)) rfl ?_
                rintro _ w136 ⟨c138, v139, rfl, hp140, hp141, hU137⟩
                replace R133 := R133.trans hU137.at1
                replace B : Bu w (hasW [.blk bs [.slice aq nq cq, .int .i64 p, .int .u64 (sdY Xq p)] 131]) w136 [.blk bs [.slice aq nq cq, .int .i64 v139, .int .u64 (sdY Xq v139)] 131, .ow kF a34 (Int.toNat (wd * hi)) c35 34 (put zY k (can .f32 c116)), .ow kF a32 (Int.toNat (wd * hi)) c33 34 (put zX k (fop .quo .f32 (FloatKind.nearest .f32 (v91 - 8)) 1082130432)), .ow kF a30 (Int.toNat (wd * hi)) c31 34 (put zE k (fop .quo .f32 (FloatKind.nearest .f32 (v65 - 8)) 1082130432)), .blk b37 [.slice a30 (Int.toNat (wd * hi)) c31, .slice a32 (Int.toNat (wd * hi)) c33, .slice a34 (Int.toNat (wd * hi)) c35] 30, .blk b1 [.slice none 0 0, .slice none 0 0, .slice none 0 0] 30, .rd kF asp nsp Xsp, .rd kF als nls Xls, .sl (some ⟨b, o, none⟩) [.int .i64 wd, .int .i64 hi, .bool wr, .slice asp nsp csp, .slice als nls cls], .rd kY aq nq Xq] := B.upd [0] rfl hU137
                clear hU137
                refine ⟨fun _ => R133, ?_⟩
                refine m_y (v := .pointer (some (sat a30 ((k).toNat * 1)))) 5 rfl (by kernel_rfl) rfl rfl (fun w' e' => y_idx T79.sl_24_34_1 rfl rfl ((B.o 3 rfl).rd.addr (by omega)) (by omega) (by omega)) ?_
                refine m_kt 6 [] rfl (by kernel_rfl) rfl rfl (by kernel_rfl) (fun w144 e145 => ?_)
                replace R133 := R133.trans (Ext0.any e145)
                replace B := B.ext0 e145
                clear e145
                refine k_stO (k := kF) (i := k) (j := 0) (x' := can .f32 c138) (new := [.float .f32 c138]) T79.sz_34_1 rfl rfl rfl rfl rfl (by simp [Value.oneCell']) (by decide) (B.o 3 rfl) (by omega) (by omega) (by decide) (by rintro q ⟨_, rfl, _⟩; exact ⟨_, rfl, rfl⟩) (fun w142 hU143 => ?_)
                clear R133
                replace B : Bu w (hasW [.blk bs [.slice aq nq cq, .int .i64 p, .int .u64 (sdY Xq p)] 131]) w142 [.ow kF a30 (Int.toNat (wd * hi)) c31 34 (put (put zE k (fop .quo .f32 (FloatKind.nearest .f32 (v65 - 8)) 1082130432)) k (can .f32 c138)), .blk bs [.slice aq nq cq, .int .i64 v139, .int .u64 (sdY Xq v139)] 131, .ow kF a34 (Int.toNat (wd * hi)) c35 34 (put zY k (can .f32 c116)), .ow kF a32 (Int.toNat (wd * hi)) c33 34 (put zX k (fop .quo .f32 (FloatKind.nearest .f32 (v91 - 8)) 1082130432)), .blk b37 [.slice a30 (Int.toNat (wd * hi)) c31, .slice a32 (Int.toNat (wd * hi)) c33, .slice a34 (Int.toNat (wd * hi)) c35] 30, .blk b1 [.slice none 0 0, .slice none 0 0, .slice none 0 0] 30, .rd kF asp nsp Xsp, .rd kF als nls Xls, .sl (some ⟨b, o, none⟩) [.int .i64 wd, .int .i64 hi, .bool wr, .slice asp nsp csp, .slice als nls cls], .rd kY aq nq Xq] := B.upd [3] rfl hU143
                clear hU143
                refine m_done (by kernel_rfl) (fun w146 e147 => ?_)
                replace B := B.ext0 e147
                clear e147
                clear B0_132
                refine W_region (by kernel_rfl) ?_
                refine s_y (v := .int .i64 k) rfl (y_move rfl) ?_
                refine s_y (v := .int .i64 (k + 1)) rfl (y_add rfl rfl rfl (by omega)) ?_
                refine s_y (v := .int .i64 (k + 1)) rfl (y_assign rfl) ?_
                refine s_nil ?_
                refine ⟨⟨_, k + 1, v139, _, _, _, Fits.eq ⟨rfl, rfl, rfl, rfl, rfl, rfl, rfl, trivial⟩, (B.pick [0, 3, 2, 1, 4, 5, 6, 7, 8, 9] rfl rfl), (by omega), (by omega), (by omega), (by omega), (by first | exact hzE | (simp only [put_length]; exact hzE)), (by first | exact hzX | (simp only [put_length]; exact hzX)), (by first | exact hzY | (simp only [put_length]; exact hzY))⟩, ?_⟩
                show (wd * hi - (k + 1)).toNat < (wd * hi - k).toNat
                omega
            · refine s_y (v := .bool false) rfl (y_eql rfl rfl (decide_eq_false c123)) ?_
              refine s_y (v := .bool false) rfl (y_move rfl) ?_
              refine s_skip rfl ?_
              refine s_skip rfl ?_
              refine s_y (v := .bool false) rfl (y_pick_f rfl rfl) ?_
              refine s_nil ?_
              refine W_if_f (by decide) rfl ?_
              refine W_skip ?_
              refine W_region (by kernel_rfl) ?_
              refine s_y (v := .int .i64 k) rfl (y_move rfl) ?_
              refine s_y (v := .int .i64 (k + 1)) rfl (y_add rfl rfl rfl (by omega)) ?_
              refine s_y (v := .int .i64 (k + 1)) rfl (y_assign rfl) ?_
              refine s_nil ?_
              refine ⟨⟨_, k + 1, (((q + 1) + 1) + 1) + 1 + 1, _, _, _, Fits.eq ⟨rfl, rfl, rfl, rfl, rfl, rfl, rfl, trivial⟩, (B.pick [3, 2, 0, 1, 4, 5, 6, 7, 8, 9] rfl rfl), (by omega), (by omega), (by omega), (by omega), (by first | exact hzE | (simp only [put_length]; exact hzE)), (by first | exact hzX | (simp only [put_length]; exact hzX)), (by first | exact hzY | (simp only [put_length]; exact hzY))⟩, ?_⟩
              show (wd * hi - (k + 1)).toNat < (wd * hi - k).toNat
              omega
          · refine s_y (v := .bool false) rfl (y_gtr rfl rfl (decide_eq_false c80)) ?_
            refine s_nil ?_
            refine W_if_f (by decide) rfl ?_
            refine W_skip ?_
            refine W_seq ?_
            refine W_region (by kernel_rfl) ?_
            refine s_y (v := .int .i64 v44) rfl (y_move rfl) ?_
            by_cases c148 : v44 = 3
            · refine s_y (v := .bool true) rfl (y_eql rfl rfl (decide_eq_true c148)) ?_
              refine s_y (v := .bool true) rfl (y_move rfl) ?_
              refine s_y (v := .pointer (some ⟨bs, 0, none⟩)) rfl (y_move rfl) ?_
              refine s_k rfl (k_call T79.fn_99 (c_s_one (by omega) (by omega) (by omega) (by omega) (B.all.pick [1, 9] rfl) (B.pw.pick [1, 9] rfl rfl)) rfl ?_)
              rintro _ w149 ⟨vb151, rfl, hp152, hU150⟩
              replace B : Bu w (hasW [.blk bs [.slice aq nq cq, .int .i64 p, .int .u64 (sdY Xq p)] 131]) w149 [.blk bs [.slice aq nq cq, .int .i64 (((q + 1) + 1) + 1), .int .u64 (sdY Xq (((q + 1) + 1) + 1))] 131, .ow kF a30 (Int.toNat (wd * hi)) c31 34 (put zE k (fop .quo .f32 (FloatKind.nearest .f32 (v65 - 8)) 1082130432)), .ow kF a32 (Int.toNat (wd * hi)) c33 34 zX, .ow kF a34 (Int.toNat (wd * hi)) c35 34 zY, .blk b37 [.slice a30 (Int.toNat (wd * hi)) c31, .slice a32 (Int.toNat (wd * hi)) c33, .slice a34 (Int.toNat (wd * hi)) c35] 30, .blk b1 [.slice none 0 0, .slice none 0 0, .slice none 0 0] 30, .rd kF asp nsp Xsp, .rd kF als nls Xls, .sl (some ⟨b, o, none⟩) [.int .i64 wd, .int .i64 hi, .bool wr, .slice asp nsp csp, .slice als nls cls], .rd kY aq nq Xq] := B.upd [1] rfl hU150
              clear hU150
              refine s_y (v := .bool vb151) rfl (y_pick_t rfl rfl) ?_
              refine s_nil ?_
              cases vb151
              · refine W_if_f (by decide) rfl ?_
                refine W_skip ?_
                refine W_region (by kernel_rfl) ?_
                refine s_y (v := .int .i64 k) rfl (y_move rfl) ?_
                refine s_y (v := .int .i64 (k + 1)) rfl (y_add rfl rfl rfl (by omega)) ?_
                refine s_y (v := .int .i64 (k + 1)) rfl (y_assign rfl) ?_
                refine s_nil ?_
                refine ⟨⟨_, k + 1, ((q + 1) + 1) + 1, _, _, _, Fits.eq ⟨rfl, rfl, rfl, rfl, rfl, rfl, rfl, trivial⟩, (B.pick [1, 2, 3, 0, 4, 5, 6, 7, 8, 9] rfl rfl), (by omega), (by omega), (by omega), (by omega), (by first | exact hzE | (simp only [put_length]; exact hzE)), (by first | exact hzX | (simp only [put_length]; exact hzX)), (by first | exact hzY | (simp only [put_length]; exact hzY))⟩, ?_⟩
                show (wd * hi - (k + 1)).toNat < (wd * hi - k).toNat
                omega
              · refine W_if_t (by decide) rfl ?_
                have B0_157 := B
                refine W_draw (at1 bs) T79.mx (by kernel_rfl) (fun w155 e156 => ?_)
                have R158 := Ext.refl (at1 bs) w149
                replace R158 := R158.trans (Ext0.any e156)
                replace B := B.ext0 e156
                clear e156
                refine m_y (v := .pointer (some ⟨b37, 0, none⟩)) 0 rfl (by kernel_rfl) rfl rfl (fun w' e' => y_fld (o := 0) T79.fld_30_0_0 rfl) ?_
                refine m_y (v := .slice a30 (Int.toNat (wd * hi)) c31) 1 rfl (by kernel_rfl) rfl rfl (fun w' e' => y_load T79.one_24 rfl ((B0_157.bx 4 0 rfl rfl rfl rfl e' (fun _ h => h)).cell (j := 0) rfl)) ?_
                refine m_y (v := .int .i64 k) 2 rfl (by kernel_rfl) rfl rfl (fun w' e' => y_move rfl) ?_
                refine m_y (v := .pointer (some ⟨bs, 0, none⟩)) 3 rfl (by kernel_rfl) rfl rfl (fun w' e' => y_move rfl) ?_
                refine m_k 4 [5, 6] rfl (by kernel_rfl) rfl rfl (fun w159 e160 => ?_)
                replace R158 := R158.trans (Ext0.any e160)
                replace B := B.ext0 e160
                clear e160
                refine k_call T79.fn_123 (c_s_l01DrawFloat (by omega) (by omega) (B.all.pick [0, 9] rfl) (B.pw.pick [0, 9] rfl rfl)) rfl ?_
                rintro _ w161 ⟨c163, v164, rfl, hp165, hp166, hU162⟩
                replace R158 := R158.trans hU162.at1
                replace B : Bu w (hasW [.blk bs [.slice aq nq cq, .int .i64 p, .int .u64 (sdY Xq p)] 131]) w161 [.blk bs [.slice aq nq cq, .int .i64 v164, .int .u64 (sdY Xq v164)] 131, .ow kF a30 (Int.toNat (wd * hi)) c31 34 (put zE k (fop .quo .f32 (FloatKind.nearest .f32 (v65 - 8)) 1082130432)), .ow kF a32 (Int.toNat (wd * hi)) c33 34 zX, .ow kF a34 (Int.toNat (wd * hi)) c35 34 zY, .blk b37 [.slice a30 (Int.toNat (wd * hi)) c31, .slice a32 (Int.toNat (wd * hi)) c33, .slice a34 (Int.toNat (wd * hi)) c35] 30, .blk b1 [.slice none 0 0, .slice none 0 0, .slice none 0 0] 30, .rd kF asp nsp Xsp, .rd kF als nls Xls, .sl (some ⟨b, o, none⟩) [.int .i64 wd, .int .i64 hi, .bool wr, .slice asp nsp csp, .slice als nls cls], .rd kY aq nq Xq] := B.upd [0] rfl hU162
                clear hU162
                refine ⟨fun _ => R158, ?_⟩
                refine m_y (v := .pointer (some (sat a30 ((k).toNat * 1)))) 5 rfl (by kernel_rfl) rfl rfl (fun w' e' => y_idx T79.sl_24_34_1 rfl rfl ((B.o 1 rfl).rd.addr (by omega)) (by omega) (by omega)) ?_
                refine m_kt 6 [] rfl (by kernel_rfl) rfl rfl (by kernel_rfl) (fun w169 e170 => ?_)
                replace R158 := R158.trans (Ext0.any e170)
                replace B := B.ext0 e170
                clear e170
                refine k_stO (k := kF) (i := k) (j := 0) (x' := can .f32 c163) (new := [.float .f32 c163]) T79.sz_34_1 rfl rfl rfl rfl rfl (by simp [Value.oneCell']) (by decide) (B.o 1 rfl) (by omega) (by omega) (by decide) (by rintro q ⟨_, rfl, _⟩; exact ⟨_, rfl, rfl⟩) (fun w167 hU168 => ?_)
                clear R158
                replace B : Bu w (hasW [.blk bs [.slice aq nq cq, .int .i64 p, .int .u64 (sdY Xq p)] 131]) w167 [.ow kF a30 (Int.toNat (wd * hi)) c31 34 (put (put zE k (fop .quo .f32 (FloatKind.nearest .f32 (v65 - 8)) 1082130432)) k (can .f32 c163)), .blk bs [.slice aq nq cq, .int .i64 v164, .int .u64 (sdY Xq v164)] 131, .ow kF a32 (Int.toNat (wd * hi)) c33 34 zX, .ow kF a34 (Int.toNat (wd * hi)) c35 34 zY, .blk b37 [.slice a30 (Int.toNat (wd * hi)) c31, .slice a32 (Int.toNat (wd * hi)) c33, .slice a34 (Int.toNat (wd * hi)) c35] 30, .blk b1 [.slice none 0 0, .slice none 0 0, .slice none 0 0] 30, .rd kF asp nsp Xsp, .rd kF als nls Xls, .sl (some ⟨b, o, none⟩) [.int .i64 wd, .int .i64 hi, .bool wr, .slice asp nsp csp, .slice als nls cls], .rd kY aq nq Xq] := B.upd [1] rfl hU168
                clear hU168
                refine m_done (by kernel_rfl) (fun w171 e172 => ?_)
                replace B := B.ext0 e172
                clear e172
                clear B0_157
                refine W_region (by kernel_rfl) ?_
                refine s_y (v := .int .i64 k) rfl (y_move rfl) ?_
                refine s_y (v := .int .i64 (k + 1)) rfl (y_add rfl rfl rfl (by omega)) ?_
                refine s_y (v := .int .i64 (k + 1)) rfl (y_assign rfl) ?_
                refine s_nil ?_
                refine ⟨⟨_, k + 1, v164, _, _, _, Fits.eq ⟨rfl, rfl, rfl, rfl, rfl, rfl, rfl, trivial⟩, (B.pick [0, 2, 3, 1, 4, 5, 6, 7, 8, 9] rfl rfl), (by omega), (by omega), (by omega), (by omega), (by first | exact hzE | (simp only [put_length]; exact hzE)), (by first | exact hzX | (simp only [put_length]; exact hzX)), (by first | exact hzY | (simp only [put_length]; exact hzY))⟩, ?_⟩
                show (wd * hi - (k + 1)).toNat < (wd * hi - k).toNat
                omega
            · refine s_y (v := .bool false) rfl (y_eql rfl rfl (decide_eq_false c148)) ?_
              refine s_y (v := .bool false) rfl (y_move rfl) ?_
              refine s_skip rfl ?_
              refine s_skip rfl ?_
              refine s_y (v := .bool false) rfl (y_pick_f rfl rfl) ?_
              refine s_nil ?_
              refine W_if_f (by decide) rfl ?_
              refine W_skip ?_
              refine W_region (by kernel_rfl) ?_
              refine s_y (v := .int .i64 k) rfl (y_move rfl) ?_
              refine s_y (v := .int .i64 (k + 1)) rfl (y_add rfl rfl rfl (by omega)) ?_
              refine s_y (v := .int .i64 (k + 1)) rfl (y_assign rfl) ?_
              refine s_nil ?_
              refine ⟨⟨_, k + 1, (q + 1) + 1, _, _, _, Fits.eq ⟨rfl, rfl, rfl, rfl, rfl, rfl, rfl, trivial⟩, (B.pick [0, 2, 3, 1, 4, 5, 6, 7, 8, 9] rfl rfl), (by omega), (by omega), (by omega), (by omega), (by first | exact hzE | (simp only [put_length]; exact hzE)), (by first | exact hzX | (simp only [put_length]; exact hzX)), (by first | exact hzY | (simp only [put_length]; exact hzY))⟩, ?_⟩
              show (wd * hi - (k + 1)).toNat < (wd * hi - k).toNat
              omega
      · refine s_y (v := .bool false) rfl (y_eql rfl rfl (decide_eq_false c50)) ?_
        refine s_y (v := .bool false) rfl (y_move rfl) ?_
        refine s_skip rfl ?_
        refine s_skip rfl ?_
        refine s_skip rfl ?_
        refine s_y (v := .bool false) rfl (y_pick_f rfl rfl) ?_
        refine s_nil ?_
        refine W_if_f (by decide) rfl ?_
        refine W_skip ?_
        refine W_seq ?_
        have B0_177 := B
        refine W_draw (at1 bs) T79.mx (by kernel_rfl) (fun w175 e176 => ?_)
        have R178 := Ext.refl (at1 bs) w47
        replace R178 := R178.trans (Ext0.any e176)
        replace B := B.ext0 e176
        clear e176
        refine m_y (v := .pointer (some ⟨b37, 0, none⟩)) 0 rfl (by kernel_rfl) rfl rfl (fun w' e' => y_fld (o := 0) T79.fld_30_0_0 rfl) ?_
        refine m_y (v := .slice a30 (Int.toNat (wd * hi)) c31) 1 rfl (by kernel_rfl) rfl rfl (fun w' e' => y_load T79.one_24 rfl ((B0_177.bx 4 3 rfl rfl rfl rfl e' (fun _ h => h)).cell (j := 0) rfl)) ?_
        refine m_y (v := .int .i64 k) 2 rfl (by kernel_rfl) rfl rfl (fun w' e' => y_move rfl) ?_
        refine m_y (v := .pointer (some ⟨bs, 0, none⟩)) 3 rfl (by kernel_rfl) rfl rfl (fun w' e' => y_move rfl) ?_
        refine m_k 4 [5, 6, 7, 8, 9] rfl (by kernel_rfl) rfl rfl (fun w179 e180 => ?_)
        replace R178 := R178.trans (Ext0.any e180)
        replace B := B.ext0 e180
        clear e180
        refine k_call T79.fn_81 (c_s_pick (by omega) (by omega) (by omega) (by omega) (B.all.pick [3, 9] rfl) (B.pw.pick [3, 9] rfl rfl)) rfl ?_
        rintro _ w181 ⟨v183, rfl, hp184, hU182⟩
        replace R178 := R178.trans hU182.at1
        replace B : Bu w (hasW [.blk bs [.slice aq nq cq, .int .i64 p, .int .u64 (sdY Xq p)] 131]) w181 [.blk bs [.slice aq nq cq, .int .i64 (q + 1), .int .u64 (sdY Xq (q + 1))] 131, .ow kF a30 (Int.toNat (wd * hi)) c31 34 zE, .ow kF a32 (Int.toNat (wd * hi)) c33 34 zX, .ow kF a34 (Int.toNat (wd * hi)) c35 34 zY, .blk b37 [.slice a30 (Int.toNat (wd * hi)) c31, .slice a32 (Int.toNat (wd * hi)) c33, .slice a34 (Int.toNat (wd * hi)) c35] 30, .blk b1 [.slice none 0 0, .slice none 0 0, .slice none 0 0] 30, .rd kF asp nsp Xsp, .rd kF als nls Xls, .sl (some ⟨b, o, none⟩) [.int .i64 wd, .int .i64 hi, .bool wr, .slice asp nsp csp, .slice als nls cls], .rd kY aq nq Xq] := B.upd [3] rfl hU182
        clear hU182
        refine ⟨fun _ => R178, ?_⟩
        have hb185 := pk_b Xq (n := 17) q (by omega)
        rw [← hp184] at hb185
        refine m_y (v := .int .i64 (v183 - 8)) 5 rfl (by kernel_rfl) rfl rfl (fun w' e' => y_sub rfl rfl rfl (by omega)) ?_
        refine m_y (v := .float .f32 (FloatKind.nearest .f32 (v183 - 8))) 6 rfl (by kernel_rfl) rfl rfl (fun w' e' => y_if T79.und_2 T79.flt_34_f32 rfl) ?_
        refine m_n 7 [8, 9] rfl (by kernel_rfl) rfl rfl (fun w' e' => n_arith (by decide) rfl rfl) ?_
        rintro _ ⟨r187, rfl, hr188⟩
        have hc191 := fopC hr188 (can_nearest .f32 (v183 - 8)) (show can .f32 1082130432 = 1082130432 by kernel_rfl)
        refine m_y (v := .pointer (some (sat a30 ((k).toNat * 1)))) 8 rfl (by kernel_rfl) rfl rfl (fun w' e' => y_idx T79.sl_24_34_1 rfl rfl ((B.o 1 rfl).rd.addr (by omega)) (by omega) (by omega)) ?_
        refine m_kt 9 [] rfl (by kernel_rfl) rfl rfl (by kernel_rfl) (fun w194 e195 => ?_)
        replace R178 := R178.trans (Ext0.any e195)
        replace B := B.ext0 e195
        clear e195
        refine k_stO (k := kF) (i := k) (j := 0) (x' := fop .quo .f32 (FloatKind.nearest .f32 (v183 - 8)) 1082130432) (new := [.float .f32 r187]) T79.sz_34_1 rfl rfl rfl rfl rfl (by simp [Value.oneCell']) (by decide) (B.o 1 rfl) (by omega) (by omega) (by decide) (by rintro q ⟨_, rfl, _⟩; exact ⟨_, rfl, hc191⟩) (fun w192 hU193 => ?_)
        clear R178
        replace B : Bu w (hasW [.blk bs [.slice aq nq cq, .int .i64 p, .int .u64 (sdY Xq p)] 131]) w192 [.ow kF a30 (Int.toNat (wd * hi)) c31 34 (put zE k (fop .quo .f32 (FloatKind.nearest .f32 (v183 - 8)) 1082130432)), .blk bs [.slice aq nq cq, .int .i64 (q + 1), .int .u64 (sdY Xq (q + 1))] 131, .ow kF a32 (Int.toNat (wd * hi)) c33 34 zX, .ow kF a34 (Int.toNat (wd * hi)) c35 34 zY, .blk b37 [.slice a30 (Int.toNat (wd * hi)) c31, .slice a32 (Int.toNat (wd * hi)) c33, .slice a34 (Int.toNat (wd * hi)) c35] 30, .blk b1 [.slice none 0 0, .slice none 0 0, .slice none 0 0] 30, .rd kF asp nsp Xsp, .rd kF als nls Xls, .sl (some ⟨b, o, none⟩) [.int .i64 wd, .int .i64 hi, .bool wr, .slice asp nsp csp, .slice als nls cls], .rd kY aq nq Xq] := B.upd [1] rfl hU193
        clear hU193
        refine m_done (by kernel_rfl) (fun w196 e197 => ?_)
        replace B := B.ext0 e197
        clear e197
        clear B0_177
        refine W_seq ?_
        refine W_seq ?_
        refine W_region (by kernel_rfl) ?_
        refine s_y (v := .int .i64 v44) rfl (y_move rfl) ?_
        by_cases c198 : 1 < v44
        · refine s_y (v := .bool true) rfl (y_gtr rfl rfl (decide_eq_true c198)) ?_
          refine s_nil ?_
          refine W_if_t (by decide) rfl ?_
          refine W_seq ?_
          have B0_203 := B
          refine W_draw (at1 bs) T79.mx (by kernel_rfl) (fun w201 e202 => ?_)
          have R204 := Ext.refl (at1 bs) w196
          replace R204 := R204.trans (Ext0.any e202)
          replace B := B.ext0 e202
          clear e202
          refine m_y (v := .pointer (some ⟨b37, 1, none⟩)) 0 rfl (by kernel_rfl) rfl rfl (fun w' e' => y_fld (o := 0) T79.fld_30_1_1 rfl) ?_
          refine m_y (v := .slice a32 (Int.toNat (wd * hi)) c33) 1 rfl (by kernel_rfl) rfl rfl (fun w' e' => y_load T79.one_24 rfl ((B0_203.bx 4 1 rfl rfl rfl rfl e' (fun _ h => h)).cell (j := 1) rfl)) ?_
          refine m_y (v := .int .i64 k) 2 rfl (by kernel_rfl) rfl rfl (fun w' e' => y_move rfl) ?_
          refine m_y (v := .pointer (some ⟨bs, 0, none⟩)) 3 rfl (by kernel_rfl) rfl rfl (fun w' e' => y_move rfl) ?_
          refine m_k 4 [5, 6, 7, 8, 9] rfl (by kernel_rfl) rfl rfl (fun w205 e206 => ?_)
          replace R204 := R204.trans (Ext0.any e206)
          replace B := B.ext0 e206
          clear e206
          refine k_call T79.fn_81 (c_s_pick (by omega) (by omega) (by omega) (by omega) (B.all.pick [1, 9] rfl) (B.pw.pick [1, 9] rfl rfl)) rfl ?_
          rintro _ w207 ⟨v209, rfl, hp210, hU208⟩
          replace R204 := R204.trans hU208.at1
          replace B : Bu w (hasW [.blk bs [.slice aq nq cq, .int .i64 p, .int .u64 (sdY Xq p)] 131]) w207 [.blk bs [.slice aq nq cq, .int .i64 ((q + 1) + 1), .int .u64 (sdY Xq ((q + 1) + 1))] 131, .ow kF a30 (Int.toNat (wd * hi)) c31 34 (put zE k (fop .quo .f32 (FloatKind.nearest .f32 (v183 - 8)) 1082130432)), .ow kF a32 (Int.toNat (wd * hi)) c33 34 zX, .ow kF a34 (Int.toNat (wd * hi)) c35 34 zY, .blk b37 [.slice a30 (Int.toNat (wd * hi)) c31, .slice a32 (Int.toNat (wd * hi)) c33, .slice a34 (Int.toNat (wd * hi)) c35] 30, .blk b1 [.slice none 0 0, .slice none 0 0, .slice none 0 0] 30, .rd kF asp nsp Xsp, .rd kF als nls Xls, .sl (some ⟨b, o, none⟩) [.int .i64 wd, .int .i64 hi, .bool wr, .slice asp nsp csp, .slice als nls cls], .rd kY aq nq Xq] := B.upd [1] rfl hU208
          clear hU208
          refine ⟨fun _ => R204, ?_⟩
          have hb211 := pk_b Xq (n := 17) (q + 1) (by omega)
          rw [← hp210] at hb211
          refine m_y (v := .int .i64 (v209 - 8)) 5 rfl (by kernel_rfl) rfl rfl (fun w' e' => y_sub rfl rfl rfl (by omega)) ?_
          refine m_y (v := .float .f32 (FloatKind.nearest .f32 (v209 - 8))) 6 rfl (by kernel_rfl) rfl rfl (fun w' e' => y_if T79.und_2 T79.flt_34_f32 rfl) ?_
          refine m_n 7 [8, 9] rfl (by kernel_rfl) rfl rfl (fun w' e' => n_arith (by decide) rfl rfl) ?_
          rintro _ ⟨r213, rfl, hr214⟩
          have hc217 := fopC hr214 (can_nearest .f32 (v209 - 8)) (show can .f32 1082130432 = 1082130432 by kernel_rfl)
          refine m_y (v := .pointer (some (sat a32 ((k).toNat * 1)))) 8 rfl (by kernel_rfl) rfl rfl (fun w' e' => y_idx T79.sl_24_34_1 rfl rfl ((B.o 2 rfl).rd.addr (by omega)) (by omega) (by omega)) ?_
          refine m_kt 9 [] rfl (by kernel_rfl) rfl rfl (by kernel_rfl) (fun w220 e221 => ?_)
          replace R204 := R204.trans (Ext0.any e221)
          replace B := B.ext0 e221
          clear e221
          refine k_stO (k := kF) (i := k) (j := 0) (x' := fop .quo .f32 (FloatKind.nearest .f32 (v209 - 8)) 1082130432) (new := [.float .f32 r213]) T79.sz_34_1 rfl rfl rfl rfl rfl (by simp [Value.oneCell']) (by decide) (B.o 2 rfl) (by omega) (by omega) (by decide) (by rintro q ⟨_, rfl, _⟩; exact ⟨_, rfl, hc217⟩) (fun w218 hU219 => ?_)
          clear R204
          replace B : Bu w (hasW [.blk bs [.slice aq nq cq, .int .i64 p, .int .u64 (sdY Xq p)] 131]) w218 [.ow kF a32 (Int.toNat (wd * hi)) c33 34 (put zX k (fop .quo .f32 (FloatKind.nearest .f32 (v209 - 8)) 1082130432)), .blk bs [.slice aq nq cq, .int .i64 ((q + 1) + 1), .int .u64 (sdY Xq ((q + 1) + 1))] 131, .ow kF a30 (Int.toNat (wd * hi)) c31 34 (put zE k (fop .quo .f32 (FloatKind.nearest .f32 (v183 - 8)) 1082130432)), .ow kF a34 (Int.toNat (wd * hi)) c35 34 zY, .blk b37 [.slice a30 (Int.toNat (wd * hi)) c31, .slice a32 (Int.toNat (wd * hi)) c33, .slice a34 (Int.toNat (wd * hi)) c35] 30, .blk b1 [.slice none 0 0, .slice none 0 0, .slice none 0 0] 30, .rd kF asp nsp Xsp, .rd kF als nls Xls, .sl (some ⟨b, o, none⟩) [.int .i64 wd, .int .i64 hi, .bool wr, .slice asp nsp csp, .slice als nls cls], .rd kY aq nq Xq] := B.upd [2] rfl hU219
          clear hU219
          refine m_done (by kernel_rfl) (fun w222 e223 => ?_)
          replace B := B.ext0 e223
          clear e223
          clear B0_203
          have B0_228 := B
          refine W_draw (at1 bs) T79.mx (by kernel_rfl) (fun w226 e227 => ?_)
          have R229 := Ext.refl (at1 bs) w222
          replace R229 := R229.trans (Ext0.any e227)
          replace B := B.ext0 e227
          clear e227
          refine m_y (v := .pointer (some ⟨b37, 2, none⟩)) 0 rfl (by kernel_rfl) rfl rfl (fun w' e' => y_fld (o := 0) T79.fld_30_2_2 rfl) ?_
          refine m_y (v := .slice a34 (Int.toNat (wd * hi)) c35) 1 rfl (by kernel_rfl) rfl rfl (fun w' e' => y_load T79.one_24 rfl ((B0_228.bx 4 1 rfl rfl rfl rfl e' (fun _ h => h)).cell (j := 2) rfl)) ?_
          refine m_y (v := .int .i64 k) 2 rfl (by kernel_rfl) rfl rfl (fun w' e' => y_move rfl) ?_
          refine m_y (v := .pointer (some ⟨bs, 0, none⟩)) 3 rfl (by kernel_rfl) rfl rfl (fun w' e' => y_move rfl) ?_
          refine m_k 4 [5, 6] rfl (by kernel_rfl) rfl rfl (fun w230 e231 => ?_)
          replace R229 := R229.trans (Ext0.any e231)
          replace B := B.ext0 e231
          clear e231
          refine k_call T79.fn_122 (c_s_l01DrawPlain (by omega) (by omega) (B.all.pick [1, 9] rfl) (B.pw.pick [1, 9] rfl rfl)) rfl ?_
          rintro _ w232 ⟨c234, rfl, hU233⟩
          replace R229 := R229.trans hU233.at1
          replace B : Bu w (hasW [.blk bs [.slice aq nq cq, .int .i64 p, .int .u64 (sdY Xq p)] 131]) w232 [.blk bs [.slice aq nq cq, .int .i64 (((q + 1) + 1) + 1 + 1), .int .u64 (sdY Xq (((q + 1) + 1) + 1 + 1))] 131, .ow kF a32 (Int.toNat (wd * hi)) c33 34 (put zX k (fop .quo .f32 (FloatKind.nearest .f32 (v209 - 8)) 1082130432)), .ow kF a30 (Int.toNat (wd * hi)) c31 34 (put zE k (fop .quo .f32 (FloatKind.nearest .f32 (v183 - 8)) 1082130432)), .ow kF a34 (Int.toNat (wd * hi)) c35 34 zY, .blk b37 [.slice a30 (Int.toNat (wd * hi)) c31, .slice a32 (Int.toNat (wd * hi)) c33, .slice a34 (Int.toNat (wd * hi)) c35] 30, .blk b1 [.slice none 0 0, .slice none 0 0, .slice none 0 0] 30, .rd kF asp nsp Xsp, .rd kF als nls Xls, .sl (some ⟨b, o, none⟩) [.int .i64 wd, .int .i64 hi, .bool wr, .slice asp nsp csp, .slice als nls cls], .rd kY aq nq Xq] := B.upd [1] rfl hU233
          clear hU233
          refine ⟨fun _ => R229, ?_⟩
          refine m_y (v := .pointer (some (sat a34 ((k).toNat * 1)))) 5 rfl (by kernel_rfl) rfl rfl (fun w' e' => y_idx T79.sl_24_34_1 rfl rfl ((B.o 3 rfl).rd.addr (by omega)) (by omega) (by omega)) ?_
          refine m_kt 6 [] rfl (by kernel_rfl) rfl rfl (by kernel_rfl) (fun w237 e238 => ?_)
          replace R229 := R229.trans (Ext0.any e238)
          replace B := B.ext0 e238
          clear e238
          refine k_stO (k := kF) (i := k) (j := 0) (x' := can .f32 c234) (new := [.float .f32 c234]) T79.sz_34_1 rfl rfl rfl rfl rfl (by simp [Value.oneCell']) (by decide) (B.o 3 rfl) (by omega) (by omega) (by decide) (by rintro q ⟨_, rfl, _⟩; exact ⟨_, rfl, rfl⟩) (fun w235 hU236 => ?_)
          clear R229
          replace B : Bu w (hasW [.blk bs [.slice aq nq cq, .int .i64 p, .int .u64 (sdY Xq p)] 131]) w235 [.ow kF a34 (Int.toNat (wd * hi)) c35 34 (put zY k (can .f32 c234)), .blk bs [.slice aq nq cq, .int .i64 (((q + 1) + 1) + 1 + 1), .int .u64 (sdY Xq (((q + 1) + 1) + 1 + 1))] 131, .ow kF a32 (Int.toNat (wd * hi)) c33 34 (put zX k (fop .quo .f32 (FloatKind.nearest .f32 (v209 - 8)) 1082130432)), .ow kF a30 (Int.toNat (wd * hi)) c31 34 (put zE k (fop .quo .f32 (FloatKind.nearest .f32 (v183 - 8)) 1082130432)), .blk b37 [.slice a30 (Int.toNat (wd * hi)) c31, .slice a32 (Int.toNat (wd * hi)) c33, .slice a34 (Int.toNat (wd * hi)) c35] 30, .blk b1 [.slice none 0 0, .slice none 0 0, .slice none 0 0] 30, .rd kF asp nsp Xsp, .rd kF als nls Xls, .sl (some ⟨b, o, none⟩) [.int .i64 wd, .int .i64 hi, .bool wr, .slice asp nsp csp, .slice als nls cls], .rd kY aq nq Xq] := B.upd [3] rfl hU236
          clear hU236
          refine m_done (by kernel_rfl) (fun w239 e240 => ?_)
          replace B := B.ext0 e240
          clear e240
          clear B0_228
          refine W_seq ?_
          refine W_region (by kernel_rfl) ?_
          refine s_y (v := .int .i64 v44) rfl (y_move rfl) ?_
          by_cases c241 : v44 = 3
          · refine s_y (v := .bool true) rfl (y_eql rfl rfl (decide_eq_true c241)) ?_
            refine s_y (v := .bool true) rfl (y_move rfl) ?_
            refine s_y (v := .pointer (some ⟨bs, 0, none⟩)) rfl (y_move rfl) ?_
            refine s_k rfl (k_call T79.fn_99 (c_s_one (by omega) (by omega) (by omega) (by omega) (B.all.pick [1, 9] rfl) (B.pw.pick [1, 9] rfl rfl)) rfl ?_)
            rintro _ w242 ⟨vb244, rfl, hp245, hU243⟩
            replace B : Bu w (hasW [.blk bs [.slice aq nq cq, .int .i64 p, .int .u64 (sdY Xq p)] 131]) w242 [.blk bs [.slice aq nq cq, .int .i64 ((((q + 1) + 1) + 1 + 1) + 1), .int .u64 (sdY Xq ((((q + 1) + 1) + 1 + 1) + 1))] 131, .ow kF a34 (Int.toNat (wd * hi)) c35 34 (put zY k (can .f32 c234)), .ow kF a32 (Int.toNat (wd * hi)) c33 34 (put zX k (fop .quo .f32 (FloatKind.nearest .f32 (v209 - 8)) 1082130432)), .ow kF a30 (Int.toNat (wd * hi)) c31 34 (put zE k (fop .quo .f32 (FloatKind.nearest .f32 (v183 - 8)) 1082130432)), .blk b37 [.slice a30 (Int.toNat (wd * hi)) c31, .slice a32 (Int.toNat (wd * hi)) c33, .slice a34 (Int.toNat (wd * hi)) c35] 30, .blk b1 [.slice none 0 0, .slice none 0 0, .slice none 0 0] 30, .rd kF asp nsp Xsp, .rd kF als nls Xls, .sl (some ⟨b, o, none⟩) [.int .i64 wd, .int .i64 hi, .bool wr, .slice asp nsp csp, .slice als nls cls], .rd kY aq nq Xq] := B.upd [1] rfl hU243
            clear hU243
            refine s_y (v := .bool vb244) rfl (y_pick_t rfl rfl) ?_
            refine s_nil ?_
            cases vb244
            · refine W_if_f (by decide) rfl ?_
              refine W_skip ?_
              refine W_region (by kernel_rfl) ?_
              refine s_y (v := .int .i64 k) rfl (y_move rfl) ?_
              refine s_y (v := .int .i64 (k + 1)) rfl (y_add rfl rfl rfl (by omega)) ?_
              refine s_y (v := .int .i64 (k + 1)) rfl (y_assign rfl) ?_
              refine s_nil ?_
              refine ⟨⟨_, k + 1, (((q + 1) + 1) + 1 + 1) + 1, _, _, _, Fits.eq ⟨rfl, rfl, rfl, rfl, rfl, rfl, rfl, trivial⟩, (B.pick [3, 2, 1, 0, 4, 5, 6, 7, 8, 9] rfl rfl), (by omega), (by omega), (by omega), (by omega), (by first | exact hzE | (simp only [put_length]; exact hzE)), (by first | exact hzX | (simp only [put_length]; exact hzX)), (by first | exact hzY | (simp only [put_length]; exact hzY))⟩, ?_⟩
              show (wd * hi - (k + 1)).toNat < (wd * hi - k).toNat
              omega
            · refine W_if_t (by decide) rfl ?_
              have B0_250 := B
              refine W_draw (at1 bs) T79.mx (by kernel_rfl) (fun w248 e249 => ?_)
              have R251 := Ext.refl (at1 bs) w242
              replace R251 := R251.trans (Ext0.any e249)
              replace B := B.ext0 e249
              clear e249
              refine m_y (v := .pointer (some ⟨b37, 0, none⟩)) 0 rfl (by kernel_rfl) rfl rfl (fun w' e' => y_fld (o := 0) T79.fld_30_0_0 rfl) ?_
              refine m_y (v := .slice a30 (Int.toNat (wd * hi)) c31) 1 rfl (by kernel_rfl) rfl rfl (fun w' e' => y_load T79.one_24 rfl ((B0_250.bx 4 0 rfl rfl rfl rfl e' (fun _ h => h)).cell (j := 0) rfl)) ?_
              refine m_y (v := .int .i64 k) 2 rfl (by kernel_rfl) rfl rfl (fun w' e' => y_move rfl) ?_
              refine m_y (v := .pointer (some ⟨bs, 0, none⟩)) 3 rfl (by kernel_rfl) rfl rfl (fun w' e' => y_move rfl) ?_
              refine m_k 4 [5, 6] rfl (by kernel_rfl) rfl rfl (fun w252 e253 => ?_)
              replace R251 := R251.trans (Ext0.any e253)
              replace B := B.ext0 e253
              clear e253
              refine k_call T79.fn_123 (c_s_l01DrawFloat (by omega) (by omega) (B.all.pick [0, 9] rfl) (B.pw.pick [0, 9] rfl rfl)) rfl ?_
              rintro _ w254 ⟨c256, v257, rfl, hp258, hp259, hU255⟩
              replace R251 := R251.trans hU255.at1
              replace B : Bu w (hasW [.blk bs [.slice aq nq cq, .int .i64 p, .int .u64 (sdY Xq p)] 131]) w254 [.blk bs [.slice aq nq cq, .int .i64 v257, .int .u64 (sdY Xq v257)] 131, .ow kF a34 (Int.toNat (wd * hi)) c35 34 (put zY k (can .f32 c234)), .ow kF a32 (Int.toNat (wd * hi)) c33 34 (put zX k (fop .quo .f32 (FloatKind.nearest .f32 (v209 - 8)) 1082130432)), .ow kF a30 (Int.toNat (wd * hi)) c31 34 (put zE k (fop .quo .f32 (FloatKind.nearest .f32 (v183 - 8)) 1082130432)), .blk b37 [.slice a30 (Int.toNat (wd * hi)) c31, .slice a32 (Int.toNat (wd * hi)) c33, .slice a34 (Int.toNat (wd * hi)) c35] 30, .blk b1 [.slice none 0 0, .slice none 0 0, .slice none 0 0] 30, .rd kF asp nsp Xsp, .rd kF als nls Xls, .sl (some ⟨b, o, none⟩) [.int .i64 wd, .int .i64 hi, .bool wr, .slice asp nsp csp, .slice als nls cls], .rd kY aq nq Xq] := B.upd [0] rfl hU255
              clear hU255
              refine ⟨fun _ => R251, ?_⟩
              refine m_y (v := .pointer (some (sat a30 ((k).toNat * 1)))) 5 rfl (by kernel_rfl) rfl rfl (fun w' e' => y_idx T79.sl_24_34_1 rfl rfl ((B.o 3 rfl).rd.addr (by omega)) (by omega) (by omega)) ?_
              refine m_kt 6 [] rfl (by kernel_rfl) rfl rfl (by kernel_rfl) (fun w262 e263 => ?_)
              replace R251 := R251.trans (Ext0.any e263)
              replace B := B.ext0 e263
              clear e263
              refine k_stO (k := kF) (i := k) (j := 0) (x' := can .f32 c256) (new := [.float .f32 c256]) T79.sz_34_1 rfl rfl rfl rfl rfl (by simp [Value.oneCell']) (by decide) (B.o 3 rfl) (by omega) (by omega) (by decide) (by rintro q ⟨_, rfl, _⟩; exact ⟨_, rfl, rfl⟩) (fun w260 hU261 => ?_)
              clear R251
              replace B : Bu w (hasW [.blk bs [.slice aq nq cq, .int .i64 p, .int .u64 (sdY Xq p)] 131]) w260 [.ow kF a30 (Int.toNat (wd * hi)) c31 34 (put (put zE k (fop .quo .f32 (FloatKind.nearest .f32 (v183 - 8)) 1082130432)) k (can .f32 c256)), .blk bs [.slice aq nq cq, .int .i64 v257, .int .u64 (sdY Xq v257)] 131, .ow kF a34 (Int.toNat (wd * hi)) c35 34 (put zY k (can .f32 c234)), .ow kF a32 (Int.toNat (wd * hi)) c33 34 (put zX k (fop .quo .f32 (FloatKind.nearest .f32 (v209 - 8)) 1082130432)), .blk b37 [.slice a30 (Int.toNat (wd * hi)) c31, .slice a32 (Int.toNat (wd * hi)) c33, .slice a34 (Int.toNat (wd * hi)) c35] 30, .blk b1 [.slice none 0 0, .slice none 0 0, .slice none 0 0] 30, .rd kF asp nsp Xsp, .rd kF als nls Xls, .sl (some ⟨b, o, none⟩) [.int .i64 wd, .int .i64 hi, .bool wr, .slice asp nsp csp, .slice als nls cls], .rd kY aq nq Xq] := B.upd [3] rfl hU261
              clear hU261
              refine m_done (by kernel_rfl) (fun w264 e265 => ?_)
              replace B := B.ext0 e265
              clear e265
              clear B0_250
              refine W_region (by kernel_rfl) ?_
              refine s_y (v := .int .i64 k) rfl (y_move rfl) ?_
              refine s_y (v := .int .i64 (k + 1)) rfl (y_add rfl rfl rfl (by omega)) ?_
              refine s_y (v := .int .i64 (k + 1)) rfl (y_assign rfl) ?_
              refine s_nil ?_
              refine ⟨⟨_, k + 1, v257, _, _, _, Fits.eq ⟨rfl, rfl, rfl, rfl, rfl, rfl, rfl, trivial⟩, (B.pick [0, 3, 2, 1, 4, 5, 6, 7, 8, 9] rfl rfl), (by omega), (by omega), (by omega), (by omega), (by first | exact hzE | (simp only [put_length]; exact hzE)), (by first | exact hzX | (simp only [put_length]; exact hzX)), (by first | exact hzY | (simp only [put_length]; exact hzY))⟩, ?_⟩
              show (wd * hi - (k + 1)).toNat < (wd * hi - k).toNat
              omega
          · refine s_y (v := .bool false) rfl (y_eql rfl rfl (decide_eq_false c241)) ?_
            refine s_y (v := .bool false) rfl (y_move rfl) ?_
            refine s_skip rfl ?_
            refine s_skip rfl ?_
            refine s_y (v := .bool false) rfl (y_pick_f rfl rfl) ?_
            refine s_nil ?_
            refine W_if_f (by decide) rfl ?_
            refine W_skip ?_
            refine W_region (by kernel_rfl) ?_
            refine s_y (v := .int .i64 k) rfl (y_move rfl) ?_
            refine s_y (v := .int .i64 (k + 1)) rfl (y_add rfl rfl rfl (by omega)) ?_
            refine s_y (v := .int .i64 (k + 1)) rfl (y_assign rfl) ?_
            refine s_nil ?_
            refine ⟨⟨_, k + 1, ((q + 1) + 1) + 1 + 1, _, _, _, Fits.eq ⟨rfl, rfl, rfl, rfl, rfl, rfl, rfl, trivial⟩, (B.pick [3, 2, 0, 1, 4, 5, 6, 7, 8, 9] rfl rfl), (by omega), (by omega), (by omega), (by omega), (by first | exact hzE | (simp only [put_length]; exact hzE)), (by first | exact hzX | (simp only [put_length]; exact hzX)), (by first | exact hzY | (simp only [put_length]; exact hzY))⟩, ?_⟩
            show (wd * hi - (k + 1)).toNat < (wd * hi - k).toNat
            omega
        · refine s_y (v := .bool false) rfl (y_gtr rfl rfl (decide_eq_false c198)) ?_
          refine s_nil ?_
          refine W_if_f (by decide) rfl ?_
          refine W_skip ?_
          refine W_seq ?_
          refine W_region (by kernel_rfl) ?_
          refine s_y (v := .int .i64 v44) rfl (y_move rfl) ?_
          by_cases c266 : v44 = 3
          · refine s_y (v := .bool true) rfl (y_eql rfl rfl (decide_eq_true c266)) ?_
            refine s_y (v := .bool true) rfl (y_move rfl) ?_
            refine s_y (v := .pointer (some ⟨bs, 0, none⟩)) rfl (y_move rfl) ?_
            refine s_k rfl (k_call T79.fn_99 (c_s_one (by omega) (by omega) (by omega) (by omega) (B.all.pick [1, 9] rfl) (B.pw.pick [1, 9] rfl rfl)) rfl ?_)
            rintro _ w267 ⟨vb269, rfl, hp270, hU268⟩
            replace B : Bu w (hasW [.blk bs [.slice aq nq cq, .int .i64 p, .int .u64 (sdY Xq p)] 131]) w267 [.blk bs [.slice aq nq cq, .int .i64 ((q + 1) + 1), .int .u64 (sdY Xq ((q + 1) + 1))] 131, .ow kF a30 (Int.toNat (wd * hi)) c31 34 (put zE k (fop .quo .f32 (FloatKind.nearest .f32 (v183 - 8)) 1082130432)), .ow kF a32 (Int.toNat (wd * hi)) c33 34 zX, .ow kF a34 (Int.toNat (wd * hi)) c35 34 zY, .blk b37 [.slice a30 (Int.toNat (wd * hi)) c31, .slice a32 (Int.toNat (wd * hi)) c33, .slice a34 (Int.toNat (wd * hi)) c35] 30, .blk b1 [.slice none 0 0, .slice none 0 0, .slice none 0 0] 30, .rd kF asp nsp Xsp, .rd kF als nls Xls, .sl (some ⟨b, o, none⟩) [.int .i64 wd, .int .i64 hi, .bool wr, .slice asp nsp csp, .slice als nls cls], .rd kY aq nq Xq] := B.upd [1] rfl hU268
            clear hU268
            refine s_y (v := .bool vb269) rfl (y_pick_t rfl rfl) ?_
            refine s_nil ?_
            cases vb269
            · refine W_if_f (by decide) rfl ?_
              refine W_skip ?_
              refine W_region (by kernel_rfl) ?_
              refine s_y (v := .int .i64 k) rfl (y_move rfl) ?_
              refine s_y (v := .int .i64 (k + 1)) rfl (y_add rfl rfl rfl (by omega)) ?_
              refine s_y (v := .int .i64 (k + 1)) rfl (y_assign rfl) ?_
              refine s_nil ?_
              refine ⟨⟨_, k + 1, (q + 1) + 1, _, _, _, Fits.eq ⟨rfl, rfl, rfl, rfl, rfl, rfl, rfl, trivial⟩, (B.pick [1, 2, 3, 0, 4, 5, 6, 7, 8, 9] rfl rfl), (by omega), (by omega), (by omega), (by omega), (by first | exact hzE | (simp only [put_length]; exact hzE)), (by first | exact hzX | (simp only [put_length]; exact hzX)), (by first | exact hzY | (simp only [put_length]; exact hzY))⟩, ?_⟩
              show (wd * hi - (k + 1)).toNat < (wd * hi - k).toNat
              omega
            · refine W_if_t (by decide) rfl ?_
              have B0_275 := B
              refine W_draw (at1 bs) T79.mx (by kernel_rfl) (fun w273 e274 => ?_)
              have R276 := Ext.refl (at1 bs) w267
              replace R276 := R276.trans (Ext0.any e274)
              replace B := B.ext0 e274
              clear e274
              refine m_y (v := .pointer (some ⟨b37, 0, none⟩)) 0 rfl (by kernel_rfl) rfl rfl (fun w' e' => y_fld (o := 0) T79.fld_30_0_0 rfl) ?_
              refine m_y (v := .slice a30 (Int.toNat (wd * hi)) c31) 1 rfl (by kernel_rfl) rfl rfl (fun w' e' => y_load T79.one_24 rfl ((B0_275.bx 4 0 rfl rfl rfl rfl e' (fun _ h => h)).cell (j := 0) rfl)) ?_
              refine m_y (v := .int .i64 k) 2 rfl (by kernel_rfl) rfl rfl (fun w' e' => y_move rfl) ?_
              refine m_y (v := .pointer (some ⟨bs, 0, none⟩)) 3 rfl (by kernel_rfl) rfl rfl (fun w' e' => y_move rfl) ?_
              refine m_k 4 [5, 6] rfl (by kernel_rfl) rfl rfl (fun w277 e278 => ?_)
              replace R276 := R276.trans (Ext0.any e278)
              replace B := B.ext0 e278
              clear e278
              refine k_call T79.fn_123 (c_s_l01DrawFloat (by omega) (by omega) (B.all.pick [0, 9] rfl) (B.pw.pick [0, 9] rfl rfl)) rfl ?_
              rintro _ w279 ⟨c281, v282, rfl, hp283, hp284, hU280⟩
              replace R276 := R276.trans hU280.at1
              replace B : Bu w (hasW [.blk bs [.slice aq nq cq, .int .i64 p, .int .u64 (sdY Xq p)] 131]) w279 [.blk bs [.slice aq nq cq, .int .i64 v282, .int .u64 (sdY Xq v282)] 131, .ow kF a30 (Int.toNat (wd * hi)) c31 34 (put zE k (fop .quo .f32 (FloatKind.nearest .f32 (v183 - 8)) 1082130432)), .ow kF a32 (Int.toNat (wd * hi)) c33 34 zX, .ow kF a34 (Int.toNat (wd * hi)) c35 34 zY, .blk b37 [.slice a30 (Int.toNat (wd * hi)) c31, .slice a32 (Int.toNat (wd * hi)) c33, .slice a34 (Int.toNat (wd * hi)) c35] 30, .blk b1 [.slice none 0 0, .slice none 0 0, .slice none 0 0] 30, .rd kF asp nsp Xsp, .rd kF als nls Xls, .sl (some ⟨b, o, none⟩) [.int .i64 wd, .int .i64 hi, .bool wr, .slice asp nsp csp, .slice als nls cls], .rd kY aq nq Xq] := B.upd [0] rfl hU280
              clear hU280
              refine ⟨fun _ => R276, ?_⟩
              refine m_y (v := .pointer (some (sat a30 ((k).toNat * 1)))) 5 rfl (by kernel_rfl) rfl rfl (fun w' e' => y_idx T79.sl_24_34_1 rfl rfl ((B.o 1 rfl).rd.addr (by omega)) (by omega) (by omega)) ?_
              refine m_kt 6 [] rfl (by kernel_rfl) rfl rfl (by kernel_rfl) (fun w287 e288 => ?_)
              replace R276 := R276.trans (Ext0.any e288)
              replace B := B.ext0 e288
              clear e288
              refine k_stO (k := kF) (i := k) (j := 0) (x' := can .f32 c281) (new := [.float .f32 c281]) T79.sz_34_1 rfl rfl rfl rfl rfl (by simp [Value.oneCell']) (by decide) (B.o 1 rfl) (by omega) (by omega) (by decide) (by rintro q ⟨_, rfl, _⟩; exact ⟨_, rfl, rfl⟩) (fun w285 hU286 => ?_)
              clear R276
              replace B : Bu w (hasW [.blk bs [.slice aq nq cq, .int .i64 p, .int .u64 (sdY Xq p)] 131]) w285 [.ow kF a30 (Int.toNat (wd * hi)) c31 34 (put (put zE k (fop .quo .f32 (FloatKind.nearest .f32 (v183 - 8)) 1082130432)) k (can .f32 c281)), .blk bs [.slice aq nq cq, .int .i64 v282, .int .u64 (sdY Xq v282)] 131, .ow kF a32 (Int.toNat (wd * hi)) c33 34 zX, .ow kF a34 (Int.toNat (wd * hi)) c35 34 zY, .blk b37 [.slice a30 (Int.toNat (wd * hi)) c31, .slice a32 (Int.toNat (wd * hi)) c33, .slice a34 (Int.toNat (wd * hi)) c35] 30, .blk b1 [.slice none 0 0, .slice none 0 0, .slice none 0 0] 30, .rd kF asp nsp Xsp, .rd kF als nls Xls, .sl (some ⟨b, o, none⟩) [.int .i64 wd, .int .i64 hi, .bool wr, .slice asp nsp csp, .slice als nls cls], .rd kY aq nq Xq] := B.upd [1] rfl hU286
              clear hU286
              refine m_done (by kernel_rfl) (fun w289 e290 => ?_)
              replace B := B.ext0 e290
              clear e290
              clear B0_275
              refine W_region (by kernel_rfl) ?_
              refine s_y (v := .int .i64 k) rfl (y_move rfl) ?_
              refine s_y (v := .int .i64 (k + 1)) rfl (y_add rfl rfl rfl (by omega)) ?_
              refine s_y (v := .int .i64 (k + 1)) rfl (y_assign rfl) ?_
              refine s_nil ?_
              refine ⟨⟨_, k + 1, v282, _, _, _, Fits.eq ⟨rfl, rfl, rfl, rfl, rfl, rfl, rfl, trivial⟩, (B.pick [0, 2, 3, 1, 4, 5, 6, 7, 8, 9] rfl rfl), (by omega), (by omega), (by omega), (by omega), (by first | exact hzE | (simp only [put_length]; exact hzE)), (by first | exact hzX | (simp only [put_length]; exact hzX)), (by first | exact hzY | (simp only [put_length]; exact hzY))⟩, ?_⟩
              show (wd * hi - (k + 1)).toNat < (wd * hi - k).toNat
              omega
          · refine s_y (v := .bool false) rfl (y_eql rfl rfl (decide_eq_false c266)) ?_
            refine s_y (v := .bool false) rfl (y_move rfl) ?_
            refine s_skip rfl ?_
            refine s_skip rfl ?_
            refine s_y (v := .bool false) rfl (y_pick_f rfl rfl) ?_
            refine s_nil ?_
            refine W_if_f (by decide) rfl ?_
            refine W_skip ?_
            refine W_region (by kernel_rfl) ?_
            refine s_y (v := .int .i64 k) rfl (y_move rfl) ?_
            refine s_y (v := .int .i64 (k + 1)) rfl (y_add rfl rfl rfl (by omega)) ?_
            refine s_y (v := .int .i64 (k + 1)) rfl (y_assign rfl) ?_
            refine s_nil ?_
            refine ⟨⟨_, k + 1, q + 1, _, _, _, Fits.eq ⟨rfl, rfl, rfl, rfl, rfl, rfl, rfl, trivial⟩, (B.pick [0, 2, 3, 1, 4, 5, 6, 7, 8, 9] rfl rfl), (by omega), (by omega), (by omega), (by omega), (by first | exact hzE | (simp only [put_length]; exact hzE)), (by first | exact hzX | (simp only [put_length]; exact hzX)), (by first | exact hzY | (simp only [put_length]; exact hzY))⟩, ?_⟩
            show (wd * hi - (k + 1)).toNat < (wd * hi - k).toNat
            omega
    · refine s_y (v := .bool false) rfl (y_lss rfl rfl (decide_eq_false c49)) ?_
      refine s_nil ?_
      refine W_if_f (by decide) rfl ?_
      refine W_exit ?_
      refine W_seq ?_
      refine W_seq ?_
      refine W_region (by kernel_rfl) ?_
      refine s_y (v := .pointer (some ⟨b, o, none⟩)) rfl (y_move rfl) ?_
      refine s_k rfl (k_call T79.fn_124 (c_s_l02Is (B.r 6 rfl) (B.r 7 rfl) (B.s 8 rfl) (by omega) (by omega)) rfl ?_)
      rintro v293 w291 ⟨hv294, e292⟩
      replace B := B.ext0 e292
      clear e292
      have hk295 : validS wd hi Xsp Xls = true := hv
      have hb296 := validS_b hk295
      obtain rfl : v293 = .bool true := hv294.trans (congrArg Value.bool hk295)
      refine s_y (v := .bool false) rfl (y_not rfl rfl) ?_
      refine s_y (v := .bool false) rfl (y_move rfl) ?_
      refine s_y (v := .pointer (some ⟨b, o, none⟩)) rfl (y_move rfl) ?_
      refine s_y (v := .pointer (some ⟨b, o, none⟩)) rfl (y_nil rfl) ?_
      refine s_y (v := .pointer (some ⟨b, o + 2, none⟩)) rfl (y_fld (o := o + 0) T79.fld_26_2_2 rfl) ?_
      refine s_y (v := .bool wr) rfl (y_load T79.one_4 rfl ((B.s 8 rfl).cell (j := 2) rfl)) ?_
      refine s_y (v := .bool wr) rfl (y_pick_f rfl rfl) ?_
      refine s_nil ?_
      cases wr
      · refine W_if_f (by decide) rfl ?_
        refine W_skip ?_
        refine W_seq ?_
        refine W_seq ?_
        refine W_region (by kernel_rfl) ?_
        refine s_y (v := .int .i64 0) rfl (y_assign rfl) ?_
        refine s_nil ?_
        refine W_block ?_
        refine W_loop (fun ρ' w' => ∃ (ρ1 : Env) (ky : Int) (zE : List Nat) (zX : List Nat) (zY : List Nat), ρ' = updL ρ1 [(1, .pointer (some ⟨b, o, none⟩)), (4, .pointer (some ⟨b1, 0, none⟩)), (5, .int .i64 (wd * hi)), (6, .pointer (some ⟨b37, 0, none⟩)), (9, .int .i64 ky)] ∧ Bu w (hasW [.blk bs [.slice aq nq cq, .int .i64 p, .int .u64 (sdY Xq p)] 131]) w' [.ow kF a30 (Int.toNat (wd * hi)) c31 34 zE, .ow kF a32 (Int.toNat (wd * hi)) c33 34 zX, .ow kF a34 (Int.toNat (wd * hi)) c35 34 zY, .blk bs [.slice aq nq cq, .int .i64 q, .int .u64 (sdY Xq q)] 131, .blk b37 [.slice a30 (Int.toNat (wd * hi)) c31, .slice a32 (Int.toNat (wd * hi)) c33, .slice a34 (Int.toNat (wd * hi)) c35] 30, .blk b1 [.slice none 0 0, .slice none 0 0, .slice none 0 0] 30, .rd kF asp nsp Xsp, .rd kF als nls Xls, .sl (some ⟨b, o, none⟩) [.int .i64 wd, .int .i64 hi, .bool false, .slice asp nsp csp, .slice als nls cls], .rd kY aq nq Xq] ∧ (0 ≤ ky) ∧ (ky ≤ wd * hi) ∧ (zE.length = Int.toNat (wd * hi)) ∧ (zX.length = Int.toNat (wd * hi)) ∧ (zY.length = Int.toNat (wd * hi)) ∧ (∀ j, 0 ≤ j → j < ky → edgeB wd hi zE zX zY (j % wd) (j / wd) j = false)) (fun ρ' _ => (wd * hi - iv (ρ' 9)).toNat) ?_ ?_
        · exact ⟨_, 0, _, _, _, Fits.eq ⟨rfl, rfl, rfl, rfl, rfl, trivial⟩, B, (Int.le_refl _), (by omega), hzE, hzX, hzY, (by intro j h0 h1; omega)⟩
        · clear B; rintro _ w297 ⟨ρ298, ky, zE, zX, zY, rfl, B, h0ky, h1ky, hzE, hzX, hzY, hed⟩
          refine W_seq ?_
          refine W_seq ?_
          refine W_region (by kernel_rfl) ?_
          refine s_y (v := .int .i64 ky) rfl (y_move rfl) ?_
          refine s_y (v := .int .i64 (wd * hi)) rfl (y_move rfl) ?_
          by_cases c299 : ky < (wd * hi)
          · refine s_y (v := .bool true) rfl (y_lss rfl rfl (decide_eq_true c299)) ?_
            refine s_nil ?_
            refine W_if_t (by decide) rfl ?_
            refine W_skip ?_
            refine W_seq ?_
            refine W_block ?_
            refine W_seq ?_
            refine W_seq ?_
            have B0_304 := B
            refine W_draw (no) T79.mx (by kernel_rfl) (fun w302 e303 => ?_)
            have R305 := Ext.refl (no) w297
            replace R305 := R305.trans (Ext0.any e303)
            replace B := B.ext0 e303
            clear e303
            refine m_y (v := .pointer (some ⟨b, o, none⟩)) 0 rfl (by kernel_rfl) rfl rfl (fun w' e' => y_move rfl) ?_
            refine m_y (v := .int .i64 ky) 1 rfl (by kernel_rfl) rfl rfl (fun w' e' => y_move rfl) ?_
            refine m_y (v := .pointer (some ⟨b, o, none⟩)) 2 rfl (by kernel_rfl) rfl rfl (fun w' e' => y_move rfl) ?_
            refine m_y (v := .pointer (some ⟨b, o, none⟩)) 3 rfl (by kernel_rfl) rfl rfl (fun w' e' => y_nil rfl) ?_
            refine m_y (v := .pointer (some ⟨b, o, none⟩)) 4 rfl (by kernel_rfl) rfl rfl (fun w' e' => y_fld (o := o + 0) T79.fld_26_0_0 rfl) ?_
            refine m_y (v := .int .i64 wd) 5 rfl (by kernel_rfl) rfl rfl (fun w' e' => y_load T79.one_2 rfl (((B0_304.s 8 rfl).ext0 e').cell (j := 0) rfl)) ?_
            have hm306 := rem_b (x := ky) (m := wd) (by omega) (by omega)
            refine m_y (v := .int .i64 (ky % wd)) 6 rfl (by kernel_rfl) rfl rfl (fun w' e' => y_rem rfl rfl (by omega) (by omega) rfl) ?_
            refine m_y (v := .int .i64 ky) 7 rfl (by kernel_rfl) rfl rfl (fun w' e' => y_move rfl) ?_
            refine m_y (v := .pointer (some ⟨b, o, none⟩)) 8 rfl (by kernel_rfl) rfl rfl (fun w' e' => y_move rfl) ?_
            refine m_y (v := .pointer (some ⟨b, o, none⟩)) 9 rfl (by kernel_rfl) rfl rfl (fun w' e' => y_nil rfl) ?_
            refine m_y (v := .pointer (some ⟨b, o, none⟩)) 10 rfl (by kernel_rfl) rfl rfl (fun w' e' => y_fld (o := o + 0) T79.fld_26_0_0 rfl) ?_
            refine m_y (v := .int .i64 wd) 11 rfl (by kernel_rfl) rfl rfl (fun w' e' => y_load T79.one_2 rfl (((B0_304.s 8 rfl).ext0 e').cell (j := 0) rfl)) ?_
            have hm307 := quo_b (x := ky) (m := wd) (by omega) (by omega)
            refine m_y (v := .int .i64 (ky / wd)) 12 rfl (by kernel_rfl) rfl rfl (fun w' e' => y_quo rfl rfl (by omega) (by omega) (by omega) rfl) ?_
            refine m_kt 13 [] rfl (by kernel_rfl) rfl rfl (by kernel_rfl) (fun w308 e309 => ?_)
            replace R305 := R305.trans (Ext0.any e309)
            replace B := B.ext0 e309
            clear e309
            refine k_call T79.fn_93 (c_s_l02Border (B.s 8 rfl) (by omega) (by omega) (by omega) (by omega)) rfl ?_
            rintro v312 w310 ⟨hv313, e311⟩
            replace R305 := R305.trans (Ext0.any e311)
            replace B := B.ext0 e311
            clear e311
            by_cases c314 : bordB wd hi false (ky % wd) (ky / wd) = true
            · obtain rfl : v312 = .bool true := hv313.trans (congrArg Value.bool c314)
              refine m_done (by kernel_rfl) (fun w315 e316 => ?_)
              replace B := B.ext0 e316
              clear e316
              clear B0_304 R305
              refine W_if_t (by decide) rfl ?_
              refine W_region (by kernel_rfl) ?_
              refine s_y (v := .pointer (some ⟨b37, 0, none⟩)) rfl (y_fld (o := 0) T79.fld_30_0_0 rfl) ?_
              refine s_y (v := .slice a30 (Int.toNat (wd * hi)) c31) rfl (y_load T79.one_24 rfl ((B.b 4 rfl).cell (j := 0) rfl)) ?_
              refine s_y (v := .int .i64 ky) rfl (y_move rfl) ?_
              refine s_y (v := .pointer (some (sat a30 ((ky).toNat * 1)))) rfl (y_idx T79.sl_24_34_1 rfl rfl ((B.o 0 rfl).rd.addr (by omega)) (by omega) (by omega)) ?_
              refine s_k0 rfl (k_stO (k := kF) (i := ky) (j := 0) (x' := 0) (new := [.float .f32 0]) T79.sz_34_1 rfl rfl rfl rfl rfl (by simp [Value.oneCell']) (by decide) (B.o 0 rfl) (by omega) (by omega) (by decide) (by rintro q ⟨_, rfl, _⟩; exact ⟨_, rfl, (show can .f32 0 = 0 by kernel_rfl)⟩) (fun w317 hU318 => ?_))
              replace B : Bu w (hasW [.blk bs [.slice aq nq cq, .int .i64 p, .int .u64 (sdY Xq p)] 131]) w317 [.ow kF a30 (Int.toNat (wd * hi)) c31 34 (put zE ky 0), .ow kF a32 (Int.toNat (wd * hi)) c33 34 zX, .ow kF a34 (Int.toNat (wd * hi)) c35 34 zY, .blk bs [.slice aq nq cq, .int .i64 q, .int .u64 (sdY Xq q)] 131, .blk b37 [.slice a30 (Int.toNat (wd * hi)) c31, .slice a32 (Int.toNat (wd * hi)) c33, .slice a34 (Int.toNat (wd * hi)) c35] 30, .blk b1 [.slice none 0 0, .slice none 0 0, .slice none 0 0] 30, .rd kF asp nsp Xsp, .rd kF als nls Xls, .sl (some ⟨b, o, none⟩) [.int .i64 wd, .int .i64 hi, .bool false, .slice asp nsp csp, .slice als nls cls], .rd kY aq nq Xq] := B.upd [0] rfl hU318
              clear hU318
              refine s_nil ?_
              refine W_seq ?_
              refine W_seq ?_
              have B0_323 := B
              refine W_draw (no) T79.mx (by kernel_rfl) (fun w321 e322 => ?_)
              have R324 := Ext.refl (no) w317
              replace R324 := R324.trans (Ext0.any e322)
              replace B := B.ext0 e322
              clear e322
              refine m_y (v := .int .i64 ky) 0 rfl (by kernel_rfl) rfl rfl (fun w' e' => y_move rfl) ?_
              refine m_y (v := .pointer (some ⟨b, o, none⟩)) 1 rfl (by kernel_rfl) rfl rfl (fun w' e' => y_move rfl) ?_
              refine m_y (v := .pointer (some ⟨b, o, none⟩)) 2 rfl (by kernel_rfl) rfl rfl (fun w' e' => y_nil rfl) ?_
              refine m_y (v := .pointer (some ⟨b, o, none⟩)) 3 rfl (by kernel_rfl) rfl rfl (fun w' e' => y_fld (o := o + 0) T79.fld_26_0_0 rfl) ?_
              refine m_y (v := .int .i64 wd) 4 rfl (by kernel_rfl) rfl rfl (fun w' e' => y_load T79.one_2 rfl (((B0_323.s 8 rfl).ext0 e').cell (j := 0) rfl)) ?_
              have hm325 := quo_b (x := ky) (m := wd) (by omega) (by omega)
              refine m_y (v := .int .i64 (ky / wd)) 5 rfl (by kernel_rfl) rfl rfl (fun w' e' => y_quo rfl rfl (by omega) (by omega) (by omega) rfl) ?_
              refine m_y (v := .pointer (some ⟨b, o, none⟩)) 6 rfl (by kernel_rfl) rfl rfl (fun w' e' => y_move rfl) ?_
              refine m_y (v := .pointer (some ⟨b, o, none⟩)) 7 rfl (by kernel_rfl) rfl rfl (fun w' e' => y_nil rfl) ?_
              refine m_y (v := .pointer (some ⟨b, o + 1, none⟩)) 8 rfl (by kernel_rfl) rfl rfl (fun w' e' => y_fld (o := o + 0) T79.fld_26_1_1 rfl) ?_
              refine m_y (v := .int .i64 hi) 9 rfl (by kernel_rfl) rfl rfl (fun w' e' => y_load T79.one_2 rfl (((B0_323.s 8 rfl).ext0 e').cell (j := 1) rfl)) ?_
              refine m_y (v := .int .i64 (hi - 1)) 10 rfl (by kernel_rfl) rfl rfl (fun w' e' => y_sub rfl rfl rfl (by omega)) ?_
              by_cases c326 : (ky / wd) = (hi - 1)
              · refine m_y (v := .bool true) 11 rfl (by kernel_rfl) rfl rfl (fun w' e' => y_eql rfl rfl (decide_eq_true c326)) ?_
                refine m_done (by kernel_rfl) (fun w327 e328 => ?_)
                replace B := B.ext0 e328
                clear e328
                clear B0_323 R324
                refine W_if_t (by decide) rfl ?_
                refine W_region (by kernel_rfl) ?_
                refine s_y (v := .pointer (some ⟨b37, 1, none⟩)) rfl (y_fld (o := 0) T79.fld_30_1_1 rfl) ?_
                refine s_y (v := .slice a32 (Int.toNat (wd * hi)) c33) rfl (y_load T79.one_24 rfl ((B.b 4 rfl).cell (j := 1) rfl)) ?_
                refine s_y (v := .int .i64 ky) rfl (y_move rfl) ?_
                refine s_y (v := .pointer (some (sat a32 ((ky).toNat * 1)))) rfl (y_idx T79.sl_24_34_1 rfl rfl ((B.o 1 rfl).rd.addr (by omega)) (by omega) (by omega)) ?_
                refine s_k0 rfl (k_stO (k := kF) (i := ky) (j := 0) (x' := 0) (new := [.float .f32 0]) T79.sz_34_1 rfl rfl rfl rfl rfl (by simp [Value.oneCell']) (by decide) (B.o 1 rfl) (by omega) (by omega) (by decide) (by rintro q ⟨_, rfl, _⟩; exact ⟨_, rfl, (show can .f32 0 = 0 by kernel_rfl)⟩) (fun w329 hU330 => ?_))
                replace B : Bu w (hasW [.blk bs [.slice aq nq cq, .int .i64 p, .int .u64 (sdY Xq p)] 131]) w329 [.ow kF a32 (Int.toNat (wd * hi)) c33 34 (put zX ky 0), .ow kF a30 (Int.toNat (wd * hi)) c31 34 (put zE ky 0), .ow kF a34 (Int.toNat (wd * hi)) c35 34 zY, .blk bs [.slice aq nq cq, .int .i64 q, .int .u64 (sdY Xq q)] 131, .blk b37 [.slice a30 (Int.toNat (wd * hi)) c31, .slice a32 (Int.toNat (wd * hi)) c33, .slice a34 (Int.toNat (wd * hi)) c35] 30, .blk b1 [.slice none 0 0, .slice none 0 0, .slice none 0 0] 30, .rd kF asp nsp Xsp, .rd kF als nls Xls, .sl (some ⟨b, o, none⟩) [.int .i64 wd, .int .i64 hi, .bool false, .slice asp nsp csp, .slice als nls cls], .rd kY aq nq Xq] := B.upd [1] rfl hU330
                clear hU330
                refine s_nil ?_
                refine W_seq ?_
                have B0_335 := B
                refine W_draw (no) T79.mx (by kernel_rfl) (fun w333 e334 => ?_)
                have R336 := Ext.refl (no) w329
                replace R336 := R336.trans (Ext0.any e334)
                replace B := B.ext0 e334
                clear e334
                refine m_y (v := .int .i64 ky) 0 rfl (by kernel_rfl) rfl rfl (fun w' e' => y_move rfl) ?_
                refine m_y (v := .pointer (some ⟨b, o, none⟩)) 1 rfl (by kernel_rfl) rfl rfl (fun w' e' => y_move rfl) ?_
                refine m_y (v := .pointer (some ⟨b, o, none⟩)) 2 rfl (by kernel_rfl) rfl rfl (fun w' e' => y_nil rfl) ?_
                refine m_y (v := .pointer (some ⟨b, o, none⟩)) 3 rfl (by kernel_rfl) rfl rfl (fun w' e' => y_fld (o := o + 0) T79.fld_26_0_0 rfl) ?_
                refine m_y (v := .int .i64 wd) 4 rfl (by kernel_rfl) rfl rfl (fun w' e' => y_load T79.one_2 rfl (((B0_335.s 8 rfl).ext0 e').cell (j := 0) rfl)) ?_
                have hm337 := rem_b (x := ky) (m := wd) (by omega) (by omega)
                refine m_y (v := .int .i64 (ky % wd)) 5 rfl (by kernel_rfl) rfl rfl (fun w' e' => y_rem rfl rfl (by omega) (by omega) rfl) ?_
                refine m_y (v := .pointer (some ⟨b, o, none⟩)) 6 rfl (by kernel_rfl) rfl rfl (fun w' e' => y_move rfl) ?_
                refine m_y (v := .pointer (some ⟨b, o, none⟩)) 7 rfl (by kernel_rfl) rfl rfl (fun w' e' => y_nil rfl) ?_
                refine m_y (v := .pointer (some ⟨b, o, none⟩)) 8 rfl (by kernel_rfl) rfl rfl (fun w' e' => y_fld (o := o + 0) T79.fld_26_0_0 rfl) ?_
                refine m_y (v := .int .i64 wd) 9 rfl (by kernel_rfl) rfl rfl (fun w' e' => y_load T79.one_2 rfl (((B0_335.s 8 rfl).ext0 e').cell (j := 0) rfl)) ?_
                refine m_y (v := .int .i64 (wd - 1)) 10 rfl (by kernel_rfl) rfl rfl (fun w' e' => y_sub rfl rfl rfl (by omega)) ?_
                by_cases c338 : (ky % wd) = (wd - 1)
                · refine m_y (v := .bool true) 11 rfl (by kernel_rfl) rfl rfl (fun w' e' => y_eql rfl rfl (decide_eq_true c338)) ?_
                  refine m_done (by kernel_rfl) (fun w339 e340 => ?_)
                  replace B := B.ext0 e340
                  clear e340
                  clear B0_335 R336
                  refine W_if_t (by decide) rfl ?_
                  refine W_region (by kernel_rfl) ?_
                  refine s_y (v := .pointer (some ⟨b37, 2, none⟩)) rfl (y_fld (o := 0) T79.fld_30_2_2 rfl) ?_
                  refine s_y (v := .slice a34 (Int.toNat (wd * hi)) c35) rfl (y_load T79.one_24 rfl ((B.b 4 rfl).cell (j := 2) rfl)) ?_
                  refine s_y (v := .int .i64 ky) rfl (y_move rfl) ?_
                  refine s_y (v := .pointer (some (sat a34 ((ky).toNat * 1)))) rfl (y_idx T79.sl_24_34_1 rfl rfl ((B.o 2 rfl).rd.addr (by omega)) (by omega) (by omega)) ?_
                  refine s_k0 rfl (k_stO (k := kF) (i := ky) (j := 0) (x' := 0) (new := [.float .f32 0]) T79.sz_34_1 rfl rfl rfl rfl rfl (by simp [Value.oneCell']) (by decide) (B.o 2 rfl) (by omega) (by omega) (by decide) (by rintro q ⟨_, rfl, _⟩; exact ⟨_, rfl, (show can .f32 0 = 0 by kernel_rfl)⟩) (fun w341 hU342 => ?_))
                  replace B : Bu w (hasW [.blk bs [.slice aq nq cq, .int .i64 p, .int .u64 (sdY Xq p)] 131]) w341 [.ow kF a34 (Int.toNat (wd * hi)) c35 34 (put zY ky 0), .ow kF a32 (Int.toNat (wd * hi)) c33 34 (put zX ky 0), .ow kF a30 (Int.toNat (wd * hi)) c31 34 (put zE ky 0), .blk bs [.slice aq nq cq, .int .i64 q, .int .u64 (sdY Xq q)] 131, .blk b37 [.slice a30 (Int.toNat (wd * hi)) c31, .slice a32 (Int.toNat (wd * hi)) c33, .slice a34 (Int.toNat (wd * hi)) c35] 30, .blk b1 [.slice none 0 0, .slice none 0 0, .slice none 0 0] 30, .rd kF asp nsp Xsp, .rd kF als nls Xls, .sl (some ⟨b, o, none⟩) [.int .i64 wd, .int .i64 hi, .bool false, .slice asp nsp csp, .slice als nls cls], .rd kY aq nq Xq] := B.upd [2] rfl hU342
                  clear hU342
                  refine s_nil ?_
                  refine W_region (by kernel_rfl) ?_
                  refine s_y (v := .int .i64 ky) rfl (y_move rfl) ?_
                  refine s_y (v := .int .i64 (ky + 1)) rfl (y_add rfl rfl rfl (by omega)) ?_
                  refine s_y (v := .int .i64 (ky + 1)) rfl (y_assign rfl) ?_
                  refine s_nil ?_
                  refine ⟨⟨_, ky + 1, _, _, _, Fits.eq ⟨rfl, rfl, rfl, rfl, rfl, trivial⟩, (B.pick [2, 1, 0, 3, 4, 5, 6, 7, 8, 9] rfl rfl), (by omega), (by omega), (by first | exact hzE | (simp only [put_length]; exact hzE)), (by first | exact hzX | (simp only [put_length]; exact hzX)), (by first | exact hzY | (simp only [put_length]; exact hzY)), (edge_step (put_pre hzE h0ky (by omega)) (put_pre hzX h0ky (by omega)) (put_pre hzY h0ky (by omega)) hed (fun _ => put_self hzE h0ky (by omega)) (fun _ => put_self hzX h0ky (by omega)) (fun _ => put_self hzY h0ky (by omega)))⟩, ?_⟩
                  show (wd * hi - (ky + 1)).toNat < (wd * hi - ky).toNat
                  omega
                · refine m_y (v := .bool false) 11 rfl (by kernel_rfl) rfl rfl (fun w' e' => y_eql rfl rfl (decide_eq_false c338)) ?_
                  refine m_done (by kernel_rfl) (fun w343 e344 => ?_)
                  replace B := B.ext0 e344
                  clear e344
                  clear B0_335 R336
                  refine W_if_f (by decide) rfl ?_
                  refine W_skip ?_
                  refine W_region (by kernel_rfl) ?_
                  refine s_y (v := .int .i64 ky) rfl (y_move rfl) ?_
                  refine s_y (v := .int .i64 (ky + 1)) rfl (y_add rfl rfl rfl (by omega)) ?_
                  refine s_y (v := .int .i64 (ky + 1)) rfl (y_assign rfl) ?_
                  refine s_nil ?_
                  refine ⟨⟨_, ky + 1, _, _, _, Fits.eq ⟨rfl, rfl, rfl, rfl, rfl, trivial⟩, (B.pick [1, 0, 2, 3, 4, 5, 6, 7, 8, 9] rfl rfl), (by omega), (by omega), (by first | exact hzE | (simp only [put_length]; exact hzE)), (by first | exact hzX | (simp only [put_length]; exact hzX)), (by first | exact hzY | (simp only [put_length]; exact hzY)), (edge_step (put_pre hzE h0ky (by omega)) (put_pre hzX h0ky (by omega)) (fun _ _ _ => rfl) hed (fun _ => put_self hzE h0ky (by omega)) (fun _ => put_self hzX h0ky (by omega)) (fun hh => absurd hh c338))⟩, ?_⟩
                  show (wd * hi - (ky + 1)).toNat < (wd * hi - ky).toNat
                  omega
              · refine m_y (v := .bool false) 11 rfl (by kernel_rfl) rfl rfl (fun w' e' => y_eql rfl rfl (decide_eq_false c326)) ?_
                refine m_done (by kernel_rfl) (fun w345 e346 => ?_)
                replace B := B.ext0 e346
                clear e346
                clear B0_323 R324
                refine W_if_f (by decide) rfl ?_
                refine W_skip ?_
                refine W_seq ?_
                have B0_351 := B
                refine W_draw (no) T79.mx (by kernel_rfl) (fun w349 e350 => ?_)
                have R352 := Ext.refl (no) w345
                replace R352 := R352.trans (Ext0.any e350)
                replace B := B.ext0 e350
                clear e350
                refine m_y (v := .int .i64 ky) 0 rfl (by kernel_rfl) rfl rfl (fun w' e' => y_move rfl) ?_
                refine m_y (v := .pointer (some ⟨b, o, none⟩)) 1 rfl (by kernel_rfl) rfl rfl (fun w' e' => y_move rfl) ?_
                refine m_y (v := .pointer (some ⟨b, o, none⟩)) 2 rfl (by kernel_rfl) rfl rfl (fun w' e' => y_nil rfl) ?_
                refine m_y (v := .pointer (some ⟨b, o, none⟩)) 3 rfl (by kernel_rfl) rfl rfl (fun w' e' => y_fld (o := o + 0) T79.fld_26_0_0 rfl) ?_
                refine m_y (v := .int .i64 wd) 4 rfl (by kernel_rfl) rfl rfl (fun w' e' => y_load T79.one_2 rfl (((B0_351.s 8 rfl).ext0 e').cell (j := 0) rfl)) ?_
                have hm353 := rem_b (x := ky) (m := wd) (by omega) (by omega)
                refine m_y (v := .int .i64 (ky % wd)) 5 rfl (by kernel_rfl) rfl rfl (fun w' e' => y_rem rfl rfl (by omega) (by omega) rfl) ?_
                refine m_y (v := .pointer (some ⟨b, o, none⟩)) 6 rfl (by kernel_rfl) rfl rfl (fun w' e' => y_move rfl) ?_
                refine m_y (v := .pointer (some ⟨b, o, none⟩)) 7 rfl (by kernel_rfl) rfl rfl (fun w' e' => y_nil rfl) ?_
                refine m_y (v := .pointer (some ⟨b, o, none⟩)) 8 rfl (by kernel_rfl) rfl rfl (fun w' e' => y_fld (o := o + 0) T79.fld_26_0_0 rfl) ?_
                refine m_y (v := .int .i64 wd) 9 rfl (by kernel_rfl) rfl rfl (fun w' e' => y_load T79.one_2 rfl (((B0_351.s 8 rfl).ext0 e').cell (j := 0) rfl)) ?_
                refine m_y (v := .int .i64 (wd - 1)) 10 rfl (by kernel_rfl) rfl rfl (fun w' e' => y_sub rfl rfl rfl (by omega)) ?_
                by_cases c354 : (ky % wd) = (wd - 1)
                · refine m_y (v := .bool true) 11 rfl (by kernel_rfl) rfl rfl (fun w' e' => y_eql rfl rfl (decide_eq_true c354)) ?_
                  refine m_done (by kernel_rfl) (fun w355 e356 => ?_)
                  replace B := B.ext0 e356
                  clear e356
                  clear B0_351 R352
                  refine W_if_t (by decide) rfl ?_
                  refine W_region (by kernel_rfl) ?_
                  refine s_y (v := .pointer (some ⟨b37, 2, none⟩)) rfl (y_fld (o := 0) T79.fld_30_2_2 rfl) ?_
                  refine s_y (v := .slice a34 (Int.toNat (wd * hi)) c35) rfl (y_load T79.one_24 rfl ((B.b 4 rfl).cell (j := 2) rfl)) ?_
                  refine s_y (v := .int .i64 ky) rfl (y_move rfl) ?_
                  refine s_y (v := .pointer (some (sat a34 ((ky).toNat * 1)))) rfl (y_idx T79.sl_24_34_1 rfl rfl ((B.o 2 rfl).rd.addr (by omega)) (by omega) (by omega)) ?_
                  refine s_k0 rfl (k_stO (k := kF) (i := ky) (j := 0) (x' := 0) (new := [.float .f32 0]) T79.sz_34_1 rfl rfl rfl rfl rfl (by simp [Value.oneCell']) (by decide) (B.o 2 rfl) (by omega) (by omega) (by decide) (by rintro q ⟨_, rfl, _⟩; exact ⟨_, rfl, (show can .f32 0 = 0 by kernel_rfl)⟩) (fun w357 hU358 => ?_))
                  replace B : Bu w (hasW [.blk bs [.slice aq nq cq, .int .i64 p, .int .u64 (sdY Xq p)] 131]) w357 [.ow kF a34 (Int.toNat (wd * hi)) c35 34 (put zY ky 0), .ow kF a30 (Int.toNat (wd * hi)) c31 34 (put zE ky 0), .ow kF a32 (Int.toNat (wd * hi)) c33 34 zX, .blk bs [.slice aq nq cq, .int .i64 q, .int .u64 (sdY Xq q)] 131, .blk b37 [.slice a30 (Int.toNat (wd * hi)) c31, .slice a32 (Int.toNat (wd * hi)) c33, .slice a34 (Int.toNat (wd * hi)) c35] 30, .blk b1 [.slice none 0 0, .slice none 0 0, .slice none 0 0] 30, .rd kF asp nsp Xsp, .rd kF als nls Xls, .sl (some ⟨b, o, none⟩) [.int .i64 wd, .int .i64 hi, .bool false, .slice asp nsp csp, .slice als nls cls], .rd kY aq nq Xq] := B.upd [2] rfl hU358
                  clear hU358
                  refine s_nil ?_
                  refine W_region (by kernel_rfl) ?_
                  refine s_y (v := .int .i64 ky) rfl (y_move rfl) ?_
                  refine s_y (v := .int .i64 (ky + 1)) rfl (y_add rfl rfl rfl (by omega)) ?_
                  refine s_y (v := .int .i64 (ky + 1)) rfl (y_assign rfl) ?_
                  refine s_nil ?_
                  refine ⟨⟨_, ky + 1, _, _, _, Fits.eq ⟨rfl, rfl, rfl, rfl, rfl, trivial⟩, (B.pick [1, 2, 0, 3, 4, 5, 6, 7, 8, 9] rfl rfl), (by omega), (by omega), (by first | exact hzE | (simp only [put_length]; exact hzE)), (by first | exact hzX | (simp only [put_length]; exact hzX)), (by first | exact hzY | (simp only [put_length]; exact hzY)), (edge_step (put_pre hzE h0ky (by omega)) (fun _ _ _ => rfl) (put_pre hzY h0ky (by omega)) hed (fun _ => put_self hzE h0ky (by omega)) (fun hh => absurd hh c326) (fun _ => put_self hzY h0ky (by omega)))⟩, ?_⟩
                  show (wd * hi - (ky + 1)).toNat < (wd * hi - ky).toNat
                  omega
                · refine m_y (v := .bool false) 11 rfl (by kernel_rfl) rfl rfl (fun w' e' => y_eql rfl rfl (decide_eq_false c354)) ?_
                  refine m_done (by kernel_rfl) (fun w359 e360 => ?_)
                  replace B := B.ext0 e360
                  clear e360
                  clear B0_351 R352
                  refine W_if_f (by decide) rfl ?_
                  refine W_skip ?_
                  refine W_region (by kernel_rfl) ?_
                  refine s_y (v := .int .i64 ky) rfl (y_move rfl) ?_
                  refine s_y (v := .int .i64 (ky + 1)) rfl (y_add rfl rfl rfl (by omega)) ?_
                  refine s_y (v := .int .i64 (ky + 1)) rfl (y_assign rfl) ?_
                  refine s_nil ?_
                  refine ⟨⟨_, ky + 1, _, _, _, Fits.eq ⟨rfl, rfl, rfl, rfl, rfl, trivial⟩, B, (by omega), (by omega), (by first | exact hzE | (simp only [put_length]; exact hzE)), (by first | exact hzX | (simp only [put_length]; exact hzX)), (by first | exact hzY | (simp only [put_length]; exact hzY)), (edge_step (put_pre hzE h0ky (by omega)) (fun _ _ _ => rfl) (fun _ _ _ => rfl) hed (fun _ => put_self hzE h0ky (by omega)) (fun hh => absurd hh c326) (fun hh => absurd hh c354))⟩, ?_⟩
                  show (wd * hi - (ky + 1)).toNat < (wd * hi - ky).toNat
                  omega
            · obtain rfl : v312 = .bool false := hv313.trans (congrArg Value.bool (Bool.eq_false_iff.2 c314))
              refine m_done (by kernel_rfl) (fun w361 e362 => ?_)
              replace B := B.ext0 e362
              clear e362
              clear B0_304 R305
              refine W_if_f (by decide) rfl ?_
              refine W_skip ?_
              refine W_seq ?_
              refine W_seq ?_
              have B0_367 := B
              refine W_draw (no) T79.mx (by kernel_rfl) (fun w365 e366 => ?_)
              have R368 := Ext.refl (no) w361
              replace R368 := R368.trans (Ext0.any e366)
              replace B := B.ext0 e366
              clear e366
              refine m_y (v := .int .i64 ky) 0 rfl (by kernel_rfl) rfl rfl (fun w' e' => y_move rfl) ?_
              refine m_y (v := .pointer (some ⟨b, o, none⟩)) 1 rfl (by kernel_rfl) rfl rfl (fun w' e' => y_move rfl) ?_
              refine m_y (v := .pointer (some ⟨b, o, none⟩)) 2 rfl (by kernel_rfl) rfl rfl (fun w' e' => y_nil rfl) ?_
              refine m_y (v := .pointer (some ⟨b, o, none⟩)) 3 rfl (by kernel_rfl) rfl rfl (fun w' e' => y_fld (o := o + 0) T79.fld_26_0_0 rfl) ?_
              refine m_y (v := .int .i64 wd) 4 rfl (by kernel_rfl) rfl rfl (fun w' e' => y_load T79.one_2 rfl (((B0_367.s 8 rfl).ext0 e').cell (j := 0) rfl)) ?_
              have hm369 := quo_b (x := ky) (m := wd) (by omega) (by omega)
              refine m_y (v := .int .i64 (ky / wd)) 5 rfl (by kernel_rfl) rfl rfl (fun w' e' => y_quo rfl rfl (by omega) (by omega) (by omega) rfl) ?_
              refine m_y (v := .pointer (some ⟨b, o, none⟩)) 6 rfl (by kernel_rfl) rfl rfl (fun w' e' => y_move rfl) ?_
              refine m_y (v := .pointer (some ⟨b, o, none⟩)) 7 rfl (by kernel_rfl) rfl rfl (fun w' e' => y_nil rfl) ?_
              refine m_y (v := .pointer (some ⟨b, o + 1, none⟩)) 8 rfl (by kernel_rfl) rfl rfl (fun w' e' => y_fld (o := o + 0) T79.fld_26_1_1 rfl) ?_
              refine m_y (v := .int .i64 hi) 9 rfl (by kernel_rfl) rfl rfl (fun w' e' => y_load T79.one_2 rfl (((B0_367.s 8 rfl).ext0 e').cell (j := 1) rfl)) ?_
              refine m_y (v := .int .i64 (hi - 1)) 10 rfl (by kernel_rfl) rfl rfl (fun w' e' => y_sub rfl rfl rfl (by omega)) ?_
              by_cases c370 : (ky / wd) = (hi - 1)
              · refine m_y (v := .bool true) 11 rfl (by kernel_rfl) rfl rfl (fun w' e' => y_eql rfl rfl (decide_eq_true c370)) ?_
                refine m_done (by kernel_rfl) (fun w371 e372 => ?_)
                replace B := B.ext0 e372
                clear e372
                clear B0_367 R368
                refine W_if_t (by decide) rfl ?_
                refine W_region (by kernel_rfl) ?_
                refine s_y (v := .pointer (some ⟨b37, 1, none⟩)) rfl (y_fld (o := 0) T79.fld_30_1_1 rfl) ?_
                refine s_y (v := .slice a32 (Int.toNat (wd * hi)) c33) rfl (y_load T79.one_24 rfl ((B.b 4 rfl).cell (j := 1) rfl)) ?_
                refine s_y (v := .int .i64 ky) rfl (y_move rfl) ?_
                refine s_y (v := .pointer (some (sat a32 ((ky).toNat * 1)))) rfl (y_idx T79.sl_24_34_1 rfl rfl ((B.o 1 rfl).rd.addr (by omega)) (by omega) (by omega)) ?_
                refine s_k0 rfl (k_stO (k := kF) (i := ky) (j := 0) (x' := 0) (new := [.float .f32 0]) T79.sz_34_1 rfl rfl rfl rfl rfl (by simp [Value.oneCell']) (by decide) (B.o 1 rfl) (by omega) (by omega) (by decide) (by rintro q ⟨_, rfl, _⟩; exact ⟨_, rfl, (show can .f32 0 = 0 by kernel_rfl)⟩) (fun w373 hU374 => ?_))
                replace B : Bu w (hasW [.blk bs [.slice aq nq cq, .int .i64 p, .int .u64 (sdY Xq p)] 131]) w373 [.ow kF a32 (Int.toNat (wd * hi)) c33 34 (put zX ky 0), .ow kF a30 (Int.toNat (wd * hi)) c31 34 zE, .ow kF a34 (Int.toNat (wd * hi)) c35 34 zY, .blk bs [.slice aq nq cq, .int .i64 q, .int .u64 (sdY Xq q)] 131, .blk b37 [.slice a30 (Int.toNat (wd * hi)) c31, .slice a32 (Int.toNat (wd * hi)) c33, .slice a34 (Int.toNat (wd * hi)) c35] 30, .blk b1 [.slice none 0 0, .slice none 0 0, .slice none 0 0] 30, .rd kF asp nsp Xsp, .rd kF als nls Xls, .sl (some ⟨b, o, none⟩) [.int .i64 wd, .int .i64 hi, .bool false, .slice asp nsp csp, .slice als nls cls], .rd kY aq nq Xq] := B.upd [1] rfl hU374
                clear hU374
                refine s_nil ?_
                refine W_seq ?_
                have B0_379 := B
                refine W_draw (no) T79.mx (by kernel_rfl) (fun w377 e378 => ?_)
                have R380 := Ext.refl (no) w373
                replace R380 := R380.trans (Ext0.any e378)
                replace B := B.ext0 e378
                clear e378
                refine m_y (v := .int .i64 ky) 0 rfl (by kernel_rfl) rfl rfl (fun w' e' => y_move rfl) ?_
                refine m_y (v := .pointer (some ⟨b, o, none⟩)) 1 rfl (by kernel_rfl) rfl rfl (fun w' e' => y_move rfl) ?_
                refine m_y (v := .pointer (some ⟨b, o, none⟩)) 2 rfl (by kernel_rfl) rfl rfl (fun w' e' => y_nil rfl) ?_
                refine m_y (v := .pointer (some ⟨b, o, none⟩)) 3 rfl (by kernel_rfl) rfl rfl (fun w' e' => y_fld (o := o + 0) T79.fld_26_0_0 rfl) ?_
                refine m_y (v := .int .i64 wd) 4 rfl (by kernel_rfl) rfl rfl (fun w' e' => y_load T79.one_2 rfl (((B0_379.s 8 rfl).ext0 e').cell (j := 0) rfl)) ?_
                have hm381 := rem_b (x := ky) (m := wd) (by omega) (by omega)
                refine m_y (v := .int .i64 (ky % wd)) 5 rfl (by kernel_rfl) rfl rfl (fun w' e' => y_rem rfl rfl (by omega) (by omega) rfl) ?_
                refine m_y (v := .pointer (some ⟨b, o, none⟩)) 6 rfl (by kernel_rfl) rfl rfl (fun w' e' => y_move rfl) ?_
                refine m_y (v := .pointer (some ⟨b, o, none⟩)) 7 rfl (by kernel_rfl) rfl rfl (fun w' e' => y_nil rfl) ?_
                refine m_y (v := .pointer (some ⟨b, o, none⟩)) 8 rfl (by kernel_rfl) rfl rfl (fun w' e' => y_fld (o := o + 0) T79.fld_26_0_0 rfl) ?_
                refine m_y (v := .int .i64 wd) 9 rfl (by kernel_rfl) rfl rfl (fun w' e' => y_load T79.one_2 rfl (((B0_379.s 8 rfl).ext0 e').cell (j := 0) rfl)) ?_
                refine m_y (v := .int .i64 (wd - 1)) 10 rfl (by kernel_rfl) rfl rfl (fun w' e' => y_sub rfl rfl rfl (by omega)) ?_
                by_cases c382 : (ky % wd) = (wd - 1)
                · refine m_y (v := .bool true) 11 rfl (by kernel_rfl) rfl rfl (fun w' e' => y_eql rfl rfl (decide_eq_true c382)) ?_
                  refine m_done (by kernel_rfl) (fun w383 e384 => ?_)
                  replace B := B.ext0 e384
                  clear e384
                  clear B0_379 R380
                  refine W_if_t (by decide) rfl ?_
                  refine W_region (by kernel_rfl) ?_
                  refine s_y (v := .pointer (some ⟨b37, 2, none⟩)) rfl (y_fld (o := 0) T79.fld_30_2_2 rfl) ?_
                  refine s_y (v := .slice a34 (Int.toNat (wd * hi)) c35) rfl (y_load T79.one_24 rfl ((B.b 4 rfl).cell (j := 2) rfl)) ?_
                  refine s_y (v := .int .i64 ky) rfl (y_move rfl) ?_
                  refine s_y (v := .pointer (some (sat a34 ((ky).toNat * 1)))) rfl (y_idx T79.sl_24_34_1 rfl rfl ((B.o 2 rfl).rd.addr (by omega)) (by omega) (by omega)) ?_
                  refine s_k0 rfl (k_stO (k := kF) (i := ky) (j := 0) (x' := 0) (new := [.float .f32 0]) T79.sz_34_1 rfl rfl rfl rfl rfl (by simp [Value.oneCell']) (by decide) (B.o 2 rfl) (by omega) (by omega) (by decide) (by rintro q ⟨_, rfl, _⟩; exact ⟨_, rfl, (show can .f32 0 = 0 by kernel_rfl)⟩) (fun w385 hU386 => ?_))
                  replace B : Bu w (hasW [.blk bs [.slice aq nq cq, .int .i64 p, .int .u64 (sdY Xq p)] 131]) w385 [.ow kF a34 (Int.toNat (wd * hi)) c35 34 (put zY ky 0), .ow kF a32 (Int.toNat (wd * hi)) c33 34 (put zX ky 0), .ow kF a30 (Int.toNat (wd * hi)) c31 34 zE, .blk bs [.slice aq nq cq, .int .i64 q, .int .u64 (sdY Xq q)] 131, .blk b37 [.slice a30 (Int.toNat (wd * hi)) c31, .slice a32 (Int.toNat (wd * hi)) c33, .slice a34 (Int.toNat (wd * hi)) c35] 30, .blk b1 [.slice none 0 0, .slice none 0 0, .slice none 0 0] 30, .rd kF asp nsp Xsp, .rd kF als nls Xls, .sl (some ⟨b, o, none⟩) [.int .i64 wd, .int .i64 hi, .bool false, .slice asp nsp csp, .slice als nls cls], .rd kY aq nq Xq] := B.upd [2] rfl hU386
                  clear hU386
                  refine s_nil ?_
                  refine W_region (by kernel_rfl) ?_
                  refine s_y (v := .int .i64 ky) rfl (y_move rfl) ?_
                  refine s_y (v := .int .i64 (ky + 1)) rfl (y_add rfl rfl rfl (by omega)) ?_
                  refine s_y (v := .int .i64 (ky + 1)) rfl (y_assign rfl) ?_
                  refine s_nil ?_
                  refine ⟨⟨_, ky + 1, _, _, _, Fits.eq ⟨rfl, rfl, rfl, rfl, rfl, trivial⟩, (B.pick [2, 1, 0, 3, 4, 5, 6, 7, 8, 9] rfl rfl), (by omega), (by omega), (by first | exact hzE | (simp only [put_length]; exact hzE)), (by first | exact hzX | (simp only [put_length]; exact hzX)), (by first | exact hzY | (simp only [put_length]; exact hzY)), (edge_step (fun _ _ _ => rfl) (put_pre hzX h0ky (by omega)) (put_pre hzY h0ky (by omega)) hed (fun hh => absurd hh c314) (fun _ => put_self hzX h0ky (by omega)) (fun _ => put_self hzY h0ky (by omega)))⟩, ?_⟩
                  show (wd * hi - (ky + 1)).toNat < (wd * hi - ky).toNat
                  omega
                · refine m_y (v := .bool false) 11 rfl (by kernel_rfl) rfl rfl (fun w' e' => y_eql rfl rfl (decide_eq_false c382)) ?_
                  refine m_done (by kernel_rfl) (fun w387 e388 => ?_)
                  replace B := B.ext0 e388
                  clear e388
                  clear B0_379 R380
                  refine W_if_f (by decide) rfl ?_
                  refine W_skip ?_
                  refine W_region (by kernel_rfl) ?_
                  refine s_y (v := .int .i64 ky) rfl (y_move rfl) ?_
                  refine s_y (v := .int .i64 (ky + 1)) rfl (y_add rfl rfl rfl (by omega)) ?_
                  refine s_y (v := .int .i64 (ky + 1)) rfl (y_assign rfl) ?_
                  refine s_nil ?_
                  refine ⟨⟨_, ky + 1, _, _, _, Fits.eq ⟨rfl, rfl, rfl, rfl, rfl, trivial⟩, (B.pick [1, 0, 2, 3, 4, 5, 6, 7, 8, 9] rfl rfl), (by omega), (by omega), (by first | exact hzE | (simp only [put_length]; exact hzE)), (by first | exact hzX | (simp only [put_length]; exact hzX)), (by first | exact hzY | (simp only [put_length]; exact hzY)), (edge_step (fun _ _ _ => rfl) (put_pre hzX h0ky (by omega)) (fun _ _ _ => rfl) hed (fun hh => absurd hh c314) (fun _ => put_self hzX h0ky (by omega)) (fun hh => absurd hh c382))⟩, ?_⟩
                  show (wd * hi - (ky + 1)).toNat < (wd * hi - ky).toNat
                  omega
              · refine m_y (v := .bool false) 11 rfl (by kernel_rfl) rfl rfl (fun w' e' => y_eql rfl rfl (decide_eq_false c370)) ?_
                refine m_done (by kernel_rfl) (fun w389 e390 => ?_)
                replace B := B.ext0 e390
                clear e390
                clear B0_367 R368
                refine W_if_f (by decide) rfl ?_
                refine W_skip ?_
                refine W_seq ?_
                have B0_395 := B
                refine W_draw (no) T79.mx (by kernel_rfl) (fun w393 e394 => ?_)
                have R396 := Ext.refl (no) w389
                replace R396 := R396.trans (Ext0.any e394)
                replace B := B.ext0 e394
                clear e394
                refine m_y (v := .int .i64 ky) 0 rfl (by kernel_rfl) rfl rfl (fun w' e' => y_move rfl) ?_
                refine m_y (v := .pointer (some ⟨b, o, none⟩)) 1 rfl (by kernel_rfl) rfl rfl (fun w' e' => y_move rfl) ?_
                refine m_y (v := .pointer (some ⟨b, o, none⟩)) 2 rfl (by kernel_rfl) rfl rfl (fun w' e' => y_nil rfl) ?_
                refine m_y (v := .pointer (some ⟨b, o, none⟩)) 3 rfl (by kernel_rfl) rfl rfl (fun w' e' => y_fld (o := o + 0) T79.fld_26_0_0 rfl) ?_
                refine m_y (v := .int .i64 wd) 4 rfl (by kernel_rfl) rfl rfl (fun w' e' => y_load T79.one_2 rfl (((B0_395.s 8 rfl).ext0 e').cell (j := 0) rfl)) ?_
                have hm397 := rem_b (x := ky) (m := wd) (by omega) (by omega)
                refine m_y (v := .int .i64 (ky % wd)) 5 rfl (by kernel_rfl) rfl rfl (fun w' e' => y_rem rfl rfl (by omega) (by omega) rfl) ?_
                refine m_y (v := .pointer (some ⟨b, o, none⟩)) 6 rfl (by kernel_rfl) rfl rfl (fun w' e' => y_move rfl) ?_
                refine m_y (v := .pointer (some ⟨b, o, none⟩)) 7 rfl (by kernel_rfl) rfl rfl (fun w' e' => y_nil rfl) ?_
                refine m_y (v := .pointer (some ⟨b, o, none⟩)) 8 rfl (by kernel_rfl) rfl rfl (fun w' e' => y_fld (o := o + 0) T79.fld_26_0_0 rfl) ?_
                refine m_y (v := .int .i64 wd) 9 rfl (by kernel_rfl) rfl rfl (fun w' e' => y_load T79.one_2 rfl (((B0_395.s 8 rfl).ext0 e').cell (j := 0) rfl)) ?_
                refine m_y (v := .int .i64 (wd - 1)) 10 rfl (by kernel_rfl) rfl rfl (fun w' e' => y_sub rfl rfl rfl (by omega)) ?_
                by_cases c398 : (ky % wd) = (wd - 1)
                · refine m_y (v := .bool true) 11 rfl (by kernel_rfl) rfl rfl (fun w' e' => y_eql rfl rfl (decide_eq_true c398)) ?_
                  refine m_done (by kernel_rfl) (fun w399 e400 => ?_)
                  replace B := B.ext0 e400
                  clear e400
                  clear B0_395 R396
                  refine W_if_t (by decide) rfl ?_
                  refine W_region (by kernel_rfl) ?_
                  refine s_y (v := .pointer (some ⟨b37, 2, none⟩)) rfl (y_fld (o := 0) T79.fld_30_2_2 rfl) ?_
                  refine s_y (v := .slice a34 (Int.toNat (wd * hi)) c35) rfl (y_load T79.one_24 rfl ((B.b 4 rfl).cell (j := 2) rfl)) ?_
                  refine s_y (v := .int .i64 ky) rfl (y_move rfl) ?_
                  refine s_y (v := .pointer (some (sat a34 ((ky).toNat * 1)))) rfl (y_idx T79.sl_24_34_1 rfl rfl ((B.o 2 rfl).rd.addr (by omega)) (by omega) (by omega)) ?_
                  refine s_k0 rfl (k_stO (k := kF) (i := ky) (j := 0) (x' := 0) (new := [.float .f32 0]) T79.sz_34_1 rfl rfl rfl rfl rfl (by simp [Value.oneCell']) (by decide) (B.o 2 rfl) (by omega) (by omega) (by decide) (by rintro q ⟨_, rfl, _⟩; exact ⟨_, rfl, (show can .f32 0 = 0 by kernel_rfl)⟩) (fun w401 hU402 => ?_))
                  replace B : Bu w (hasW [.blk bs [.slice aq nq cq, .int .i64 p, .int .u64 (sdY Xq p)] 131]) w401 [.ow kF a34 (Int.toNat (wd * hi)) c35 34 (put zY ky 0), .ow kF a30 (Int.toNat (wd * hi)) c31 34 zE, .ow kF a32 (Int.toNat (wd * hi)) c33 34 zX, .blk bs [.slice aq nq cq, .int .i64 q, .int .u64 (sdY Xq q)] 131, .blk b37 [.slice a30 (Int.toNat (wd * hi)) c31, .slice a32 (Int.toNat (wd * hi)) c33, .slice a34 (Int.toNat (wd * hi)) c35] 30, .blk b1 [.slice none 0 0, .slice none 0 0, .slice none 0 0] 30, .rd kF asp nsp Xsp, .rd kF als nls Xls, .sl (some ⟨b, o, none⟩) [.int .i64 wd, .int .i64 hi, .bool false, .slice asp nsp csp, .slice als nls cls], .rd kY aq nq Xq] := B.upd [2] rfl hU402
                  clear hU402
                  refine s_nil ?_
                  refine W_region (by kernel_rfl) ?_
                  refine s_y (v := .int .i64 ky) rfl (y_move rfl) ?_
                  refine s_y (v := .int .i64 (ky + 1)) rfl (y_add rfl rfl rfl (by omega)) ?_
                  refine s_y (v := .int .i64 (ky + 1)) rfl (y_assign rfl) ?_
                  refine s_nil ?_
                  refine ⟨⟨_, ky + 1, _, _, _, Fits.eq ⟨rfl, rfl, rfl, rfl, rfl, trivial⟩, (B.pick [1, 2, 0, 3, 4, 5, 6, 7, 8, 9] rfl rfl), (by omega), (by omega), (by first | exact hzE | (simp only [put_length]; exact hzE)), (by first | exact hzX | (simp only [put_length]; exact hzX)), (by first | exact hzY | (simp only [put_length]; exact hzY)), (edge_step (fun _ _ _ => rfl) (fun _ _ _ => rfl) (put_pre hzY h0ky (by omega)) hed (fun hh => absurd hh c314) (fun hh => absurd hh c370) (fun _ => put_self hzY h0ky (by omega)))⟩, ?_⟩
                  show (wd * hi - (ky + 1)).toNat < (wd * hi - ky).toNat
                  omega
                · refine m_y (v := .bool false) 11 rfl (by kernel_rfl) rfl rfl (fun w' e' => y_eql rfl rfl (decide_eq_false c398)) ?_
                  refine m_done (by kernel_rfl) (fun w403 e404 => ?_)
                  replace B := B.ext0 e404
                  clear e404
                  clear B0_395 R396
                  refine W_if_f (by decide) rfl ?_
                  refine W_skip ?_
                  refine W_region (by kernel_rfl) ?_
                  refine s_y (v := .int .i64 ky) rfl (y_move rfl) ?_
                  refine s_y (v := .int .i64 (ky + 1)) rfl (y_add rfl rfl rfl (by omega)) ?_
                  refine s_y (v := .int .i64 (ky + 1)) rfl (y_assign rfl) ?_
                  refine s_nil ?_
                  refine ⟨⟨_, ky + 1, _, _, _, Fits.eq ⟨rfl, rfl, rfl, rfl, rfl, trivial⟩, B, (by omega), (by omega), (by first | exact hzE | (simp only [put_length]; exact hzE)), (by first | exact hzX | (simp only [put_length]; exact hzX)), (by first | exact hzY | (simp only [put_length]; exact hzY)), (edge_step (fun _ _ _ => rfl) (fun _ _ _ => rfl) (fun _ _ _ => rfl) hed (fun hh => absurd hh c314) (fun hh => absurd hh c370) (fun hh => absurd hh c398))⟩, ?_⟩
                  show (wd * hi - (ky + 1)).toNat < (wd * hi - ky).toNat
                  omega
          · refine s_y (v := .bool false) rfl (y_lss rfl rfl (decide_eq_false c299)) ?_
            refine s_nil ?_
            refine W_if_f (by decide) rfl ?_
            refine W_exit ?_
            refine W_seq ?_
            refine W_region (by kernel_rfl) ?_
            refine s_y (v := .agg #[.slice a30 (Int.toNat (wd * hi)) c31, .slice a32 (Int.toNat (wd * hi)) c33, .slice a34 (Int.toNat (wd * hi)) c35]) rfl (y_loadn (b := b37) (o := 0) (vs := [.slice a30 (Int.toNat (wd * hi)) c31, .slice a32 (Int.toNat (wd * hi)) c33, .slice a34 (Int.toNat (wd * hi)) c35]) T79.agg_30_3 rfl rfl ((B.b 4 rfl).cells (o := 0) rfl)) ?_
            refine s_k0 rfl (k_stB (v := .agg #[.slice a30 (Int.toNat (wd * hi)) c31, .slice a32 (Int.toNat (wd * hi)) c33, .slice a34 (Int.toNat (wd * hi)) c35]) (n := 3) (cs' := [.slice a30 (Int.toNat (wd * hi)) c31, .slice a32 (Int.toNat (wd * hi)) c33, .slice a34 (Int.toNat (wd * hi)) c35]) T79.sz_30_3 rfl rfl rfl (B.b 5 rfl) (by simp [Value.cells, Value.oneCell']) (Nat.le_of_ble_eq_true rfl) rfl (fun w405 hU406 => ?_))
            replace B : Bu w (hasW [.blk bs [.slice aq nq cq, .int .i64 p, .int .u64 (sdY Xq p)] 131]) w405 [.blk b1 [.slice a30 (Int.toNat (wd * hi)) c31, .slice a32 (Int.toNat (wd * hi)) c33, .slice a34 (Int.toNat (wd * hi)) c35] 30, .ow kF a30 (Int.toNat (wd * hi)) c31 34 zE, .ow kF a32 (Int.toNat (wd * hi)) c33 34 zX, .ow kF a34 (Int.toNat (wd * hi)) c35 34 zY, .blk bs [.slice aq nq cq, .int .i64 q, .int .u64 (sdY Xq q)] 131, .blk b37 [.slice a30 (Int.toNat (wd * hi)) c31, .slice a32 (Int.toNat (wd * hi)) c33, .slice a34 (Int.toNat (wd * hi)) c35] 30, .rd kF asp nsp Xsp, .rd kF als nls Xls, .sl (some ⟨b, o, none⟩) [.int .i64 wd, .int .i64 hi, .bool false, .slice asp nsp csp, .slice als nls cls], .rd kY aq nq Xq] := B.upd [5] rfl hU406
            clear hU406
            refine s_nil ?_
            refine W_ret ?_
            refine ret1 (v := .agg #[.slice a30 (Int.toNat (wd * hi)) c31, .slice a32 (Int.toNat (wd * hi)) c33, .slice a34 (Int.toNat (wd * hi)) c35]) rfl rfl ⟨_, [.slice a30 (Int.toNat (wd * hi)) c31, .slice a32 (Int.toNat (wd * hi)) c33, .slice a34 (Int.toNat (wd * hi)) c35], _, rfl, (B.b 0 rfl), T79.agg_30_3, rfl⟩ ⟨_, rfl, ?_⟩
            exact ⟨_, _, _, _, _, _, _, _, _, _, _, _, _, rfl, (field_yes hv (by omega) (by omega) (by omega) (fun j h0 h1 => hed j h0 (by omega))), B.wrote [4, 1, 2, 3] rfl rfl rfl⟩
      · refine W_if_t (by decide) rfl ?_
        refine W_seq ?_
        refine W_region (by kernel_rfl) ?_
        refine s_y (v := .agg #[.slice a30 (Int.toNat (wd * hi)) c31, .slice a32 (Int.toNat (wd * hi)) c33, .slice a34 (Int.toNat (wd * hi)) c35]) rfl (y_loadn (b := b37) (o := 0) (vs := [.slice a30 (Int.toNat (wd * hi)) c31, .slice a32 (Int.toNat (wd * hi)) c33, .slice a34 (Int.toNat (wd * hi)) c35]) T79.agg_30_3 rfl rfl ((B.b 4 rfl).cells (o := 0) rfl)) ?_
        refine s_k0 rfl (k_stB (v := .agg #[.slice a30 (Int.toNat (wd * hi)) c31, .slice a32 (Int.toNat (wd * hi)) c33, .slice a34 (Int.toNat (wd * hi)) c35]) (n := 3) (cs' := [.slice a30 (Int.toNat (wd * hi)) c31, .slice a32 (Int.toNat (wd * hi)) c33, .slice a34 (Int.toNat (wd * hi)) c35]) T79.sz_30_3 rfl rfl rfl (B.b 5 rfl) (by simp [Value.cells, Value.oneCell']) (Nat.le_of_ble_eq_true rfl) rfl (fun w407 hU408 => ?_))
        replace B : Bu w (hasW [.blk bs [.slice aq nq cq, .int .i64 p, .int .u64 (sdY Xq p)] 131]) w407 [.blk b1 [.slice a30 (Int.toNat (wd * hi)) c31, .slice a32 (Int.toNat (wd * hi)) c33, .slice a34 (Int.toNat (wd * hi)) c35] 30, .ow kF a30 (Int.toNat (wd * hi)) c31 34 zE, .ow kF a32 (Int.toNat (wd * hi)) c33 34 zX, .ow kF a34 (Int.toNat (wd * hi)) c35 34 zY, .blk bs [.slice aq nq cq, .int .i64 q, .int .u64 (sdY Xq q)] 131, .blk b37 [.slice a30 (Int.toNat (wd * hi)) c31, .slice a32 (Int.toNat (wd * hi)) c33, .slice a34 (Int.toNat (wd * hi)) c35] 30, .rd kF asp nsp Xsp, .rd kF als nls Xls, .sl (some ⟨b, o, none⟩) [.int .i64 wd, .int .i64 hi, .bool true, .slice asp nsp csp, .slice als nls cls], .rd kY aq nq Xq] := B.upd [5] rfl hU408
        clear hU408
        refine s_nil ?_
        refine W_ret ?_
        refine ret1 (v := .agg #[.slice a30 (Int.toNat (wd * hi)) c31, .slice a32 (Int.toNat (wd * hi)) c33, .slice a34 (Int.toNat (wd * hi)) c35]) rfl rfl ⟨_, [.slice a30 (Int.toNat (wd * hi)) c31, .slice a32 (Int.toNat (wd * hi)) c33, .slice a34 (Int.toNat (wd * hi)) c35], _, rfl, (B.b 0 rfl), T79.agg_30_3, rfl⟩ ⟨_, rfl, ?_⟩
        exact ⟨_, _, _, _, _, _, _, _, _, _, _, _, _, rfl, (field_wrap hv (by omega) (by omega) (by omega)), B.wrote [4, 1, 2, 3] rfl rfl rfl⟩
namespace T42
theorem mx : Try.prog.follows .mixedOrders = true := by kernel_rfl
theorem agg_30_3 : aggB Try.prog 30 3 = true := by kernel_rfl
theorem fn_63 : fnB Try.prog 63 = true := by kernel_rfl
theorem fn_79 : fnB Try.prog 79 = true := by kernel_rfl
theorem sz_30_3 : szB Try.prog 30 3 = true := by kernel_rfl
theorem zero_30 : zeroB Try.prog 30 (.agg #[.slice none 0 0, .slice none 0 0, .slice none 0 0]) := by unfold zeroB; kernel_rfl
end T42
set_option maxRecDepth 100000 in
set_option maxHeartbeats 4000000 in
theorem c_s_R8Wild {aq : Option Addr} {nq : Nat} {cq : Nat} {Xq : List Nat} {wd : Int} {hi : Int} {wr : Bool} {asp : Option Addr} {nsp : Nat} {csp : Nat} {Xsp : List Nat} {als : Option Addr} {nls : Nat} {cls : Nat} {Xls : List Nat} {w : World} (qq : Rd w kY aq nq Xq) (qsp : Rd w kF asp nsp Xsp) (qls : Rd w kF als nls Xls) (h1 : 3 ≤ wd) (h2 : wd ≤ 16) (h3 : 3 ≤ hi) (h4 : hi ≤ 16) (hv : validS wd hi Xsp Xls = true) (hbsp : nsp ≤ 9223372036854775806) (hbls : nls ≤ 9223372036854775806) :
    Calls Try.prog 42 #[.slice aq nq cq, .agg #[.int .i64 wd, .int .i64 hi, .bool wr, .slice asp nsp csp, .slice als nls cls]] w (Rt fun v w' => ∃ (a1 : Option Addr) (n1 : Nat) (c1 : Nat) (X1 : List Nat) (a2 : Option Addr) (n2 : Nat) (c2 : Nat) (X2 : List Nat) (a3 : Option Addr) (n3 : Nat) (c3 : Nat) (X3 : List Nat), v = .agg #[.slice a1 n1 c1, .slice a2 n2 c2, .slice a3 n3 c3] ∧ fieldB wd hi wr Xsp Xls X1 X2 X3 = true ∧ New w w' [.ow kF a1 n1 c1 34 X1, .ow kF a2 n2 c2 34 X2, .ow kF a3 n3 c3 34 X3]) := by
  have hlq := qq.len
  have hlsp := qsp.len
  have hlls := qls.len
  have B : Bu w no w [.rd kY aq nq Xq, .rd kF asp nsp Xsp, .rd kF als nls Xls] := Bu.ro (All.cons qq (All.cons qsp (All.cons qls All.nil))) rfl
  refine calls_W (n := 10) Try.func42 rfl rfl (Nat.le_of_ble_eq_true rfl) ?_
  refine W_seq ?_
  refine W_region (by kernel_rfl) ?_
  refine s_k rfl (k_boxN (v := .agg #[.int .i64 wd, .int .i64 hi, .bool wr, .slice asp nsp csp, .slice als nls cls]) (cs := [.int .i64 wd, .int .i64 hi, .bool wr, .slice asp nsp csp, .slice als nls cls]) rfl rfl (fun b1 w2 hN3 => ?_))
  replace B := B.new1 hN3
  clear hN3
  refine s_k rfl (k_allocN (z := (.agg #[.slice none 0 0, .slice none 0 0, .slice none 0 0])) (cs := [.slice none 0 0, .slice none 0 0, .slice none 0 0]) T42.zero_30 rfl (fun b4 w5 hN6 => ?_))
  replace B := B.new1 hN6
  clear hN6
  refine s_nil ?_
  refine W_seq ?_
  refine W_region (by kernel_rfl) ?_
  refine s_y (v := .slice aq nq cq) rfl (y_move rfl) ?_
  refine s_k rfl (k_call T42.fn_63 (c_s_l00From (B.r 2 rfl)) rfl ?_)
  rintro _ w7 ⟨b9, rfl, hN8⟩
  replace B := B.new1 hN8
  clear hN8
  refine s_y (v := .pointer (some ⟨b9, 0, none⟩)) rfl (y_assign rfl) ?_
  refine s_nil ?_
  refine W_seq ?_
  refine W_region (by kernel_rfl) ?_
  refine s_y (v := .pointer (some ⟨b9, 0, none⟩)) rfl (y_move rfl) ?_
  have Bt := B.weakB 2 rfl
  refine s_k rfl (k_call T42.fn_79 (c_s_l02DrawField (by omega) (by omega) (by omega) (by omega) (by omega) (by omega) (by omega) (by omega) (by omega) (Bt.all.pick [0, 4, 5, 2, 3] rfl) (Bt.pw.pick [0, 4, 5, 2, 3] rfl rfl)) rfl ?_)
  rintro _ w10 ⟨v12, a13, c14, c15, v16, a17, c18, c19, v20, a21, c22, c23, v24, rfl, hp25, hU11⟩
  replace B : Bu w no w10 [.blk b9 [.slice aq nq cq, .int .i64 v12, .int .u64 (sdY Xq v12)] 131, .ow kF a13 c14 c15 34 v16, .ow kF a17 c18 c19 34 v20, .ow kF a21 c22 c23 34 v24, .blk b4 [.slice none 0 0, .slice none 0 0, .slice none 0 0] 30, .blk b1 [.int .i64 wd, .int .i64 hi, .bool wr, .slice asp nsp csp, .slice als nls cls] 26, .rd kY aq nq Xq, .rd kF asp nsp Xsp, .rd kF als nls Xls] := B.upd [0] rfl hU11
  clear hU11
  have hb26 := fieldB_b hp25
  refine s_k0 rfl (k_stB (v := .agg #[.slice a13 c14 c15, .slice a17 c18 c19, .slice a21 c22 c23]) (n := 3) (cs' := [.slice a13 c14 c15, .slice a17 c18 c19, .slice a21 c22 c23]) T42.sz_30_3 rfl rfl rfl (B.b 4 rfl) (by simp [Value.cells, Value.oneCell']) (Nat.le_of_ble_eq_true rfl) rfl (fun w27 hU28 => ?_))
  replace B : Bu w no w27 [.blk b4 [.slice a13 c14 c15, .slice a17 c18 c19, .slice a21 c22 c23] 30, .blk b9 [.slice aq nq cq, .int .i64 v12, .int .u64 (sdY Xq v12)] 131, .ow kF a13 c14 c15 34 v16, .ow kF a17 c18 c19 34 v20, .ow kF a21 c22 c23 34 v24, .blk b1 [.int .i64 wd, .int .i64 hi, .bool wr, .slice asp nsp csp, .slice als nls cls] 26, .rd kY aq nq Xq, .rd kF asp nsp Xsp, .rd kF als nls Xls] := B.upd [4] rfl hU28
  clear hU28
  refine s_nil ?_
  refine W_ret ?_
  refine ret1 (v := .agg #[.slice a13 c14 c15, .slice a17 c18 c19, .slice a21 c22 c23]) rfl rfl ⟨_, [.slice a13 c14 c15, .slice a17 c18 c19, .slice a21 c22 c23], _, rfl, (B.b 0 rfl), T42.agg_30_3, rfl⟩ ⟨_, rfl, ?_⟩
  exact ⟨_, _, _, _, _, _, _, _, _, _, _, _, rfl, hp25, B.give [2, 3, 4] rfl rfl rfl⟩
namespace T103
theorem mx : Try.prog.follows .mixedOrders = true := by kernel_rfl
theorem fld_26_0_0 : fldB Try.prog 26 0 0 = true := by kernel_rfl
theorem one_2 : oneB Try.prog 2 = true := by kernel_rfl
end T103
set_option maxRecDepth 100000 in
set_option maxHeartbeats 4000000 in
theorem c_i_MirrorSheet_1 {x : Int} {y : Int} {b : Nat} {wd : Int} {hi : Int} {wr : Bool} {asp : Option Addr} {nsp : Nat} {csp : Nat} {als : Option Addr} {nls : Nat} {cls : Nat} {w : World} (Pb : Sl w (some ⟨b, 0, none⟩) [.int .i64 wd, .int .i64 hi, .bool wr, .slice asp nsp csp, .slice als nls cls]) (h1 : 3 ≤ wd) (h2 : wd ≤ 16) (h5 : 0 ≤ x) (h6 : x ≤ 1000000) :
    Calls Try.prog 103 #[.int .i64 x, .int .i64 y, .pointer (some ⟨b, 0, none⟩)] w (Rt fun v w' => v = .tuple #[.int .i64 (wd - 1 - x), .int .i64 y] ∧ Ext0 w w') := by
  have B : Bu w no w [.sl (some ⟨b, 0, none⟩) [.int .i64 wd, .int .i64 hi, .bool wr, .slice asp nsp csp, .slice als nls cls]] := Bu.ro (All.cons Pb All.nil) rfl
  refine calls_W (n := 13) Try.func103 rfl rfl (Nat.le_of_ble_eq_true rfl) ?_
  refine W_seq ?_
  refine W_region (by kernel_rfl) ?_
  refine s_y (v := .int .i64 0) rfl (y_assign rfl) ?_
  refine s_y (v := .int .i64 0) rfl (y_assign rfl) ?_
  refine s_nil ?_
  refine W_seq ?_
  refine W_region (by kernel_rfl) ?_
  refine s_y (v := .pointer (some ⟨b, 0, none⟩)) rfl (y_fld (o := 0 + 0) T103.fld_26_0_0 rfl) ?_
  refine s_y (v := .int .i64 wd) rfl (y_load T103.one_2 rfl ((B.s 0 rfl).cell (j := 0) rfl)) ?_
  refine s_y (v := .int .i64 (wd - 1)) rfl (y_sub rfl rfl rfl (by omega)) ?_
  refine s_y (v := .int .i64 x) rfl (y_move rfl) ?_
  refine s_y (v := .int .i64 ((wd - 1) - x)) rfl (y_sub rfl rfl rfl (by omega)) ?_
  refine s_y (v := .int .i64 y) rfl (y_move rfl) ?_
  refine s_y (v := .int .i64 ((wd - 1) - x)) rfl (y_assign rfl) ?_
  refine s_y (v := .int .i64 y) rfl (y_assign rfl) ?_
  refine s_nil ?_
  refine W_ret ?_
  refine ret2 (v1 := .int .i64 ((wd - 1) - x)) (v2 := .int .i64 y) rfl rfl rfl rfl rfl ⟨_, rfl, ?_⟩
  exact ⟨rfl, B.ext⟩
namespace T104
theorem mx : Try.prog.follows .mixedOrders = true := by kernel_rfl
theorem agg_26_5 : aggB Try.prog 26 5 = true := by kernel_rfl
theorem fn_69 : fnB Try.prog 69 = true := by kernel_rfl
theorem one_34 : oneB Try.prog 34 = true := by kernel_rfl
theorem sl_24_34_1 : slB Try.prog 24 34 1 = true := by kernel_rfl
theorem slt_24 : SlT Try.prog 24 34 1 4 (.float .f32 0) := ⟨by kernel_rfl, by kernel_rfl, rfl, by decide⟩
end T104
set_option maxRecDepth 100000 in
set_option maxHeartbeats 4000000 in
theorem c_i_moved {wd : Int} {hi : Int} {wr : Bool} {asp : Option Addr} {nsp : Nat} {csp : Nat} {als : Option Addr} {nls : Nat} {cls : Nat} {a : Option Addr} {n : Nat} {c : Nat} {X : List Nat} {W : Int} {H : Int} {W H : Int} {f : Nat} {us xs : List Value} {FU FV : Int → Int → Int} {w : World} (q : Rd w kF a n X) (hfB : fnB Try.prog f = true) (hF : ∀ x y {w1}, Ext0 w w1 → 0 ≤ x → x < W → 0 ≤ y → y < H → Calls Try.prog f (us ++ ([.int .i64 x, .int .i64 y] : List Value) ++ xs).toArray w1 (Rt fun v w2 => v = .tuple #[.int .i64 (FU x y), .int .i64 (FV x y)] ∧ Ext0 w1 w2)) (hR : ∀ x y, 0 ≤ x → x < W → 0 ≤ y → y < H → (-wd ≤ FU x y ∧ FU x y ≤ 1000000) ∧ (-hi ≤ FV x y ∧ FV x y ≤ 1000000)) (h1 : 3 ≤ wd) (h2 : wd ≤ 16) (h3 : 3 ≤ hi) (h4 : hi ≤ 16) (h5 : 0 < W) (h6 : W ≤ 16) (h7 : 0 < H) (h8 : H ≤ 16) (hn : (n : Int) = wd * hi) :
    Calls Try.prog 104 #[.agg #[.int .i64 wd, .int .i64 hi, .bool wr, .slice asp nsp csp, .slice als nls cls], .slice a n c, .int .i64 W, .int .i64 H, .func (.func f) us.toArray xs.toArray] w (Rt fun v w' => ∃ (a1 : Option Addr) (c1 : Nat), v = .slice a1 ((W * H).toNat) c1 ∧ New w w' [.ow kF a1 ((W * H).toNat) c1 34 (movL W H (fun xp yp => atI wd hi (FU xp yp) (FV xp yp)) X)]) := by
  have hl := q.len
  have B : Bu w no w [.rd kF a n X] := Bu.ro (All.cons q All.nil) rfl
  have hwh := mul16 (And.intro (And.intro h1 h2) (And.intro h3 h4))
  refine calls_W (n := 45) Try.func104 rfl rfl (Nat.le_of_ble_eq_true rfl) ?_
  refine W_seq ?_
  refine W_region (by kernel_rfl) ?_
  refine s_k rfl (k_boxN (v := .agg #[.int .i64 wd, .int .i64 hi, .bool wr, .slice asp nsp csp, .slice als nls cls]) (cs := [.int .i64 wd, .int .i64 hi, .bool wr, .slice asp nsp csp, .slice als nls cls]) rfl rfl (fun b1 w2 hN3 => ?_))
  replace B := B.new1 hN3
  clear hN3
  refine s_y (v := .slice none 0 0) rfl (y_assign rfl) ?_
  refine s_nil ?_
  refine W_seq ?_
  refine W_region (by kernel_rfl) ?_
  refine s_k rfl (k_bsliceO (k := kF) (n := 0) (cells := #[]) (X := []) T104.slt_24 (by decide) (by first | rfl | kernel_rfl) (rfl : Reps kF [] []) rfl (fun b4 w5 hN6 => ?_))
  replace B := B.new1 hN6
  clear hN6
  refine s_y (v := .slice (some ⟨b4, 0, none⟩) 0 0) rfl (y_assign rfl) ?_
  refine s_nil ?_
  refine W_seq ?_
  refine W_seq ?_
  refine W_region (by kernel_rfl) ?_
  refine s_y (v := .int .i64 H) rfl (y_move rfl) ?_
  refine s_y (v := .int .i64 0) rfl (y_move rfl) ?_
  refine s_nil ?_
  refine W_block ?_
  refine W_loop (fun ρ' w' => ∃ (ρ1 : Env) (py : Int) (a0 : Option Addr) (cc0 : Nat) (nn0 : Nat), ρ' = updL ρ1 [(1, .slice a n c), (2, .int .i64 W), (4, .func (.func f) us.toArray xs.toArray), (5, .pointer (some ⟨b1, 0, none⟩)), (10, .slice none 0 0), (11, .slice a0 nn0 cc0), (17, .int .i64 H), (18, .int .i64 py)] ∧ Bu w no w' [.ow kF a0 nn0 cc0 34 (tab (W * py) (fun i => el X ((fun xp yp => atI wd hi (FU xp yp) (FV xp yp)) (i % W) (i / W)))), .blk b1 [.int .i64 wd, .int .i64 hi, .bool wr, .slice asp nsp csp, .slice als nls cls] 26, .rd kF a n X] ∧ (0 ≤ py) ∧ (py ≤ H)) (fun ρ' _ => (H - iv (ρ' 18)).toNat) ?_ ?_
  · replace B : Bu w no w5 [.ow kF (some ⟨b4, 0, none⟩) 0 0 34 (tab (W * 0) (fun i => el X ((fun xp yp => atI wd hi (FU xp yp) (FV xp yp)) (i % W) (i / W)))), .blk b1 [.int .i64 wd, .int .i64 hi, .bool wr, .slice asp nsp csp, .slice als nls cls] 26, .rd kF a n X] := B.castX 0 rfl rfl (by rw [Int.mul_zero]; rfl)
    exact ⟨_, 0, (some ⟨b4, 0, none⟩), 0, 0, Fits.eq ⟨rfl, rfl, rfl, rfl, rfl, rfl, rfl, rfl, trivial⟩, B, (Int.le_refl _), (by omega)⟩
  · clear B; rintro _ w7 ⟨ρ8, py, a0, cc0, nn0, rfl, B, h0py, h1py⟩
    have hnn0 := (B.o 0 rfl).len
    rw [tab_length] at hnn0
    have hwy := mulb (a := W) (b := py) (by omega) (by omega) (by omega) (by omega)
    refine W_seq ?_
    refine W_region (by kernel_rfl) ?_
    by_cases c9 : py < H
    · refine s_y (v := .bool true) rfl (y_lss rfl rfl (decide_eq_true c9)) ?_
      refine s_nil ?_
      refine W_seq ?_
      refine W_if_t (by decide) rfl ?_
      refine W_skip ?_
      refine W_seq ?_
      refine W_block ?_
      refine W_seq ?_
      refine W_region (by kernel_rfl) ?_
      refine s_y (v := .int .i64 py) rfl (y_move rfl) ?_
      refine s_y (v := .int .i64 py) rfl (y_assign rfl) ?_
      refine s_nil ?_
      refine W_seq ?_
      refine W_region (by kernel_rfl) ?_
      refine s_y (v := .int .i64 W) rfl (y_move rfl) ?_
      refine s_y (v := .int .i64 0) rfl (y_move rfl) ?_
      refine s_nil ?_
      refine W_block ?_
      refine W_loop (fun ρ' w' => ∃ (ρ1 : Env) (px : Int) (a9 : Option Addr) (cc9 : Nat) (nn9 : Nat), ρ' = updL ρ1 [(1, .slice a n c), (2, .int .i64 W), (4, .func (.func f) us.toArray xs.toArray), (5, .pointer (some ⟨b1, 0, none⟩)), (10, .slice none 0 0), (11, .slice a9 nn9 cc9), (12, .int .i64 py), (17, .int .i64 H), (18, .int .i64 py), (19, .bool true), (20, .int .i64 py), (21, .int .i64 W), (22, .int .i64 px)] ∧ Bu w no w' [.ow kF a9 nn9 cc9 34 (tab (W * py + px) (fun i => el X ((fun xp yp => atI wd hi (FU xp yp) (FV xp yp)) (i % W) (i / W)))), .blk b1 [.int .i64 wd, .int .i64 hi, .bool wr, .slice asp nsp csp, .slice als nls cls] 26, .rd kF a n X] ∧ (0 ≤ px) ∧ (px ≤ W)) (fun ρ' _ => (W - iv (ρ' 22)).toNat) ?_ ?_
      · replace B : Bu w no w7 [.ow kF a0 nn0 cc0 34 (tab (W * py + 0) (fun i => el X ((fun xp yp => atI wd hi (FU xp yp) (FV xp yp)) (i % W) (i / W)))), .blk b1 [.int .i64 wd, .int .i64 hi, .bool wr, .slice asp nsp csp, .slice als nls cls] 26, .rd kF a n X] := B.castX 0 rfl rfl (by rw [Int.add_zero])
        exact ⟨_, 0, a0, cc0, nn0, Fits.eq ⟨rfl, rfl, rfl, rfl, rfl, rfl, rfl, rfl, rfl, rfl, rfl, rfl, rfl, trivial⟩, B, (Int.le_refl _), (by omega)⟩
      · clear B; rintro _ w10 ⟨ρ11, px, a9, cc9, nn9, rfl, B, h0px, h1px⟩
        have hnn9 := (B.o 0 rfl).len
        rw [tab_length] at hnn9
        refine W_seq ?_
        refine W_region (by kernel_rfl) ?_
        by_cases c12 : px < W
        · refine s_y (v := .bool true) rfl (y_lss rfl rfl (decide_eq_true c12)) ?_
          refine s_nil ?_
          refine W_seq ?_
          refine W_if_t (by decide) rfl ?_
          refine W_skip ?_
          refine W_seq ?_
          refine W_block ?_
          refine W_seq ?_
          refine W_region (by kernel_rfl) ?_
          refine s_y (v := .int .i64 px) rfl (y_move rfl) ?_
          refine s_y (v := .int .i64 px) rfl (y_assign rfl) ?_
          refine s_nil ?_
          refine W_seq ?_
          refine W_region (by kernel_rfl) ?_
          refine s_y (v := .func (.func f) us.toArray xs.toArray) rfl (y_move rfl) ?_
          refine s_y (v := .int .i64 px) rfl (y_move rfl) ?_
          refine s_y (v := .int .i64 py) rfl (y_move rfl) ?_
          refine s_k rfl (k_callv hfB rfl (hF px py B.ext (by omega) (by omega) (by omega) (by omega)) rfl ?_)
          rintro _ w13 ⟨rfl, e14⟩
          replace B := B.ext0 e14
          clear e14
          have hr15 := hR px py (by omega) (by omega) (by omega) (by omega)
          refine s_y (v := .tuple #[.int .i64 (FU px py), .int .i64 (FV px py)]) rfl (y_move rfl) ?_
          refine s_y (v := .int .i64 (FU px py)) rfl (y_extract rfl rfl) ?_
          refine s_y (v := .int .i64 (FV px py)) rfl (y_extract rfl rfl) ?_
          refine s_y (v := .int .i64 (FU px py)) rfl (y_assign rfl) ?_
          refine s_y (v := .int .i64 (FV px py)) rfl (y_assign rfl) ?_
          refine s_nil ?_
          refine W_region (by kernel_rfl) ?_
          refine s_y (v := .slice a9 nn9 cc9) rfl (y_move rfl) ?_
          refine s_y (v := .slice a n c) rfl (y_move rfl) ?_
          refine s_y (v := .agg #[.int .i64 wd, .int .i64 hi, .bool wr, .slice asp nsp csp, .slice als nls cls]) rfl (y_loadn (b := b1) (o := 0) (vs := [.int .i64 wd, .int .i64 hi, .bool wr, .slice asp nsp csp, .slice als nls cls]) T104.agg_26_5 rfl rfl ((B.b 1 rfl).cells (o := 0) rfl)) ?_
          refine s_y (v := .int .i64 (FU px py)) rfl (y_move rfl) ?_
          refine s_y (v := .int .i64 (FV px py)) rfl (y_move rfl) ?_
          refine s_k rfl (k_call T104.fn_69 (c_i_at (by omega) (by omega) (by omega) (by omega) (by omega) (by omega) (by omega) (by omega)) rfl ?_)
          rintro _ w16 ⟨rfl, e17⟩
          replace B := B.ext0 e17
          clear e17
          have hat18 := atI_b (wd := wd) (hi := hi) (x := FU px py) (y := FV px py) (by omega) (by omega)
          refine s_y (v := .pointer (some (sat a ((atI wd hi (FU px py) (FV px py)).toNat * 1)))) rfl (y_idx T104.sl_24_34_1 rfl rfl ((B.r 2 rfl).addr (by omega)) (by omega) (by omega)) ?_
          obtain ⟨r20, hr21, hR19⟩ := Rd.atF (B.r 2 rfl) (atI wd hi (FU px py) (FV px py)) (by omega) (by omega)
          refine s_y (v := .float .f32 r20) rfl (y_load T104.one_34 rfl (hR19.cell (i := 0) rfl)) ?_
          refine s_k rfl (k_bsliceO (k := kF) (n := 1) (cells := #[.float .f32 r20]) (X := [el X (atI wd hi (FU px py) (FV px py))]) T104.slt_24 (by decide) (by first | rfl | kernel_rfl) (reps_cons (c := [.float .f32 r20]) ⟨_, rfl, hr21⟩ (rfl : Reps kF [] [])) rfl (fun b22 w23 hN24 => ?_))
          replace B := B.new1 hN24
          clear hN24
          refine s_k rfl (k_appO (k := kF) T104.slt_24 rfl rfl rfl (B.o 1 rfl) (B.o 0 rfl).rd (by omega) (by unfold maxLen; omega) (fun a25 c26 w27 hU28 => ?_))
          replace B : Bu w no w27 [.ow kF a25 (nn9 + 1) c26 34 ((tab (W * py + px) (fun i => el X ((fun xp yp => atI wd hi (FU xp yp) (FV xp yp)) (i % W) (i / W)))) ++ ([el X (atI wd hi (FU px py) (FV px py))])), .ow kF (some ⟨b22, 0, none⟩) 1 1 34 ([el X (atI wd hi (FU px py) (FV px py))]), .blk b1 [.int .i64 wd, .int .i64 hi, .bool wr, .slice asp nsp csp, .slice als nls cls] 26, .rd kF a n X] := B.upd [1] rfl hU28
          clear hU28
          refine s_y (v := .slice a25 (nn9 + 1) c26) rfl (y_assign rfl) ?_
          refine s_nil ?_
          refine W_region (by kernel_rfl) ?_
          refine s_y (v := .int .i64 (px + 1)) rfl (y_add rfl rfl rfl (by omega)) ?_
          refine s_y (v := .int .i64 (px + 1)) rfl (y_move rfl) ?_
          refine s_nil ?_
          replace B : Bu w no w27 [.ow kF a25 (nn9 + 1) c26 34 (tab (W * py + (px + 1)) (fun i => el X ((fun xp yp => atI wd hi (FU xp yp) (FV xp yp)) (i % W) (i / W)))), .ow kF (some ⟨b22, 0, none⟩) 1 1 34 ([el X (atI wd hi (FU px py) (FV px py))]), .blk b1 [.int .i64 wd, .int .i64 hi, .bool wr, .slice asp nsp csp, .slice als nls cls] 26, .rd kF a n X] := B.castX 0 rfl rfl (tab_row (g := fun p q => el X ((fun xp yp => atI wd hi (FU xp yp) (FV xp yp)) p q)) (by omega) (by omega) (by omega))
          refine ⟨⟨_, px + 1, a25, c26, nn9 + 1, Fits.eq ⟨rfl, rfl, rfl, rfl, rfl, rfl, rfl, rfl, rfl, rfl, rfl, rfl, rfl, trivial⟩, (B.pick [0, 2, 3] rfl rfl), (by omega), (by omega)⟩, ?_⟩
          show (W - (px + 1)).toNat < (W - px).toNat
          omega
        · refine s_y (v := .bool false) rfl (y_lss rfl rfl (decide_eq_false c12)) ?_
          refine s_nil ?_
          refine W_seq ?_
          refine W_if_f (by decide) rfl ?_
          refine W_exit ?_
          refine W_region (by kernel_rfl) ?_
          refine s_y (v := .int .i64 (py + 1)) rfl (y_add rfl rfl rfl (by omega)) ?_
          refine s_y (v := .int .i64 (py + 1)) rfl (y_move rfl) ?_
          refine s_nil ?_
          replace B : Bu w no w10 [.ow kF a9 nn9 cc9 34 (tab (W * (py + 1)) (fun i => el X ((fun xp yp => atI wd hi (FU xp yp) (FV xp yp)) (i % W) (i / W)))), .blk b1 [.int .i64 wd, .int .i64 hi, .bool wr, .slice asp nsp csp, .slice als nls cls] 26, .rd kF a n X] := B.castX 0 rfl rfl (congrArg (fun q => tab q _) (show W * py + px = W * (py + 1) by rw [Int.mul_add, Int.mul_one]; omega))
          refine ⟨⟨_, py + 1, a9, cc9, nn9, Fits.eq ⟨rfl, rfl, rfl, rfl, rfl, rfl, rfl, rfl, trivial⟩, B, (by omega), (by omega)⟩, ?_⟩
          show (H - (py + 1)).toNat < (H - py).toNat
          omega
    · refine s_y (v := .bool false) rfl (y_lss rfl rfl (decide_eq_false c9)) ?_
      refine s_nil ?_
      refine W_seq ?_
      refine W_if_f (by decide) rfl ?_
      refine W_exit ?_
      refine W_seq ?_
      refine W_region (by kernel_rfl) ?_
      refine s_y (v := .slice a0 nn0 cc0) rfl (y_move rfl) ?_
      refine s_y (v := .slice a0 nn0 cc0) rfl (y_assign rfl) ?_
      refine s_nil ?_
      refine W_ret ?_
      refine ret1 (v := .slice a0 nn0 cc0) rfl rfl rfl ⟨_, rfl, ?_⟩
      obtain rfl : H = py := by omega
      replace B : Bu w no w7 [.ow kF a0 ((W * H).toNat) cc0 34 (movL W H (fun xp yp => atI wd hi (FU xp yp) (FV xp yp)) X), .blk b1 [.int .i64 wd, .int .i64 hi, .bool wr, .slice asp nsp csp, .slice als nls cls] 26, .rd kF a n X] := B.castX 0 rfl (by omega) rfl
      exact ⟨_, _, (by rw [(show nn0 = (W * H).toNat from (by omega))]), B.give [0] rfl rfl rfl⟩
namespace T51
theorem mx : Try.prog.follows .mixedOrders = true := by kernel_rfl
theorem agg_26_5 : aggB Try.prog 26 5 = true := by kernel_rfl
theorem fld_26_0_0 : fldB Try.prog 26 0 0 = true := by kernel_rfl
theorem fld_26_1_1 : fldB Try.prog 26 1 1 = true := by kernel_rfl
theorem fld_26_2_2 : fldB Try.prog 26 2 2 = true := by kernel_rfl
theorem fld_26_3_3 : fldB Try.prog 26 3 3 = true := by kernel_rfl
theorem fld_26_4_4 : fldB Try.prog 26 4 4 = true := by kernel_rfl
theorem fn_103 : fnB Try.prog 103 = true := by kernel_rfl
theorem fn_104 : fnB Try.prog 104 = true := by kernel_rfl
theorem fn_65 : fnB Try.prog 65 = true := by kernel_rfl
theorem one_2 : oneB Try.prog 2 = true := by kernel_rfl
theorem one_24 : oneB Try.prog 24 = true := by kernel_rfl
theorem one_4 : oneB Try.prog 4 = true := by kernel_rfl
theorem sz_26_5 : szB Try.prog 26 5 = true := by kernel_rfl
theorem zero_26 : zeroB Try.prog 26 (.agg #[.int .i64 0, .int .i64 0, .bool false, .slice none 0 0, .slice none 0 0]) := by unfold zeroB; kernel_rfl
end T51
set_option maxRecDepth 100000 in
set_option maxHeartbeats 4000000 in
theorem c_i_MirrorSheet {wd : Int} {hi : Int} {wr : Bool} {asp : Option Addr} {nsp : Nat} {csp : Nat} {Xsp : List Nat} {als : Option Addr} {nls : Nat} {cls : Nat} {Xls : List Nat} {w : World} (qsp : Rd w kF asp nsp Xsp) (qls : Rd w kF als nls Xls) (hbsp : nsp ≤ 9223372036854775806) (hbls : nls ≤ 9223372036854775806) :
    Calls Try.prog 51 #[.agg #[.int .i64 wd, .int .i64 hi, .bool wr, .slice asp nsp csp, .slice als nls cls]] w (Rt fun v w' => (validS wd hi Xsp Xls = true ∧ ∃ (a1 : Option Addr) (c1 : Nat) (a2 : Option Addr) (c2 : Nat), v = .tuple #[.agg #[.int .i64 wd, .int .i64 hi, .bool wr, .slice a1 ((wd * hi).toNat) c1, .slice a2 ((wd * hi).toNat) c2], .bool true] ∧ New w w' [.ow kF a1 ((wd * hi).toNat) c1 34 (mirS wd hi Xsp), .ow kF a2 ((wd * hi).toNat) c2 34 (mirS wd hi Xls)]) ∨ (validS wd hi Xsp Xls = false ∧ v = .tuple #[.agg #[.int .i64 0, .int .i64 0, .bool false, .slice none 0 0, .slice none 0 0], .bool false] ∧ Ext0 w w')) := by
  have hlsp := qsp.len
  have hlls := qls.len
  have B : Bu w no w [.rd kF asp nsp Xsp, .rd kF als nls Xls] := Bu.ro (All.cons qsp (All.cons qls All.nil)) rfl
  refine calls_W (n := 35) Try.func51 rfl rfl (Nat.le_of_ble_eq_true rfl) ?_
  refine W_seq ?_
  refine W_region (by kernel_rfl) ?_
  refine s_k rfl (k_boxN (v := .agg #[.int .i64 wd, .int .i64 hi, .bool wr, .slice asp nsp csp, .slice als nls cls]) (cs := [.int .i64 wd, .int .i64 hi, .bool wr, .slice asp nsp csp, .slice als nls cls]) rfl rfl (fun b1 w2 hN3 => ?_))
  replace B := B.new1 hN3
  clear hN3
  refine s_k rfl (k_allocN (z := (.agg #[.int .i64 0, .int .i64 0, .bool false, .slice none 0 0, .slice none 0 0])) (cs := [.int .i64 0, .int .i64 0, .bool false, .slice none 0 0, .slice none 0 0]) T51.zero_26 rfl (fun b4 w5 hN6 => ?_))
  replace B := B.new1 hN6
  clear hN6
  refine s_y (v := .bool false) rfl (y_assign rfl) ?_
  refine s_nil ?_
  refine W_seq ?_
  refine W_seq ?_
  refine W_region (by kernel_rfl) ?_
  refine s_y (v := .agg #[.int .i64 wd, .int .i64 hi, .bool wr, .slice asp nsp csp, .slice als nls cls]) rfl (y_loadn (b := b1) (o := 0) (vs := [.int .i64 wd, .int .i64 hi, .bool wr, .slice asp nsp csp, .slice als nls cls]) T51.agg_26_5 rfl rfl ((B.b 1 rfl).cells (o := 0) rfl)) ?_
  refine s_k rfl (k_call T51.fn_65 (c_i_ValidSheet (B.r 2 rfl) (B.r 3 rfl) (by omega) (by omega)) rfl ?_)
  rintro v9 w7 ⟨hv10, e8⟩
  replace B := B.ext0 e8
  clear e8
  by_cases c11 : validS wd hi Xsp Xls = true
  · have hb12 := validS_b c11
    obtain rfl : v9 = .bool true := hv10.trans (congrArg Value.bool c11)
    refine s_y (v := .bool false) rfl (y_not rfl rfl) ?_
    refine s_nil ?_
    refine W_if_f (by decide) rfl ?_
    refine W_skip ?_
    refine W_seq ?_
    refine W_region (by kernel_rfl) ?_
    refine s_y (v := .func (.func 103) #[] #[.pointer (some ⟨b1, 0, none⟩)]) rfl (y_func rfl rfl) ?_
    refine s_y (v := .func (.func 103) #[] #[.pointer (some ⟨b1, 0, none⟩)]) rfl (y_assign rfl) ?_
    refine s_nil ?_
    refine W_seq ?_
    have B0_17 := B
    refine W_draw (at1 b4) T51.mx (by kernel_rfl) (fun w15 e16 => ?_)
    have R18 := Ext.refl (at1 b4) w7
    replace R18 := R18.trans (Ext0.any e16)
    replace B := B.ext0 e16
    clear e16
    refine m_y (v := .pointer (some ⟨b1, 0, none⟩)) 0 rfl (by kernel_rfl) rfl rfl (fun w' e' => y_fld (o := 0) T51.fld_26_0_0 rfl) ?_
    refine m_y (v := .int .i64 wd) 1 rfl (by kernel_rfl) rfl rfl (fun w' e' => y_load T51.one_2 rfl ((B0_17.bx 1 0 rfl rfl rfl rfl e' (fun _ h => h)).cell (j := 0) rfl)) ?_
    refine m_y (v := .pointer (some ⟨b1, 1, none⟩)) 2 rfl (by kernel_rfl) rfl rfl (fun w' e' => y_fld (o := 0) T51.fld_26_1_1 rfl) ?_
    refine m_y (v := .int .i64 hi) 3 rfl (by kernel_rfl) rfl rfl (fun w' e' => y_load T51.one_2 rfl ((B0_17.bx 1 0 rfl rfl rfl rfl e' (fun _ h => h)).cell (j := 1) rfl)) ?_
    refine m_y (v := .pointer (some ⟨b1, 2, none⟩)) 4 rfl (by kernel_rfl) rfl rfl (fun w' e' => y_fld (o := 0) T51.fld_26_2_2 rfl) ?_
    refine m_y (v := .bool wr) 5 rfl (by kernel_rfl) rfl rfl (fun w' e' => y_load T51.one_4 rfl ((B0_17.bx 1 0 rfl rfl rfl rfl e' (fun _ h => h)).cell (j := 2) rfl)) ?_
    refine m_y (v := .agg #[.int .i64 wd, .int .i64 hi, .bool wr, .slice asp nsp csp, .slice als nls cls]) 6 rfl (by kernel_rfl) rfl rfl (fun w' e' => y_loadn (b := b1) (o := 0) (vs := [.int .i64 wd, .int .i64 hi, .bool wr, .slice asp nsp csp, .slice als nls cls]) T51.agg_26_5 rfl rfl ((B0_17.bx 1 0 rfl rfl rfl rfl e' (fun _ h => h)).cells (o := 0) rfl)) ?_
    refine m_y (v := .pointer (some ⟨b1, 3, none⟩)) 7 rfl (by kernel_rfl) rfl rfl (fun w' e' => y_fld (o := 0) T51.fld_26_3_3 rfl) ?_
    refine m_y (v := .slice asp nsp csp) 8 rfl (by kernel_rfl) rfl rfl (fun w' e' => y_load T51.one_24 rfl ((B0_17.bx 1 0 rfl rfl rfl rfl e' (fun _ h => h)).cell (j := 3) rfl)) ?_
    refine m_y (v := .pointer (some ⟨b1, 0, none⟩)) 9 rfl (by kernel_rfl) rfl rfl (fun w' e' => y_fld (o := 0) T51.fld_26_0_0 rfl) ?_
    refine m_y (v := .int .i64 wd) 10 rfl (by kernel_rfl) rfl rfl (fun w' e' => y_load T51.one_2 rfl ((B0_17.bx 1 0 rfl rfl rfl rfl e' (fun _ h => h)).cell (j := 0) rfl)) ?_
    refine m_y (v := .pointer (some ⟨b1, 1, none⟩)) 11 rfl (by kernel_rfl) rfl rfl (fun w' e' => y_fld (o := 0) T51.fld_26_1_1 rfl) ?_
    refine m_y (v := .int .i64 hi) 12 rfl (by kernel_rfl) rfl rfl (fun w' e' => y_load T51.one_2 rfl ((B0_17.bx 1 0 rfl rfl rfl rfl e' (fun _ h => h)).cell (j := 1) rfl)) ?_
    refine m_y (v := .func (.func 103) #[] #[.pointer (some ⟨b1, 0, none⟩)]) 13 rfl (by kernel_rfl) rfl rfl (fun w' e' => y_move rfl) ?_
    refine m_y (v := .agg #[.int .i64 wd, .int .i64 hi, .bool wr, .slice asp nsp csp, .slice als nls cls]) 15 rfl (by kernel_rfl) rfl rfl (fun w' e' => y_loadn (b := b1) (o := 0) (vs := [.int .i64 wd, .int .i64 hi, .bool wr, .slice asp nsp csp, .slice als nls cls]) T51.agg_26_5 rfl rfl ((B0_17.bx 1 0 rfl rfl rfl rfl e' (fun _ h => h)).cells (o := 0) rfl)) ?_
    refine m_y (v := .pointer (some ⟨b1, 4, none⟩)) 16 rfl (by kernel_rfl) rfl rfl (fun w' e' => y_fld (o := 0) T51.fld_26_4_4 rfl) ?_
    refine m_y (v := .slice als nls cls) 17 rfl (by kernel_rfl) rfl rfl (fun w' e' => y_load T51.one_24 rfl ((B0_17.bx 1 0 rfl rfl rfl rfl e' (fun _ h => h)).cell (j := 4) rfl)) ?_
    refine m_y (v := .pointer (some ⟨b1, 0, none⟩)) 18 rfl (by kernel_rfl) rfl rfl (fun w' e' => y_fld (o := 0) T51.fld_26_0_0 rfl) ?_
    refine m_y (v := .int .i64 wd) 19 rfl (by kernel_rfl) rfl rfl (fun w' e' => y_load T51.one_2 rfl ((B0_17.bx 1 0 rfl rfl rfl rfl e' (fun _ h => h)).cell (j := 0) rfl)) ?_
    refine m_y (v := .pointer (some ⟨b1, 1, none⟩)) 20 rfl (by kernel_rfl) rfl rfl (fun w' e' => y_fld (o := 0) T51.fld_26_1_1 rfl) ?_
    refine m_y (v := .int .i64 hi) 21 rfl (by kernel_rfl) rfl rfl (fun w' e' => y_load T51.one_2 rfl ((B0_17.bx 1 0 rfl rfl rfl rfl e' (fun _ h => h)).cell (j := 1) rfl)) ?_
    refine m_y (v := .func (.func 103) #[] #[.pointer (some ⟨b1, 0, none⟩)]) 22 rfl (by kernel_rfl) rfl rfl (fun w' e' => y_move rfl) ?_
    refine m_k 14 [23, 24, 25, 26] rfl (by kernel_rfl) rfl rfl (fun w19 e20 => ?_)
    replace R18 := R18.trans (Ext0.any e20)
    replace B := B.ext0 e20
    clear e20
    refine k_call T51.fn_104 (c_i_moved (f := 103) (us := []) (xs := [.pointer (some ⟨b1, 0, none⟩)]) (FU := (fun xq _ => wd - 1 - xq)) (FV := (fun _ yq => yq)) (W := wd) (H := hi) (B.r 2 rfl) T51.fn_103 (fun xq yq w1 he h0 h1 h2 h3 => (c_i_MirrorSheet_1 ((B.b 1 rfl).sl.ext0 he) (by omega) (by omega) (by omega) (by omega))) (fun x y h0 h1 h2 h3 => by first | omega | (simp only []; omega)) (by omega) (by omega) (by omega) (by omega) (by omega) (by omega) (by omega) (by omega) (by omega)) rfl ?_
    rintro _ w21 ⟨a22, c23, rfl, hN24⟩
    replace R18 := R18.trans (Ext0.any hN24.ext)
    replace B := B.new1 hN24
    clear hN24
    refine ⟨fun _ => R18, ?_⟩
    refine m_k 23 [24, 25, 26] rfl (by kernel_rfl) rfl rfl (fun w25 e26 => ?_)
    replace R18 := R18.trans (Ext0.any e26)
    replace B := B.ext0 e26
    clear e26
    refine k_call T51.fn_104 (c_i_moved (f := 103) (us := []) (xs := [.pointer (some ⟨b1, 0, none⟩)]) (FU := (fun xq _ => wd - 1 - xq)) (FV := (fun _ yq => yq)) (W := wd) (H := hi) (B.r 4 rfl) T51.fn_103 (fun xq yq w1 he h0 h1 h2 h3 => (c_i_MirrorSheet_1 ((B.b 2 rfl).sl.ext0 he) (by omega) (by omega) (by omega) (by omega))) (fun x y h0 h1 h2 h3 => by first | omega | (simp only []; omega)) (by omega) (by omega) (by omega) (by omega) (by omega) (by omega) (by omega) (by omega) (by omega)) rfl ?_
    rintro _ w27 ⟨a28, c29, rfl, hN30⟩
    replace R18 := R18.trans (Ext0.any hN30.ext)
    replace B := B.new1 hN30
    clear hN30
    refine ⟨fun _ => R18, ?_⟩
    refine m_y (v := .agg #[.int .i64 wd, .int .i64 hi, .bool wr, .slice a22 ((wd * hi).toNat) c23, .slice a28 ((wd * hi).toNat) c29]) 24 rfl (by kernel_rfl) rfl rfl (fun w' e' => y_build (cells := #[.int .i64 wd, .int .i64 hi, .bool wr, .slice a22 ((wd * hi).toNat) c23, .slice a28 ((wd * hi).toNat) c29]) (by kernel_rfl)) ?_
    refine m_k 25 [26] rfl (by kernel_rfl) rfl rfl (fun w33 e34 => ?_)
    replace R18 := R18.trans (Ext0.any e34)
    replace B := B.ext0 e34
    clear e34
    refine k_stB (v := .agg #[.int .i64 wd, .int .i64 hi, .bool wr, .slice a22 ((wd * hi).toNat) c23, .slice a28 ((wd * hi).toNat) c29]) (n := 5) (cs' := [.int .i64 wd, .int .i64 hi, .bool wr, .slice a22 ((wd * hi).toNat) c23, .slice a28 ((wd * hi).toNat) c29]) T51.sz_26_5 rfl rfl rfl (B.b 2 rfl) (by simp [Value.cells, Value.oneCell']) (Nat.le_of_ble_eq_true rfl) rfl (fun w31 hU32 => ?_)
    replace R18 := R18.trans hU32.at1
    replace B : Bu w no w31 [.blk b4 [.int .i64 wd, .int .i64 hi, .bool wr, .slice a22 ((wd * hi).toNat) c23, .slice a28 ((wd * hi).toNat) c29] 26, .ow kF a28 ((wd * hi).toNat) c29 34 (movL wd hi (fun xp yp => atI wd hi ((fun xq _ => wd - 1 - xq) xp yp) ((fun _ yq => yq) xp yp)) Xls), .ow kF a22 ((wd * hi).toNat) c23 34 (movL wd hi (fun xp yp => atI wd hi ((fun xq _ => wd - 1 - xq) xp yp) ((fun _ yq => yq) xp yp)) Xsp), .blk b1 [.int .i64 wd, .int .i64 hi, .bool wr, .slice asp nsp csp, .slice als nls cls] 26, .rd kF asp nsp Xsp, .rd kF als nls Xls] := B.upd [2] rfl hU32
    clear hU32
    refine ⟨fun _ => R18, ?_⟩
    refine m_y (v := .bool true) 26 rfl (by kernel_rfl) rfl rfl (fun w' e' => y_assign rfl) ?_
    refine m_done (by kernel_rfl) (fun w35 e36 => ?_)
    replace B := B.ext0 e36
    clear e36
    clear B0_17 R18
    refine W_ret ?_
    refine ret2 (v1 := .agg #[.int .i64 wd, .int .i64 hi, .bool wr, .slice a22 ((wd * hi).toNat) c23, .slice a28 ((wd * hi).toNat) c29]) (v2 := .bool true) rfl rfl rfl ⟨_, [.int .i64 wd, .int .i64 hi, .bool wr, .slice a22 ((wd * hi).toNat) c23, .slice a28 ((wd * hi).toNat) c29], _, rfl, (B.b 0 rfl), T51.agg_26_5, rfl⟩ rfl ⟨_, rfl, ?_⟩
    have hcond : validS wd hi Xsp Xls = true := by simp only [c11, Bool.and_true, Bool.true_and, Bool.and_false, Bool.false_and, Bool.not_true, Bool.not_false, Bool.or_true, Bool.true_or, Bool.or_false, Bool.false_or]
    replace B : Bu w no w35 [.blk b4 [.int .i64 wd, .int .i64 hi, .bool wr, .slice a22 ((wd * hi).toNat) c23, .slice a28 ((wd * hi).toNat) c29] 26, .ow kF a28 ((wd * hi).toNat) c29 34 (movL wd hi (fun xp yp => atI wd hi ((fun xq _ => wd - 1 - xq) xp yp) ((fun _ yq => yq) xp yp)) Xls), .ow kF a22 ((wd * hi).toNat) c23 34 (mirS wd hi Xsp), .blk b1 [.int .i64 wd, .int .i64 hi, .bool wr, .slice asp nsp csp, .slice als nls cls] 26, .rd kF asp nsp Xsp, .rd kF als nls Xls] := B.castX 2 rfl rfl (mir_i (by omega))
    replace B : Bu w no w35 [.blk b4 [.int .i64 wd, .int .i64 hi, .bool wr, .slice a22 ((wd * hi).toNat) c23, .slice a28 ((wd * hi).toNat) c29] 26, .ow kF a28 ((wd * hi).toNat) c29 34 (mirS wd hi Xls), .ow kF a22 ((wd * hi).toNat) c23 34 (mirS wd hi Xsp), .blk b1 [.int .i64 wd, .int .i64 hi, .bool wr, .slice asp nsp csp, .slice als nls cls] 26, .rd kF asp nsp Xsp, .rd kF als nls Xls] := B.castX 1 rfl rfl (mir_i (by omega))
    exact .inl ⟨hcond, ⟨_, _, _, _, rfl, B.give [2, 1] rfl rfl rfl⟩⟩
  · obtain rfl : v9 = .bool false := hv10.trans (congrArg Value.bool (Bool.eq_false_iff.2 c11))
    refine s_y (v := .bool true) rfl (y_not rfl rfl) ?_
    refine s_nil ?_
    refine W_if_t (by decide) rfl ?_
    refine W_seq ?_
    refine W_region (by kernel_rfl) ?_
    refine s_y (v := .agg #[.int .i64 0, .int .i64 0, .bool false, .slice none 0 0, .slice none 0 0]) rfl (y_build (cells := #[.int .i64 0, .int .i64 0, .bool false, .slice none 0 0, .slice none 0 0]) (by kernel_rfl)) ?_
    refine s_k0 rfl (k_stB (v := .agg #[.int .i64 0, .int .i64 0, .bool false, .slice none 0 0, .slice none 0 0]) (n := 5) (cs' := [.int .i64 0, .int .i64 0, .bool false, .slice none 0 0, .slice none 0 0]) T51.sz_26_5 rfl rfl rfl (B.b 0 rfl) (by simp [Value.cells, Value.oneCell']) (Nat.le_of_ble_eq_true rfl) rfl (fun w37 hU38 => ?_))
    replace B : Bu w no w37 [.blk b4 [.int .i64 0, .int .i64 0, .bool false, .slice none 0 0, .slice none 0 0] 26, .blk b1 [.int .i64 wd, .int .i64 hi, .bool wr, .slice asp nsp csp, .slice als nls cls] 26, .rd kF asp nsp Xsp, .rd kF als nls Xls] := B.upd [0] rfl hU38
    clear hU38
    refine s_y (v := .bool false) rfl (y_assign rfl) ?_
    refine s_nil ?_
    refine W_ret ?_
    refine ret2 (v1 := .agg #[.int .i64 0, .int .i64 0, .bool false, .slice none 0 0, .slice none 0 0]) (v2 := .bool false) rfl rfl rfl ⟨_, [.int .i64 0, .int .i64 0, .bool false, .slice none 0 0, .slice none 0 0], _, rfl, (B.b 0 rfl), T51.agg_26_5, rfl⟩ rfl ⟨_, rfl, ?_⟩
    exact .inr ⟨by simp only [(Bool.eq_false_iff.2 c11), Bool.and_true, Bool.true_and, Bool.and_false, Bool.false_and, Bool.not_true, Bool.not_false, Bool.or_true, Bool.true_or, Bool.or_false, Bool.false_or], rfl, B.ext⟩
namespace T105
theorem mx : Try.prog.follows .mixedOrders = true := by kernel_rfl
theorem fld_26_0_0 : fldB Try.prog 26 0 0 = true := by kernel_rfl
theorem one_2 : oneB Try.prog 2 = true := by kernel_rfl
end T105
set_option maxRecDepth 100000 in
set_option maxHeartbeats 4000000 in
theorem c_i_MirrorField_1 {x : Int} {y : Int} {b : Nat} {wd : Int} {hi : Int} {wr : Bool} {asp : Option Addr} {nsp : Nat} {csp : Nat} {als : Option Addr} {nls : Nat} {cls : Nat} {w : World} (Pb : Sl w (some ⟨b, 0, none⟩) [.int .i64 wd, .int .i64 hi, .bool wr, .slice asp nsp csp, .slice als nls cls]) (h1 : 3 ≤ wd) (h2 : wd ≤ 16) (h5 : 0 ≤ x) (h6 : x ≤ 1000000) :
    Calls Try.prog 105 #[.int .i64 x, .int .i64 y, .pointer (some ⟨b, 0, none⟩)] w (Rt fun v w' => v = .tuple #[.int .i64 (wd - 1 - x), .int .i64 y] ∧ Ext0 w w') := by
  have B : Bu w no w [.sl (some ⟨b, 0, none⟩) [.int .i64 wd, .int .i64 hi, .bool wr, .slice asp nsp csp, .slice als nls cls]] := Bu.ro (All.cons Pb All.nil) rfl
  refine calls_W (n := 13) Try.func105 rfl rfl (Nat.le_of_ble_eq_true rfl) ?_
  refine W_seq ?_
  refine W_region (by kernel_rfl) ?_
  refine s_y (v := .int .i64 0) rfl (y_assign rfl) ?_
  refine s_y (v := .int .i64 0) rfl (y_assign rfl) ?_
  refine s_nil ?_
  refine W_seq ?_
  refine W_region (by kernel_rfl) ?_
  refine s_y (v := .pointer (some ⟨b, 0, none⟩)) rfl (y_fld (o := 0 + 0) T105.fld_26_0_0 rfl) ?_
  refine s_y (v := .int .i64 wd) rfl (y_load T105.one_2 rfl ((B.s 0 rfl).cell (j := 0) rfl)) ?_
  refine s_y (v := .int .i64 (wd - 1)) rfl (y_sub rfl rfl rfl (by omega)) ?_
  refine s_y (v := .int .i64 x) rfl (y_move rfl) ?_
  refine s_y (v := .int .i64 ((wd - 1) - x)) rfl (y_sub rfl rfl rfl (by omega)) ?_
  refine s_y (v := .int .i64 y) rfl (y_move rfl) ?_
  refine s_y (v := .int .i64 ((wd - 1) - x)) rfl (y_assign rfl) ?_
  refine s_y (v := .int .i64 y) rfl (y_assign rfl) ?_
  refine s_nil ?_
  refine W_ret ?_
  refine ret2 (v1 := .int .i64 ((wd - 1) - x)) (v2 := .int .i64 y) rfl rfl rfl rfl rfl ⟨_, rfl, ?_⟩
  exact ⟨rfl, B.ext⟩
namespace T106
theorem mx : Try.prog.follows .mixedOrders = true := by kernel_rfl
theorem fld_26_0_0 : fldB Try.prog 26 0 0 = true := by kernel_rfl
theorem one_2 : oneB Try.prog 2 = true := by kernel_rfl
end T106
set_option maxRecDepth 100000 in
set_option maxHeartbeats 4000000 in
theorem c_i_MirrorField_2 {x : Int} {y : Int} {b : Nat} {wd : Int} {hi : Int} {wr : Bool} {asp : Option Addr} {nsp : Nat} {csp : Nat} {als : Option Addr} {nls : Nat} {cls : Nat} {w : World} (Pb : Sl w (some ⟨b, 0, none⟩) [.int .i64 wd, .int .i64 hi, .bool wr, .slice asp nsp csp, .slice als nls cls]) (h1 : 3 ≤ wd) (h2 : wd ≤ 16) (h5 : 0 ≤ x) (h6 : x ≤ 1000000) :
    Calls Try.prog 106 #[.int .i64 x, .int .i64 y, .pointer (some ⟨b, 0, none⟩)] w (Rt fun v w' => v = .tuple #[.int .i64 (wd - 2 - x), .int .i64 y] ∧ Ext0 w w') := by
  have B : Bu w no w [.sl (some ⟨b, 0, none⟩) [.int .i64 wd, .int .i64 hi, .bool wr, .slice asp nsp csp, .slice als nls cls]] := Bu.ro (All.cons Pb All.nil) rfl
  refine calls_W (n := 13) Try.func106 rfl rfl (Nat.le_of_ble_eq_true rfl) ?_
  refine W_seq ?_
  refine W_region (by kernel_rfl) ?_
  refine s_y (v := .int .i64 0) rfl (y_assign rfl) ?_
  refine s_y (v := .int .i64 0) rfl (y_assign rfl) ?_
  refine s_nil ?_
  refine W_seq ?_
  refine W_region (by kernel_rfl) ?_
  refine s_y (v := .pointer (some ⟨b, 0, none⟩)) rfl (y_fld (o := 0 + 0) T106.fld_26_0_0 rfl) ?_
  refine s_y (v := .int .i64 wd) rfl (y_load T106.one_2 rfl ((B.s 0 rfl).cell (j := 0) rfl)) ?_
  refine s_y (v := .int .i64 (wd - 2)) rfl (y_sub rfl rfl rfl (by omega)) ?_
  refine s_y (v := .int .i64 x) rfl (y_move rfl) ?_
  refine s_y (v := .int .i64 ((wd - 2) - x)) rfl (y_sub rfl rfl rfl (by omega)) ?_
  refine s_y (v := .int .i64 y) rfl (y_move rfl) ?_
  refine s_y (v := .int .i64 ((wd - 2) - x)) rfl (y_assign rfl) ?_
  refine s_y (v := .int .i64 y) rfl (y_assign rfl) ?_
  refine s_nil ?_
  refine W_ret ?_
  refine ret2 (v1 := .int .i64 ((wd - 2) - x)) (v2 := .int .i64 y) rfl rfl rfl rfl rfl ⟨_, rfl, ?_⟩
  exact ⟨rfl, B.ext⟩
namespace T97
theorem mx : Try.prog.follows .mixedOrders = true := by kernel_rfl
theorem one_34 : oneB Try.prog 34 = true := by kernel_rfl
theorem sl_24_34_1 : slB Try.prog 24 34 1 = true := by kernel_rfl
theorem slt_24 : SlT Try.prog 24 34 1 4 (.float .f32 0) := ⟨by kernel_rfl, by kernel_rfl, rfl, by decide⟩
end T97
set_option maxRecDepth 100000 in
set_option maxHeartbeats 4000000 in
theorem c_i_both {aa : Option Addr} {na : Nat} {ca : Nat} {Xa : List Nat} {ab : Option Addr} {nb : Nat} {cb : Nat} {Xb : List Nat} {f : Nat} {us xs : List Value} {FM : Nat → Nat → Nat} {w : World} (qa : Rd w kF aa na Xa) (qb : Rd w kF ab nb Xb) (hfB : fnB Try.prog f = true) (hF : ∀ r R r2 R2 {w1}, Ext0 w w1 → can .f32 r = R → can .f32 r2 = R2 → Calls Try.prog f (us ++ ([.float .f32 r, .float .f32 r2] : List Value) ++ xs).toArray w1 (Rt fun v w2 => (∃ q, v = .float .f32 q ∧ can .f32 q = FM R R2) ∧ Ext0 w1 w2)) (hab : nb = na) (hb : na ≤ 1048576) :
    Calls Try.prog 97 #[.slice aa na ca, .slice ab nb cb, .func (.func f) us.toArray xs.toArray] w (Rt fun v w' => ∃ (a1 : Option Addr) (c1 : Nat), v = .slice a1 na c1 ∧ New w w' [.ow kF a1 na c1 34 (zipL na FM Xa Xb)]) := by
  have hla := qa.len
  have hlb := qb.len
  have B : Bu w no w [.rd kF aa na Xa, .rd kF ab nb Xb] := Bu.ro (All.cons qa (All.cons qb All.nil)) rfl
  refine calls_W (n := 30) Try.func97 rfl rfl (Nat.le_of_ble_eq_true rfl) ?_
  refine W_seq ?_
  refine W_region (by kernel_rfl) ?_
  refine s_y (v := .slice none 0 0) rfl (y_assign rfl) ?_
  refine s_nil ?_
  refine W_seq ?_
  refine W_region (by kernel_rfl) ?_
  refine s_k rfl (k_bsliceO (k := kF) (n := 0) (cells := #[]) (X := []) T97.slt_24 (by decide) (by first | rfl | kernel_rfl) (rfl : Reps kF [] []) rfl (fun b1 w2 hN3 => ?_))
  replace B := B.new1 hN3
  clear hN3
  refine s_y (v := .slice (some ⟨b1, 0, none⟩) 0 0) rfl (y_assign rfl) ?_
  refine s_nil ?_
  refine W_seq ?_
  refine W_seq ?_
  refine W_region (by kernel_rfl) ?_
  refine s_y (v := .slice aa na ca) rfl (y_move rfl) ?_
  refine s_y (v := .int .i64 ((na : Nat) : Int)) rfl (y_len T97.sl_24_34_1 rfl rfl) ?_
  refine s_y (v := .int .i64 0) rfl (y_move rfl) ?_
  refine s_nil ?_
  refine W_block ?_
  refine W_loop (fun ρ' w' => ∃ (ρ1 : Env) (k : Int) (a0 : Option Addr) (cc0 : Nat) (nn0 : Nat), ρ' = updL ρ1 [(1, .slice ab nb cb), (2, .func (.func f) us.toArray xs.toArray), (6, .slice none 0 0), (7, .slice a0 nn0 cc0), (11, .slice aa na ca), (12, .int .i64 ((na : Nat) : Int)), (13, .int .i64 k)] ∧ Bu w no w' [.ow kF a0 nn0 cc0 34 (tab k (fun i => FM (el Xa i) (el Xb i))), .rd kF aa na Xa, .rd kF ab nb Xb] ∧ (0 ≤ k) ∧ (k ≤ (na : Int))) (fun ρ' _ => ((na : Int) - iv (ρ' 13)).toNat) ?_ ?_
  · replace B : Bu w no w2 [.ow kF (some ⟨b1, 0, none⟩) 0 0 34 (tab 0 (fun i => FM (el Xa i) (el Xb i))), .rd kF aa na Xa, .rd kF ab nb Xb] := B.castX 0 rfl rfl rfl
    exact ⟨_, 0, (some ⟨b1, 0, none⟩), 0, 0, Fits.eq ⟨rfl, rfl, rfl, rfl, rfl, rfl, rfl, trivial⟩, B, (Int.le_refl _), (by omega)⟩
  · clear B; rintro _ w4 ⟨ρ5, k, a0, cc0, nn0, rfl, B, h0k, h1k⟩
    have hnn0 := (B.o 0 rfl).len
    rw [tab_length] at hnn0
    refine W_seq ?_
    refine W_region (by kernel_rfl) ?_
    by_cases c6 : k < ((na : Nat) : Int)
    · refine s_y (v := .bool true) rfl (y_lss rfl rfl (decide_eq_true c6)) ?_
      refine s_nil ?_
      refine W_seq ?_
      refine W_if_t (by decide) rfl ?_
      refine W_skip ?_
      refine W_seq ?_
      refine W_block ?_
      refine W_seq ?_
      refine W_region (by kernel_rfl) ?_
      refine s_y (v := .int .i64 k) rfl (y_move rfl) ?_
      refine s_y (v := .pointer (some (sat aa ((k).toNat * 1)))) rfl (y_idx T97.sl_24_34_1 rfl rfl ((B.r 1 rfl).addr (by omega)) (by omega) (by omega)) ?_
      obtain ⟨r8, hr9, hR7⟩ := Rd.atF (B.r 1 rfl) k (by omega) (by omega)
      refine s_y (v := .float .f32 r8) rfl (y_load T97.one_34 rfl (hR7.cell (i := 0) rfl)) ?_
      refine s_y (v := .int .i64 k) rfl (y_assign rfl) ?_
      refine s_y (v := .float .f32 r8) rfl (y_assign rfl) ?_
      refine s_nil ?_
      refine W_region (by kernel_rfl) ?_
      refine s_y (v := .slice a0 nn0 cc0) rfl (y_move rfl) ?_
      refine s_y (v := .func (.func f) us.toArray xs.toArray) rfl (y_move rfl) ?_
      refine s_y (v := .float .f32 r8) rfl (y_move rfl) ?_
      refine s_y (v := .slice ab nb cb) rfl (y_move rfl) ?_
      refine s_y (v := .int .i64 k) rfl (y_move rfl) ?_
      refine s_y (v := .pointer (some (sat ab ((k).toNat * 1)))) rfl (y_idx T97.sl_24_34_1 rfl rfl ((B.r 2 rfl).addr (by omega)) (by omega) (by omega)) ?_
      obtain ⟨r11, hr12, hR10⟩ := Rd.atF (B.r 2 rfl) k (by omega) (by omega)
      refine s_y (v := .float .f32 r11) rfl (y_load T97.one_34 rfl (hR10.cell (i := 0) rfl)) ?_
      refine s_k rfl (k_callv hfB rfl (hF r8 (el Xa k) r11 (el Xb k) B.ext hr9 hr12) rfl ?_)
      rintro _ w13 ⟨⟨r15, rfl, hr16⟩, e14⟩
      replace B := B.ext0 e14
      clear e14
      refine s_k rfl (k_bsliceO (k := kF) (n := 1) (cells := #[.float .f32 r15]) (X := [FM (el Xa k) (el Xb k)]) T97.slt_24 (by decide) (by first | rfl | kernel_rfl) (reps_cons (c := [.float .f32 r15]) ⟨_, rfl, hr16⟩ (rfl : Reps kF [] [])) rfl (fun b17 w18 hN19 => ?_))
      replace B := B.new1 hN19
      clear hN19
      refine s_k rfl (k_appO (k := kF) T97.slt_24 rfl rfl rfl (B.o 1 rfl) (B.o 0 rfl).rd (by omega) (by unfold maxLen; omega) (fun a20 c21 w22 hU23 => ?_))
      replace B : Bu w no w22 [.ow kF a20 (nn0 + 1) c21 34 ((tab k (fun i => FM (el Xa i) (el Xb i))) ++ ([FM (el Xa k) (el Xb k)])), .ow kF (some ⟨b17, 0, none⟩) 1 1 34 ([FM (el Xa k) (el Xb k)]), .rd kF aa na Xa, .rd kF ab nb Xb] := B.upd [1] rfl hU23
      clear hU23
      refine s_y (v := .slice a20 (nn0 + 1) c21) rfl (y_assign rfl) ?_
      refine s_nil ?_
      refine W_region (by kernel_rfl) ?_
      refine s_y (v := .int .i64 (k + 1)) rfl (y_add rfl rfl rfl (by omega)) ?_
      refine s_y (v := .int .i64 (k + 1)) rfl (y_move rfl) ?_
      refine s_nil ?_
      replace B : Bu w no w22 [.ow kF a20 (nn0 + 1) c21 34 (tab (k + 1) (fun i => FM (el Xa i) (el Xb i))), .ow kF (some ⟨b17, 0, none⟩) 1 1 34 ([FM (el Xa k) (el Xb k)]), .rd kF aa na Xa, .rd kF ab nb Xb] := B.castX 0 rfl rfl (tab_snoc (g := fun i => FM (el Xa i) (el Xb i)) (by omega) rfl)
      refine ⟨⟨_, k + 1, a20, c21, nn0 + 1, Fits.eq ⟨rfl, rfl, rfl, rfl, rfl, rfl, rfl, trivial⟩, (B.pick [0, 2, 3] rfl rfl), (by omega), (by omega)⟩, ?_⟩
      show ((na : Int) - (k + 1)).toNat < ((na : Int) - k).toNat
      omega
    · refine s_y (v := .bool false) rfl (y_lss rfl rfl (decide_eq_false c6)) ?_
      refine s_nil ?_
      refine W_seq ?_
      refine W_if_f (by decide) rfl ?_
      refine W_exit ?_
      refine W_seq ?_
      refine W_region (by kernel_rfl) ?_
      refine s_y (v := .slice a0 nn0 cc0) rfl (y_move rfl) ?_
      refine s_y (v := .slice a0 nn0 cc0) rfl (y_assign rfl) ?_
      refine s_nil ?_
      refine W_ret ?_
      refine ret1 (v := .slice a0 nn0 cc0) rfl rfl rfl ⟨_, rfl, ?_⟩
      obtain rfl : k = (na : Int) := by omega
      replace B : Bu w no w4 [.ow kF a0 na cc0 34 (zipL na FM Xa Xb), .rd kF aa na Xa, .rd kF ab nb Xb] := B.castX 0 rfl (by omega) rfl
      exact ⟨_, _, (by rw [(show nn0 = na from (by omega))]), B.give [0] rfl rfl rfl⟩
namespace T133
theorem mx : Try.prog.follows .mixedOrders = true := by kernel_rfl
end T133
set_option maxRecDepth 100000 in
set_option maxHeartbeats 4000000 in
theorem c_i_opposites_1 {r : Nat} {R : Nat} {r2 : Nat} {R2 : Nat} {w : World} (h1 : can .f32 r = R) (h2 : can .f32 r2 = R2) :
    Calls Try.prog 133 #[.float .f32 r, .float .f32 r2] w (Rt fun v w' => (∃ r, v = .float .f32 r ∧ can .f32 r = fneg .f32 R) ∧ Ext0 w w') := by
  have B : Bu w no w [] := Bu.ro All.nil rfl
  refine calls_W (n := 7) Try.func133 rfl rfl (Nat.le_of_ble_eq_true rfl) ?_
  refine W_seq ?_
  refine W_region (by kernel_rfl) ?_
  refine s_y (v := .float .f32 0) rfl (y_assign rfl) ?_
  refine s_nil ?_
  refine W_seq ?_
  refine W_region (by kernel_rfl) ?_
  refine s_y (v := .float .f32 r) rfl (y_move rfl) ?_
  refine s_y (v := .float .f32 (Op.negFloat .f32 r)) rfl (y_fneg rfl) ?_
  refine s_y (v := .float .f32 (Op.negFloat .f32 r)) rfl (y_assign rfl) ?_
  refine s_nil ?_
  refine W_ret ?_
  refine ret1 (v := .float .f32 (Op.negFloat .f32 r)) rfl rfl rfl ⟨_, rfl, ?_⟩
  exact ⟨⟨_, rfl, (negC h1)⟩, B.ext⟩
namespace T107
theorem mx : Try.prog.follows .mixedOrders = true := by kernel_rfl
theorem fn_133 : fnB Try.prog 133 = true := by kernel_rfl
theorem fn_97 : fnB Try.prog 97 = true := by kernel_rfl
end T107
set_option maxRecDepth 100000 in
set_option maxHeartbeats 4000000 in
theorem c_i_opposites {a : Option Addr} {n : Nat} {c : Nat} {X : List Nat} {w : World} (q : Rd w kF a n X) (hb : n ≤ 1048576) :
    Calls Try.prog 107 #[.slice a n c] w (Rt fun v w' => ∃ (a1 : Option Addr) (c1 : Nat), v = .slice a1 n c1 ∧ New w w' [.ow kF a1 n c1 34 (negL n X)]) := by
  have hl := q.len
  have B : Bu w no w [.rd kF a n X] := Bu.ro (All.cons q All.nil) rfl
  refine calls_W (n := 6) Try.func107 rfl rfl (Nat.le_of_ble_eq_true rfl) ?_
  refine W_seq ?_
  refine W_region (by kernel_rfl) ?_
  refine s_y (v := .slice none 0 0) rfl (y_assign rfl) ?_
  refine s_nil ?_
  refine W_seq ?_
  refine W_region (by kernel_rfl) ?_
  refine s_y (v := .slice a n c) rfl (y_move rfl) ?_
  refine s_y (v := .slice a n c) rfl (y_move rfl) ?_
  refine s_k rfl (k_call T107.fn_97 (c_i_both (f := 133) (us := []) (xs := []) (FM := (fun a _ => fneg .f32 a)) (B.r 0 rfl) (B.r 0 rfl) T107.fn_133 (fun r R r2 R2 w1 he h1 h2 => (c_i_opposites_1 h1 h2)) rfl (by omega)) rfl ?_)
  rintro _ w1 ⟨a2, c3, rfl, hN4⟩
  replace B := B.new1 hN4
  clear hN4
  refine s_y (v := .slice a2 n c3) rfl (y_assign rfl) ?_
  refine s_nil ?_
  refine W_ret ?_
  refine ret1 (v := .slice a2 n c3) rfl rfl rfl ⟨_, rfl, ?_⟩
  replace B : Bu w no w1 [.ow kF a2 n c3 34 (negL n X), .rd kF a n X] := B.castX 0 rfl rfl rfl
  exact ⟨_, _, rfl, B.give [0] rfl rfl rfl⟩
end Go.Proofs.Ytgohmocjjmkepaa
