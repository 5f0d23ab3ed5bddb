/- Walks: what the functions under FnExactPeakTrace do (part 3). Printed by a program of this claim's author. -/
import Derived.Test.YtmcldploldaceaaExactPeakTraceW1
set_option linter.unusedSimpArgs false
set_option linter.unusedVariables false
open Go.Wv
namespace Go.Proofs.Ytmcldploldaceaa
open Go.Proofs
namespace T119
theorem mx : Try.prog.follows .mixedOrders = true := by kernel_rfl
theorem agg_26_5 : aggB Try.prog 26 5 = true := by kernel_rfl
theorem agg_29_3 : aggB Try.prog 29 3 = true := by kernel_rfl
theorem fn_100 : fnB Try.prog 100 = true := by kernel_rfl
theorem fn_123 : fnB Try.prog 123 = true := by kernel_rfl
theorem fn_125 : fnB Try.prog 125 = true := by kernel_rfl
theorem fn_142 : fnB Try.prog 142 = true := by kernel_rfl
theorem fn_28 : fnB Try.prog 28 = true := by kernel_rfl
theorem fn_75 : fnB Try.prog 75 = true := by kernel_rfl
theorem one_24 : oneB Try.prog 24 = true := by kernel_rfl
theorem slt_24 : SlT Try.prog 24 35 1 4 (.float .f32 0) := ⟨by kernel_rfl, by kernel_rfl, rfl, by decide⟩
theorem sz_24_1 : szB Try.prog 24 1 = true := by kernel_rfl
theorem sz_29_3 : szB Try.prog 29 3 = true := by kernel_rfl
theorem zero_24 : zeroB Try.prog 24 (.slice none 0 0) := by unfold zeroB; kernel_rfl
theorem zero_29 : zeroB Try.prog 29 (.agg #[.slice none 0 0, .slice none 0 0, .slice none 0 0]) := by unfold zeroB; kernel_rfl
end T119
set_option maxRecDepth 100000 in
set_option maxHeartbeats 4000000 in
theorem c_i_run_trace {wd : Int} {hi : Int} {wr : Bool} {asp : Option Addr} {nsp : Nat} {csp : Nat} {Xsp : List Nat} {als : Option Addr} {nls : Nat} {cls : Nat} {Xls : List Nat} {afe : Option Addr} {nfe : Nat} {cfe : Nat} {Xfe : List Nat} {afx : Option Addr} {nfx : Nat} {cfx : Nat} {Xfx : List Nat} {afy : Option Addr} {nfy : Nat} {cfy : Nat} {Xfy : List Nat} {m : Int} {bo : Nat} {bn : Nat} {f : Nat} {us xs : List Value} {FN : Fld → Nat} {aq : Option Addr} {nq cq : Nat} {Xq : List Nat} {w : World} (hfB : fnB Try.prog f = true) (hF : ∀ {ae ax ay : Option Addr} {ce cx cy : Nat} {E X Y : List Nat} {w1 : World}, Ext (hasW [.blk bo [.slice aq nq cq] 24, .ow kF aq nq cq 35 Xq]) w w1 → Rd w1 kF ae nfe E → Rd w1 kF ax nfx X → Rd w1 kF ay nfy Y → fieldB wd hi wr Xsp Xls Xfe Xfx Xfy = true → Calls Try.prog f (us ++ ([.agg #[.slice ae nfe ce, .slice ax nfx cx, .slice ay nfy cy]] : List Value) ++ xs).toArray w1 (Rt fun v w2 => (∃ r, v = .float .f32 r ∧ can .f32 r = FN (E, X, Y)) ∧ Ext0 w1 w2)) (hbsp : nsp ≤ 9223372036854775806) (hbls : nls ≤ 9223372036854775806) (hbfe : nfe ≤ 9223372036854775806) (hbfx : nfx ≤ 9223372036854775806) (hbfy : nfy ≤ 9223372036854775806) (hq : nq = 0) (HA : All w [.blk bo [.slice aq nq cq] 24, .ow kF aq nq cq 35 Xq, .rd kF asp nsp Xsp, .rd kF als nls Xls, .rd kF afe nfe Xfe, .rd kF afx nfx Xfx, .rd kF afy nfy Xfy, .sl (some ⟨bn, 0, none⟩) [.func (.func f) us.toArray xs.toArray]]) (HP : Pw [.blk bo [.slice aq nq cq] 24, .ow kF aq nq cq 35 Xq, .rd kF asp nsp Xsp, .rd kF als nls Xls, .rd kF afe nfe Xfe, .rd kF afx nfx Xfx, .rd kF afy nfy Xfy, .sl (some ⟨bn, 0, none⟩) [.func (.func f) us.toArray xs.toArray]]) :
    Calls Try.prog 75 #[.agg #[.int .i64 wd, .int .i64 hi, .bool wr, .slice asp nsp csp, .slice als nls cls], .agg #[.slice afe nfe cfe, .slice afx nfx cfx, .slice afy nfy cfy], .int .i64 m, .func (.func 142) #[] #[.pointer (some ⟨bo, 0, none⟩), .pointer (some ⟨bn, 0, none⟩)]] w (Rt fun v w' => (runB wd hi wr Xsp Xls Xfe Xfx Xfy m = true ∧ ∃ (a9 : Option Addr) (n9 : Nat) (c9 : Nat) (a1 : Option Addr) (a2 : Option Addr) (a3 : Option Addr) (c1 : Nat) (c2 : Nat) (c3 : Nat), v = .tuple #[.agg #[.slice a1 nfe c1, .slice a2 nfx c2, .slice a3 nfy c3], .bool true] ∧ Upd w w' [.blk bo [.slice aq nq cq] 24, .ow kF aq nq cq 35 Xq] [.blk bo [.slice a9 n9 c9] 24, .ow kF a9 n9 c9 35 (Xq ++ trL wd hi wr Xsp Xls (Xfe, Xfx, Xfy) FN m), .ow kF a1 nfe c1 35 ((rnT wd hi wr Xsp Xls (Xfe, Xfx, Xfy) (Int.toNat m)).1), .ow kF a2 nfx c2 35 ((rnT wd hi wr Xsp Xls (Xfe, Xfx, Xfy) (Int.toNat m)).2.1), .ow kF a3 nfy c3 35 ((rnT wd hi wr Xsp Xls (Xfe, Xfx, Xfy) (Int.toNat m)).2.2)]) ∨ (runB wd hi wr Xsp Xls Xfe Xfx Xfy m = false ∧ v = .tuple #[.agg #[.slice none 0 0, .slice none 0 0, .slice none 0 0], .bool false] ∧ Upd w w' [.blk bo [.slice aq nq cq] 24, .ow kF aq nq cq 35 Xq] [.blk bo [.slice aq nq cq] 24, .ow kF aq nq cq 35 Xq])) := by
  have B : Bu w (hasW [.blk bo [.slice aq nq cq] 24, .ow kF aq nq cq 35 Xq]) w [.blk bo [.slice aq nq cq] 24, .ow kF aq nq cq 35 Xq, .rd kF asp nsp Xsp, .rd kF als nls Xls, .rd kF afe nfe Xfe, .rd kF afx nfx Xfx, .rd kF afy nfy Xfy, .sl (some ⟨bn, 0, none⟩) [.func (.func f) us.toArray xs.toArray]] := Bu.initW (W := [.blk bo [.slice aq nq cq] 24, .ow kF aq nq cq 35 Xq]) (R := [.rd kF asp nsp Xsp, .rd kF als nls Xls, .rd kF afe nfe Xfe, .rd kF afx nfx Xfx, .rd kF afy nfy Xfy, .sl (some ⟨bn, 0, none⟩) [.func (.func f) us.toArray xs.toArray]]) HA HP rfl
  have hlq := (B.o 1 rfl).len
  have hlsp := (B.r 2 rfl).len
  have hlls := (B.r 3 rfl).len
  have hlfe := (B.r 4 rfl).len
  have hlfx := (B.r 5 rfl).len
  have hlfy := (B.r 6 rfl).len
  refine calls_W (n := 34) Try.func75 rfl rfl (Nat.le_of_ble_eq_true rfl) ?_
  refine W_seq ?_
  refine W_region (by kernel_rfl) ?_
  refine s_k rfl (k_boxN (v := .agg #[.int .i64 wd, .int .i64 hi, .bool wr, .slice asp nsp csp, .slice als nls cls]) (cs := [.int .i64 wd, .int .i64 hi, .bool wr, .slice asp nsp csp, .slice als nls cls]) rfl rfl (fun b1 w2 hN3 => ?_))
  replace B := B.new1 hN3
  clear hN3
  refine s_k rfl (k_boxN (v := .agg #[.slice afe nfe cfe, .slice afx nfx cfx, .slice afy nfy cfy]) (cs := [.slice afe nfe cfe, .slice afx nfx cfx, .slice afy nfy cfy]) rfl rfl (fun b4 w5 hN6 => ?_))
  replace B := B.new1 hN6
  clear hN6
  refine s_k rfl (k_allocN (z := (.agg #[.slice none 0 0, .slice none 0 0, .slice none 0 0])) (cs := [.slice none 0 0, .slice none 0 0, .slice none 0 0]) T119.zero_29 rfl (fun b7 w8 hN9 => ?_))
  replace B := B.new1 hN9
  clear hN9
  refine s_y (v := .bool false) rfl (y_assign rfl) ?_
  refine s_nil ?_
  refine W_seq ?_
  refine W_seq ?_
  refine W_region (by kernel_rfl) ?_
  refine s_y (v := .agg #[.int .i64 wd, .int .i64 hi, .bool wr, .slice asp nsp csp, .slice als nls cls]) rfl (y_loadn (b := b1) (o := 0) (vs := [.int .i64 wd, .int .i64 hi, .bool wr, .slice asp nsp csp, .slice als nls cls]) T119.agg_26_5 rfl rfl ((B.b 2 rfl).cells (o := 0) rfl)) ?_
  refine s_y (v := .agg #[.slice afe nfe cfe, .slice afx nfx cfx, .slice afy nfy cfy]) rfl (y_loadn (b := b4) (o := 0) (vs := [.slice afe nfe cfe, .slice afx nfx cfx, .slice afy nfy cfy]) T119.agg_29_3 rfl rfl ((B.b 1 rfl).cells (o := 0) rfl)) ?_
  refine s_k rfl (k_call T119.fn_28 (c_i_IsField (B.r 5 rfl) (B.r 6 rfl) (B.r 7 rfl) (B.r 8 rfl) (B.r 9 rfl) (by omega) (by omega) (by omega) (by omega) (by omega)) rfl ?_)
  rintro v12 w10 ⟨hv13, e11⟩
  replace B := B.ext0 e11
  clear e11
  by_cases c14 : fieldB wd hi wr Xsp Xls Xfe Xfx Xfy = true
  · have hb15 := fieldB_b c14
    obtain rfl : v12 = .bool true := hv13.trans (congrArg Value.bool c14)
    refine s_y (v := .bool false) rfl (y_not rfl rfl) ?_
    refine s_y (v := .bool false) rfl (y_move rfl) ?_
    refine s_y (v := .int .i64 m) rfl (y_move rfl) ?_
    refine s_k rfl (k_call T119.fn_123 (c_i_within) rfl ?_)
    rintro v18 w16 ⟨hv19, e17⟩
    replace B := B.ext0 e17
    clear e17
    by_cases c20 : within m 0 64 = true
    · have hb21 := within_b c20
      obtain rfl : v18 = .bool true := hv19.trans (congrArg Value.bool c20)
      refine s_y (v := .bool false) rfl (y_not rfl rfl) ?_
      refine s_y (v := .bool false) rfl (y_pick_f rfl rfl) ?_
      refine s_nil ?_
      refine W_if_f (by decide) rfl ?_
      refine W_skip ?_
      refine W_seq ?_
      refine W_region (by kernel_rfl) ?_
      refine s_y (v := .agg #[.slice afe nfe cfe, .slice afx nfx cfx, .slice afy nfy cfy]) rfl (y_loadn (b := b4) (o := 0) (vs := [.slice afe nfe cfe, .slice afx nfx cfx, .slice afy nfy cfy]) T119.agg_29_3 rfl rfl ((B.b 1 rfl).cells (o := 0) rfl)) ?_
      refine s_k rfl (k_call T119.fn_100 (c_i_copyField (B.r 7 rfl) (B.r 8 rfl) (B.r 9 rfl) (by omega) (by omega) (by omega)) rfl ?_)
      rintro _ w22 ⟨a23, c24, a25, c26, a27, c28, rfl, hN29⟩
      replace B := B.new3 hN29
      clear hN29
      refine s_k rfl (k_allocN (z := (.agg #[.slice none 0 0, .slice none 0 0, .slice none 0 0])) (cs := [.slice none 0 0, .slice none 0 0, .slice none 0 0]) T119.zero_29 rfl (fun b30 w31 hN32 => ?_))
      replace B := B.new1 hN32
      clear hN32
      refine s_k0 rfl (k_stB (v := .agg #[.slice a23 nfe c24, .slice a25 nfx c26, .slice a27 nfy c28]) (n := 3) (cs' := [.slice a23 nfe c24, .slice a25 nfx c26, .slice a27 nfy c28]) T119.sz_29_3 rfl rfl rfl (B.b 0 rfl) (by simp [Value.cells, Value.oneCell']) (Nat.le_of_ble_eq_true rfl) rfl (fun w33 hU34 => ?_))
      replace B : Bu w (hasW [.blk bo [.slice aq nq cq] 24, .ow kF aq nq cq 35 Xq]) w33 [.blk b30 [.slice a23 nfe c24, .slice a25 nfx c26, .slice a27 nfy c28] 29, .ow kF a23 nfe c24 35 Xfe, .ow kF a25 nfx c26 35 Xfx, .ow kF a27 nfy c28 35 Xfy, .blk b7 [.slice none 0 0, .slice none 0 0, .slice none 0 0] 29, .blk b4 [.slice afe nfe cfe, .slice afx nfx cfx, .slice afy nfy cfy] 29, .blk b1 [.int .i64 wd, .int .i64 hi, .bool wr, .slice asp nsp csp, .slice als nls cls] 26, .blk bo [.slice aq nq cq] 24, .ow kF aq nq cq 35 Xq, .rd kF asp nsp Xsp, .rd kF als nls Xls, .rd kF afe nfe Xfe, .rd kF afx nfx Xfx, .rd kF afy nfy Xfy, .sl (some ⟨bn, 0, none⟩) [.func (.func f) us.toArray xs.toArray]] := B.upd [0] rfl hU34
      clear hU34
      refine s_nil ?_
      refine W_seq ?_
      refine W_seq ?_
      refine W_region (by kernel_rfl) ?_
      refine s_y (v := .int .i64 m) rfl (y_move rfl) ?_
      refine s_y (v := .int .i64 0) rfl (y_move rfl) ?_
      refine s_nil ?_
      refine W_block ?_
      have hrunf := c14
      refine W_loop (fun ρ' w' => ∃ (ρ1 : Env) (k : Int) (A1 : Option Addr) (A2 : Option Addr) (A3 : Option Addr) (C1 : Nat) (C2 : Nat) (C3 : Nat) (A9 : Option Addr) (N9 : Nat) (C9 : Nat), ρ' = updL ρ1 [(3, .func (.func 142) #[] #[.pointer (some ⟨bo, 0, none⟩), .pointer (some ⟨bn, 0, none⟩)]), (4, .pointer (some ⟨b1, 0, none⟩)), (8, .pointer (some ⟨b7, 0, none⟩)), (9, .bool false), (10, .pointer (some ⟨b30, 0, none⟩)), (23, .int .i64 m), (24, .int .i64 k)] ∧ Bu w (hasW [.blk bo [.slice aq nq cq] 24, .ow kF aq nq cq 35 Xq]) w' [.ow kF A1 nfe C1 35 ((rnT wd hi wr Xsp Xls (Xfe, Xfx, Xfy) (Int.toNat k)).1), .ow kF A2 nfx C2 35 ((rnT wd hi wr Xsp Xls (Xfe, Xfx, Xfy) (Int.toNat k)).2.1), .ow kF A3 nfy C3 35 ((rnT wd hi wr Xsp Xls (Xfe, Xfx, Xfy) (Int.toNat k)).2.2), .ow kF A9 N9 C9 35 (Xq ++ trL wd hi wr Xsp Xls (Xfe, Xfx, Xfy) FN k), .blk b30 [.slice A1 nfe C1, .slice A2 nfx C2, .slice A3 nfy C3] 29, .blk b7 [.slice none 0 0, .slice none 0 0, .slice none 0 0] 29, .blk b4 [.slice afe nfe cfe, .slice afx nfx cfx, .slice afy nfy cfy] 29, .blk b1 [.int .i64 wd, .int .i64 hi, .bool wr, .slice asp nsp csp, .slice als nls cls] 26, .blk bo [.slice A9 N9 C9] 24, .rd kF asp nsp Xsp, .rd kF als nls Xls, .rd kF afe nfe Xfe, .rd kF afx nfx Xfx, .rd kF afy nfy Xfy, .sl (some ⟨bn, 0, none⟩) [.func (.func f) us.toArray xs.toArray]] ∧ (0 ≤ k) ∧ (k ≤ m)) (fun ρ' _ => (m - iv (ρ' 24)).toNat) ?_ ?_
      · replace B : Bu w (hasW [.blk bo [.slice aq nq cq] 24, .ow kF aq nq cq 35 Xq]) w33 [.blk b30 [.slice a23 nfe c24, .slice a25 nfx c26, .slice a27 nfy c28] 29, .ow kF a23 nfe c24 35 ((rnT wd hi wr Xsp Xls (Xfe, Xfx, Xfy) (Int.toNat 0)).1), .ow kF a25 nfx c26 35 Xfx, .ow kF a27 nfy c28 35 Xfy, .blk b7 [.slice none 0 0, .slice none 0 0, .slice none 0 0] 29, .blk b4 [.slice afe nfe cfe, .slice afx nfx cfx, .slice afy nfy cfy] 29, .blk b1 [.int .i64 wd, .int .i64 hi, .bool wr, .slice asp nsp csp, .slice als nls cls] 26, .blk bo [.slice aq nq cq] 24, .ow kF aq nq cq 35 Xq, .rd kF asp nsp Xsp, .rd kF als nls Xls, .rd kF afe nfe Xfe, .rd kF afx nfx Xfx, .rd kF afy nfy Xfy, .sl (some ⟨bn, 0, none⟩) [.func (.func f) us.toArray xs.toArray]] := B.castX 1 rfl rfl rfl
        replace B : Bu w (hasW [.blk bo [.slice aq nq cq] 24, .ow kF aq nq cq 35 Xq]) w33 [.blk b30 [.slice a23 nfe c24, .slice a25 nfx c26, .slice a27 nfy c28] 29, .ow kF a23 nfe c24 35 ((rnT wd hi wr Xsp Xls (Xfe, Xfx, Xfy) (Int.toNat 0)).1), .ow kF a25 nfx c26 35 ((rnT wd hi wr Xsp Xls (Xfe, Xfx, Xfy) (Int.toNat 0)).2.1), .ow kF a27 nfy c28 35 Xfy, .blk b7 [.slice none 0 0, .slice none 0 0, .slice none 0 0] 29, .blk b4 [.slice afe nfe cfe, .slice afx nfx cfx, .slice afy nfy cfy] 29, .blk b1 [.int .i64 wd, .int .i64 hi, .bool wr, .slice asp nsp csp, .slice als nls cls] 26, .blk bo [.slice aq nq cq] 24, .ow kF aq nq cq 35 Xq, .rd kF asp nsp Xsp, .rd kF als nls Xls, .rd kF afe nfe Xfe, .rd kF afx nfx Xfx, .rd kF afy nfy Xfy, .sl (some ⟨bn, 0, none⟩) [.func (.func f) us.toArray xs.toArray]] := B.castX 2 rfl rfl rfl
        replace B : Bu w (hasW [.blk bo [.slice aq nq cq] 24, .ow kF aq nq cq 35 Xq]) w33 [.blk b30 [.slice a23 nfe c24, .slice a25 nfx c26, .slice a27 nfy c28] 29, .ow kF a23 nfe c24 35 ((rnT wd hi wr Xsp Xls (Xfe, Xfx, Xfy) (Int.toNat 0)).1), .ow kF a25 nfx c26 35 ((rnT wd hi wr Xsp Xls (Xfe, Xfx, Xfy) (Int.toNat 0)).2.1), .ow kF a27 nfy c28 35 ((rnT wd hi wr Xsp Xls (Xfe, Xfx, Xfy) (Int.toNat 0)).2.2), .blk b7 [.slice none 0 0, .slice none 0 0, .slice none 0 0] 29, .blk b4 [.slice afe nfe cfe, .slice afx nfx cfx, .slice afy nfy cfy] 29, .blk b1 [.int .i64 wd, .int .i64 hi, .bool wr, .slice asp nsp csp, .slice als nls cls] 26, .blk bo [.slice aq nq cq] 24, .ow kF aq nq cq 35 Xq, .rd kF asp nsp Xsp, .rd kF als nls Xls, .rd kF afe nfe Xfe, .rd kF afx nfx Xfx, .rd kF afy nfy Xfy, .sl (some ⟨bn, 0, none⟩) [.func (.func f) us.toArray xs.toArray]] := B.castX 3 rfl rfl rfl
        replace B : Bu w (hasW [.blk bo [.slice aq nq cq] 24, .ow kF aq nq cq 35 Xq]) w33 [.blk b30 [.slice a23 nfe c24, .slice a25 nfx c26, .slice a27 nfy c28] 29, .ow kF a23 nfe c24 35 ((rnT wd hi wr Xsp Xls (Xfe, Xfx, Xfy) (Int.toNat 0)).1), .ow kF a25 nfx c26 35 ((rnT wd hi wr Xsp Xls (Xfe, Xfx, Xfy) (Int.toNat 0)).2.1), .ow kF a27 nfy c28 35 ((rnT wd hi wr Xsp Xls (Xfe, Xfx, Xfy) (Int.toNat 0)).2.2), .blk b7 [.slice none 0 0, .slice none 0 0, .slice none 0 0] 29, .blk b4 [.slice afe nfe cfe, .slice afx nfx cfx, .slice afy nfy cfy] 29, .blk b1 [.int .i64 wd, .int .i64 hi, .bool wr, .slice asp nsp csp, .slice als nls cls] 26, .blk bo [.slice aq nq cq] 24, .ow kF aq nq cq 35 (Xq ++ trL wd hi wr Xsp Xls (Xfe, Xfx, Xfy) FN 0), .rd kF asp nsp Xsp, .rd kF als nls Xls, .rd kF afe nfe Xfe, .rd kF afx nfx Xfx, .rd kF afy nfy Xfy, .sl (some ⟨bn, 0, none⟩) [.func (.func f) us.toArray xs.toArray]] := B.castX 8 rfl rfl (List.append_nil _).symm
        exact ⟨_, 0, a23, a25, a27, c24, c26, c28, aq, nq, cq, Fits.eq ⟨rfl, rfl, rfl, rfl, rfl, rfl, rfl, trivial⟩, (B.pick [1, 2, 3, 8, 0, 4, 5, 6, 7, 9, 10, 11, 12, 13, 14] rfl rfl), (Int.le_refl _), (by omega)⟩
      · clear B; rintro _ w35 ⟨ρ36, k, A1, A2, A3, C1, C2, C3, A9, N9, C9, rfl, B, h0k, h1k⟩
        have hN9 := (B.o 3 rfl).len
        rw [List.length_append, trL_len] at hN9
        refine W_seq ?_
        refine W_region (by kernel_rfl) ?_
        by_cases c37 : k < m
        · refine s_y (v := .bool true) rfl (y_lss rfl rfl (decide_eq_true c37)) ?_
          refine s_nil ?_
          refine W_seq ?_
          refine W_if_t (by decide) rfl ?_
          refine W_skip ?_
          refine W_seq ?_
          refine W_block ?_
          refine W_seq ?_
          refine W_region (by kernel_rfl) ?_
          refine s_y (v := .agg #[.int .i64 wd, .int .i64 hi, .bool wr, .slice asp nsp csp, .slice als nls cls]) rfl (y_loadn (b := b1) (o := 0) (vs := [.int .i64 wd, .int .i64 hi, .bool wr, .slice asp nsp csp, .slice als nls cls]) T119.agg_26_5 rfl rfl ((B.b 7 rfl).cells (o := 0) rfl)) ?_
          refine s_y (v := .agg #[.slice A1 nfe C1, .slice A2 nfx C2, .slice A3 nfy C3]) rfl (y_loadn (b := b30) (o := 0) (vs := [.slice A1 nfe C1, .slice A2 nfx C2, .slice A3 nfy C3]) T119.agg_29_3 rfl rfl ((B.b 4 rfl).cells (o := 0) rfl)) ?_
          refine s_k rfl (k_call T119.fn_125 (c_i_stepped (B.r 9 rfl) (B.r 10 rfl) ((B.o 0 rfl).rd) ((B.o 1 rfl).rd) ((B.o 2 rfl).rd) (by omega) (by omega) (by omega) (by omega) (by omega) (by omega) (by omega) (by omega) (by omega)) rfl ?_)
          rintro _ w38 ⟨a39, c40, a41, c42, a43, c44, rfl, hN45⟩
          replace B := B.new3 hN45
          clear hN45
          refine s_k0 rfl (k_stB (v := .agg #[.slice a39 nfe c40, .slice a41 nfx c42, .slice a43 nfy c44]) (n := 3) (cs' := [.slice a39 nfe c40, .slice a41 nfx c42, .slice a43 nfy c44]) T119.sz_29_3 rfl rfl rfl (B.b 7 rfl) (by simp [Value.cells, Value.oneCell']) (Nat.le_of_ble_eq_true rfl) rfl (fun w46 hU47 => ?_))
          replace B : Bu w (hasW [.blk bo [.slice aq nq cq] 24, .ow kF aq nq cq 35 Xq]) w46 [.blk b30 [.slice a39 nfe c40, .slice a41 nfx c42, .slice a43 nfy c44] 29, .ow kF a39 nfe c40 35 (nwL wd hi wr Xsp Xls ((rnT wd hi wr Xsp Xls (Xfe, Xfx, Xfy) (Int.toNat k)).1) (hxL wd hi wr ((rnT wd hi wr Xsp Xls (Xfe, Xfx, Xfy) (Int.toNat k)).1) ((rnT wd hi wr Xsp Xls (Xfe, Xfx, Xfy) (Int.toNat k)).2.1)) (hyL wd hi wr ((rnT wd hi wr Xsp Xls (Xfe, Xfx, Xfy) (Int.toNat k)).1) ((rnT wd hi wr Xsp Xls (Xfe, Xfx, Xfy) (Int.toNat k)).2.2))), .ow kF a41 nfx c42 35 (hxL wd hi wr ((rnT wd hi wr Xsp Xls (Xfe, Xfx, Xfy) (Int.toNat k)).1) ((rnT wd hi wr Xsp Xls (Xfe, Xfx, Xfy) (Int.toNat k)).2.1)), .ow kF a43 nfy c44 35 (hyL wd hi wr ((rnT wd hi wr Xsp Xls (Xfe, Xfx, Xfy) (Int.toNat k)).1) ((rnT wd hi wr Xsp Xls (Xfe, Xfx, Xfy) (Int.toNat k)).2.2)), .ow kF A1 nfe C1 35 ((rnT wd hi wr Xsp Xls (Xfe, Xfx, Xfy) (Int.toNat k)).1), .ow kF A2 nfx C2 35 ((rnT wd hi wr Xsp Xls (Xfe, Xfx, Xfy) (Int.toNat k)).2.1), .ow kF A3 nfy C3 35 ((rnT wd hi wr Xsp Xls (Xfe, Xfx, Xfy) (Int.toNat k)).2.2), .ow kF A9 N9 C9 35 (Xq ++ trL wd hi wr Xsp Xls (Xfe, Xfx, Xfy) FN k), .blk b7 [.slice none 0 0, .slice none 0 0, .slice none 0 0] 29, .blk b4 [.slice afe nfe cfe, .slice afx nfx cfx, .slice afy nfy cfy] 29, .blk b1 [.int .i64 wd, .int .i64 hi, .bool wr, .slice asp nsp csp, .slice als nls cls] 26, .blk bo [.slice A9 N9 C9] 24, .rd kF asp nsp Xsp, .rd kF als nls Xls, .rd kF afe nfe Xfe, .rd kF afx nfx Xfx, .rd kF afy nfy Xfy, .sl (some ⟨bn, 0, none⟩) [.func (.func f) us.toArray xs.toArray]] := B.upd [7] rfl hU47
          clear hU47
          refine s_nil ?_
          refine W_region (by kernel_rfl) ?_
          refine s_y (v := .func (.func 142) #[] #[.pointer (some ⟨bo, 0, none⟩), .pointer (some ⟨bn, 0, none⟩)]) rfl (y_move rfl) ?_
          refine s_y (v := .agg #[.slice a39 nfe c40, .slice a41 nfx c42, .slice a43 nfy c44]) rfl (y_loadn (b := b30) (o := 0) (vs := [.slice a39 nfe c40, .slice a41 nfx c42, .slice a43 nfy c44]) T119.agg_29_3 rfl rfl ((B.b 0 rfl).cells (o := 0) rfl)) ?_
          have Bt := B.weakO 1 rfl
          have Bt := Bt.weakO 2 rfl
          have Bt := Bt.weakO 3 rfl
          refine s_k rfl (k_callv (us := []) (vs := [.agg #[.slice a39 nfe c40, .slice a41 nfx c42, .slice a43 nfy c44]]) (xs := [.pointer (some ⟨bo, 0, none⟩), .pointer (some ⟨bn, 0, none⟩)]) T119.fn_142 rfl (c_i_traceBy_1 (f := f) (us := us) (xs := xs) (FN := FN) hfB (fun {w1} e => hF (B.out [11, 7] rfl e) (B.keepO [11, 7] rfl 1 rfl rfl e) (B.keepO [11, 7] rfl 2 rfl rfl e) (B.keepO [11, 7] rfl 3 rfl rfl e) hrunf) (by omega) (Bt.all.pick [11, 7, 1, 2, 3, 17] rfl) (Bt.pw.pick [11, 7, 1, 2, 3, 17] rfl rfl)) rfl ?_)
          rintro _ w48 ⟨a50, c51, rfl, hU49⟩
          replace B : Bu w (hasW [.blk bo [.slice aq nq cq] 24, .ow kF aq nq cq 35 Xq]) w48 [.blk bo [.slice a50 (N9 + 1) c51] 24, .ow kF a50 (N9 + 1) c51 35 ((Xq ++ trL wd hi wr Xsp Xls (Xfe, Xfx, Xfy) FN k) ++ [FN ((nwL wd hi wr Xsp Xls ((rnT wd hi wr Xsp Xls (Xfe, Xfx, Xfy) (Int.toNat k)).1) (hxL wd hi wr ((rnT wd hi wr Xsp Xls (Xfe, Xfx, Xfy) (Int.toNat k)).1) ((rnT wd hi wr Xsp Xls (Xfe, Xfx, Xfy) (Int.toNat k)).2.1)) (hyL wd hi wr ((rnT wd hi wr Xsp Xls (Xfe, Xfx, Xfy) (Int.toNat k)).1) ((rnT wd hi wr Xsp Xls (Xfe, Xfx, Xfy) (Int.toNat k)).2.2))), (hxL wd hi wr ((rnT wd hi wr Xsp Xls (Xfe, Xfx, Xfy) (Int.toNat k)).1) ((rnT wd hi wr Xsp Xls (Xfe, Xfx, Xfy) (Int.toNat k)).2.1)), (hyL wd hi wr ((rnT wd hi wr Xsp Xls (Xfe, Xfx, Xfy) (Int.toNat k)).1) ((rnT wd hi wr Xsp Xls (Xfe, Xfx, Xfy) (Int.toNat k)).2.2)))]), .blk b30 [.slice a39 nfe c40, .slice a41 nfx c42, .slice a43 nfy c44] 29, .ow kF a39 nfe c40 35 (nwL wd hi wr Xsp Xls ((rnT wd hi wr Xsp Xls (Xfe, Xfx, Xfy) (Int.toNat k)).1) (hxL wd hi wr ((rnT wd hi wr Xsp Xls (Xfe, Xfx, Xfy) (Int.toNat k)).1) ((rnT wd hi wr Xsp Xls (Xfe, Xfx, Xfy) (Int.toNat k)).2.1)) (hyL wd hi wr ((rnT wd hi wr Xsp Xls (Xfe, Xfx, Xfy) (Int.toNat k)).1) ((rnT wd hi wr Xsp Xls (Xfe, Xfx, Xfy) (Int.toNat k)).2.2))), .ow kF a41 nfx c42 35 (hxL wd hi wr ((rnT wd hi wr Xsp Xls (Xfe, Xfx, Xfy) (Int.toNat k)).1) ((rnT wd hi wr Xsp Xls (Xfe, Xfx, Xfy) (Int.toNat k)).2.1)), .ow kF a43 nfy c44 35 (hyL wd hi wr ((rnT wd hi wr Xsp Xls (Xfe, Xfx, Xfy) (Int.toNat k)).1) ((rnT wd hi wr Xsp Xls (Xfe, Xfx, Xfy) (Int.toNat k)).2.2)), .ow kF A1 nfe C1 35 ((rnT wd hi wr Xsp Xls (Xfe, Xfx, Xfy) (Int.toNat k)).1), .ow kF A2 nfx C2 35 ((rnT wd hi wr Xsp Xls (Xfe, Xfx, Xfy) (Int.toNat k)).2.1), .ow kF A3 nfy C3 35 ((rnT wd hi wr Xsp Xls (Xfe, Xfx, Xfy) (Int.toNat k)).2.2), .blk b7 [.slice none 0 0, .slice none 0 0, .slice none 0 0] 29, .blk b4 [.slice afe nfe cfe, .slice afx nfx cfx, .slice afy nfy cfy] 29, .blk b1 [.int .i64 wd, .int .i64 hi, .bool wr, .slice asp nsp csp, .slice als nls cls] 26, .rd kF asp nsp Xsp, .rd kF als nls Xls, .rd kF afe nfe Xfe, .rd kF afx nfx Xfx, .rd kF afy nfy Xfy, .sl (some ⟨bn, 0, none⟩) [.func (.func f) us.toArray xs.toArray]] := B.upd [11, 7] rfl hU49
          clear hU49
          refine s_nil ?_
          refine W_region (by kernel_rfl) ?_
          refine s_y (v := .int .i64 (k + 1)) rfl (y_add rfl rfl rfl (by omega)) ?_
          refine s_y (v := .int .i64 (k + 1)) rfl (y_move rfl) ?_
          refine s_nil ?_
          replace B : Bu w (hasW [.blk bo [.slice aq nq cq] 24, .ow kF aq nq cq 35 Xq]) w48 [.blk bo [.slice a50 (N9 + 1) c51] 24, .ow kF a50 (N9 + 1) c51 35 ((Xq ++ trL wd hi wr Xsp Xls (Xfe, Xfx, Xfy) FN k) ++ [FN ((nwL wd hi wr Xsp Xls ((rnT wd hi wr Xsp Xls (Xfe, Xfx, Xfy) (Int.toNat k)).1) (hxL wd hi wr ((rnT wd hi wr Xsp Xls (Xfe, Xfx, Xfy) (Int.toNat k)).1) ((rnT wd hi wr Xsp Xls (Xfe, Xfx, Xfy) (Int.toNat k)).2.1)) (hyL wd hi wr ((rnT wd hi wr Xsp Xls (Xfe, Xfx, Xfy) (Int.toNat k)).1) ((rnT wd hi wr Xsp Xls (Xfe, Xfx, Xfy) (Int.toNat k)).2.2))), (hxL wd hi wr ((rnT wd hi wr Xsp Xls (Xfe, Xfx, Xfy) (Int.toNat k)).1) ((rnT wd hi wr Xsp Xls (Xfe, Xfx, Xfy) (Int.toNat k)).2.1)), (hyL wd hi wr ((rnT wd hi wr Xsp Xls (Xfe, Xfx, Xfy) (Int.toNat k)).1) ((rnT wd hi wr Xsp Xls (Xfe, Xfx, Xfy) (Int.toNat k)).2.2)))]), .blk b30 [.slice a39 nfe c40, .slice a41 nfx c42, .slice a43 nfy c44] 29, .ow kF a39 nfe c40 35 ((rnT wd hi wr Xsp Xls (Xfe, Xfx, Xfy) (Int.toNat (k + 1))).1), .ow kF a41 nfx c42 35 (hxL wd hi wr ((rnT wd hi wr Xsp Xls (Xfe, Xfx, Xfy) (Int.toNat k)).1) ((rnT wd hi wr Xsp Xls (Xfe, Xfx, Xfy) (Int.toNat k)).2.1)), .ow kF a43 nfy c44 35 (hyL wd hi wr ((rnT wd hi wr Xsp Xls (Xfe, Xfx, Xfy) (Int.toNat k)).1) ((rnT wd hi wr Xsp Xls (Xfe, Xfx, Xfy) (Int.toNat k)).2.2)), .ow kF A1 nfe C1 35 ((rnT wd hi wr Xsp Xls (Xfe, Xfx, Xfy) (Int.toNat k)).1), .ow kF A2 nfx C2 35 ((rnT wd hi wr Xsp Xls (Xfe, Xfx, Xfy) (Int.toNat k)).2.1), .ow kF A3 nfy C3 35 ((rnT wd hi wr Xsp Xls (Xfe, Xfx, Xfy) (Int.toNat k)).2.2), .blk b7 [.slice none 0 0, .slice none 0 0, .slice none 0 0] 29, .blk b4 [.slice afe nfe cfe, .slice afx nfx cfx, .slice afy nfy cfy] 29, .blk b1 [.int .i64 wd, .int .i64 hi, .bool wr, .slice asp nsp csp, .slice als nls cls] 26, .rd kF asp nsp Xsp, .rd kF als nls Xls, .rd kF afe nfe Xfe, .rd kF afx nfx Xfx, .rd kF afy nfy Xfy, .sl (some ⟨bn, 0, none⟩) [.func (.func f) us.toArray xs.toArray]] := B.castX 3 rfl rfl (congrArg (fun q : Fld => q.1) (rnT_next (by omega)))
          replace B : Bu w (hasW [.blk bo [.slice aq nq cq] 24, .ow kF aq nq cq 35 Xq]) w48 [.blk bo [.slice a50 (N9 + 1) c51] 24, .ow kF a50 (N9 + 1) c51 35 ((Xq ++ trL wd hi wr Xsp Xls (Xfe, Xfx, Xfy) FN k) ++ [FN ((nwL wd hi wr Xsp Xls ((rnT wd hi wr Xsp Xls (Xfe, Xfx, Xfy) (Int.toNat k)).1) (hxL wd hi wr ((rnT wd hi wr Xsp Xls (Xfe, Xfx, Xfy) (Int.toNat k)).1) ((rnT wd hi wr Xsp Xls (Xfe, Xfx, Xfy) (Int.toNat k)).2.1)) (hyL wd hi wr ((rnT wd hi wr Xsp Xls (Xfe, Xfx, Xfy) (Int.toNat k)).1) ((rnT wd hi wr Xsp Xls (Xfe, Xfx, Xfy) (Int.toNat k)).2.2))), (hxL wd hi wr ((rnT wd hi wr Xsp Xls (Xfe, Xfx, Xfy) (Int.toNat k)).1) ((rnT wd hi wr Xsp Xls (Xfe, Xfx, Xfy) (Int.toNat k)).2.1)), (hyL wd hi wr ((rnT wd hi wr Xsp Xls (Xfe, Xfx, Xfy) (Int.toNat k)).1) ((rnT wd hi wr Xsp Xls (Xfe, Xfx, Xfy) (Int.toNat k)).2.2)))]), .blk b30 [.slice a39 nfe c40, .slice a41 nfx c42, .slice a43 nfy c44] 29, .ow kF a39 nfe c40 35 ((rnT wd hi wr Xsp Xls (Xfe, Xfx, Xfy) (Int.toNat (k + 1))).1), .ow kF a41 nfx c42 35 ((rnT wd hi wr Xsp Xls (Xfe, Xfx, Xfy) (Int.toNat (k + 1))).2.1), .ow kF a43 nfy c44 35 (hyL wd hi wr ((rnT wd hi wr Xsp Xls (Xfe, Xfx, Xfy) (Int.toNat k)).1) ((rnT wd hi wr Xsp Xls (Xfe, Xfx, Xfy) (Int.toNat k)).2.2)), .ow kF A1 nfe C1 35 ((rnT wd hi wr Xsp Xls (Xfe, Xfx, Xfy) (Int.toNat k)).1), .ow kF A2 nfx C2 35 ((rnT wd hi wr Xsp Xls (Xfe, Xfx, Xfy) (Int.toNat k)).2.1), .ow kF A3 nfy C3 35 ((rnT wd hi wr Xsp Xls (Xfe, Xfx, Xfy) (Int.toNat k)).2.2), .blk b7 [.slice none 0 0, .slice none 0 0, .slice none 0 0] 29, .blk b4 [.slice afe nfe cfe, .slice afx nfx cfx, .slice afy nfy cfy] 29, .blk b1 [.int .i64 wd, .int .i64 hi, .bool wr, .slice asp nsp csp, .slice als nls cls] 26, .rd kF asp nsp Xsp, .rd kF als nls Xls, .rd kF afe nfe Xfe, .rd kF afx nfx Xfx, .rd kF afy nfy Xfy, .sl (some ⟨bn, 0, none⟩) [.func (.func f) us.toArray xs.toArray]] := B.castX 4 rfl rfl (congrArg (fun q : Fld => q.2.1) (rnT_next (by omega)))
          replace B : Bu w (hasW [.blk bo [.slice aq nq cq] 24, .ow kF aq nq cq 35 Xq]) w48 [.blk bo [.slice a50 (N9 + 1) c51] 24, .ow kF a50 (N9 + 1) c51 35 ((Xq ++ trL wd hi wr Xsp Xls (Xfe, Xfx, Xfy) FN k) ++ [FN ((nwL wd hi wr Xsp Xls ((rnT wd hi wr Xsp Xls (Xfe, Xfx, Xfy) (Int.toNat k)).1) (hxL wd hi wr ((rnT wd hi wr Xsp Xls (Xfe, Xfx, Xfy) (Int.toNat k)).1) ((rnT wd hi wr Xsp Xls (Xfe, Xfx, Xfy) (Int.toNat k)).2.1)) (hyL wd hi wr ((rnT wd hi wr Xsp Xls (Xfe, Xfx, Xfy) (Int.toNat k)).1) ((rnT wd hi wr Xsp Xls (Xfe, Xfx, Xfy) (Int.toNat k)).2.2))), (hxL wd hi wr ((rnT wd hi wr Xsp Xls (Xfe, Xfx, Xfy) (Int.toNat k)).1) ((rnT wd hi wr Xsp Xls (Xfe, Xfx, Xfy) (Int.toNat k)).2.1)), (hyL wd hi wr ((rnT wd hi wr Xsp Xls (Xfe, Xfx, Xfy) (Int.toNat k)).1) ((rnT wd hi wr Xsp Xls (Xfe, Xfx, Xfy) (Int.toNat k)).2.2)))]), .blk b30 [.slice a39 nfe c40, .slice a41 nfx c42, .slice a43 nfy c44] 29, .ow kF a39 nfe c40 35 ((rnT wd hi wr Xsp Xls (Xfe, Xfx, Xfy) (Int.toNat (k + 1))).1), .ow kF a41 nfx c42 35 ((rnT wd hi wr Xsp Xls (Xfe, Xfx, Xfy) (Int.toNat (k + 1))).2.1), .ow kF a43 nfy c44 35 ((rnT wd hi wr Xsp Xls (Xfe, Xfx, Xfy) (Int.toNat (k + 1))).2.2), .ow kF A1 nfe C1 35 ((rnT wd hi wr Xsp Xls (Xfe, Xfx, Xfy) (Int.toNat k)).1), .ow kF A2 nfx C2 35 ((rnT wd hi wr Xsp Xls (Xfe, Xfx, Xfy) (Int.toNat k)).2.1), .ow kF A3 nfy C3 35 ((rnT wd hi wr Xsp Xls (Xfe, Xfx, Xfy) (Int.toNat k)).2.2), .blk b7 [.slice none 0 0, .slice none 0 0, .slice none 0 0] 29, .blk b4 [.slice afe nfe cfe, .slice afx nfx cfx, .slice afy nfy cfy] 29, .blk b1 [.int .i64 wd, .int .i64 hi, .bool wr, .slice asp nsp csp, .slice als nls cls] 26, .rd kF asp nsp Xsp, .rd kF als nls Xls, .rd kF afe nfe Xfe, .rd kF afx nfx Xfx, .rd kF afy nfy Xfy, .sl (some ⟨bn, 0, none⟩) [.func (.func f) us.toArray xs.toArray]] := B.castX 5 rfl rfl (congrArg (fun q : Fld => q.2.2) (rnT_next (by omega)))
          replace B : Bu w (hasW [.blk bo [.slice aq nq cq] 24, .ow kF aq nq cq 35 Xq]) w48 [.blk bo [.slice a50 (N9 + 1) c51] 24, .ow kF a50 (N9 + 1) c51 35 (Xq ++ trL wd hi wr Xsp Xls (Xfe, Xfx, Xfy) FN (k + 1)), .blk b30 [.slice a39 nfe c40, .slice a41 nfx c42, .slice a43 nfy c44] 29, .ow kF a39 nfe c40 35 ((rnT wd hi wr Xsp Xls (Xfe, Xfx, Xfy) (Int.toNat (k + 1))).1), .ow kF a41 nfx c42 35 ((rnT wd hi wr Xsp Xls (Xfe, Xfx, Xfy) (Int.toNat (k + 1))).2.1), .ow kF a43 nfy c44 35 ((rnT wd hi wr Xsp Xls (Xfe, Xfx, Xfy) (Int.toNat (k + 1))).2.2), .ow kF A1 nfe C1 35 ((rnT wd hi wr Xsp Xls (Xfe, Xfx, Xfy) (Int.toNat k)).1), .ow kF A2 nfx C2 35 ((rnT wd hi wr Xsp Xls (Xfe, Xfx, Xfy) (Int.toNat k)).2.1), .ow kF A3 nfy C3 35 ((rnT wd hi wr Xsp Xls (Xfe, Xfx, Xfy) (Int.toNat k)).2.2), .blk b7 [.slice none 0 0, .slice none 0 0, .slice none 0 0] 29, .blk b4 [.slice afe nfe cfe, .slice afx nfx cfx, .slice afy nfy cfy] 29, .blk b1 [.int .i64 wd, .int .i64 hi, .bool wr, .slice asp nsp csp, .slice als nls cls] 26, .rd kF asp nsp Xsp, .rd kF als nls Xls, .rd kF afe nfe Xfe, .rd kF afx nfx Xfx, .rd kF afy nfy Xfy, .sl (some ⟨bn, 0, none⟩) [.func (.func f) us.toArray xs.toArray]] := B.castX 1 rfl rfl ((List.append_assoc ..).trans (congrArg _ (trL_next (by omega) (congrArg FN (rnT_next (by omega))))))
          refine ⟨⟨_, k + 1, a39, a41, a43, c40, c42, c44, a50, N9 + 1, c51, Fits.eq ⟨rfl, rfl, rfl, rfl, rfl, rfl, rfl, trivial⟩, (B.pick [3, 4, 5, 1, 2, 9, 10, 11, 0, 12, 13, 14, 15, 16, 17] rfl rfl), (by omega), (by omega)⟩, ?_⟩
          show (m - (k + 1)).toNat < (m - k).toNat
          omega
        · refine s_y (v := .bool false) rfl (y_lss rfl rfl (decide_eq_false c37)) ?_
          refine s_nil ?_
          refine W_seq ?_
          refine W_if_f (by decide) rfl ?_
          refine W_exit ?_
          have hkm : k = m := by omega
          subst k
          refine W_seq ?_
          refine W_region (by kernel_rfl) ?_
          refine s_y (v := .agg #[.slice A1 nfe C1, .slice A2 nfx C2, .slice A3 nfy C3]) rfl (y_loadn (b := b30) (o := 0) (vs := [.slice A1 nfe C1, .slice A2 nfx C2, .slice A3 nfy C3]) T119.agg_29_3 rfl rfl ((B.b 4 rfl).cells (o := 0) rfl)) ?_
          refine s_k0 rfl (k_stB (v := .agg #[.slice A1 nfe C1, .slice A2 nfx C2, .slice A3 nfy C3]) (n := 3) (cs' := [.slice A1 nfe C1, .slice A2 nfx C2, .slice A3 nfy C3]) T119.sz_29_3 rfl rfl rfl (B.b 5 rfl) (by simp [Value.cells, Value.oneCell']) (Nat.le_of_ble_eq_true rfl) rfl (fun w52 hU53 => ?_))
          replace B : Bu w (hasW [.blk bo [.slice aq nq cq] 24, .ow kF aq nq cq 35 Xq]) w52 [.blk b7 [.slice A1 nfe C1, .slice A2 nfx C2, .slice A3 nfy C3] 29, .ow kF A1 nfe C1 35 ((rnT wd hi wr Xsp Xls (Xfe, Xfx, Xfy) (Int.toNat m)).1), .ow kF A2 nfx C2 35 ((rnT wd hi wr Xsp Xls (Xfe, Xfx, Xfy) (Int.toNat m)).2.1), .ow kF A3 nfy C3 35 ((rnT wd hi wr Xsp Xls (Xfe, Xfx, Xfy) (Int.toNat m)).2.2), .ow kF A9 N9 C9 35 (Xq ++ trL wd hi wr Xsp Xls (Xfe, Xfx, Xfy) FN m), .blk b30 [.slice A1 nfe C1, .slice A2 nfx C2, .slice A3 nfy C3] 29, .blk b4 [.slice afe nfe cfe, .slice afx nfx cfx, .slice afy nfy cfy] 29, .blk b1 [.int .i64 wd, .int .i64 hi, .bool wr, .slice asp nsp csp, .slice als nls cls] 26, .blk bo [.slice A9 N9 C9] 24, .rd kF asp nsp Xsp, .rd kF als nls Xls, .rd kF afe nfe Xfe, .rd kF afx nfx Xfx, .rd kF afy nfy Xfy, .sl (some ⟨bn, 0, none⟩) [.func (.func f) us.toArray xs.toArray]] := B.upd [5] rfl hU53
          clear hU53
          refine s_y (v := .bool true) rfl (y_assign rfl) ?_
          refine s_nil ?_
          refine W_ret ?_
          refine ret2 (v1 := .agg #[.slice A1 nfe C1, .slice A2 nfx C2, .slice A3 nfy C3]) (v2 := .bool true) rfl rfl rfl ⟨_, [.slice A1 nfe C1, .slice A2 nfx C2, .slice A3 nfy C3], _, rfl, (B.b 0 rfl), T119.agg_29_3, rfl⟩ rfl ⟨_, rfl, ?_⟩
          have hcond : runB wd hi wr Xsp Xls Xfe Xfx Xfy m = true := by simp only [runB, c14, c20, (decide_eq_false c37), Bool.and_true, Bool.true_and, Bool.and_false, Bool.false_and, Bool.not_true, Bool.not_false, Bool.or_true, Bool.true_or, Bool.or_false, Bool.false_or]
          exact .inl ⟨hcond, ⟨_, _, _, _, _, _, _, _, _, rfl, B.wrote [8, 4, 1, 2, 3] rfl rfl rfl⟩⟩
    · obtain rfl : v18 = .bool false := hv19.trans (congrArg Value.bool (Bool.eq_false_iff.2 c20))
      refine s_y (v := .bool true) rfl (y_not rfl rfl) ?_
      refine s_y (v := .bool true) rfl (y_pick_f rfl rfl) ?_
      refine s_nil ?_
      refine W_if_t (by decide) rfl ?_
      refine W_seq ?_
      refine W_region (by kernel_rfl) ?_
      refine s_y (v := .agg #[.slice none 0 0, .slice none 0 0, .slice none 0 0]) rfl (y_build (cells := #[.slice none 0 0, .slice none 0 0, .slice none 0 0]) (by kernel_rfl)) ?_
      refine s_k0 rfl (k_stB (v := .agg #[.slice none 0 0, .slice none 0 0, .slice none 0 0]) (n := 3) (cs' := [.slice none 0 0, .slice none 0 0, .slice none 0 0]) T119.sz_29_3 rfl rfl rfl (B.b 0 rfl) (by simp [Value.cells, Value.oneCell']) (Nat.le_of_ble_eq_true rfl) rfl (fun w54 hU55 => ?_))
      replace B : Bu w (hasW [.blk bo [.slice aq nq cq] 24, .ow kF aq nq cq 35 Xq]) w54 [.blk b7 [.slice none 0 0, .slice none 0 0, .slice none 0 0] 29, .blk b4 [.slice afe nfe cfe, .slice afx nfx cfx, .slice afy nfy cfy] 29, .blk b1 [.int .i64 wd, .int .i64 hi, .bool wr, .slice asp nsp csp, .slice als nls cls] 26, .blk bo [.slice aq nq cq] 24, .ow kF aq nq cq 35 Xq, .rd kF asp nsp Xsp, .rd kF als nls Xls, .rd kF afe nfe Xfe, .rd kF afx nfx Xfx, .rd kF afy nfy Xfy, .sl (some ⟨bn, 0, none⟩) [.func (.func f) us.toArray xs.toArray]] := B.upd [0] rfl hU55
      clear hU55
      refine s_y (v := .bool false) rfl (y_assign rfl) ?_
      refine s_nil ?_
      refine W_ret ?_
      refine ret2 (v1 := .agg #[.slice none 0 0, .slice none 0 0, .slice none 0 0]) (v2 := .bool false) rfl rfl rfl ⟨_, [.slice none 0 0, .slice none 0 0, .slice none 0 0], _, rfl, (B.b 0 rfl), T119.agg_29_3, rfl⟩ rfl ⟨_, rfl, ?_⟩
      exact .inr ⟨by simp only [runB, c14, (Bool.eq_false_iff.2 c20), Bool.and_true, Bool.true_and, Bool.and_false, Bool.false_and, Bool.not_true, Bool.not_false, Bool.or_true, Bool.true_or, Bool.or_false, Bool.false_or], rfl, B.wrote [3, 4] rfl rfl rfl⟩
  · obtain rfl : v12 = .bool false := hv13.trans (congrArg Value.bool (Bool.eq_false_iff.2 c14))
    refine s_y (v := .bool true) rfl (y_not rfl rfl) ?_
    refine s_y (v := .bool true) rfl (y_move rfl) ?_
    refine s_skip rfl ?_
    refine s_skip rfl ?_
    refine s_skip rfl ?_
    refine s_y (v := .bool true) rfl (y_pick_t rfl rfl) ?_
    refine s_nil ?_
    refine W_if_t (by decide) rfl ?_
    refine W_seq ?_
    refine W_region (by kernel_rfl) ?_
    refine s_y (v := .agg #[.slice none 0 0, .slice none 0 0, .slice none 0 0]) rfl (y_build (cells := #[.slice none 0 0, .slice none 0 0, .slice none 0 0]) (by kernel_rfl)) ?_
    refine s_k0 rfl (k_stB (v := .agg #[.slice none 0 0, .slice none 0 0, .slice none 0 0]) (n := 3) (cs' := [.slice none 0 0, .slice none 0 0, .slice none 0 0]) T119.sz_29_3 rfl rfl rfl (B.b 0 rfl) (by simp [Value.cells, Value.oneCell']) (Nat.le_of_ble_eq_true rfl) rfl (fun w56 hU57 => ?_))
    replace B : Bu w (hasW [.blk bo [.slice aq nq cq] 24, .ow kF aq nq cq 35 Xq]) w56 [.blk b7 [.slice none 0 0, .slice none 0 0, .slice none 0 0] 29, .blk b4 [.slice afe nfe cfe, .slice afx nfx cfx, .slice afy nfy cfy] 29, .blk b1 [.int .i64 wd, .int .i64 hi, .bool wr, .slice asp nsp csp, .slice als nls cls] 26, .blk bo [.slice aq nq cq] 24, .ow kF aq nq cq 35 Xq, .rd kF asp nsp Xsp, .rd kF als nls Xls, .rd kF afe nfe Xfe, .rd kF afx nfx Xfx, .rd kF afy nfy Xfy, .sl (some ⟨bn, 0, none⟩) [.func (.func f) us.toArray xs.toArray]] := B.upd [0] rfl hU57
    clear hU57
    refine s_y (v := .bool false) rfl (y_assign rfl) ?_
    refine s_nil ?_
    refine W_ret ?_
    refine ret2 (v1 := .agg #[.slice none 0 0, .slice none 0 0, .slice none 0 0]) (v2 := .bool false) rfl rfl rfl ⟨_, [.slice none 0 0, .slice none 0 0, .slice none 0 0], _, rfl, (B.b 0 rfl), T119.agg_29_3, rfl⟩ rfl ⟨_, rfl, ?_⟩
    exact .inr ⟨by simp only [runB, (Bool.eq_false_iff.2 c14), Bool.and_true, Bool.true_and, Bool.and_false, Bool.false_and, Bool.not_true, Bool.not_false, Bool.or_true, Bool.true_or, Bool.or_false, Bool.false_or], rfl, B.wrote [3, 4] rfl rfl rfl⟩
set_option maxRecDepth 100000 in
set_option maxHeartbeats 4000000 in
theorem c_i_traceBy {wd : Int} {hi : Int} {wr : Bool} {asp : Option Addr} {nsp : Nat} {csp : Nat} {Xsp : List Nat} {als : Option Addr} {nls : Nat} {cls : Nat} {Xls : List Nat} {afe : Option Addr} {nfe : Nat} {cfe : Nat} {Xfe : List Nat} {afx : Option Addr} {nfx : Nat} {cfx : Nat} {Xfx : List Nat} {afy : Option Addr} {nfy : Nat} {cfy : Nat} {Xfy : List Nat} {m : Int} {f : Nat} {us xs : List Value} {FN : Fld → Nat} {w : World} (qsp : Rd w kF asp nsp Xsp) (qls : Rd w kF als nls Xls) (qfe : Rd w kF afe nfe Xfe) (qfx : Rd w kF afx nfx Xfx) (qfy : Rd w kF afy nfy Xfy) (hfB : fnB Try.prog f = true) (hF : ∀ {ae ax ay : Option Addr} {ce cx cy : Nat} {E X Y : List Nat} {w1 : World}, Ext (no) w w1 → Rd w1 kF ae nfe E → Rd w1 kF ax nfx X → Rd w1 kF ay nfy Y → fieldB wd hi wr Xsp Xls Xfe Xfx Xfy = true → Calls Try.prog f (us ++ ([.agg #[.slice ae nfe ce, .slice ax nfx cx, .slice ay nfy cy]] : List Value) ++ xs).toArray w1 (Rt fun v w2 => (∃ r, v = .float .f32 r ∧ can .f32 r = FN (E, X, Y)) ∧ Ext0 w1 w2)) (hbsp : nsp ≤ 9223372036854775806) (hbls : nls ≤ 9223372036854775806) (hbfe : nfe ≤ 9223372036854775806) (hbfx : nfx ≤ 9223372036854775806) (hbfy : nfy ≤ 9223372036854775806) :
    Calls Try.prog 119 #[.agg #[.int .i64 wd, .int .i64 hi, .bool wr, .slice asp nsp csp, .slice als nls cls], .agg #[.slice afe nfe cfe, .slice afx nfx cfx, .slice afy nfy cfy], .int .i64 m, .func (.func f) us.toArray xs.toArray] w (Rt fun v w' => (runB wd hi wr Xsp Xls Xfe Xfx Xfy m = true ∧ ∃ (a1 : Option Addr) (c1 : Nat), v = .tuple #[.slice a1 (Int.toNat m) c1, .bool true] ∧ New w w' [.ow kF a1 (Int.toNat m) c1 35 (trL wd hi wr Xsp Xls (Xfe, Xfx, Xfy) FN m)]) ∨ (runB wd hi wr Xsp Xls Xfe Xfx Xfy m = false ∧ v = .tuple #[.slice none 0 0, .bool false] ∧ Ext0 w w')) := by
  have hlsp := qsp.len
  have hlls := qls.len
  have hlfe := qfe.len
  have hlfx := qfx.len
  have hlfy := qfy.len
  have B : Bu w no w [.rd kF asp nsp Xsp, .rd kF als nls Xls, .rd kF afe nfe Xfe, .rd kF afx nfx Xfx, .rd kF afy nfy Xfy] := Bu.ro (All.cons qsp (All.cons qls (All.cons qfe (All.cons qfx (All.cons qfy All.nil))))) rfl
  refine calls_W (n := 25) Try.func119 rfl rfl (Nat.le_of_ble_eq_true rfl) ?_
  refine W_seq ?_
  refine W_region (by kernel_rfl) ?_
  refine s_k rfl (k_boxN (v := .agg #[.int .i64 wd, .int .i64 hi, .bool wr, .slice asp nsp csp, .slice als nls cls]) (cs := [.int .i64 wd, .int .i64 hi, .bool wr, .slice asp nsp csp, .slice als nls cls]) rfl rfl (fun b1 w2 hN3 => ?_))
  replace B := B.new1 hN3
  clear hN3
  refine s_k rfl (k_boxN (v := .agg #[.slice afe nfe cfe, .slice afx nfx cfx, .slice afy nfy cfy]) (cs := [.slice afe nfe cfe, .slice afx nfx cfx, .slice afy nfy cfy]) rfl rfl (fun b4 w5 hN6 => ?_))
  replace B := B.new1 hN6
  clear hN6
  refine s_k rfl (k_boxN (v := .func (.func f) us.toArray xs.toArray) (cs := [.func (.func f) us.toArray xs.toArray]) rfl rfl (fun b7 w8 hN9 => ?_))
  replace B := B.new1 hN9
  clear hN9
  refine s_y (v := .slice none 0 0) rfl (y_assign rfl) ?_
  refine s_y (v := .bool false) rfl (y_assign rfl) ?_
  refine s_nil ?_
  refine W_seq ?_
  refine W_region (by kernel_rfl) ?_
  refine s_k rfl (k_bsliceO (k := kF) (n := 0) (cells := #[]) (X := []) T119.slt_24 (by decide) (by first | rfl | kernel_rfl) (rfl : Reps kF [] []) rfl (fun b10 w11 hN12 => ?_))
  replace B := B.new1 hN12
  clear hN12
  refine s_k rfl (k_allocN (z := (.slice none 0 0)) (cs := [.slice none 0 0]) T119.zero_24 rfl (fun b13 w14 hN15 => ?_))
  replace B := B.new1 hN15
  clear hN15
  refine s_k0 rfl (k_stB (v := .slice (some ⟨b10, 0, none⟩) 0 0) (n := 1) (cs' := [.slice (some ⟨b10, 0, none⟩) 0 0]) T119.sz_24_1 rfl rfl rfl (B.b 0 rfl) (by simp [Value.cells, Value.oneCell']) (Nat.le_of_ble_eq_true rfl) rfl (fun w16 hU17 => ?_))
  replace B : Bu w no w16 [.blk b13 [.slice (some ⟨b10, 0, none⟩) 0 0] 24, .ow kF (some ⟨b10, 0, none⟩) 0 0 35 ([] : List Nat), .blk b7 [.func (.func f) us.toArray xs.toArray] 120, .blk b4 [.slice afe nfe cfe, .slice afx nfx cfx, .slice afy nfy cfy] 29, .blk b1 [.int .i64 wd, .int .i64 hi, .bool wr, .slice asp nsp csp, .slice als nls cls] 26, .rd kF asp nsp Xsp, .rd kF als nls Xls, .rd kF afe nfe Xfe, .rd kF afx nfx Xfx, .rd kF afy nfy Xfy] := B.upd [0] rfl hU17
  clear hU17
  refine s_nil ?_
  refine W_seq ?_
  refine W_region (by kernel_rfl) ?_
  refine s_y (v := .agg #[.int .i64 wd, .int .i64 hi, .bool wr, .slice asp nsp csp, .slice als nls cls]) rfl (y_loadn (b := b1) (o := 0) (vs := [.int .i64 wd, .int .i64 hi, .bool wr, .slice asp nsp csp, .slice als nls cls]) T119.agg_26_5 rfl rfl ((B.b 4 rfl).cells (o := 0) rfl)) ?_
  refine s_y (v := .agg #[.slice afe nfe cfe, .slice afx nfx cfx, .slice afy nfy cfy]) rfl (y_loadn (b := b4) (o := 0) (vs := [.slice afe nfe cfe, .slice afx nfx cfx, .slice afy nfy cfy]) T119.agg_29_3 rfl rfl ((B.b 3 rfl).cells (o := 0) rfl)) ?_
  refine s_y (v := .int .i64 m) rfl (y_move rfl) ?_
  refine s_y (v := .func (.func 142) #[] #[.pointer (some ⟨b13, 0, none⟩), .pointer (some ⟨b7, 0, none⟩)]) rfl (y_func rfl rfl) ?_
  have Bt := B.weakB 2 rfl
  refine s_k rfl (k_call T119.fn_75 (c_i_run_trace (f := f) (us := us) (xs := xs) (FN := FN) (m := m) hfB (fun {ae ax ay ce cx cy E X Y w1} e r1 r2 r3 hk => hF (B.out [0, 1] rfl e) r1 r2 r3 hk) (by omega) (by omega) (by omega) (by omega) (by omega) (by omega) (Bt.all.pick [0, 1, 5, 6, 7, 8, 9, 2] rfl) (Bt.pw.pick [0, 1, 5, 6, 7, 8, 9, 2] rfl rfl)) rfl ?_)
  rintro v20 w18 hx19
  by_cases c21 : runB wd hi wr Xsp Xls Xfe Xfx Xfy m = true
  · have hb22 := runB_b c21
    obtain ⟨a24, c25, c26, a27, a28, a29, c30, c31, c32, rfl, hU23⟩ := (hx19.resolve_right (fun hz => by rw [c21] at hz; cases hz.1)).2
    clear hx19
    replace B : Bu w no w18 [.blk b13 [.slice a24 c25 c26] 24, .ow kF a24 c25 c26 35 (([] : List Nat) ++ trL wd hi wr Xsp Xls (Xfe, Xfx, Xfy) FN m), .ow kF a27 nfe c30 35 ((rnT wd hi wr Xsp Xls (Xfe, Xfx, Xfy) (Int.toNat m)).1), .ow kF a28 nfx c31 35 ((rnT wd hi wr Xsp Xls (Xfe, Xfx, Xfy) (Int.toNat m)).2.1), .ow kF a29 nfy c32 35 ((rnT wd hi wr Xsp Xls (Xfe, Xfx, Xfy) (Int.toNat m)).2.2), .blk b7 [.func (.func f) us.toArray xs.toArray] 120, .blk b4 [.slice afe nfe cfe, .slice afx nfx cfx, .slice afy nfy cfy] 29, .blk b1 [.int .i64 wd, .int .i64 hi, .bool wr, .slice asp nsp csp, .slice als nls cls] 26, .rd kF asp nsp Xsp, .rd kF als nls Xls, .rd kF afe nfe Xfe, .rd kF afx nfx Xfx, .rd kF afy nfy Xfy] := B.upd [0, 1] rfl hU23
    clear hU23
    refine s_y (v := .tuple #[.agg #[.slice a27 nfe c30, .slice a28 nfx c31, .slice a29 nfy c32], .bool true]) rfl (y_move rfl) ?_
    refine s_y (v := .agg #[.slice a27 nfe c30, .slice a28 nfx c31, .slice a29 nfy c32]) rfl (y_extract rfl rfl) ?_
    refine s_y (v := .bool true) rfl (y_extract rfl rfl) ?_
    refine s_k rfl (k_allocN (z := (.agg #[.slice none 0 0, .slice none 0 0, .slice none 0 0])) (cs := [.slice none 0 0, .slice none 0 0, .slice none 0 0]) T119.zero_29 rfl (fun b33 w34 hN35 => ?_))
    replace B := B.new1 hN35
    clear hN35
    refine s_k0 rfl (k_stB (v := .agg #[.slice a27 nfe c30, .slice a28 nfx c31, .slice a29 nfy c32]) (n := 3) (cs' := [.slice a27 nfe c30, .slice a28 nfx c31, .slice a29 nfy c32]) T119.sz_29_3 rfl rfl rfl (B.b 0 rfl) (by simp [Value.cells, Value.oneCell']) (Nat.le_of_ble_eq_true rfl) rfl (fun w36 hU37 => ?_))
    replace B : Bu w no w36 [.blk b33 [.slice a27 nfe c30, .slice a28 nfx c31, .slice a29 nfy c32] 29, .blk b13 [.slice a24 c25 c26] 24, .ow kF a24 c25 c26 35 (([] : List Nat) ++ trL wd hi wr Xsp Xls (Xfe, Xfx, Xfy) FN m), .ow kF a27 nfe c30 35 ((rnT wd hi wr Xsp Xls (Xfe, Xfx, Xfy) (Int.toNat m)).1), .ow kF a28 nfx c31 35 ((rnT wd hi wr Xsp Xls (Xfe, Xfx, Xfy) (Int.toNat m)).2.1), .ow kF a29 nfy c32 35 ((rnT wd hi wr Xsp Xls (Xfe, Xfx, Xfy) (Int.toNat m)).2.2), .blk b7 [.func (.func f) us.toArray xs.toArray] 120, .blk b4 [.slice afe nfe cfe, .slice afx nfx cfx, .slice afy nfy cfy] 29, .blk b1 [.int .i64 wd, .int .i64 hi, .bool wr, .slice asp nsp csp, .slice als nls cls] 26, .rd kF asp nsp Xsp, .rd kF als nls Xls, .rd kF afe nfe Xfe, .rd kF afx nfx Xfx, .rd kF afy nfy Xfy] := B.upd [0] rfl hU37
    clear hU37
    refine s_y (v := .bool true) rfl (y_assign rfl) ?_
    refine s_nil ?_
    refine W_seq ?_
    refine W_seq ?_
    refine W_region (by kernel_rfl) ?_
    refine s_y (v := .bool true) rfl (y_move rfl) ?_
    refine s_y (v := .bool false) rfl (y_not rfl rfl) ?_
    refine s_nil ?_
    refine W_if_f (by decide) rfl ?_
    refine W_skip ?_
    refine W_seq ?_
    refine W_region (by kernel_rfl) ?_
    refine s_y (v := .slice a24 c25 c26) rfl (y_load T119.one_24 rfl ((B.b 1 rfl).cell (j := 0) rfl)) ?_
    refine s_y (v := .slice a24 c25 c26) rfl (y_assign rfl) ?_
    refine s_y (v := .bool true) rfl (y_assign rfl) ?_
    refine s_nil ?_
    refine W_ret ?_
    refine ret2 (v1 := .slice a24 c25 c26) (v2 := .bool true) rfl rfl rfl rfl rfl ⟨_, rfl, ?_⟩
    have hcond : runB wd hi wr Xsp Xls Xfe Xfx Xfy m = true := by simp only [c21, Bool.and_true, Bool.true_and, Bool.and_false, Bool.false_and, Bool.not_true, Bool.not_false, Bool.or_true, Bool.true_or, Bool.or_false, Bool.false_or]
    have hln := (B.o 2 rfl).len
    rw [List.length_append, trL_len] at hln; simp only [List.length_nil, Nat.zero_add] at hln
    replace B : Bu w no w36 [.blk b33 [.slice a27 nfe c30, .slice a28 nfx c31, .slice a29 nfy c32] 29, .blk b13 [.slice a24 c25 c26] 24, .ow kF a24 (Int.toNat m) c26 35 (trL wd hi wr Xsp Xls (Xfe, Xfx, Xfy) FN m), .ow kF a27 nfe c30 35 ((rnT wd hi wr Xsp Xls (Xfe, Xfx, Xfy) (Int.toNat m)).1), .ow kF a28 nfx c31 35 ((rnT wd hi wr Xsp Xls (Xfe, Xfx, Xfy) (Int.toNat m)).2.1), .ow kF a29 nfy c32 35 ((rnT wd hi wr Xsp Xls (Xfe, Xfx, Xfy) (Int.toNat m)).2.2), .blk b7 [.func (.func f) us.toArray xs.toArray] 120, .blk b4 [.slice afe nfe cfe, .slice afx nfx cfx, .slice afy nfy cfy] 29, .blk b1 [.int .i64 wd, .int .i64 hi, .bool wr, .slice asp nsp csp, .slice als nls cls] 26, .rd kF asp nsp Xsp, .rd kF als nls Xls, .rd kF afe nfe Xfe, .rd kF afx nfx Xfx, .rd kF afy nfy Xfy] := B.castX 2 rfl hln.symm (List.nil_append _)
    exact .inl ⟨hcond, ⟨_, _, (by rw [(show c25 = Int.toNat m from hln.symm)]), B.give [2] rfl rfl rfl⟩⟩
  · obtain ⟨_, rfl, hU38⟩ := hx19.resolve_left (fun hz => c21 hz.1)
    clear hx19
    replace B : Bu w no w18 [.blk b13 [.slice (some ⟨b10, 0, none⟩) 0 0] 24, .ow kF (some ⟨b10, 0, none⟩) 0 0 35 ([] : List Nat), .blk b7 [.func (.func f) us.toArray xs.toArray] 120, .blk b4 [.slice afe nfe cfe, .slice afx nfx cfx, .slice afy nfy cfy] 29, .blk b1 [.int .i64 wd, .int .i64 hi, .bool wr, .slice asp nsp csp, .slice als nls cls] 26, .rd kF asp nsp Xsp, .rd kF als nls Xls, .rd kF afe nfe Xfe, .rd kF afx nfx Xfx, .rd kF afy nfy Xfy] := B.upd [0, 1] rfl hU38
    clear hU38
    refine s_y (v := .tuple #[.agg #[.slice none 0 0, .slice none 0 0, .slice none 0 0], .bool false]) rfl (y_move rfl) ?_
    refine s_y (v := .agg #[.slice none 0 0, .slice none 0 0, .slice none 0 0]) rfl (y_extract rfl rfl) ?_
    refine s_y (v := .bool false) rfl (y_extract rfl rfl) ?_
    refine s_k rfl (k_allocN (z := (.agg #[.slice none 0 0, .slice none 0 0, .slice none 0 0])) (cs := [.slice none 0 0, .slice none 0 0, .slice none 0 0]) T119.zero_29 rfl (fun b39 w40 hN41 => ?_))
    replace B := B.new1 hN41
    clear hN41
    refine s_k0 rfl (k_stB (v := .agg #[.slice none 0 0, .slice none 0 0, .slice none 0 0]) (n := 3) (cs' := [.slice none 0 0, .slice none 0 0, .slice none 0 0]) T119.sz_29_3 rfl rfl rfl (B.b 0 rfl) (by simp [Value.cells, Value.oneCell']) (Nat.le_of_ble_eq_true rfl) rfl (fun w42 hU43 => ?_))
    replace B : Bu w no w42 [.blk b39 [.slice none 0 0, .slice none 0 0, .slice none 0 0] 29, .blk b13 [.slice (some ⟨b10, 0, none⟩) 0 0] 24, .ow kF (some ⟨b10, 0, none⟩) 0 0 35 ([] : List Nat), .blk b7 [.func (.func f) us.toArray xs.toArray] 120, .blk b4 [.slice afe nfe cfe, .slice afx nfx cfx, .slice afy nfy cfy] 29, .blk b1 [.int .i64 wd, .int .i64 hi, .bool wr, .slice asp nsp csp, .slice als nls cls] 26, .rd kF asp nsp Xsp, .rd kF als nls Xls, .rd kF afe nfe Xfe, .rd kF afx nfx Xfx, .rd kF afy nfy Xfy] := B.upd [0] rfl hU43
    clear hU43
    refine s_y (v := .bool false) rfl (y_assign rfl) ?_
    refine s_nil ?_
    refine W_seq ?_
    refine W_seq ?_
    refine W_region (by kernel_rfl) ?_
    refine s_y (v := .bool false) rfl (y_move rfl) ?_
    refine s_y (v := .bool true) rfl (y_not rfl rfl) ?_
    refine s_nil ?_
    refine W_if_t (by decide) rfl ?_
    refine W_seq ?_
    refine W_region (by kernel_rfl) ?_
    refine s_y (v := .slice none 0 0) rfl (y_assign rfl) ?_
    refine s_y (v := .bool false) rfl (y_assign rfl) ?_
    refine s_nil ?_
    refine W_ret ?_
    refine ret2 (v1 := .slice none 0 0) (v2 := .bool false) rfl rfl rfl rfl rfl ⟨_, rfl, ?_⟩
    exact .inr ⟨by simp only [(Bool.eq_false_iff.2 c21), Bool.and_true, Bool.true_and, Bool.and_false, Bool.false_and, Bool.not_true, Bool.not_false, Bool.or_true, Bool.true_or, Bool.or_false, Bool.false_or], rfl, B.ext⟩
namespace T146
theorem mx : Try.prog.follows .mixedOrders = true := by kernel_rfl
end T146
set_option maxRecDepth 100000 in
set_option maxHeartbeats 4000000 in
theorem c_i_size {x : Nat} {X : Nat} {w : World} (hx : can .f32 x = X) :
    Calls Try.prog 146 #[.float .f32 x] w (Rt fun v w' => (∃ r, v = .float .f32 r ∧ can .f32 r = szX X) ∧ Ext0 w w') := by
  have B : Bu w no w [] := Bu.ro All.nil rfl
  refine calls_W (n := 10) Try.func146 rfl rfl (Nat.le_of_ble_eq_true rfl) ?_
  refine W_seq ?_
  refine W_region (by kernel_rfl) ?_
  refine s_y (v := .float .f32 0) rfl (y_assign rfl) ?_
  refine s_nil ?_
  refine W_seq ?_
  refine W_seq ?_
  refine W_region (by kernel_rfl) ?_
  refine s_y (v := .float .f32 x) rfl (y_move rfl) ?_
  by_cases c1 : flt .f32 X 0 = true
  · refine s_y (v := .bool true) rfl (y_flss rfl rfl (fltC hx (show can .f32 0 = 0 by kernel_rfl) c1)) ?_
    refine s_nil ?_
    refine W_if_t (by decide) rfl ?_
    refine W_seq ?_
    refine W_region (by kernel_rfl) ?_
    refine s_y (v := .float .f32 x) rfl (y_move rfl) ?_
    refine s_y (v := .float .f32 (Op.negFloat .f32 x)) rfl (y_fneg rfl) ?_
    refine s_y (v := .float .f32 (Op.negFloat .f32 x)) rfl (y_assign rfl) ?_
    refine s_nil ?_
    refine W_ret ?_
    refine ret1 (v := .float .f32 (Op.negFloat .f32 x)) rfl rfl rfl ⟨_, rfl, ?_⟩
    exact ⟨⟨_, rfl, (negC hx).trans (by simp [szX, *])⟩, B.ext⟩
  · refine s_y (v := .bool false) rfl (y_flss rfl rfl (fltC hx (show can .f32 0 = 0 by kernel_rfl) (Bool.eq_false_iff.2 c1))) ?_
    refine s_nil ?_
    refine W_if_f (by decide) rfl ?_
    refine W_skip ?_
    refine W_seq ?_
    refine W_seq ?_
    refine W_region (by kernel_rfl) ?_
    refine s_y (v := .float .f32 x) rfl (y_move rfl) ?_
    by_cases c2 : feq .f32 X 0 = true
    · refine s_y (v := .bool true) rfl (y_feql rfl rfl (feqC hx (show can .f32 0 = 0 by kernel_rfl) c2)) ?_
      refine s_nil ?_
      refine W_if_t (by decide) rfl ?_
      refine W_seq ?_
      refine W_region (by kernel_rfl) ?_
      refine s_y (v := .float .f32 0) rfl (y_assign rfl) ?_
      refine s_nil ?_
      refine W_ret ?_
      refine ret1 (v := .float .f32 0) rfl rfl rfl ⟨_, rfl, ?_⟩
      exact ⟨⟨_, rfl, (show can .f32 0 = 0 by kernel_rfl).trans (by simp [szX, *])⟩, B.ext⟩
    · refine s_y (v := .bool false) rfl (y_feql rfl rfl (feqC hx (show can .f32 0 = 0 by kernel_rfl) (Bool.eq_false_iff.2 c2))) ?_
      refine s_nil ?_
      refine W_if_f (by decide) rfl ?_
      refine W_skip ?_
      refine W_seq ?_
      refine W_region (by kernel_rfl) ?_
      refine s_y (v := .float .f32 x) rfl (y_move rfl) ?_
      refine s_y (v := .float .f32 x) rfl (y_assign rfl) ?_
      refine s_nil ?_
      refine W_ret ?_
      refine ret1 (v := .float .f32 x) rfl rfl rfl ⟨_, rfl, ?_⟩
      exact ⟨⟨_, rfl, hx.trans (by simp [szX, *])⟩, B.ext⟩
namespace T145
theorem mx : Try.prog.follows .mixedOrders = true := by kernel_rfl
theorem fld_29_0_0 : fldB Try.prog 29 0 0 = true := by kernel_rfl
theorem fn_146 : fnB Try.prog 146 = true := by kernel_rfl
theorem one_24 : oneB Try.prog 24 = true := by kernel_rfl
theorem one_35 : oneB Try.prog 35 = true := by kernel_rfl
theorem sl_24_35_1 : slB Try.prog 24 35 1 = true := by kernel_rfl
end T145
set_option maxRecDepth 100000 in
set_option maxHeartbeats 4000000 in
theorem c_i_peakOf {afe : Option Addr} {nfe : Nat} {cfe : Nat} {Xfe : List Nat} {afx : Option Addr} {nfx : Nat} {cfx : Nat} {Xfx : List Nat} {afy : Option Addr} {nfy : Nat} {cfy : Nat} {Xfy : List Nat} {w : World} (qfe : Rd w kF afe nfe Xfe) (qfx : Rd w kF afx nfx Xfx) (qfy : Rd w kF afy nfy Xfy) (hbfe : nfe ≤ 9223372036854775806) :
    Calls Try.prog 145 #[.agg #[.slice afe nfe cfe, .slice afx nfx cfx, .slice afy nfy cfy]] w (Rt fun v w' => v = .int .i64 (peakI Xfe Xfe.length) ∧ Ext0 w w') := by
  have hlfe := qfe.len
  have hlfx := qfx.len
  have hlfy := qfy.len
  have B : Bu w no w [.rd kF afe nfe Xfe, .rd kF afx nfx Xfx, .rd kF afy nfy Xfy] := Bu.ro (All.cons qfe (All.cons qfx (All.cons qfy All.nil))) rfl
  refine calls_W (n := 35) Try.func145 rfl rfl (Nat.le_of_ble_eq_true rfl) ?_
  refine W_seq ?_
  refine W_region (by kernel_rfl) ?_
  refine s_k rfl (k_boxN (v := .agg #[.slice afe nfe cfe, .slice afx nfx cfx, .slice afy nfy cfy]) (cs := [.slice afe nfe cfe, .slice afx nfx cfx, .slice afy nfy cfy]) rfl rfl (fun b1 w2 hN3 => ?_))
  replace B := B.new1 hN3
  clear hN3
  refine s_y (v := .int .i64 0) rfl (y_assign rfl) ?_
  refine s_nil ?_
  refine W_seq ?_
  refine W_region (by kernel_rfl) ?_
  refine s_y (v := .int .i64 (-1)) rfl (y_assign rfl) ?_
  refine s_nil ?_
  refine W_seq ?_
  refine W_seq ?_
  refine W_region (by kernel_rfl) ?_
  refine s_y (v := .pointer (some ⟨b1, 0, none⟩)) rfl (y_fld (o := 0) T145.fld_29_0_0 rfl) ?_
  refine s_y (v := .slice afe nfe cfe) rfl (y_load T145.one_24 rfl ((B.b 0 rfl).cell (j := 0) rfl)) ?_
  refine s_y (v := .int .i64 ((nfe : Nat) : Int)) rfl (y_len T145.sl_24_35_1 rfl rfl) ?_
  refine s_y (v := .int .i64 0) rfl (y_move rfl) ?_
  refine s_nil ?_
  refine W_block ?_
  refine W_loop (fun ρ' w' => ∃ (ρ1 : Env) (k : Int) (b : Int), ρ' = updL ρ1 [(1, .pointer (some ⟨b1, 0, none⟩)), (2, .int .i64 0), (3, .int .i64 b), (7, .slice afe nfe cfe), (8, .int .i64 ((nfe : Nat) : Int)), (9, .int .i64 k)] ∧ Bu w no w' [.blk b1 [.slice afe nfe cfe, .slice afx nfx cfx, .slice afy nfy cfy] 29, .rd kF afe nfe Xfe, .rd kF afx nfx Xfx, .rd kF afy nfy Xfy] ∧ (0 ≤ k) ∧ (k ≤ (nfe : Int)) ∧ (-1 ≤ b) ∧ (b < k) ∧ (b = peakI Xfe k.toNat)) (fun ρ' _ => ((nfe : Int) - iv (ρ' 9)).toNat) ?_ ?_
  · exact ⟨_, 0, (-1), Fits.eq ⟨rfl, rfl, rfl, rfl, rfl, rfl, trivial⟩, B, (Int.le_refl _), (by omega), (by omega), (by omega), rfl⟩
  · clear B; rintro _ w4 ⟨ρ5, k, b, rfl, B, h0k, h1k, hb0, hb1, hq⟩
    refine W_seq ?_
    refine W_region (by kernel_rfl) ?_
    by_cases c6 : k < ((nfe : Nat) : Int)
    · refine s_y (v := .bool true) rfl (y_lss rfl rfl (decide_eq_true c6)) ?_
      refine s_nil ?_
      refine W_seq ?_
      refine W_if_t (by decide) rfl ?_
      refine W_skip ?_
      refine W_seq ?_
      refine W_block ?_
      refine W_seq ?_
      refine W_region (by kernel_rfl) ?_
      refine s_y (v := .int .i64 k) rfl (y_move rfl) ?_
      refine s_y (v := .pointer (some (sat afe ((k).toNat * 1)))) rfl (y_idx T145.sl_24_35_1 rfl rfl ((B.r 1 rfl).addr (by omega)) (by omega) (by omega)) ?_
      obtain ⟨r8, hr9, hR7⟩ := Rd.atF (B.r 1 rfl) k (by omega) (by omega)
      refine s_y (v := .float .f32 r8) rfl (y_load T145.one_35 rfl (hR7.cell (i := 0) rfl)) ?_
      refine s_y (v := .int .i64 k) rfl (y_assign rfl) ?_
      refine s_y (v := .float .f32 r8) rfl (y_assign rfl) ?_
      refine s_nil ?_
      refine W_seq ?_
      have B0_14 := B
      refine W_draw (no) T145.mx (by kernel_rfl) (fun w12 e13 => ?_)
      have R15 := Ext.refl (no) w4
      replace R15 := R15.trans (Ext0.any e13)
      replace B := B.ext0 e13
      clear e13
      refine m_y (v := .float .f32 r8) 0 rfl (by kernel_rfl) rfl rfl (fun w' e' => y_move rfl) ?_
      refine m_y (v := .float .f32 r8) 1 rfl (by kernel_rfl) rfl rfl (fun w' e' => y_move rfl) ?_
      by_cases c16 : feq .f32 (el Xfe k) (el Xfe k) = true
      · refine m_y (v := .bool true) 2 rfl (by kernel_rfl) rfl rfl (fun w' e' => y_feql rfl rfl (feqC hr9 hr9 c16)) ?_
        refine m_y (v := .bool true) 3 rfl (by kernel_rfl) rfl rfl (fun w' e' => y_move rfl) ?_
        refine m_y (v := .int .i64 b) 4 rfl (by kernel_rfl) rfl rfl (fun w' e' => y_move rfl) ?_
        by_cases c17 : b < 0
        · refine m_y (v := .bool true) 5 rfl (by kernel_rfl) rfl rfl (fun w' e' => y_lss rfl rfl (decide_eq_true c17)) ?_
          refine m_y (v := .bool true) 6 rfl (by kernel_rfl) rfl rfl (fun w' e' => y_move rfl) ?_
          refine m_skip 7 rfl (by kernel_rfl) rfl ?_
          refine m_skip 8 rfl (by kernel_rfl) rfl ?_
          refine m_skip 9 rfl (by kernel_rfl) rfl ?_
          refine m_skip 10 rfl (by kernel_rfl) rfl ?_
          refine m_skip 11 rfl (by kernel_rfl) rfl ?_
          refine m_skip 12 rfl (by kernel_rfl) rfl ?_
          refine m_skip 13 rfl (by kernel_rfl) rfl ?_
          refine m_skip 14 rfl (by kernel_rfl) rfl ?_
          refine m_skip 15 rfl (by kernel_rfl) rfl ?_
          refine m_y (v := .bool true) 16 rfl (by kernel_rfl) rfl rfl (fun w' e' => y_pick_t rfl rfl) ?_
          refine m_y (v := .bool true) 17 rfl (by kernel_rfl) rfl rfl (fun w' e' => y_pick_t rfl rfl) ?_
          refine m_done (by kernel_rfl) (fun w18 e19 => ?_)
          replace B := B.ext0 e19
          clear e19
          clear B0_14 R15
          refine W_if_t (by decide) rfl ?_
          refine W_region (by kernel_rfl) ?_
          refine s_y (v := .int .i64 k) rfl (y_move rfl) ?_
          refine s_y (v := .int .i64 k) rfl (y_assign rfl) ?_
          refine s_nil ?_
          refine W_region (by kernel_rfl) ?_
          refine s_y (v := .int .i64 (k + 1)) rfl (y_add rfl rfl rfl (by omega)) ?_
          refine s_y (v := .int .i64 (k + 1)) rfl (y_move rfl) ?_
          refine s_nil ?_
          refine ⟨⟨_, k + 1, k, Fits.eq ⟨rfl, rfl, rfl, rfl, rfl, rfl, trivial⟩, B, (by omega), (by omega), (by omega), (by omega), (peak_yes (by omega) hq (by simp only [Bool.false_or, (decide_eq_true c6), c16, (decide_eq_true c17), Bool.and_true, Bool.true_and, Bool.and_false, Bool.false_and, Bool.not_true, Bool.not_false, Bool.or_true, Bool.true_or, Bool.or_false, Bool.false_or]))⟩, ?_⟩
          show ((nfe : Int) - (k + 1)).toNat < ((nfe : Int) - k).toNat
          omega
        · refine m_y (v := .bool false) 5 rfl (by kernel_rfl) rfl rfl (fun w' e' => y_lss rfl rfl (decide_eq_false c17)) ?_
          refine m_y (v := .bool false) 6 rfl (by kernel_rfl) rfl rfl (fun w' e' => y_move rfl) ?_
          refine m_y (v := .float .f32 r8) 7 rfl (by kernel_rfl) rfl rfl (fun w' e' => y_move rfl) ?_
          refine m_y (v := .pointer (some ⟨b1, 0, none⟩)) 9 rfl (by kernel_rfl) rfl rfl (fun w' e' => y_fld (o := 0) T145.fld_29_0_0 rfl) ?_
          refine m_y (v := .slice afe nfe cfe) 10 rfl (by kernel_rfl) rfl rfl (fun w' e' => y_load T145.one_24 rfl (((B0_14.b 0 rfl).ext0 e').cell (j := 0) rfl)) ?_
          refine m_y (v := .int .i64 b) 11 rfl (by kernel_rfl) rfl rfl (fun w' e' => y_move rfl) ?_
          refine m_y (v := .pointer (some (sat afe ((b).toNat * 1)))) 12 rfl (by kernel_rfl) rfl rfl (fun w' e' => y_idx T145.sl_24_35_1 rfl rfl ((B.r 1 rfl).addr (by omega)) (by omega) (by omega)) ?_
          obtain ⟨r21, hr22, hR20⟩ := Rd.atF (B0_14.r 1 rfl) b (by omega) (by omega)
          refine m_y (v := .float .f32 r21) 13 rfl (by kernel_rfl) rfl rfl (fun w' e' => y_load T145.one_35 rfl ((hR20.ext0 e').cell (i := 0) rfl)) ?_
          refine m_k 8 [14, 15, 16, 17] rfl (by kernel_rfl) rfl rfl (fun w23 e24 => ?_)
          replace R15 := R15.trans (Ext0.any e24)
          replace B := B.ext0 e24
          clear e24
          refine k_call T145.fn_146 (c_i_size hr9) rfl ?_
          rintro _ w25 ⟨⟨r27, rfl, hr28⟩, e26⟩
          replace R15 := R15.trans (Ext0.any e26)
          replace B := B.ext0 e26
          clear e26
          refine ⟨fun _ => R15, ?_⟩
          refine m_k 14 [15, 16, 17] rfl (by kernel_rfl) rfl rfl (fun w29 e30 => ?_)
          replace R15 := R15.trans (Ext0.any e30)
          replace B := B.ext0 e30
          clear e30
          refine k_call T145.fn_146 (c_i_size hr22) rfl ?_
          rintro _ w31 ⟨⟨r33, rfl, hr34⟩, e32⟩
          replace R15 := R15.trans (Ext0.any e32)
          replace B := B.ext0 e32
          clear e32
          refine ⟨fun _ => R15, ?_⟩
          by_cases c35 : fgt .f32 (szX (el Xfe k)) (szX (el Xfe b)) = true
          · refine m_y (v := .bool true) 15 rfl (by kernel_rfl) rfl rfl (fun w' e' => y_fgtr rfl rfl (fgtC hr28 hr34 c35)) ?_
            refine m_y (v := .bool true) 16 rfl (by kernel_rfl) rfl rfl (fun w' e' => y_pick_f rfl rfl) ?_
            refine m_y (v := .bool true) 17 rfl (by kernel_rfl) rfl rfl (fun w' e' => y_pick_t rfl rfl) ?_
            refine m_done (by kernel_rfl) (fun w36 e37 => ?_)
            replace B := B.ext0 e37
            clear e37
            clear B0_14 R15
            refine W_if_t (by decide) rfl ?_
            refine W_region (by kernel_rfl) ?_
            refine s_y (v := .int .i64 k) rfl (y_move rfl) ?_
            refine s_y (v := .int .i64 k) rfl (y_assign rfl) ?_
            refine s_nil ?_
            refine W_region (by kernel_rfl) ?_
            refine s_y (v := .int .i64 (k + 1)) rfl (y_add rfl rfl rfl (by omega)) ?_
            refine s_y (v := .int .i64 (k + 1)) rfl (y_move rfl) ?_
            refine s_nil ?_
            refine ⟨⟨_, k + 1, k, Fits.eq ⟨rfl, rfl, rfl, rfl, rfl, rfl, trivial⟩, B, (by omega), (by omega), (by omega), (by omega), (peak_yes (by omega) hq (by simp only [Bool.false_or, (decide_eq_true c6), c16, (decide_eq_false c17), c35, Bool.and_true, Bool.true_and, Bool.and_false, Bool.false_and, Bool.not_true, Bool.not_false, Bool.or_true, Bool.true_or, Bool.or_false, Bool.false_or]))⟩, ?_⟩
            show ((nfe : Int) - (k + 1)).toNat < ((nfe : Int) - k).toNat
            omega
          · refine m_y (v := .bool false) 15 rfl (by kernel_rfl) rfl rfl (fun w' e' => y_fgtr rfl rfl (fgtC hr28 hr34 (Bool.eq_false_iff.2 c35))) ?_
            refine m_y (v := .bool false) 16 rfl (by kernel_rfl) rfl rfl (fun w' e' => y_pick_f rfl rfl) ?_
            refine m_y (v := .bool false) 17 rfl (by kernel_rfl) rfl rfl (fun w' e' => y_pick_t rfl rfl) ?_
            refine m_done (by kernel_rfl) (fun w38 e39 => ?_)
            replace B := B.ext0 e39
            clear e39
            clear B0_14 R15
            refine W_if_f (by decide) rfl ?_
            refine W_skip ?_
            refine W_region (by kernel_rfl) ?_
            refine s_y (v := .int .i64 (k + 1)) rfl (y_add rfl rfl rfl (by omega)) ?_
            refine s_y (v := .int .i64 (k + 1)) rfl (y_move rfl) ?_
            refine s_nil ?_
            refine ⟨⟨_, k + 1, b, Fits.eq ⟨rfl, rfl, rfl, rfl, rfl, rfl, trivial⟩, B, (by omega), (by omega), (by omega), (by omega), (peak_no (by omega) hq (by simp only [Bool.false_or, (decide_eq_true c6), c16, (decide_eq_false c17), (Bool.eq_false_iff.2 c35), Bool.and_true, Bool.true_and, Bool.and_false, Bool.false_and, Bool.not_true, Bool.not_false, Bool.or_true, Bool.true_or, Bool.or_false, Bool.false_or]))⟩, ?_⟩
            show ((nfe : Int) - (k + 1)).toNat < ((nfe : Int) - k).toNat
            omega
      · refine m_y (v := .bool false) 2 rfl (by kernel_rfl) rfl rfl (fun w' e' => y_feql rfl rfl (feqC hr9 hr9 (Bool.eq_false_iff.2 c16))) ?_
        refine m_y (v := .bool false) 3 rfl (by kernel_rfl) rfl rfl (fun w' e' => y_move rfl) ?_
        refine m_skip 4 rfl (by kernel_rfl) rfl ?_
        refine m_skip 5 rfl (by kernel_rfl) rfl ?_
        refine m_skip 6 rfl (by kernel_rfl) rfl ?_
        refine m_skip 7 rfl (by kernel_rfl) rfl ?_
        refine m_skip 8 rfl (by kernel_rfl) rfl ?_
        refine m_skip 9 rfl (by kernel_rfl) rfl ?_
        refine m_skip 10 rfl (by kernel_rfl) rfl ?_
        refine m_skip 11 rfl (by kernel_rfl) rfl ?_
        refine m_skip 12 rfl (by kernel_rfl) rfl ?_
        refine m_skip 13 rfl (by kernel_rfl) rfl ?_
        refine m_skip 14 rfl (by kernel_rfl) rfl ?_
        refine m_skip 15 rfl (by kernel_rfl) rfl ?_
        refine m_skip 16 rfl (by kernel_rfl) rfl ?_
        refine m_y (v := .bool false) 17 rfl (by kernel_rfl) rfl rfl (fun w' e' => y_pick_f rfl rfl) ?_
        refine m_done (by kernel_rfl) (fun w40 e41 => ?_)
        replace B := B.ext0 e41
        clear e41
        clear B0_14 R15
        refine W_if_f (by decide) rfl ?_
        refine W_skip ?_
        refine W_region (by kernel_rfl) ?_
        refine s_y (v := .int .i64 (k + 1)) rfl (y_add rfl rfl rfl (by omega)) ?_
        refine s_y (v := .int .i64 (k + 1)) rfl (y_move rfl) ?_
        refine s_nil ?_
        refine ⟨⟨_, k + 1, b, Fits.eq ⟨rfl, rfl, rfl, rfl, rfl, rfl, trivial⟩, B, (by omega), (by omega), (by omega), (by omega), (peak_no (by omega) hq (by simp only [Bool.false_or, (decide_eq_true c6), (Bool.eq_false_iff.2 c16), Bool.and_true, Bool.true_and, Bool.and_false, Bool.false_and, Bool.not_true, Bool.not_false, Bool.or_true, Bool.true_or, Bool.or_false, Bool.false_or]))⟩, ?_⟩
        show ((nfe : Int) - (k + 1)).toNat < ((nfe : Int) - k).toNat
        omega
    · refine s_y (v := .bool false) rfl (y_lss rfl rfl (decide_eq_false c6)) ?_
      refine s_nil ?_
      refine W_seq ?_
      refine W_if_f (by decide) rfl ?_
      refine W_exit ?_
      refine W_seq ?_
      refine W_region (by kernel_rfl) ?_
      refine s_y (v := .int .i64 b) rfl (y_move rfl) ?_
      refine s_y (v := .int .i64 b) rfl (y_assign rfl) ?_
      refine s_nil ?_
      refine W_ret ?_
      refine ret1 (v := .int .i64 b) rfl rfl rfl ⟨_, rfl, ?_⟩
      exact ⟨congrArg (Value.int .i64) (by rw [hq]; congr 1; omega), B.ext⟩
namespace T124
theorem mx : Try.prog.follows .mixedOrders = true := by kernel_rfl
theorem agg_29_3 : aggB Try.prog 29 3 = true := by kernel_rfl
theorem fld_29_0_0 : fldB Try.prog 29 0 0 = true := by kernel_rfl
theorem fn_145 : fnB Try.prog 145 = true := by kernel_rfl
theorem fn_146 : fnB Try.prog 146 = true := by kernel_rfl
theorem one_24 : oneB Try.prog 24 = true := by kernel_rfl
theorem one_35 : oneB Try.prog 35 = true := by kernel_rfl
theorem sl_24_35_1 : slB Try.prog 24 35 1 = true := by kernel_rfl
end T124
set_option maxRecDepth 100000 in
set_option maxHeartbeats 4000000 in
theorem c_i_peakSize {afe : Option Addr} {nfe : Nat} {cfe : Nat} {Xfe : List Nat} {afx : Option Addr} {nfx : Nat} {cfx : Nat} {Xfx : List Nat} {afy : Option Addr} {nfy : Nat} {cfy : Nat} {Xfy : List Nat} {w : World} (qfe : Rd w kF afe nfe Xfe) (qfx : Rd w kF afx nfx Xfx) (qfy : Rd w kF afy nfy Xfy) (hbfe : nfe ≤ 9223372036854775806) :
    Calls Try.prog 124 #[.agg #[.slice afe nfe cfe, .slice afx nfx cfx, .slice afy nfy cfy]] w (Rt fun v w' => (∃ r, v = .float .f32 r ∧ can .f32 r = pkS Xfe) ∧ Ext0 w w') := by
  have hlfe := qfe.len
  have hlfx := qfx.len
  have hlfy := qfy.len
  have B : Bu w no w [.rd kF afe nfe Xfe, .rd kF afx nfx Xfx, .rd kF afy nfy Xfy] := Bu.ro (All.cons qfe (All.cons qfx (All.cons qfy All.nil))) rfl
  refine calls_W (n := 14) Try.func124 rfl rfl (Nat.le_of_ble_eq_true rfl) ?_
  refine W_seq ?_
  refine W_region (by kernel_rfl) ?_
  refine s_k rfl (k_boxN (v := .agg #[.slice afe nfe cfe, .slice afx nfx cfx, .slice afy nfy cfy]) (cs := [.slice afe nfe cfe, .slice afx nfx cfx, .slice afy nfy cfy]) rfl rfl (fun b1 w2 hN3 => ?_))
  replace B := B.new1 hN3
  clear hN3
  refine s_y (v := .float .f32 0) rfl (y_assign rfl) ?_
  refine s_nil ?_
  refine W_seq ?_
  refine W_region (by kernel_rfl) ?_
  refine s_y (v := .agg #[.slice afe nfe cfe, .slice afx nfx cfx, .slice afy nfy cfy]) rfl (y_loadn (b := b1) (o := 0) (vs := [.slice afe nfe cfe, .slice afx nfx cfx, .slice afy nfy cfy]) T124.agg_29_3 rfl rfl ((B.b 0 rfl).cells (o := 0) rfl)) ?_
  refine s_k rfl (k_call T124.fn_145 (c_i_peakOf (B.r 1 rfl) (B.r 2 rfl) (B.r 3 rfl) (by omega)) rfl ?_)
  rintro _ w4 ⟨rfl, e5⟩
  replace B := B.ext0 e5
  clear e5
  have hpk6 := peakI_b Xfe (List.length Xfe)
  refine s_y (v := .int .i64 (peakI Xfe Xfe.length)) rfl (y_assign rfl) ?_
  refine s_nil ?_
  refine W_seq ?_
  refine W_seq ?_
  refine W_region (by kernel_rfl) ?_
  refine s_y (v := .int .i64 (peakI Xfe Xfe.length)) rfl (y_move rfl) ?_
  by_cases c7 : (peakI Xfe Xfe.length) < 0
  · refine s_y (v := .bool true) rfl (y_lss rfl rfl (decide_eq_true c7)) ?_
    refine s_nil ?_
    refine W_if_t (by decide) rfl ?_
    refine W_seq ?_
    refine W_region (by kernel_rfl) ?_
    refine s_y (v := .float .f32 0) rfl (y_assign rfl) ?_
    refine s_nil ?_
    refine W_ret ?_
    refine ret1 (v := .float .f32 0) rfl rfl rfl ⟨_, rfl, ?_⟩
    exact ⟨⟨_, rfl, (show can .f32 0 = 0 by kernel_rfl).trans (pkS_no (by assumption))⟩, B.ext⟩
  · refine s_y (v := .bool false) rfl (y_lss rfl rfl (decide_eq_false c7)) ?_
    refine s_nil ?_
    refine W_if_f (by decide) rfl ?_
    refine W_skip ?_
    refine W_seq ?_
    refine W_region (by kernel_rfl) ?_
    refine s_y (v := .pointer (some ⟨b1, 0, none⟩)) rfl (y_fld (o := 0) T124.fld_29_0_0 rfl) ?_
    refine s_y (v := .slice afe nfe cfe) rfl (y_load T124.one_24 rfl ((B.b 0 rfl).cell (j := 0) rfl)) ?_
    refine s_y (v := .int .i64 (peakI Xfe Xfe.length)) rfl (y_move rfl) ?_
    refine s_y (v := .pointer (some (sat afe ((peakI Xfe Xfe.length).toNat * 1)))) rfl (y_idx T124.sl_24_35_1 rfl rfl ((B.r 1 rfl).addr (by omega)) (by omega) (by omega)) ?_
    obtain ⟨r9, hr10, hR8⟩ := Rd.atF (B.r 1 rfl) (peakI Xfe Xfe.length) (by omega) (by omega)
    refine s_y (v := .float .f32 r9) rfl (y_load T124.one_35 rfl (hR8.cell (i := 0) rfl)) ?_
    refine s_k rfl (k_call T124.fn_146 (c_i_size hr10) rfl ?_)
    rintro _ w11 ⟨⟨r13, rfl, hr14⟩, e12⟩
    replace B := B.ext0 e12
    clear e12
    refine s_y (v := .float .f32 r13) rfl (y_assign rfl) ?_
    refine s_nil ?_
    refine W_ret ?_
    refine ret1 (v := .float .f32 r13) rfl rfl rfl ⟨_, rfl, ?_⟩
    exact ⟨⟨_, rfl, hr14.trans (pkS_yes (by assumption))⟩, B.ext⟩
namespace T69
theorem mx : Try.prog.follows .mixedOrders = true := by kernel_rfl
theorem agg_26_5 : aggB Try.prog 26 5 = true := by kernel_rfl
theorem agg_29_3 : aggB Try.prog 29 3 = true := by kernel_rfl
theorem fn_119 : fnB Try.prog 119 = true := by kernel_rfl
theorem fn_124 : fnB Try.prog 124 = true := by kernel_rfl
end T69
set_option maxRecDepth 100000 in
set_option maxHeartbeats 4000000 in
theorem c_i_PeakTrace {wd : Int} {hi : Int} {wr : Bool} {asp : Option Addr} {nsp : Nat} {csp : Nat} {Xsp : List Nat} {als : Option Addr} {nls : Nat} {cls : Nat} {Xls : List Nat} {afe : Option Addr} {nfe : Nat} {cfe : Nat} {Xfe : List Nat} {afx : Option Addr} {nfx : Nat} {cfx : Nat} {Xfx : List Nat} {afy : Option Addr} {nfy : Nat} {cfy : Nat} {Xfy : List Nat} {m : Int} {w : World} (qsp : Rd w kF asp nsp Xsp) (qls : Rd w kF als nls Xls) (qfe : Rd w kF afe nfe Xfe) (qfx : Rd w kF afx nfx Xfx) (qfy : Rd w kF afy nfy Xfy) (hbsp : nsp ≤ 9223372036854775806) (hbls : nls ≤ 9223372036854775806) (hbfe : nfe ≤ 9223372036854775806) (hbfx : nfx ≤ 9223372036854775806) (hbfy : nfy ≤ 9223372036854775806) :
    Calls Try.prog 69 #[.agg #[.int .i64 wd, .int .i64 hi, .bool wr, .slice asp nsp csp, .slice als nls cls], .agg #[.slice afe nfe cfe, .slice afx nfx cfx, .slice afy nfy cfy], .int .i64 m] w (Rt fun v w' => (runB wd hi wr Xsp Xls Xfe Xfx Xfy m = true ∧ ∃ (a1 : Option Addr) (c1 : Nat), v = .tuple #[.slice a1 (Int.toNat m) c1, .bool true] ∧ New w w' [.ow kF a1 (Int.toNat m) c1 35 (trL wd hi wr Xsp Xls (Xfe, Xfx, Xfy) (fun F => pkS F.1) m)]) ∨ (runB wd hi wr Xsp Xls Xfe Xfx Xfy m = false ∧ v = .tuple #[.slice none 0 0, .bool false] ∧ Ext0 w w')) := by
  have hlsp := qsp.len
  have hlls := qls.len
  have hlfe := qfe.len
  have hlfx := qfx.len
  have hlfy := qfy.len
  have B : Bu w no w [.rd kF asp nsp Xsp, .rd kF als nls Xls, .rd kF afe nfe Xfe, .rd kF afx nfx Xfx, .rd kF afy nfy Xfy] := Bu.ro (All.cons qsp (All.cons qls (All.cons qfe (All.cons qfx (All.cons qfy All.nil))))) rfl
  refine calls_W (n := 14) Try.func69 rfl rfl (Nat.le_of_ble_eq_true rfl) ?_
  refine W_seq ?_
  refine W_region (by kernel_rfl) ?_
  refine s_k rfl (k_boxN (v := .agg #[.int .i64 wd, .int .i64 hi, .bool wr, .slice asp nsp csp, .slice als nls cls]) (cs := [.int .i64 wd, .int .i64 hi, .bool wr, .slice asp nsp csp, .slice als nls cls]) rfl rfl (fun b1 w2 hN3 => ?_))
  replace B := B.new1 hN3
  clear hN3
  refine s_k rfl (k_boxN (v := .agg #[.slice afe nfe cfe, .slice afx nfx cfx, .slice afy nfy cfy]) (cs := [.slice afe nfe cfe, .slice afx nfx cfx, .slice afy nfy cfy]) rfl rfl (fun b4 w5 hN6 => ?_))
  replace B := B.new1 hN6
  clear hN6
  refine s_y (v := .slice none 0 0) rfl (y_assign rfl) ?_
  refine s_y (v := .bool false) rfl (y_assign rfl) ?_
  refine s_nil ?_
  refine W_seq ?_
  refine W_region (by kernel_rfl) ?_
  refine s_y (v := .agg #[.int .i64 wd, .int .i64 hi, .bool wr, .slice asp nsp csp, .slice als nls cls]) rfl (y_loadn (b := b1) (o := 0) (vs := [.int .i64 wd, .int .i64 hi, .bool wr, .slice asp nsp csp, .slice als nls cls]) T69.agg_26_5 rfl rfl ((B.b 1 rfl).cells (o := 0) rfl)) ?_
  refine s_y (v := .agg #[.slice afe nfe cfe, .slice afx nfx cfx, .slice afy nfy cfy]) rfl (y_loadn (b := b4) (o := 0) (vs := [.slice afe nfe cfe, .slice afx nfx cfx, .slice afy nfy cfy]) T69.agg_29_3 rfl rfl ((B.b 0 rfl).cells (o := 0) rfl)) ?_
  refine s_y (v := .int .i64 m) rfl (y_move rfl) ?_
  refine s_k rfl (k_call T69.fn_119 (c_i_traceBy (f := 124) (us := []) (xs := []) (FN := (fun F => pkS F.1)) (m := m) (B.r 2 rfl) (B.r 3 rfl) (B.r 4 rfl) (B.r 5 rfl) (B.r 6 rfl) T69.fn_124 (fun {ae ax ay ce cx cy E X Y w1} e r1 r2 r3 hk => (by have hz := fieldB_b hk; exact c_i_peakSize r1 r2 r3 (by omega))) (by omega) (by omega) (by omega) (by omega) (by omega)) rfl ?_)
  rintro v9 w7 hx8
  by_cases c10 : runB wd hi wr Xsp Xls Xfe Xfx Xfy m = true
  · have hb11 := runB_b c10
    obtain ⟨a12, c13, rfl, hN14⟩ := (hx8.resolve_right (fun hz => by rw [c10] at hz; cases hz.1)).2
    clear hx8
    replace B := B.new1 hN14
    clear hN14
    refine s_y (v := .slice a12 (Int.toNat m) c13) rfl (y_extract rfl rfl) ?_
    refine s_y (v := .bool true) rfl (y_extract rfl rfl) ?_
    refine s_y (v := .slice a12 (Int.toNat m) c13) rfl (y_assign rfl) ?_
    refine s_y (v := .bool true) rfl (y_assign rfl) ?_
    refine s_nil ?_
    refine W_ret ?_
    refine ret2 (v1 := .slice a12 (Int.toNat m) c13) (v2 := .bool true) rfl rfl rfl rfl rfl ⟨_, rfl, ?_⟩
    have hcond : runB wd hi wr Xsp Xls Xfe Xfx Xfy m = true := by simp only [c10, Bool.and_true, Bool.true_and, Bool.and_false, Bool.false_and, Bool.not_true, Bool.not_false, Bool.or_true, Bool.true_or, Bool.or_false, Bool.false_or]
    exact .inl ⟨hcond, ⟨_, _, rfl, B.give [0] rfl rfl rfl⟩⟩
  · obtain ⟨_, rfl, e15⟩ := hx8.resolve_left (fun hz => c10 hz.1)
    clear hx8
    replace B := B.ext0 e15
    clear e15
    refine s_y (v := .slice none 0 0) rfl (y_extract rfl rfl) ?_
    refine s_y (v := .bool false) rfl (y_extract rfl rfl) ?_
    refine s_y (v := .slice none 0 0) rfl (y_assign rfl) ?_
    refine s_y (v := .bool false) rfl (y_assign rfl) ?_
    refine s_nil ?_
    refine W_ret ?_
    refine ret2 (v1 := .slice none 0 0) (v2 := .bool false) rfl rfl rfl rfl rfl ⟨_, rfl, ?_⟩
    exact .inr ⟨by simp only [(Bool.eq_false_iff.2 c10), Bool.and_true, Bool.true_and, Bool.and_false, Bool.false_and, Bool.not_true, Bool.not_false, Bool.or_true, Bool.true_or, Bool.or_false, Bool.false_or], rfl, B.ext⟩
namespace T14
theorem mx : Try.prog.follows .mixedOrders = true := by kernel_rfl
theorem agg_26_5 : aggB Try.prog 26 5 = true := by kernel_rfl
theorem agg_29_3 : aggB Try.prog 29 3 = true := by kernel_rfl
theorem agg_45_5 : aggB Try.prog 45 5 = true := by kernel_rfl
theorem agg_46_3 : aggB Try.prog 46 3 = true := by kernel_rfl
theorem bool_4 : Try.prog.underlying 4 = some .bool := by kernel_rfl
theorem fn_31 : fnB Try.prog 31 = true := by kernel_rfl
theorem fn_32 : fnB Try.prog 32 = true := by kernel_rfl
theorem fn_34 : fnB Try.prog 34 = true := by kernel_rfl
theorem fn_35 : fnB Try.prog 35 = true := by kernel_rfl
theorem fn_38 : fnB Try.prog 38 = true := by kernel_rfl
theorem fn_39 : fnB Try.prog 39 = true := by kernel_rfl
theorem fn_40 : fnB Try.prog 40 = true := by kernel_rfl
theorem fn_41 : fnB Try.prog 41 = true := by kernel_rfl
theorem fn_54 : fnB Try.prog 54 = true := by kernel_rfl
theorem fn_57 : fnB Try.prog 57 = true := by kernel_rfl
theorem fn_58 : fnB Try.prog 58 = true := by kernel_rfl
theorem fn_68 : fnB Try.prog 68 = true := by kernel_rfl
theorem fn_69 : fnB Try.prog 69 = true := by kernel_rfl
theorem sz_26_5 : szB Try.prog 26 5 = true := by kernel_rfl
theorem sz_29_3 : szB Try.prog 29 3 = true := by kernel_rfl
theorem zero_26 : zeroB Try.prog 26 (.agg #[.int .i64 0, .int .i64 0, .bool false, .slice none 0 0, .slice none 0 0]) := by unfold zeroB; kernel_rfl
theorem zero_29 : zeroB Try.prog 29 (.agg #[.slice none 0 0, .slice none 0 0, .slice none 0 0]) := by unfold zeroB; kernel_rfl
end T14
set_option maxRecDepth 100000 in
set_option maxHeartbeats 20000000 in
theorem c_FnExactPeakTrace {wd0 : Int} {hi0 : Int} {wr0 : Bool} {asp0 : Option Addr} {nsp0 : Nat} {csp0 : Nat} {Xsp0 : List Nat} {als0 : Option Addr} {nls0 : Nat} {cls0 : Nat} {Xls0 : List Nat} {afe1 : Option Addr} {nfe1 : Nat} {cfe1 : Nat} {Xfe1 : List Nat} {afx1 : Option Addr} {nfx1 : Nat} {cfx1 : Nat} {Xfx1 : List Nat} {afy1 : Option Addr} {nfy1 : Nat} {cfy1 : Nat} {Xfy1 : List Nat} {i2 : Int} {w : World} (qsp0 : Rd w kF asp0 nsp0 Xsp0) (qls0 : Rd w kF als0 nls0 Xls0) (qfe1 : Rd w kF afe1 nfe1 Xfe1) (qfx1 : Rd w kF afx1 nfx1 Xfx1) (qfy1 : Rd w kF afy1 nfy1 Xfy1) (gsp0 : nsp0 ≤ 9223372036854775807) (gls0 : nls0 ≤ 9223372036854775807) (gfe1 : nfe1 ≤ 9223372036854775807) (gfx1 : nfx1 ≤ 9223372036854775807) (gfy1 : nfy1 ≤ 9223372036854775807) :
    Calls Try.prog 14 #[.agg #[.int .i64 wd0, .int .i64 hi0, .bool wr0, .slice asp0 nsp0 csp0, .slice als0 nls0 cls0], .agg #[.slice afe1 nfe1 cfe1, .slice afx1 nfx1 cfx1, .slice afy1 nfy1 cfy1], .int .i64 i2] w (Rt fun v w' => v = .bool true ∧ Ext0 w w') := by
  have hlsp0 := qsp0.len
  have hlls0 := qls0.len
  have hlfe1 := qfe1.len
  have hlfx1 := qfx1.len
  have hlfy1 := qfy1.len
  have B : Bu w no w [.rd kF asp0 nsp0 Xsp0, .rd kF als0 nls0 Xls0, .rd kF afe1 nfe1 Xfe1, .rd kF afx1 nfx1 Xfx1, .rd kF afy1 nfy1 Xfy1] := Bu.ro (All.cons qsp0 (All.cons qls0 (All.cons qfe1 (All.cons qfx1 (All.cons qfy1 All.nil))))) rfl
  refine calls_W (n := 124) Try.func14 rfl rfl (Nat.le_of_ble_eq_true rfl) ?_
  refine W_seq ?_
  refine W_region (by kernel_rfl) ?_
  refine s_k rfl (k_boxN (v := .agg #[.int .i64 wd0, .int .i64 hi0, .bool wr0, .slice asp0 nsp0 csp0, .slice als0 nls0 cls0]) (cs := [.int .i64 wd0, .int .i64 hi0, .bool wr0, .slice asp0 nsp0 csp0, .slice als0 nls0 cls0]) rfl rfl (fun b1 w2 hN3 => ?_))
  replace B := B.new1 hN3
  clear hN3
  refine s_k rfl (k_boxN (v := .agg #[.slice afe1 nfe1 cfe1, .slice afx1 nfx1 cfx1, .slice afy1 nfy1 cfy1]) (cs := [.slice afe1 nfe1 cfe1, .slice afx1 nfx1 cfx1, .slice afy1 nfy1 cfy1]) rfl rfl (fun b4 w5 hN6 => ?_))
  replace B := B.new1 hN6
  clear hN6
  refine s_y (v := .bool false) rfl (y_assign rfl) ?_
  refine s_nil ?_
  refine W_seq ?_
  refine W_region (by kernel_rfl) ?_
  refine s_y (v := .int .i64 1048576) rfl (y_assign rfl) ?_
  refine s_nil ?_
  refine W_seq ?_
  refine W_region (by kernel_rfl) ?_
  refine s_y (v := .agg #[.int .i64 wd0, .int .i64 hi0, .bool wr0, .slice asp0 nsp0 csp0, .slice als0 nls0 cls0]) rfl (y_loadn (b := b1) (o := 0) (vs := [.int .i64 wd0, .int .i64 hi0, .bool wr0, .slice asp0 nsp0 csp0, .slice als0 nls0 cls0]) T14.agg_45_5 rfl rfl ((B.b 1 rfl).cells (o := 0) rfl)) ?_
  refine s_y (v := .int .i64 1048576) rfl (y_move rfl) ?_
  refine s_k rfl (k_call T14.fn_31 (c_l_szSheet (by omega) (by omega) (by omega) (by omega)) rfl ?_)
  rintro v9 w7 ⟨hv10, e8⟩
  replace B := B.ext0 e8
  clear e8
  by_cases c11 : ((nsp0 : Nat) : Int) + ((nls0 : Nat) : Int) ≤ 1048576
  · obtain rfl : v9 = .int .i64 (1048576 - ((nsp0 : Nat) : Int) - ((nls0 : Nat) : Int)) := hv10.trans (congrArg _ (if_pos c11))
    have hk12 : ¬ (1048576 - ((nsp0 : Nat) : Int) - ((nls0 : Nat) : Int)) < 0 := by omega
    refine s_y (v := .int .i64 (1048576 - ((nsp0 : Nat) : Int) - ((nls0 : Nat) : Int))) rfl (y_assign rfl) ?_
    refine s_nil ?_
    refine W_seq ?_
    refine W_seq ?_
    refine W_region (by kernel_rfl) ?_
    refine s_y (v := .int .i64 (1048576 - ((nsp0 : Nat) : Int) - ((nls0 : Nat) : Int))) rfl (y_move rfl) ?_
    refine s_y (v := .bool false) rfl (y_lss rfl rfl (decide_eq_false hk12)) ?_
    refine s_nil ?_
    refine W_if_f (by decide) rfl ?_
    refine W_skip ?_
    refine W_seq ?_
    refine W_region (by kernel_rfl) ?_
    refine s_y (v := .agg #[.slice afe1 nfe1 cfe1, .slice afx1 nfx1 cfx1, .slice afy1 nfy1 cfy1]) rfl (y_loadn (b := b4) (o := 0) (vs := [.slice afe1 nfe1 cfe1, .slice afx1 nfx1 cfx1, .slice afy1 nfy1 cfy1]) T14.agg_46_3 rfl rfl ((B.b 0 rfl).cells (o := 0) rfl)) ?_
    refine s_y (v := .int .i64 (1048576 - ((nsp0 : Nat) : Int) - ((nls0 : Nat) : Int))) rfl (y_move rfl) ?_
    refine s_k rfl (k_call T14.fn_32 (c_l_szField (by omega) (by omega) (by omega) (by omega) (by omega)) rfl ?_)
    rintro v15 w13 ⟨hv16, e14⟩
    replace B := B.ext0 e14
    clear e14
    by_cases c17 : ((nfe1 : Nat) : Int) + ((nfx1 : Nat) : Int) + ((nfy1 : Nat) : Int) ≤ (1048576 - ((nsp0 : Nat) : Int) - ((nls0 : Nat) : Int))
    · obtain rfl : v15 = .int .i64 ((1048576 - ((nsp0 : Nat) : Int) - ((nls0 : Nat) : Int)) - ((nfe1 : Nat) : Int) - ((nfx1 : Nat) : Int) - ((nfy1 : Nat) : Int)) := hv16.trans (congrArg _ (if_pos c17))
      have hk18 : ¬ ((1048576 - ((nsp0 : Nat) : Int) - ((nls0 : Nat) : Int)) - ((nfe1 : Nat) : Int) - ((nfx1 : Nat) : Int) - ((nfy1 : Nat) : Int)) < 0 := by omega
      refine s_y (v := .int .i64 ((1048576 - ((nsp0 : Nat) : Int) - ((nls0 : Nat) : Int)) - ((nfe1 : Nat) : Int) - ((nfx1 : Nat) : Int) - ((nfy1 : Nat) : Int))) rfl (y_assign rfl) ?_
      refine s_nil ?_
      refine W_seq ?_
      refine W_seq ?_
      refine W_region (by kernel_rfl) ?_
      refine s_y (v := .int .i64 ((1048576 - ((nsp0 : Nat) : Int) - ((nls0 : Nat) : Int)) - ((nfe1 : Nat) : Int) - ((nfx1 : Nat) : Int) - ((nfy1 : Nat) : Int))) rfl (y_move rfl) ?_
      refine s_y (v := .bool false) rfl (y_lss rfl rfl (decide_eq_false hk18)) ?_
      refine s_nil ?_
      refine W_if_f (by decide) rfl ?_
      refine W_skip ?_
      refine W_seq ?_
      have B0_23 := B
      refine W_draw (no) T14.mx (by kernel_rfl) (fun w21 e22 => ?_)
      have R24 := Ext.refl (no) w13
      replace R24 := R24.trans (Ext0.any e22)
      replace B := B.ext0 e22
      clear e22
      refine m_y (v := .agg #[.int .i64 wd0, .int .i64 hi0, .bool wr0, .slice asp0 nsp0 csp0, .slice als0 nls0 cls0]) 0 rfl (by kernel_rfl) rfl rfl (fun w' e' => y_loadn (b := b1) (o := 0) (vs := [.int .i64 wd0, .int .i64 hi0, .bool wr0, .slice asp0 nsp0 csp0, .slice als0 nls0 cls0]) T14.agg_45_5 rfl rfl (((B0_23.b 1 rfl).ext0 e').cells (o := 0) rfl)) ?_
      refine m_y (v := .agg #[.slice afe1 nfe1 cfe1, .slice afx1 nfx1 cfx1, .slice afy1 nfy1 cfy1]) 2 rfl (by kernel_rfl) rfl rfl (fun w' e' => y_loadn (b := b4) (o := 0) (vs := [.slice afe1 nfe1 cfe1, .slice afx1 nfx1 cfx1, .slice afy1 nfy1 cfy1]) T14.agg_46_3 rfl rfl (((B0_23.b 0 rfl).ext0 e').cells (o := 0) rfl)) ?_
      refine m_y (v := .int .i64 i2) 4 rfl (by kernel_rfl) rfl rfl (fun w' e' => y_move rfl) ?_
      refine m_k 1 [3, 5, 6, 7, 8, 9, 10] rfl (by kernel_rfl) rfl rfl (fun w25 e26 => ?_)
      replace R24 := R24.trans (Ext0.any e26)
      replace B := B.ext0 e26
      clear e26
      refine k_call T14.fn_34 (c_l_toSheet (B.r 2 rfl) (B.r 3 rfl) (by omega) (by omega)) rfl ?_
      rintro _ w27 ⟨a28, c29, a30, c31, rfl, hN32⟩
      replace R24 := R24.trans (Ext0.any hN32.ext)
      replace B := B.new2 hN32
      clear hN32
      refine ⟨fun _ => R24, ?_⟩
      refine m_k 3 [5, 6, 7, 8, 9, 10] rfl (by kernel_rfl) rfl rfl (fun w33 e34 => ?_)
      replace R24 := R24.trans (Ext0.any e34)
      replace B := B.ext0 e34
      clear e34
      refine k_call T14.fn_35 (c_l_toField (B.r 6 rfl) (B.r 7 rfl) (B.r 8 rfl) (by omega) (by omega) (by omega)) rfl ?_
      rintro _ w35 ⟨a36, c37, a38, c39, a40, c41, rfl, hN42⟩
      replace R24 := R24.trans (Ext0.any hN42.ext)
      replace B := B.new3 hN42
      clear hN42
      refine ⟨fun _ => R24, ?_⟩
      refine m_k 5 [6, 7, 8, 9, 10] rfl (by kernel_rfl) rfl rfl (fun w43 e44 => ?_)
      replace R24 := R24.trans (Ext0.any e44)
      replace B := B.ext0 e44
      clear e44
      refine k_call T14.fn_68 (c_s_PeakTrace ((B.o 3 rfl).rd) ((B.o 4 rfl).rd) ((B.o 0 rfl).rd) ((B.o 1 rfl).rd) ((B.o 2 rfl).rd) (by omega) (by omega) (by omega) (by omega) (by omega)) rfl ?_
      rintro v47 w45 hx46
      by_cases c48 : runB wd0 hi0 wr0 Xsp0 Xls0 Xfe1 Xfx1 Xfy1 i2 = true
      · have hb49 := runB_b c48
        obtain ⟨a50, c51, rfl, hN52⟩ := (hx46.resolve_right (fun hz => by rw [c48] at hz; cases hz.1)).2
        clear hx46
        replace R24 := R24.trans (Ext0.any hN52.ext)
        replace B := B.new1 hN52
        clear hN52
        refine ⟨fun _ => R24, ?_⟩
        refine m_y (v := .tuple #[.slice a50 (Int.toNat i2) c51, .bool true]) 6 rfl (by kernel_rfl) rfl rfl (fun w' e' => y_move rfl) ?_
        refine m_y (v := .slice a50 (Int.toNat i2) c51) 7 rfl (by kernel_rfl) rfl rfl (fun w' e' => y_extract rfl rfl) ?_
        refine m_y (v := .bool true) 8 rfl (by kernel_rfl) rfl rfl (fun w' e' => y_extract rfl rfl) ?_
        refine m_y (v := .slice a50 (Int.toNat i2) c51) 9 rfl (by kernel_rfl) rfl rfl (fun w' e' => y_assign rfl) ?_
        refine m_y (v := .bool true) 10 rfl (by kernel_rfl) rfl rfl (fun w' e' => y_assign rfl) ?_
        refine m_done (by kernel_rfl) (fun w53 e54 => ?_)
        replace B := B.ext0 e54
        clear e54
        clear B0_23 R24
        refine W_seq ?_
        refine W_region (by kernel_rfl) ?_
        refine s_y (v := .agg #[.int .i64 wd0, .int .i64 hi0, .bool wr0, .slice asp0 nsp0 csp0, .slice als0 nls0 cls0]) rfl (y_loadn (b := b1) (o := 0) (vs := [.int .i64 wd0, .int .i64 hi0, .bool wr0, .slice asp0 nsp0 csp0, .slice als0 nls0 cls0]) T14.agg_45_5 rfl rfl ((B.b 7 rfl).cells (o := 0) rfl)) ?_
        refine s_k rfl (k_call T14.fn_34 (c_l_toSheet (B.r 8 rfl) (B.r 9 rfl) (by omega) (by omega)) rfl ?_)
        rintro _ w55 ⟨a56, c57, a58, c59, rfl, hN60⟩
        replace B := B.new2 hN60
        clear hN60
        refine s_k rfl (k_allocN (z := (.agg #[.int .i64 0, .int .i64 0, .bool false, .slice none 0 0, .slice none 0 0])) (cs := [.int .i64 0, .int .i64 0, .bool false, .slice none 0 0, .slice none 0 0]) T14.zero_26 rfl (fun b61 w62 hN63 => ?_))
        replace B := B.new1 hN63
        clear hN63
        refine s_k0 rfl (k_stB (v := .agg #[.int .i64 wd0, .int .i64 hi0, .bool wr0, .slice a56 nsp0 c57, .slice a58 nls0 c59]) (n := 5) (cs' := [.int .i64 wd0, .int .i64 hi0, .bool wr0, .slice a56 nsp0 c57, .slice a58 nls0 c59]) T14.sz_26_5 rfl rfl rfl (B.b 0 rfl) (by simp [Value.cells, Value.oneCell']) (Nat.le_of_ble_eq_true rfl) rfl (fun w64 hU65 => ?_))
        replace B : Bu w no w64 [.blk b61 [.int .i64 wd0, .int .i64 hi0, .bool wr0, .slice a56 nsp0 c57, .slice a58 nls0 c59] 26, .ow kF a56 nsp0 c57 35 Xsp0, .ow kF a58 nls0 c59 35 Xls0, .ow kF a50 (Int.toNat i2) c51 35 (trL wd0 hi0 wr0 Xsp0 Xls0 (Xfe1, Xfx1, Xfy1) (fun F => pkS F.1) i2), .ow kF a36 nfe1 c37 35 Xfe1, .ow kF a38 nfx1 c39 35 Xfx1, .ow kF a40 nfy1 c41 35 Xfy1, .ow kF a28 nsp0 c29 35 Xsp0, .ow kF a30 nls0 c31 35 Xls0, .blk b4 [.slice afe1 nfe1 cfe1, .slice afx1 nfx1 cfx1, .slice afy1 nfy1 cfy1] 46, .blk b1 [.int .i64 wd0, .int .i64 hi0, .bool wr0, .slice asp0 nsp0 csp0, .slice als0 nls0 cls0] 45, .rd kF asp0 nsp0 Xsp0, .rd kF als0 nls0 Xls0, .rd kF afe1 nfe1 Xfe1, .rd kF afx1 nfx1 Xfx1, .rd kF afy1 nfy1 Xfy1] := B.upd [0] rfl hU65
        clear hU65
        refine s_nil ?_
        refine W_seq ?_
        refine W_region (by kernel_rfl) ?_
        refine s_y (v := .agg #[.slice afe1 nfe1 cfe1, .slice afx1 nfx1 cfx1, .slice afy1 nfy1 cfy1]) rfl (y_loadn (b := b4) (o := 0) (vs := [.slice afe1 nfe1 cfe1, .slice afx1 nfx1 cfx1, .slice afy1 nfy1 cfy1]) T14.agg_46_3 rfl rfl ((B.b 9 rfl).cells (o := 0) rfl)) ?_
        refine s_k rfl (k_call T14.fn_35 (c_l_toField (B.r 13 rfl) (B.r 14 rfl) (B.r 15 rfl) (by omega) (by omega) (by omega)) rfl ?_)
        rintro _ w66 ⟨a67, c68, a69, c70, a71, c72, rfl, hN73⟩
        replace B := B.new3 hN73
        clear hN73
        refine s_k rfl (k_allocN (z := (.agg #[.slice none 0 0, .slice none 0 0, .slice none 0 0])) (cs := [.slice none 0 0, .slice none 0 0, .slice none 0 0]) T14.zero_29 rfl (fun b74 w75 hN76 => ?_))
        replace B := B.new1 hN76
        clear hN76
        refine s_k0 rfl (k_stB (v := .agg #[.slice a67 nfe1 c68, .slice a69 nfx1 c70, .slice a71 nfy1 c72]) (n := 3) (cs' := [.slice a67 nfe1 c68, .slice a69 nfx1 c70, .slice a71 nfy1 c72]) T14.sz_29_3 rfl rfl rfl (B.b 0 rfl) (by simp [Value.cells, Value.oneCell']) (Nat.le_of_ble_eq_true rfl) rfl (fun w77 hU78 => ?_))
        replace B : Bu w no w77 [.blk b74 [.slice a67 nfe1 c68, .slice a69 nfx1 c70, .slice a71 nfy1 c72] 29, .ow kF a67 nfe1 c68 35 Xfe1, .ow kF a69 nfx1 c70 35 Xfx1, .ow kF a71 nfy1 c72 35 Xfy1, .blk b61 [.int .i64 wd0, .int .i64 hi0, .bool wr0, .slice a56 nsp0 c57, .slice a58 nls0 c59] 26, .ow kF a56 nsp0 c57 35 Xsp0, .ow kF a58 nls0 c59 35 Xls0, .ow kF a50 (Int.toNat i2) c51 35 (trL wd0 hi0 wr0 Xsp0 Xls0 (Xfe1, Xfx1, Xfy1) (fun F => pkS F.1) i2), .ow kF a36 nfe1 c37 35 Xfe1, .ow kF a38 nfx1 c39 35 Xfx1, .ow kF a40 nfy1 c41 35 Xfy1, .ow kF a28 nsp0 c29 35 Xsp0, .ow kF a30 nls0 c31 35 Xls0, .blk b4 [.slice afe1 nfe1 cfe1, .slice afx1 nfx1 cfx1, .slice afy1 nfy1 cfy1] 46, .blk b1 [.int .i64 wd0, .int .i64 hi0, .bool wr0, .slice asp0 nsp0 csp0, .slice als0 nls0 cls0] 45, .rd kF asp0 nsp0 Xsp0, .rd kF als0 nls0 Xls0, .rd kF afe1 nfe1 Xfe1, .rd kF afx1 nfx1 Xfx1, .rd kF afy1 nfy1 Xfy1] := B.upd [0] rfl hU78
        clear hU78
        refine s_nil ?_
        refine W_seq ?_
        refine W_region (by kernel_rfl) ?_
        refine s_y (v := .agg #[.int .i64 wd0, .int .i64 hi0, .bool wr0, .slice a56 nsp0 c57, .slice a58 nls0 c59]) rfl (y_loadn (b := b61) (o := 0) (vs := [.int .i64 wd0, .int .i64 hi0, .bool wr0, .slice a56 nsp0 c57, .slice a58 nls0 c59]) T14.agg_26_5 rfl rfl ((B.b 4 rfl).cells (o := 0) rfl)) ?_
        refine s_y (v := .agg #[.slice a67 nfe1 c68, .slice a69 nfx1 c70, .slice a71 nfy1 c72]) rfl (y_loadn (b := b74) (o := 0) (vs := [.slice a67 nfe1 c68, .slice a69 nfx1 c70, .slice a71 nfy1 c72]) T14.agg_29_3 rfl rfl ((B.b 0 rfl).cells (o := 0) rfl)) ?_
        refine s_y (v := .int .i64 i2) rfl (y_move rfl) ?_
        refine s_k rfl (k_call T14.fn_69 (c_i_PeakTrace ((B.o 5 rfl).rd) ((B.o 6 rfl).rd) ((B.o 1 rfl).rd) ((B.o 2 rfl).rd) ((B.o 3 rfl).rd) (by omega) (by omega) (by omega) (by omega) (by omega)) rfl ?_)
        rintro v81 w79 hx80
        obtain ⟨a82, c83, rfl, hN84⟩ := (hx80.resolve_right (fun hz => by rw [c48] at hz; cases hz.1)).2
        clear hx80
        replace B := B.new1 hN84
        clear hN84
        refine s_y (v := .tuple #[.slice a82 (Int.toNat i2) c83, .bool true]) rfl (y_move rfl) ?_
        refine s_y (v := .slice a82 (Int.toNat i2) c83) rfl (y_extract rfl rfl) ?_
        refine s_y (v := .bool true) rfl (y_extract rfl rfl) ?_
        refine s_y (v := .slice a82 (Int.toNat i2) c83) rfl (y_assign rfl) ?_
        refine s_y (v := .bool true) rfl (y_assign rfl) ?_
        refine s_nil ?_
        refine W_seq ?_
        refine W_seq ?_
        refine W_region (by kernel_rfl) ?_
        refine s_y (v := .slice a82 (Int.toNat i2) c83) rfl (y_move rfl) ?_
        refine s_y (v := .slice a50 (Int.toNat i2) c51) rfl (y_move rfl) ?_
        refine s_k rfl (k_call T14.fn_54 (c_l_eqFloat32S ((B.o 0 rfl).rd) ((B.o 8 rfl).rd) (by omega)) rfl ?_)
        rintro _ w85 ⟨rfl, e86⟩
        replace B := B.ext0 e86
        clear e86
        refine s_y (v := .bool false) rfl (y_not rfl rfl) ?_
        refine s_y (v := .bool false) rfl (y_move rfl) ?_
        refine s_y (v := .bool true) rfl (y_move rfl) ?_
        refine s_y (v := .bool true) rfl (y_move rfl) ?_
        refine s_y (v := .bool false) rfl (y_bneq T14.bool_4 rfl rfl rfl) ?_
        refine s_y (v := .bool false) rfl (y_pick_f rfl rfl) ?_
        refine s_nil ?_
        refine W_if_f (by decide) rfl ?_
        refine W_skip ?_
        refine W_seq ?_
        refine W_seq ?_
        have B0_91 := B
        refine W_draw (no) T14.mx (by kernel_rfl) (fun w89 e90 => ?_)
        have R92 := Ext.refl (no) w85
        replace R92 := R92.trans (Ext0.any e90)
        replace B := B.ext0 e90
        clear e90
        refine m_y (v := .agg #[.int .i64 wd0, .int .i64 hi0, .bool wr0, .slice a56 nsp0 c57, .slice a58 nls0 c59]) 0 rfl (by kernel_rfl) rfl rfl (fun w' e' => y_loadn (b := b61) (o := 0) (vs := [.int .i64 wd0, .int .i64 hi0, .bool wr0, .slice a56 nsp0 c57, .slice a58 nls0 c59]) T14.agg_26_5 rfl rfl (((B0_91.b 5 rfl).ext0 e').cells (o := 0) rfl)) ?_
        refine m_y (v := .agg #[.int .i64 wd0, .int .i64 hi0, .bool wr0, .slice asp0 nsp0 csp0, .slice als0 nls0 cls0]) 1 rfl (by kernel_rfl) rfl rfl (fun w' e' => y_loadn (b := b1) (o := 0) (vs := [.int .i64 wd0, .int .i64 hi0, .bool wr0, .slice asp0 nsp0 csp0, .slice als0 nls0 cls0]) T14.agg_45_5 rfl rfl (((B0_91.b 15 rfl).ext0 e').cells (o := 0) rfl)) ?_
        refine m_k 2 [3, 4] rfl (by kernel_rfl) rfl rfl (fun w93 e94 => ?_)
        replace R92 := R92.trans (Ext0.any e94)
        replace B := B.ext0 e94
        clear e94
        refine k_call T14.fn_34 (c_l_toSheet (B.r 16 rfl) (B.r 17 rfl) (by omega) (by omega)) rfl ?_
        rintro _ w95 ⟨a96, c97, a98, c99, rfl, hN100⟩
        replace R92 := R92.trans (Ext0.any hN100.ext)
        replace B := B.new2 hN100
        clear hN100
        refine ⟨fun _ => R92, ?_⟩
        refine m_k 3 [4] rfl (by kernel_rfl) rfl rfl (fun w101 e102 => ?_)
        replace R92 := R92.trans (Ext0.any e102)
        replace B := B.ext0 e102
        clear e102
        refine k_call T14.fn_38 (c_l_eqSheet ((B.o 8 rfl).rd) ((B.o 9 rfl).rd) ((B.o 0 rfl).rd) ((B.o 1 rfl).rd) (by omega) (by omega)) rfl ?_
        rintro _ w103 ⟨rfl, e104⟩
        replace R92 := R92.trans (Ext0.any e104)
        replace B := B.ext0 e104
        clear e104
        refine ⟨fun _ => R92, ?_⟩
        refine m_y (v := .bool false) 4 rfl (by kernel_rfl) rfl rfl (fun w' e' => y_not rfl rfl) ?_
        refine m_done (by kernel_rfl) (fun w105 e106 => ?_)
        replace B := B.ext0 e106
        clear e106
        clear B0_91 R92
        refine W_if_f (by decide) rfl ?_
        refine W_skip ?_
        refine W_seq ?_
        refine W_seq ?_
        have B0_111 := B
        refine W_draw (no) T14.mx (by kernel_rfl) (fun w109 e110 => ?_)
        have R112 := Ext.refl (no) w105
        replace R112 := R112.trans (Ext0.any e110)
        replace B := B.ext0 e110
        clear e110
        refine m_y (v := .agg #[.slice a67 nfe1 c68, .slice a69 nfx1 c70, .slice a71 nfy1 c72]) 0 rfl (by kernel_rfl) rfl rfl (fun w' e' => y_loadn (b := b74) (o := 0) (vs := [.slice a67 nfe1 c68, .slice a69 nfx1 c70, .slice a71 nfy1 c72]) T14.agg_29_3 rfl rfl (((B0_111.b 3 rfl).ext0 e').cells (o := 0) rfl)) ?_
        refine m_y (v := .agg #[.slice afe1 nfe1 cfe1, .slice afx1 nfx1 cfx1, .slice afy1 nfy1 cfy1]) 1 rfl (by kernel_rfl) rfl rfl (fun w' e' => y_loadn (b := b4) (o := 0) (vs := [.slice afe1 nfe1 cfe1, .slice afx1 nfx1 cfx1, .slice afy1 nfy1 cfy1]) T14.agg_46_3 rfl rfl (((B0_111.b 16 rfl).ext0 e').cells (o := 0) rfl)) ?_
        refine m_k 2 [3, 4] rfl (by kernel_rfl) rfl rfl (fun w113 e114 => ?_)
        replace R112 := R112.trans (Ext0.any e114)
        replace B := B.ext0 e114
        clear e114
        refine k_call T14.fn_35 (c_l_toField (B.r 20 rfl) (B.r 21 rfl) (B.r 22 rfl) (by omega) (by omega) (by omega)) rfl ?_
        rintro _ w115 ⟨a116, c117, a118, c119, a120, c121, rfl, hN122⟩
        replace R112 := R112.trans (Ext0.any hN122.ext)
        replace B := B.new3 hN122
        clear hN122
        refine ⟨fun _ => R112, ?_⟩
        refine m_k 3 [4] rfl (by kernel_rfl) rfl rfl (fun w123 e124 => ?_)
        replace R112 := R112.trans (Ext0.any e124)
        replace B := B.ext0 e124
        clear e124
        refine k_call T14.fn_39 (c_l_eqField ((B.o 7 rfl).rd) ((B.o 8 rfl).rd) ((B.o 9 rfl).rd) ((B.o 0 rfl).rd) ((B.o 1 rfl).rd) ((B.o 2 rfl).rd) (by omega) (by omega) (by omega)) rfl ?_
        rintro _ w125 ⟨rfl, e126⟩
        replace R112 := R112.trans (Ext0.any e126)
        replace B := B.ext0 e126
        clear e126
        refine ⟨fun _ => R112, ?_⟩
        refine m_y (v := .bool false) 4 rfl (by kernel_rfl) rfl rfl (fun w' e' => y_not rfl rfl) ?_
        refine m_done (by kernel_rfl) (fun w127 e128 => ?_)
        replace B := B.ext0 e128
        clear e128
        clear B0_111 R112
        refine W_if_f (by decide) rfl ?_
        refine W_skip ?_
        refine W_seq ?_
        refine W_region (by kernel_rfl) ?_
        refine s_y (v := .int .i64 1) rfl (y_assign rfl) ?_
        refine s_nil ?_
        refine W_seq ?_
        refine W_region (by kernel_rfl) ?_
        refine s_y (v := .agg #[.int .i64 wd0, .int .i64 hi0, .bool wr0, .slice a56 nsp0 c57, .slice a58 nls0 c59]) rfl (y_loadn (b := b61) (o := 0) (vs := [.int .i64 wd0, .int .i64 hi0, .bool wr0, .slice a56 nsp0 c57, .slice a58 nls0 c59]) T14.agg_26_5 rfl rfl ((B.b 10 rfl).cells (o := 0) rfl)) ?_
        refine s_y (v := .int .i64 1) rfl (y_move rfl) ?_
        refine s_k rfl (k_call T14.fn_40 (c_l_markSheet (by omega) (by omega) (by omega) (by omega) (B.all.pick [11, 12] rfl) (B.pw.pick [11, 12] rfl rfl)) rfl ?_)
        rintro _ w129 ⟨rfl, hU130⟩
        replace B : Bu w no w129 [.ow kF a56 nsp0 c57 35 (marks 1 nsp0), .ow kF a58 nls0 c59 35 (marks (1 + ((nsp0 : Nat) : Int)) nls0), .ow kF a116 nfe1 c117 35 Xfe1, .ow kF a118 nfx1 c119 35 Xfx1, .ow kF a120 nfy1 c121 35 Xfy1, .ow kF a96 nsp0 c97 35 Xsp0, .ow kF a98 nls0 c99 35 Xls0, .ow kF a82 (Int.toNat i2) c83 35 (trL wd0 hi0 wr0 Xsp0 Xls0 (Xfe1, Xfx1, Xfy1) (fun F => pkS F.1) i2), .blk b74 [.slice a67 nfe1 c68, .slice a69 nfx1 c70, .slice a71 nfy1 c72] 29, .ow kF a67 nfe1 c68 35 Xfe1, .ow kF a69 nfx1 c70 35 Xfx1, .ow kF a71 nfy1 c72 35 Xfy1, .blk b61 [.int .i64 wd0, .int .i64 hi0, .bool wr0, .slice a56 nsp0 c57, .slice a58 nls0 c59] 26, .ow kF a50 (Int.toNat i2) c51 35 (trL wd0 hi0 wr0 Xsp0 Xls0 (Xfe1, Xfx1, Xfy1) (fun F => pkS F.1) i2), .ow kF a36 nfe1 c37 35 Xfe1, .ow kF a38 nfx1 c39 35 Xfx1, .ow kF a40 nfy1 c41 35 Xfy1, .ow kF a28 nsp0 c29 35 Xsp0, .ow kF a30 nls0 c31 35 Xls0, .blk b4 [.slice afe1 nfe1 cfe1, .slice afx1 nfx1 cfx1, .slice afy1 nfy1 cfy1] 46, .blk b1 [.int .i64 wd0, .int .i64 hi0, .bool wr0, .slice asp0 nsp0 csp0, .slice als0 nls0 cls0] 45, .rd kF asp0 nsp0 Xsp0, .rd kF als0 nls0 Xls0, .rd kF afe1 nfe1 Xfe1, .rd kF afx1 nfx1 Xfx1, .rd kF afy1 nfy1 Xfy1] := B.upd [11, 12] rfl hU130
        clear hU130
        refine s_y (v := .int .i64 (1 + ((nsp0 : Nat) : Int) + ((nls0 : Nat) : Int))) rfl (y_assign rfl) ?_
        refine s_nil ?_
        refine W_seq ?_
        refine W_region (by kernel_rfl) ?_
        refine s_y (v := .agg #[.slice a67 nfe1 c68, .slice a69 nfx1 c70, .slice a71 nfy1 c72]) rfl (y_loadn (b := b74) (o := 0) (vs := [.slice a67 nfe1 c68, .slice a69 nfx1 c70, .slice a71 nfy1 c72]) T14.agg_29_3 rfl rfl ((B.b 8 rfl).cells (o := 0) rfl)) ?_
        refine s_y (v := .int .i64 (1 + ((nsp0 : Nat) : Int) + ((nls0 : Nat) : Int))) rfl (y_move rfl) ?_
        refine s_k rfl (k_call T14.fn_41 (c_l_markField (by omega) (by omega) (by omega) (by omega) (by omega) (B.all.pick [9, 10, 11] rfl) (B.pw.pick [9, 10, 11] rfl rfl)) rfl ?_)
        rintro _ w131 ⟨rfl, hU132⟩
        replace B : Bu w no w131 [.ow kF a67 nfe1 c68 35 (marks (1 + ((nsp0 : Nat) : Int) + ((nls0 : Nat) : Int)) nfe1), .ow kF a69 nfx1 c70 35 (marks ((1 + ((nsp0 : Nat) : Int) + ((nls0 : Nat) : Int)) + ((nfe1 : Nat) : Int)) nfx1), .ow kF a71 nfy1 c72 35 (marks ((1 + ((nsp0 : Nat) : Int) + ((nls0 : Nat) : Int)) + ((nfe1 : Nat) : Int) + ((nfx1 : Nat) : Int)) nfy1), .ow kF a56 nsp0 c57 35 (marks 1 nsp0), .ow kF a58 nls0 c59 35 (marks (1 + ((nsp0 : Nat) : Int)) nls0), .ow kF a116 nfe1 c117 35 Xfe1, .ow kF a118 nfx1 c119 35 Xfx1, .ow kF a120 nfy1 c121 35 Xfy1, .ow kF a96 nsp0 c97 35 Xsp0, .ow kF a98 nls0 c99 35 Xls0, .ow kF a82 (Int.toNat i2) c83 35 (trL wd0 hi0 wr0 Xsp0 Xls0 (Xfe1, Xfx1, Xfy1) (fun F => pkS F.1) i2), .blk b74 [.slice a67 nfe1 c68, .slice a69 nfx1 c70, .slice a71 nfy1 c72] 29, .blk b61 [.int .i64 wd0, .int .i64 hi0, .bool wr0, .slice a56 nsp0 c57, .slice a58 nls0 c59] 26, .ow kF a50 (Int.toNat i2) c51 35 (trL wd0 hi0 wr0 Xsp0 Xls0 (Xfe1, Xfx1, Xfy1) (fun F => pkS F.1) i2), .ow kF a36 nfe1 c37 35 Xfe1, .ow kF a38 nfx1 c39 35 Xfx1, .ow kF a40 nfy1 c41 35 Xfy1, .ow kF a28 nsp0 c29 35 Xsp0, .ow kF a30 nls0 c31 35 Xls0, .blk b4 [.slice afe1 nfe1 cfe1, .slice afx1 nfx1 cfx1, .slice afy1 nfy1 cfy1] 46, .blk b1 [.int .i64 wd0, .int .i64 hi0, .bool wr0, .slice asp0 nsp0 csp0, .slice als0 nls0 cls0] 45, .rd kF asp0 nsp0 Xsp0, .rd kF als0 nls0 Xls0, .rd kF afe1 nfe1 Xfe1, .rd kF afx1 nfx1 Xfx1, .rd kF afy1 nfy1 Xfy1] := B.upd [9, 10, 11] rfl hU132
        clear hU132
        refine s_y (v := .int .i64 ((1 + ((nsp0 : Nat) : Int) + ((nls0 : Nat) : Int)) + ((nfe1 : Nat) : Int) + ((nfx1 : Nat) : Int) + ((nfy1 : Nat) : Int))) rfl (y_assign rfl) ?_
        refine s_nil ?_
        refine W_seq ?_
        refine W_seq ?_
        refine W_region (by kernel_rfl) ?_
        refine s_y (v := .int .i64 ((1 + ((nsp0 : Nat) : Int) + ((nls0 : Nat) : Int)) + ((nfe1 : Nat) : Int) + ((nfx1 : Nat) : Int) + ((nfy1 : Nat) : Int))) rfl (y_move rfl) ?_
        have hk133 : ¬ (((1 + ((nsp0 : Nat) : Int) + ((nls0 : Nat) : Int)) + ((nfe1 : Nat) : Int) + ((nfx1 : Nat) : Int) + ((nfy1 : Nat) : Int)) < 0) := (by omega)
        refine s_y (v := .bool false) rfl (y_lss rfl rfl (decide_eq_false hk133)) ?_
        refine s_y (v := .bool false) rfl (y_move rfl) ?_
        refine s_y (v := .slice a82 (Int.toNat i2) c83) rfl (y_move rfl) ?_
        refine s_y (v := .slice a50 (Int.toNat i2) c51) rfl (y_move rfl) ?_
        refine s_k rfl (k_call T14.fn_54 (c_l_eqFloat32S ((B.o 10 rfl).rd) ((B.o 13 rfl).rd) (by omega)) rfl ?_)
        rintro _ w134 ⟨rfl, e135⟩
        replace B := B.ext0 e135
        clear e135
        refine s_y (v := .bool false) rfl (y_not rfl rfl) ?_
        refine s_y (v := .bool false) rfl (y_pick_f rfl rfl) ?_
        refine s_y (v := .bool false) rfl (y_move rfl) ?_
        refine s_y (v := .bool true) rfl (y_move rfl) ?_
        refine s_y (v := .bool true) rfl (y_move rfl) ?_
        refine s_y (v := .bool false) rfl (y_bneq T14.bool_4 rfl rfl rfl) ?_
        refine s_y (v := .bool false) rfl (y_pick_f rfl rfl) ?_
        refine s_nil ?_
        refine W_if_f (by decide) rfl ?_
        refine W_skip ?_
        refine W_seq ?_
        refine W_region (by kernel_rfl) ?_
        refine s_y (v := .int .i64 1) rfl (y_assign rfl) ?_
        refine s_nil ?_
        refine W_seq ?_
        refine W_region (by kernel_rfl) ?_
        refine s_y (v := .slice a82 (Int.toNat i2) c83) rfl (y_move rfl) ?_
        refine s_y (v := .int .i64 1) rfl (y_move rfl) ?_
        refine s_k rfl (k_call T14.fn_57 (c_l_markFloat32S (by omega) (by omega) (by omega) (B.all.pick [10] rfl) (B.pw.pick [10] rfl rfl)) rfl ?_)
        rintro _ w136 ⟨rfl, hU137⟩
        replace B : Bu w no w136 [.ow kF a82 (Int.toNat i2) c83 35 (marks 1 (Int.toNat i2)), .ow kF a67 nfe1 c68 35 (marks (1 + ((nsp0 : Nat) : Int) + ((nls0 : Nat) : Int)) nfe1), .ow kF a69 nfx1 c70 35 (marks ((1 + ((nsp0 : Nat) : Int) + ((nls0 : Nat) : Int)) + ((nfe1 : Nat) : Int)) nfx1), .ow kF a71 nfy1 c72 35 (marks ((1 + ((nsp0 : Nat) : Int) + ((nls0 : Nat) : Int)) + ((nfe1 : Nat) : Int) + ((nfx1 : Nat) : Int)) nfy1), .ow kF a56 nsp0 c57 35 (marks 1 nsp0), .ow kF a58 nls0 c59 35 (marks (1 + ((nsp0 : Nat) : Int)) nls0), .ow kF a116 nfe1 c117 35 Xfe1, .ow kF a118 nfx1 c119 35 Xfx1, .ow kF a120 nfy1 c121 35 Xfy1, .ow kF a96 nsp0 c97 35 Xsp0, .ow kF a98 nls0 c99 35 Xls0, .blk b74 [.slice a67 nfe1 c68, .slice a69 nfx1 c70, .slice a71 nfy1 c72] 29, .blk b61 [.int .i64 wd0, .int .i64 hi0, .bool wr0, .slice a56 nsp0 c57, .slice a58 nls0 c59] 26, .ow kF a50 (Int.toNat i2) c51 35 (trL wd0 hi0 wr0 Xsp0 Xls0 (Xfe1, Xfx1, Xfy1) (fun F => pkS F.1) i2), .ow kF a36 nfe1 c37 35 Xfe1, .ow kF a38 nfx1 c39 35 Xfx1, .ow kF a40 nfy1 c41 35 Xfy1, .ow kF a28 nsp0 c29 35 Xsp0, .ow kF a30 nls0 c31 35 Xls0, .blk b4 [.slice afe1 nfe1 cfe1, .slice afx1 nfx1 cfx1, .slice afy1 nfy1 cfy1] 46, .blk b1 [.int .i64 wd0, .int .i64 hi0, .bool wr0, .slice asp0 nsp0 csp0, .slice als0 nls0 cls0] 45, .rd kF asp0 nsp0 Xsp0, .rd kF als0 nls0 Xls0, .rd kF afe1 nfe1 Xfe1, .rd kF afx1 nfx1 Xfx1, .rd kF afy1 nfy1 Xfy1] := B.upd [10] rfl hU137
        clear hU137
        refine s_y (v := .int .i64 (1 + ((Int.toNat i2 : Nat) : Int))) rfl (y_assign rfl) ?_
        refine s_nil ?_
        refine W_seq ?_
        refine W_region (by kernel_rfl) ?_
        refine s_y (v := .int .i64 1) rfl (y_assign rfl) ?_
        refine s_nil ?_
        refine W_seq ?_
        refine W_region (by kernel_rfl) ?_
        refine s_y (v := .slice a82 (Int.toNat i2) c83) rfl (y_move rfl) ?_
        refine s_y (v := .int .i64 1) rfl (y_move rfl) ?_
        refine s_k rfl (k_call T14.fn_58 (c_l_heldFloat32S ((B.o 0 rfl).rd) (by omega) (by omega) (by omega)) rfl ?_)
        rintro _ w138 ⟨rfl, e139⟩
        replace B := B.ext0 e139
        clear e139
        refine s_y (v := .int .i64 (1 + ((Int.toNat i2 : Nat) : Int))) rfl (y_assign rfl) ?_
        refine s_nil ?_
        refine W_seq ?_
        refine W_seq ?_
        refine W_region (by kernel_rfl) ?_
        refine s_y (v := .int .i64 (1 + ((Int.toNat i2 : Nat) : Int))) rfl (y_move rfl) ?_
        have hk140 : ¬ ((1 + ((Int.toNat i2 : Nat) : Int)) < 0) := (by omega)
        refine s_y (v := .bool false) rfl (y_lss rfl rfl (decide_eq_false hk140)) ?_
        refine s_nil ?_
        refine W_if_f (by decide) rfl ?_
        refine W_skip ?_
        refine W_seq ?_
        refine W_seq ?_
        refine W_region (by kernel_rfl) ?_
        refine s_y (v := .int .i64 (1 + ((Int.toNat i2 : Nat) : Int))) rfl (y_move rfl) ?_
        refine s_y (v := .int .i64 (1 + ((Int.toNat i2 : Nat) : Int))) rfl (y_move rfl) ?_
        refine s_y (v := .bool false) rfl (y_neq rfl rfl (decide_eq_false (fun hq => hq rfl))) ?_
        refine s_nil ?_
        refine W_if_f (by decide) rfl ?_
        refine W_skip ?_
        refine W_seq ?_
        have B0_145 := B
        refine W_draw (no) T14.mx (by kernel_rfl) (fun w143 e144 => ?_)
        have R146 := Ext.refl (no) w138
        replace R146 := R146.trans (Ext0.any e144)
        replace B := B.ext0 e144
        clear e144
        refine m_y (v := .agg #[.int .i64 wd0, .int .i64 hi0, .bool wr0, .slice asp0 nsp0 csp0, .slice als0 nls0 cls0]) 0 rfl (by kernel_rfl) rfl rfl (fun w' e' => y_loadn (b := b1) (o := 0) (vs := [.int .i64 wd0, .int .i64 hi0, .bool wr0, .slice asp0 nsp0 csp0, .slice als0 nls0 cls0]) T14.agg_45_5 rfl rfl (((B0_145.b 20 rfl).ext0 e').cells (o := 0) rfl)) ?_
        refine m_y (v := .agg #[.slice afe1 nfe1 cfe1, .slice afx1 nfx1 cfx1, .slice afy1 nfy1 cfy1]) 2 rfl (by kernel_rfl) rfl rfl (fun w' e' => y_loadn (b := b4) (o := 0) (vs := [.slice afe1 nfe1 cfe1, .slice afx1 nfx1 cfx1, .slice afy1 nfy1 cfy1]) T14.agg_46_3 rfl rfl (((B0_145.b 19 rfl).ext0 e').cells (o := 0) rfl)) ?_
        refine m_y (v := .int .i64 i2) 4 rfl (by kernel_rfl) rfl rfl (fun w' e' => y_move rfl) ?_
        refine m_k 1 [3, 5, 6, 7, 8, 9, 10] rfl (by kernel_rfl) rfl rfl (fun w147 e148 => ?_)
        replace R146 := R146.trans (Ext0.any e148)
        replace B := B.ext0 e148
        clear e148
        refine k_call T14.fn_34 (c_l_toSheet (B.r 21 rfl) (B.r 22 rfl) (by omega) (by omega)) rfl ?_
        rintro _ w149 ⟨a150, c151, a152, c153, rfl, hN154⟩
        replace R146 := R146.trans (Ext0.any hN154.ext)
        replace B := B.new2 hN154
        clear hN154
        refine ⟨fun _ => R146, ?_⟩
        refine m_k 3 [5, 6, 7, 8, 9, 10] rfl (by kernel_rfl) rfl rfl (fun w155 e156 => ?_)
        replace R146 := R146.trans (Ext0.any e156)
        replace B := B.ext0 e156
        clear e156
        refine k_call T14.fn_35 (c_l_toField (B.r 25 rfl) (B.r 26 rfl) (B.r 27 rfl) (by omega) (by omega) (by omega)) rfl ?_
        rintro _ w157 ⟨a158, c159, a160, c161, a162, c163, rfl, hN164⟩
        replace R146 := R146.trans (Ext0.any hN164.ext)
        replace B := B.new3 hN164
        clear hN164
        refine ⟨fun _ => R146, ?_⟩
        refine m_k 5 [6, 7, 8, 9, 10] rfl (by kernel_rfl) rfl rfl (fun w165 e166 => ?_)
        replace R146 := R146.trans (Ext0.any e166)
        replace B := B.ext0 e166
        clear e166
        refine k_call T14.fn_69 (c_i_PeakTrace ((B.o 3 rfl).rd) ((B.o 4 rfl).rd) ((B.o 0 rfl).rd) ((B.o 1 rfl).rd) ((B.o 2 rfl).rd) (by omega) (by omega) (by omega) (by omega) (by omega)) rfl ?_
        rintro v169 w167 hx168
        obtain ⟨a170, c171, rfl, hN172⟩ := (hx168.resolve_right (fun hz => by rw [c48] at hz; cases hz.1)).2
        clear hx168
        replace R146 := R146.trans (Ext0.any hN172.ext)
        replace B := B.new1 hN172
        clear hN172
        refine ⟨fun _ => R146, ?_⟩
        refine m_y (v := .tuple #[.slice a170 (Int.toNat i2) c171, .bool true]) 6 rfl (by kernel_rfl) rfl rfl (fun w' e' => y_move rfl) ?_
        refine m_y (v := .slice a170 (Int.toNat i2) c171) 7 rfl (by kernel_rfl) rfl rfl (fun w' e' => y_extract rfl rfl) ?_
        refine m_y (v := .bool true) 8 rfl (by kernel_rfl) rfl rfl (fun w' e' => y_extract rfl rfl) ?_
        refine m_y (v := .slice a170 (Int.toNat i2) c171) 9 rfl (by kernel_rfl) rfl rfl (fun w' e' => y_assign rfl) ?_
        refine m_y (v := .bool true) 10 rfl (by kernel_rfl) rfl rfl (fun w' e' => y_assign rfl) ?_
        refine m_done (by kernel_rfl) (fun w173 e174 => ?_)
        replace B := B.ext0 e174
        clear e174
        clear B0_145 R146
        refine W_seq ?_
        refine W_seq ?_
        refine W_region (by kernel_rfl) ?_
        refine s_y (v := .slice a170 (Int.toNat i2) c171) rfl (y_move rfl) ?_
        refine s_y (v := .slice a50 (Int.toNat i2) c51) rfl (y_move rfl) ?_
        refine s_k rfl (k_call T14.fn_54 (c_l_eqFloat32S ((B.o 0 rfl).rd) ((B.o 19 rfl).rd) (by omega)) rfl ?_)
        rintro _ w175 ⟨rfl, e176⟩
        replace B := B.ext0 e176
        clear e176
        refine s_y (v := .bool false) rfl (y_not rfl rfl) ?_
        refine s_y (v := .bool false) rfl (y_move rfl) ?_
        refine s_y (v := .bool true) rfl (y_move rfl) ?_
        refine s_y (v := .bool true) rfl (y_move rfl) ?_
        refine s_y (v := .bool false) rfl (y_bneq T14.bool_4 rfl rfl rfl) ?_
        refine s_y (v := .bool false) rfl (y_pick_f rfl rfl) ?_
        refine s_nil ?_
        refine W_if_f (by decide) rfl ?_
        refine W_skip ?_
        refine W_seq ?_
        refine W_region (by kernel_rfl) ?_
        refine s_y (v := .int .i64 1) rfl (y_assign rfl) ?_
        refine s_nil ?_
        refine W_seq ?_
        refine W_region (by kernel_rfl) ?_
        refine s_y (v := .slice a82 (Int.toNat i2) c83) rfl (y_move rfl) ?_
        refine s_y (v := .int .i64 1) rfl (y_move rfl) ?_
        refine s_k rfl (k_call T14.fn_58 (c_l_heldFloat32S ((B.o 6 rfl).rd) (by omega) (by omega) (by omega)) rfl ?_)
        rintro _ w177 ⟨rfl, e178⟩
        replace B := B.ext0 e178
        clear e178
        refine s_y (v := .int .i64 (1 + ((Int.toNat i2 : Nat) : Int))) rfl (y_assign rfl) ?_
        refine s_nil ?_
        refine W_seq ?_
        refine W_seq ?_
        refine W_region (by kernel_rfl) ?_
        refine s_y (v := .int .i64 (1 + ((Int.toNat i2 : Nat) : Int))) rfl (y_move rfl) ?_
        refine s_y (v := .bool false) rfl (y_lss rfl rfl (decide_eq_false hk140)) ?_
        refine s_nil ?_
        refine W_if_f (by decide) rfl ?_
        refine W_skip ?_
        refine W_seq ?_
        refine W_seq ?_
        refine W_region (by kernel_rfl) ?_
        refine s_y (v := .int .i64 (1 + ((Int.toNat i2 : Nat) : Int))) rfl (y_move rfl) ?_
        refine s_y (v := .int .i64 (1 + ((Int.toNat i2 : Nat) : Int))) rfl (y_move rfl) ?_
        refine s_y (v := .bool false) rfl (y_neq rfl rfl (decide_eq_false (fun hq => hq rfl))) ?_
        refine s_nil ?_
        refine W_if_f (by decide) rfl ?_
        refine W_skip ?_
        refine W_seq ?_
        refine W_region (by kernel_rfl) ?_
        refine s_y (v := .bool true) rfl (y_assign rfl) ?_
        refine s_nil ?_
        refine W_ret ?_
        refine ret1 (v := .bool true) rfl rfl rfl ⟨_, rfl, ?_⟩
        exact ⟨rfl, B.ext⟩
      · obtain ⟨_, rfl, e179⟩ := hx46.resolve_left (fun hz => c48 hz.1)
        clear hx46
        replace R24 := R24.trans (Ext0.any e179)
        replace B := B.ext0 e179
        clear e179
        refine ⟨fun _ => R24, ?_⟩
        refine m_y (v := .tuple #[.slice none 0 0, .bool false]) 6 rfl (by kernel_rfl) rfl rfl (fun w' e' => y_move rfl) ?_
        refine m_y (v := .slice none 0 0) 7 rfl (by kernel_rfl) rfl rfl (fun w' e' => y_extract rfl rfl) ?_
        refine m_y (v := .bool false) 8 rfl (by kernel_rfl) rfl rfl (fun w' e' => y_extract rfl rfl) ?_
        refine m_y (v := .slice none 0 0) 9 rfl (by kernel_rfl) rfl rfl (fun w' e' => y_assign rfl) ?_
        refine m_y (v := .bool false) 10 rfl (by kernel_rfl) rfl rfl (fun w' e' => y_assign rfl) ?_
        refine m_done (by kernel_rfl) (fun w180 e181 => ?_)
        replace B := B.ext0 e181
        clear e181
        clear B0_23 R24
        refine W_seq ?_
        refine W_region (by kernel_rfl) ?_
        refine s_y (v := .agg #[.int .i64 wd0, .int .i64 hi0, .bool wr0, .slice asp0 nsp0 csp0, .slice als0 nls0 cls0]) rfl (y_loadn (b := b1) (o := 0) (vs := [.int .i64 wd0, .int .i64 hi0, .bool wr0, .slice asp0 nsp0 csp0, .slice als0 nls0 cls0]) T14.agg_45_5 rfl rfl ((B.b 6 rfl).cells (o := 0) rfl)) ?_
        refine s_k rfl (k_call T14.fn_34 (c_l_toSheet (B.r 7 rfl) (B.r 8 rfl) (by omega) (by omega)) rfl ?_)
        rintro _ w182 ⟨a183, c184, a185, c186, rfl, hN187⟩
        replace B := B.new2 hN187
        clear hN187
        refine s_k rfl (k_allocN (z := (.agg #[.int .i64 0, .int .i64 0, .bool false, .slice none 0 0, .slice none 0 0])) (cs := [.int .i64 0, .int .i64 0, .bool false, .slice none 0 0, .slice none 0 0]) T14.zero_26 rfl (fun b188 w189 hN190 => ?_))
        replace B := B.new1 hN190
        clear hN190
        refine s_k0 rfl (k_stB (v := .agg #[.int .i64 wd0, .int .i64 hi0, .bool wr0, .slice a183 nsp0 c184, .slice a185 nls0 c186]) (n := 5) (cs' := [.int .i64 wd0, .int .i64 hi0, .bool wr0, .slice a183 nsp0 c184, .slice a185 nls0 c186]) T14.sz_26_5 rfl rfl rfl (B.b 0 rfl) (by simp [Value.cells, Value.oneCell']) (Nat.le_of_ble_eq_true rfl) rfl (fun w191 hU192 => ?_))
        replace B : Bu w no w191 [.blk b188 [.int .i64 wd0, .int .i64 hi0, .bool wr0, .slice a183 nsp0 c184, .slice a185 nls0 c186] 26, .ow kF a183 nsp0 c184 35 Xsp0, .ow kF a185 nls0 c186 35 Xls0, .ow kF a36 nfe1 c37 35 Xfe1, .ow kF a38 nfx1 c39 35 Xfx1, .ow kF a40 nfy1 c41 35 Xfy1, .ow kF a28 nsp0 c29 35 Xsp0, .ow kF a30 nls0 c31 35 Xls0, .blk b4 [.slice afe1 nfe1 cfe1, .slice afx1 nfx1 cfx1, .slice afy1 nfy1 cfy1] 46, .blk b1 [.int .i64 wd0, .int .i64 hi0, .bool wr0, .slice asp0 nsp0 csp0, .slice als0 nls0 cls0] 45, .rd kF asp0 nsp0 Xsp0, .rd kF als0 nls0 Xls0, .rd kF afe1 nfe1 Xfe1, .rd kF afx1 nfx1 Xfx1, .rd kF afy1 nfy1 Xfy1] := B.upd [0] rfl hU192
        clear hU192
        refine s_nil ?_
        refine W_seq ?_
        refine W_region (by kernel_rfl) ?_
        refine s_y (v := .agg #[.slice afe1 nfe1 cfe1, .slice afx1 nfx1 cfx1, .slice afy1 nfy1 cfy1]) rfl (y_loadn (b := b4) (o := 0) (vs := [.slice afe1 nfe1 cfe1, .slice afx1 nfx1 cfx1, .slice afy1 nfy1 cfy1]) T14.agg_46_3 rfl rfl ((B.b 8 rfl).cells (o := 0) rfl)) ?_
        refine s_k rfl (k_call T14.fn_35 (c_l_toField (B.r 12 rfl) (B.r 13 rfl) (B.r 14 rfl) (by omega) (by omega) (by omega)) rfl ?_)
        rintro _ w193 ⟨a194, c195, a196, c197, a198, c199, rfl, hN200⟩
        replace B := B.new3 hN200
        clear hN200
        refine s_k rfl (k_allocN (z := (.agg #[.slice none 0 0, .slice none 0 0, .slice none 0 0])) (cs := [.slice none 0 0, .slice none 0 0, .slice none 0 0]) T14.zero_29 rfl (fun b201 w202 hN203 => ?_))
        replace B := B.new1 hN203
        clear hN203
        refine s_k0 rfl (k_stB (v := .agg #[.slice a194 nfe1 c195, .slice a196 nfx1 c197, .slice a198 nfy1 c199]) (n := 3) (cs' := [.slice a194 nfe1 c195, .slice a196 nfx1 c197, .slice a198 nfy1 c199]) T14.sz_29_3 rfl rfl rfl (B.b 0 rfl) (by simp [Value.cells, Value.oneCell']) (Nat.le_of_ble_eq_true rfl) rfl (fun w204 hU205 => ?_))
        replace B : Bu w no w204 [.blk b201 [.slice a194 nfe1 c195, .slice a196 nfx1 c197, .slice a198 nfy1 c199] 29, .ow kF a194 nfe1 c195 35 Xfe1, .ow kF a196 nfx1 c197 35 Xfx1, .ow kF a198 nfy1 c199 35 Xfy1, .blk b188 [.int .i64 wd0, .int .i64 hi0, .bool wr0, .slice a183 nsp0 c184, .slice a185 nls0 c186] 26, .ow kF a183 nsp0 c184 35 Xsp0, .ow kF a185 nls0 c186 35 Xls0, .ow kF a36 nfe1 c37 35 Xfe1, .ow kF a38 nfx1 c39 35 Xfx1, .ow kF a40 nfy1 c41 35 Xfy1, .ow kF a28 nsp0 c29 35 Xsp0, .ow kF a30 nls0 c31 35 Xls0, .blk b4 [.slice afe1 nfe1 cfe1, .slice afx1 nfx1 cfx1, .slice afy1 nfy1 cfy1] 46, .blk b1 [.int .i64 wd0, .int .i64 hi0, .bool wr0, .slice asp0 nsp0 csp0, .slice als0 nls0 cls0] 45, .rd kF asp0 nsp0 Xsp0, .rd kF als0 nls0 Xls0, .rd kF afe1 nfe1 Xfe1, .rd kF afx1 nfx1 Xfx1, .rd kF afy1 nfy1 Xfy1] := B.upd [0] rfl hU205
        clear hU205
        refine s_nil ?_
        refine W_seq ?_
        refine W_region (by kernel_rfl) ?_
        refine s_y (v := .agg #[.int .i64 wd0, .int .i64 hi0, .bool wr0, .slice a183 nsp0 c184, .slice a185 nls0 c186]) rfl (y_loadn (b := b188) (o := 0) (vs := [.int .i64 wd0, .int .i64 hi0, .bool wr0, .slice a183 nsp0 c184, .slice a185 nls0 c186]) T14.agg_26_5 rfl rfl ((B.b 4 rfl).cells (o := 0) rfl)) ?_
        refine s_y (v := .agg #[.slice a194 nfe1 c195, .slice a196 nfx1 c197, .slice a198 nfy1 c199]) rfl (y_loadn (b := b201) (o := 0) (vs := [.slice a194 nfe1 c195, .slice a196 nfx1 c197, .slice a198 nfy1 c199]) T14.agg_29_3 rfl rfl ((B.b 0 rfl).cells (o := 0) rfl)) ?_
        refine s_y (v := .int .i64 i2) rfl (y_move rfl) ?_
        refine s_k rfl (k_call T14.fn_69 (c_i_PeakTrace ((B.o 5 rfl).rd) ((B.o 6 rfl).rd) ((B.o 1 rfl).rd) ((B.o 2 rfl).rd) ((B.o 3 rfl).rd) (by omega) (by omega) (by omega) (by omega) (by omega)) rfl ?_)
        rintro v208 w206 hx207
        obtain ⟨_, rfl, e209⟩ := hx207.resolve_left (fun hz => c48 hz.1)
        clear hx207
        replace B := B.ext0 e209
        clear e209
        refine s_y (v := .tuple #[.slice none 0 0, .bool false]) rfl (y_move rfl) ?_
        refine s_y (v := .slice none 0 0) rfl (y_extract rfl rfl) ?_
        refine s_y (v := .bool false) rfl (y_extract rfl rfl) ?_
        refine s_y (v := .slice none 0 0) rfl (y_assign rfl) ?_
        refine s_y (v := .bool false) rfl (y_assign rfl) ?_
        refine s_nil ?_
        refine W_seq ?_
        refine W_seq ?_
        refine W_region (by kernel_rfl) ?_
        refine s_y (v := .slice none 0 0) rfl (y_move rfl) ?_
        refine s_y (v := .slice none 0 0) rfl (y_move rfl) ?_
        refine s_k rfl (k_call T14.fn_54 (c_l_eqFloat32S (Rd.nil _ kF none) (Rd.nil _ kF none) (by omega)) rfl ?_)
        rintro _ w210 ⟨rfl, e211⟩
        replace B := B.ext0 e211
        clear e211
        refine s_y (v := .bool false) rfl (y_not rfl rfl) ?_
        refine s_y (v := .bool false) rfl (y_move rfl) ?_
        refine s_y (v := .bool false) rfl (y_move rfl) ?_
        refine s_y (v := .bool false) rfl (y_move rfl) ?_
        refine s_y (v := .bool false) rfl (y_bneq T14.bool_4 rfl rfl rfl) ?_
        refine s_y (v := .bool false) rfl (y_pick_f rfl rfl) ?_
        refine s_nil ?_
        refine W_if_f (by decide) rfl ?_
        refine W_skip ?_
        refine W_seq ?_
        refine W_seq ?_
        have B0_216 := B
        refine W_draw (no) T14.mx (by kernel_rfl) (fun w214 e215 => ?_)
        have R217 := Ext.refl (no) w210
        replace R217 := R217.trans (Ext0.any e215)
        replace B := B.ext0 e215
        clear e215
        refine m_y (v := .agg #[.int .i64 wd0, .int .i64 hi0, .bool wr0, .slice a183 nsp0 c184, .slice a185 nls0 c186]) 0 rfl (by kernel_rfl) rfl rfl (fun w' e' => y_loadn (b := b188) (o := 0) (vs := [.int .i64 wd0, .int .i64 hi0, .bool wr0, .slice a183 nsp0 c184, .slice a185 nls0 c186]) T14.agg_26_5 rfl rfl (((B0_216.b 4 rfl).ext0 e').cells (o := 0) rfl)) ?_
        refine m_y (v := .agg #[.int .i64 wd0, .int .i64 hi0, .bool wr0, .slice asp0 nsp0 csp0, .slice als0 nls0 cls0]) 1 rfl (by kernel_rfl) rfl rfl (fun w' e' => y_loadn (b := b1) (o := 0) (vs := [.int .i64 wd0, .int .i64 hi0, .bool wr0, .slice asp0 nsp0 csp0, .slice als0 nls0 cls0]) T14.agg_45_5 rfl rfl (((B0_216.b 13 rfl).ext0 e').cells (o := 0) rfl)) ?_
        refine m_k 2 [3, 4] rfl (by kernel_rfl) rfl rfl (fun w218 e219 => ?_)
        replace R217 := R217.trans (Ext0.any e219)
        replace B := B.ext0 e219
        clear e219
        refine k_call T14.fn_34 (c_l_toSheet (B.r 14 rfl) (B.r 15 rfl) (by omega) (by omega)) rfl ?_
        rintro _ w220 ⟨a221, c222, a223, c224, rfl, hN225⟩
        replace R217 := R217.trans (Ext0.any hN225.ext)
        replace B := B.new2 hN225
        clear hN225
        refine ⟨fun _ => R217, ?_⟩
        refine m_k 3 [4] rfl (by kernel_rfl) rfl rfl (fun w226 e227 => ?_)
        replace R217 := R217.trans (Ext0.any e227)
        replace B := B.ext0 e227
        clear e227
        refine k_call T14.fn_38 (c_l_eqSheet ((B.o 7 rfl).rd) ((B.o 8 rfl).rd) ((B.o 0 rfl).rd) ((B.o 1 rfl).rd) (by omega) (by omega)) rfl ?_
        rintro _ w228 ⟨rfl, e229⟩
        replace R217 := R217.trans (Ext0.any e229)
        replace B := B.ext0 e229
        clear e229
        refine ⟨fun _ => R217, ?_⟩
        refine m_y (v := .bool false) 4 rfl (by kernel_rfl) rfl rfl (fun w' e' => y_not rfl rfl) ?_
        refine m_done (by kernel_rfl) (fun w230 e231 => ?_)
        replace B := B.ext0 e231
        clear e231
        clear B0_216 R217
        refine W_if_f (by decide) rfl ?_
        refine W_skip ?_
        refine W_seq ?_
        refine W_seq ?_
        have B0_236 := B
        refine W_draw (no) T14.mx (by kernel_rfl) (fun w234 e235 => ?_)
        have R237 := Ext.refl (no) w230
        replace R237 := R237.trans (Ext0.any e235)
        replace B := B.ext0 e235
        clear e235
        refine m_y (v := .agg #[.slice a194 nfe1 c195, .slice a196 nfx1 c197, .slice a198 nfy1 c199]) 0 rfl (by kernel_rfl) rfl rfl (fun w' e' => y_loadn (b := b201) (o := 0) (vs := [.slice a194 nfe1 c195, .slice a196 nfx1 c197, .slice a198 nfy1 c199]) T14.agg_29_3 rfl rfl (((B0_236.b 2 rfl).ext0 e').cells (o := 0) rfl)) ?_
        refine m_y (v := .agg #[.slice afe1 nfe1 cfe1, .slice afx1 nfx1 cfx1, .slice afy1 nfy1 cfy1]) 1 rfl (by kernel_rfl) rfl rfl (fun w' e' => y_loadn (b := b4) (o := 0) (vs := [.slice afe1 nfe1 cfe1, .slice afx1 nfx1 cfx1, .slice afy1 nfy1 cfy1]) T14.agg_46_3 rfl rfl (((B0_236.b 14 rfl).ext0 e').cells (o := 0) rfl)) ?_
        refine m_k 2 [3, 4] rfl (by kernel_rfl) rfl rfl (fun w238 e239 => ?_)
        replace R237 := R237.trans (Ext0.any e239)
        replace B := B.ext0 e239
        clear e239
        refine k_call T14.fn_35 (c_l_toField (B.r 18 rfl) (B.r 19 rfl) (B.r 20 rfl) (by omega) (by omega) (by omega)) rfl ?_
        rintro _ w240 ⟨a241, c242, a243, c244, a245, c246, rfl, hN247⟩
        replace R237 := R237.trans (Ext0.any hN247.ext)
        replace B := B.new3 hN247
        clear hN247
        refine ⟨fun _ => R237, ?_⟩
        refine m_k 3 [4] rfl (by kernel_rfl) rfl rfl (fun w248 e249 => ?_)
        replace R237 := R237.trans (Ext0.any e249)
        replace B := B.ext0 e249
        clear e249
        refine k_call T14.fn_39 (c_l_eqField ((B.o 6 rfl).rd) ((B.o 7 rfl).rd) ((B.o 8 rfl).rd) ((B.o 0 rfl).rd) ((B.o 1 rfl).rd) ((B.o 2 rfl).rd) (by omega) (by omega) (by omega)) rfl ?_
        rintro _ w250 ⟨rfl, e251⟩
        replace R237 := R237.trans (Ext0.any e251)
        replace B := B.ext0 e251
        clear e251
        refine ⟨fun _ => R237, ?_⟩
        refine m_y (v := .bool false) 4 rfl (by kernel_rfl) rfl rfl (fun w' e' => y_not rfl rfl) ?_
        refine m_done (by kernel_rfl) (fun w252 e253 => ?_)
        replace B := B.ext0 e253
        clear e253
        clear B0_236 R237
        refine W_if_f (by decide) rfl ?_
        refine W_skip ?_
        refine W_seq ?_
        refine W_region (by kernel_rfl) ?_
        refine s_y (v := .int .i64 1) rfl (y_assign rfl) ?_
        refine s_nil ?_
        refine W_seq ?_
        refine W_region (by kernel_rfl) ?_
        refine s_y (v := .agg #[.int .i64 wd0, .int .i64 hi0, .bool wr0, .slice a183 nsp0 c184, .slice a185 nls0 c186]) rfl (y_loadn (b := b188) (o := 0) (vs := [.int .i64 wd0, .int .i64 hi0, .bool wr0, .slice a183 nsp0 c184, .slice a185 nls0 c186]) T14.agg_26_5 rfl rfl ((B.b 9 rfl).cells (o := 0) rfl)) ?_
        refine s_y (v := .int .i64 1) rfl (y_move rfl) ?_
        refine s_k rfl (k_call T14.fn_40 (c_l_markSheet (by omega) (by omega) (by omega) (by omega) (B.all.pick [10, 11] rfl) (B.pw.pick [10, 11] rfl rfl)) rfl ?_)
        rintro _ w254 ⟨rfl, hU255⟩
        replace B : Bu w no w254 [.ow kF a183 nsp0 c184 35 (marks 1 nsp0), .ow kF a185 nls0 c186 35 (marks (1 + ((nsp0 : Nat) : Int)) nls0), .ow kF a241 nfe1 c242 35 Xfe1, .ow kF a243 nfx1 c244 35 Xfx1, .ow kF a245 nfy1 c246 35 Xfy1, .ow kF a221 nsp0 c222 35 Xsp0, .ow kF a223 nls0 c224 35 Xls0, .blk b201 [.slice a194 nfe1 c195, .slice a196 nfx1 c197, .slice a198 nfy1 c199] 29, .ow kF a194 nfe1 c195 35 Xfe1, .ow kF a196 nfx1 c197 35 Xfx1, .ow kF a198 nfy1 c199 35 Xfy1, .blk b188 [.int .i64 wd0, .int .i64 hi0, .bool wr0, .slice a183 nsp0 c184, .slice a185 nls0 c186] 26, .ow kF a36 nfe1 c37 35 Xfe1, .ow kF a38 nfx1 c39 35 Xfx1, .ow kF a40 nfy1 c41 35 Xfy1, .ow kF a28 nsp0 c29 35 Xsp0, .ow kF a30 nls0 c31 35 Xls0, .blk b4 [.slice afe1 nfe1 cfe1, .slice afx1 nfx1 cfx1, .slice afy1 nfy1 cfy1] 46, .blk b1 [.int .i64 wd0, .int .i64 hi0, .bool wr0, .slice asp0 nsp0 csp0, .slice als0 nls0 cls0] 45, .rd kF asp0 nsp0 Xsp0, .rd kF als0 nls0 Xls0, .rd kF afe1 nfe1 Xfe1, .rd kF afx1 nfx1 Xfx1, .rd kF afy1 nfy1 Xfy1] := B.upd [10, 11] rfl hU255
        clear hU255
        refine s_y (v := .int .i64 (1 + ((nsp0 : Nat) : Int) + ((nls0 : Nat) : Int))) rfl (y_assign rfl) ?_
        refine s_nil ?_
        refine W_seq ?_
        refine W_region (by kernel_rfl) ?_
        refine s_y (v := .agg #[.slice a194 nfe1 c195, .slice a196 nfx1 c197, .slice a198 nfy1 c199]) rfl (y_loadn (b := b201) (o := 0) (vs := [.slice a194 nfe1 c195, .slice a196 nfx1 c197, .slice a198 nfy1 c199]) T14.agg_29_3 rfl rfl ((B.b 7 rfl).cells (o := 0) rfl)) ?_
        refine s_y (v := .int .i64 (1 + ((nsp0 : Nat) : Int) + ((nls0 : Nat) : Int))) rfl (y_move rfl) ?_
        refine s_k rfl (k_call T14.fn_41 (c_l_markField (by omega) (by omega) (by omega) (by omega) (by omega) (B.all.pick [8, 9, 10] rfl) (B.pw.pick [8, 9, 10] rfl rfl)) rfl ?_)
        rintro _ w256 ⟨rfl, hU257⟩
        replace B : Bu w no w256 [.ow kF a194 nfe1 c195 35 (marks (1 + ((nsp0 : Nat) : Int) + ((nls0 : Nat) : Int)) nfe1), .ow kF a196 nfx1 c197 35 (marks ((1 + ((nsp0 : Nat) : Int) + ((nls0 : Nat) : Int)) + ((nfe1 : Nat) : Int)) nfx1), .ow kF a198 nfy1 c199 35 (marks ((1 + ((nsp0 : Nat) : Int) + ((nls0 : Nat) : Int)) + ((nfe1 : Nat) : Int) + ((nfx1 : Nat) : Int)) nfy1), .ow kF a183 nsp0 c184 35 (marks 1 nsp0), .ow kF a185 nls0 c186 35 (marks (1 + ((nsp0 : Nat) : Int)) nls0), .ow kF a241 nfe1 c242 35 Xfe1, .ow kF a243 nfx1 c244 35 Xfx1, .ow kF a245 nfy1 c246 35 Xfy1, .ow kF a221 nsp0 c222 35 Xsp0, .ow kF a223 nls0 c224 35 Xls0, .blk b201 [.slice a194 nfe1 c195, .slice a196 nfx1 c197, .slice a198 nfy1 c199] 29, .blk b188 [.int .i64 wd0, .int .i64 hi0, .bool wr0, .slice a183 nsp0 c184, .slice a185 nls0 c186] 26, .ow kF a36 nfe1 c37 35 Xfe1, .ow kF a38 nfx1 c39 35 Xfx1, .ow kF a40 nfy1 c41 35 Xfy1, .ow kF a28 nsp0 c29 35 Xsp0, .ow kF a30 nls0 c31 35 Xls0, .blk b4 [.slice afe1 nfe1 cfe1, .slice afx1 nfx1 cfx1, .slice afy1 nfy1 cfy1] 46, .blk b1 [.int .i64 wd0, .int .i64 hi0, .bool wr0, .slice asp0 nsp0 csp0, .slice als0 nls0 cls0] 45, .rd kF asp0 nsp0 Xsp0, .rd kF als0 nls0 Xls0, .rd kF afe1 nfe1 Xfe1, .rd kF afx1 nfx1 Xfx1, .rd kF afy1 nfy1 Xfy1] := B.upd [8, 9, 10] rfl hU257
        clear hU257
        refine s_y (v := .int .i64 ((1 + ((nsp0 : Nat) : Int) + ((nls0 : Nat) : Int)) + ((nfe1 : Nat) : Int) + ((nfx1 : Nat) : Int) + ((nfy1 : Nat) : Int))) rfl (y_assign rfl) ?_
        refine s_nil ?_
        refine W_seq ?_
        refine W_seq ?_
        refine W_region (by kernel_rfl) ?_
        refine s_y (v := .int .i64 ((1 + ((nsp0 : Nat) : Int) + ((nls0 : Nat) : Int)) + ((nfe1 : Nat) : Int) + ((nfx1 : Nat) : Int) + ((nfy1 : Nat) : Int))) rfl (y_move rfl) ?_
        have hk258 : ¬ (((1 + ((nsp0 : Nat) : Int) + ((nls0 : Nat) : Int)) + ((nfe1 : Nat) : Int) + ((nfx1 : Nat) : Int) + ((nfy1 : Nat) : Int)) < 0) := (by omega)
        refine s_y (v := .bool false) rfl (y_lss rfl rfl (decide_eq_false hk258)) ?_
        refine s_y (v := .bool false) rfl (y_move rfl) ?_
        refine s_y (v := .slice none 0 0) rfl (y_move rfl) ?_
        refine s_y (v := .slice none 0 0) rfl (y_move rfl) ?_
        refine s_k rfl (k_call T14.fn_54 (c_l_eqFloat32S (Rd.nil _ kF none) (Rd.nil _ kF none) (by omega)) rfl ?_)
        rintro _ w259 ⟨rfl, e260⟩
        replace B := B.ext0 e260
        clear e260
        refine s_y (v := .bool false) rfl (y_not rfl rfl) ?_
        refine s_y (v := .bool false) rfl (y_pick_f rfl rfl) ?_
        refine s_y (v := .bool false) rfl (y_move rfl) ?_
        refine s_y (v := .bool false) rfl (y_move rfl) ?_
        refine s_y (v := .bool false) rfl (y_move rfl) ?_
        refine s_y (v := .bool false) rfl (y_bneq T14.bool_4 rfl rfl rfl) ?_
        refine s_y (v := .bool false) rfl (y_pick_f rfl rfl) ?_
        refine s_nil ?_
        refine W_if_f (by decide) rfl ?_
        refine W_skip ?_
        refine W_seq ?_
        refine W_region (by kernel_rfl) ?_
        refine s_y (v := .int .i64 1) rfl (y_assign rfl) ?_
        refine s_nil ?_
        refine W_seq ?_
        refine W_region (by kernel_rfl) ?_
        refine s_y (v := .slice none 0 0) rfl (y_move rfl) ?_
        refine s_y (v := .int .i64 1) rfl (y_move rfl) ?_
        refine s_k rfl (k_call T14.fn_57 (c_l_markFloat32S (by decide) (by omega) (by omega) (All.cons (Ow.nil _ kF 35 : Fact.holds _ (.ow kF none 0 0 35 [])) <| All.nil) (Pw.nils (by intro f hf; simp only [List.mem_cons, List.not_mem_nil, or_false] at hf; rcases hf with rfl <;> exact no_none))) rfl ?_)
        rintro _ w261 ⟨rfl, hU262⟩
        replace hU262 := Upd.nils hU262 (by intro f hf; simp only [List.mem_cons, List.not_mem_nil, or_false] at hf; rcases hf with rfl <;> exact no_none)
        replace B := B.ext0 hU262
        clear hU262
        refine s_y (v := .int .i64 (1 + ((0 : Nat) : Int))) rfl (y_assign rfl) ?_
        refine s_nil ?_
        refine W_seq ?_
        refine W_region (by kernel_rfl) ?_
        refine s_y (v := .int .i64 1) rfl (y_assign rfl) ?_
        refine s_nil ?_
        refine W_seq ?_
        refine W_region (by kernel_rfl) ?_
        refine s_y (v := .slice none 0 0) rfl (y_move rfl) ?_
        refine s_y (v := .int .i64 1) rfl (y_move rfl) ?_
        refine s_k rfl (k_call T14.fn_58 (c_l_heldFloat32S (k := 1) (Rd.nil _ kF none : Rd _ kF none 0 (marks 1 0)) (by decide) (by omega) (by omega)) rfl ?_)
        rintro _ w263 ⟨rfl, e264⟩
        replace B := B.ext0 e264
        clear e264
        refine s_y (v := .int .i64 (1 + ((0 : Nat) : Int))) rfl (y_assign rfl) ?_
        refine s_nil ?_
        refine W_seq ?_
        refine W_seq ?_
        refine W_region (by kernel_rfl) ?_
        refine s_y (v := .int .i64 (1 + ((0 : Nat) : Int))) rfl (y_move rfl) ?_
        have hk265 : ¬ ((1 + ((0 : Nat) : Int)) < 0) := (by omega)
        refine s_y (v := .bool false) rfl (y_lss rfl rfl (decide_eq_false hk265)) ?_
        refine s_nil ?_
        refine W_if_f (by decide) rfl ?_
        refine W_skip ?_
        refine W_seq ?_
        refine W_seq ?_
        refine W_region (by kernel_rfl) ?_
        refine s_y (v := .int .i64 (1 + ((0 : Nat) : Int))) rfl (y_move rfl) ?_
        refine s_y (v := .int .i64 (1 + ((0 : Nat) : Int))) rfl (y_move rfl) ?_
        refine s_y (v := .bool false) rfl (y_neq rfl rfl (decide_eq_false (fun hq => hq rfl))) ?_
        refine s_nil ?_
        refine W_if_f (by decide) rfl ?_
        refine W_skip ?_
        refine W_seq ?_
        have B0_270 := B
        refine W_draw (no) T14.mx (by kernel_rfl) (fun w268 e269 => ?_)
        have R271 := Ext.refl (no) w263
        replace R271 := R271.trans (Ext0.any e269)
        replace B := B.ext0 e269
        clear e269
        refine m_y (v := .agg #[.int .i64 wd0, .int .i64 hi0, .bool wr0, .slice asp0 nsp0 csp0, .slice als0 nls0 cls0]) 0 rfl (by kernel_rfl) rfl rfl (fun w' e' => y_loadn (b := b1) (o := 0) (vs := [.int .i64 wd0, .int .i64 hi0, .bool wr0, .slice asp0 nsp0 csp0, .slice als0 nls0 cls0]) T14.agg_45_5 rfl rfl (((B0_270.b 18 rfl).ext0 e').cells (o := 0) rfl)) ?_
        refine m_y (v := .agg #[.slice afe1 nfe1 cfe1, .slice afx1 nfx1 cfx1, .slice afy1 nfy1 cfy1]) 2 rfl (by kernel_rfl) rfl rfl (fun w' e' => y_loadn (b := b4) (o := 0) (vs := [.slice afe1 nfe1 cfe1, .slice afx1 nfx1 cfx1, .slice afy1 nfy1 cfy1]) T14.agg_46_3 rfl rfl (((B0_270.b 17 rfl).ext0 e').cells (o := 0) rfl)) ?_
        refine m_y (v := .int .i64 i2) 4 rfl (by kernel_rfl) rfl rfl (fun w' e' => y_move rfl) ?_
        refine m_k 1 [3, 5, 6, 7, 8, 9, 10] rfl (by kernel_rfl) rfl rfl (fun w272 e273 => ?_)
        replace R271 := R271.trans (Ext0.any e273)
        replace B := B.ext0 e273
        clear e273
        refine k_call T14.fn_34 (c_l_toSheet (B.r 19 rfl) (B.r 20 rfl) (by omega) (by omega)) rfl ?_
        rintro _ w274 ⟨a275, c276, a277, c278, rfl, hN279⟩
        replace R271 := R271.trans (Ext0.any hN279.ext)
        replace B := B.new2 hN279
        clear hN279
        refine ⟨fun _ => R271, ?_⟩
        refine m_k 3 [5, 6, 7, 8, 9, 10] rfl (by kernel_rfl) rfl rfl (fun w280 e281 => ?_)
        replace R271 := R271.trans (Ext0.any e281)
        replace B := B.ext0 e281
        clear e281
        refine k_call T14.fn_35 (c_l_toField (B.r 23 rfl) (B.r 24 rfl) (B.r 25 rfl) (by omega) (by omega) (by omega)) rfl ?_
        rintro _ w282 ⟨a283, c284, a285, c286, a287, c288, rfl, hN289⟩
        replace R271 := R271.trans (Ext0.any hN289.ext)
        replace B := B.new3 hN289
        clear hN289
        refine ⟨fun _ => R271, ?_⟩
        refine m_k 5 [6, 7, 8, 9, 10] rfl (by kernel_rfl) rfl rfl (fun w290 e291 => ?_)
        replace R271 := R271.trans (Ext0.any e291)
        replace B := B.ext0 e291
        clear e291
        refine k_call T14.fn_69 (c_i_PeakTrace ((B.o 3 rfl).rd) ((B.o 4 rfl).rd) ((B.o 0 rfl).rd) ((B.o 1 rfl).rd) ((B.o 2 rfl).rd) (by omega) (by omega) (by omega) (by omega) (by omega)) rfl ?_
        rintro v294 w292 hx293
        obtain ⟨_, rfl, e295⟩ := hx293.resolve_left (fun hz => c48 hz.1)
        clear hx293
        replace R271 := R271.trans (Ext0.any e295)
        replace B := B.ext0 e295
        clear e295
        refine ⟨fun _ => R271, ?_⟩
        refine m_y (v := .tuple #[.slice none 0 0, .bool false]) 6 rfl (by kernel_rfl) rfl rfl (fun w' e' => y_move rfl) ?_
        refine m_y (v := .slice none 0 0) 7 rfl (by kernel_rfl) rfl rfl (fun w' e' => y_extract rfl rfl) ?_
        refine m_y (v := .bool false) 8 rfl (by kernel_rfl) rfl rfl (fun w' e' => y_extract rfl rfl) ?_
        refine m_y (v := .slice none 0 0) 9 rfl (by kernel_rfl) rfl rfl (fun w' e' => y_assign rfl) ?_
        refine m_y (v := .bool false) 10 rfl (by kernel_rfl) rfl rfl (fun w' e' => y_assign rfl) ?_
        refine m_done (by kernel_rfl) (fun w296 e297 => ?_)
        replace B := B.ext0 e297
        clear e297
        clear B0_270 R271
        refine W_seq ?_
        refine W_seq ?_
        refine W_region (by kernel_rfl) ?_
        refine s_y (v := .slice none 0 0) rfl (y_move rfl) ?_
        refine s_y (v := .slice none 0 0) rfl (y_move rfl) ?_
        refine s_k rfl (k_call T14.fn_54 (c_l_eqFloat32S (Rd.nil _ kF none) (Rd.nil _ kF none) (by omega)) rfl ?_)
        rintro _ w298 ⟨rfl, e299⟩
        replace B := B.ext0 e299
        clear e299
        refine s_y (v := .bool false) rfl (y_not rfl rfl) ?_
        refine s_y (v := .bool false) rfl (y_move rfl) ?_
        refine s_y (v := .bool false) rfl (y_move rfl) ?_
        refine s_y (v := .bool false) rfl (y_move rfl) ?_
        refine s_y (v := .bool false) rfl (y_bneq T14.bool_4 rfl rfl rfl) ?_
        refine s_y (v := .bool false) rfl (y_pick_f rfl rfl) ?_
        refine s_nil ?_
        refine W_if_f (by decide) rfl ?_
        refine W_skip ?_
        refine W_seq ?_
        refine W_region (by kernel_rfl) ?_
        refine s_y (v := .int .i64 1) rfl (y_assign rfl) ?_
        refine s_nil ?_
        refine W_seq ?_
        refine W_region (by kernel_rfl) ?_
        refine s_y (v := .slice none 0 0) rfl (y_move rfl) ?_
        refine s_y (v := .int .i64 1) rfl (y_move rfl) ?_
        refine s_k rfl (k_call T14.fn_58 (c_l_heldFloat32S (k := 1) (Rd.nil _ kF none : Rd _ kF none 0 (marks 1 0)) (by decide) (by omega) (by omega)) rfl ?_)
        rintro _ w300 ⟨rfl, e301⟩
        replace B := B.ext0 e301
        clear e301
        refine s_y (v := .int .i64 (1 + ((0 : Nat) : Int))) rfl (y_assign rfl) ?_
        refine s_nil ?_
        refine W_seq ?_
        refine W_seq ?_
        refine W_region (by kernel_rfl) ?_
        refine s_y (v := .int .i64 (1 + ((0 : Nat) : Int))) rfl (y_move rfl) ?_
        refine s_y (v := .bool false) rfl (y_lss rfl rfl (decide_eq_false hk265)) ?_
        refine s_nil ?_
        refine W_if_f (by decide) rfl ?_
        refine W_skip ?_
        refine W_seq ?_
        refine W_seq ?_
        refine W_region (by kernel_rfl) ?_
        refine s_y (v := .int .i64 (1 + ((0 : Nat) : Int))) rfl (y_move rfl) ?_
        refine s_y (v := .int .i64 (1 + ((0 : Nat) : Int))) rfl (y_move rfl) ?_
        refine s_y (v := .bool false) rfl (y_neq rfl rfl (decide_eq_false (fun hq => hq rfl))) ?_
        refine s_nil ?_
        refine W_if_f (by decide) rfl ?_
        refine W_skip ?_
        refine W_seq ?_
        refine W_region (by kernel_rfl) ?_
        refine s_y (v := .bool true) rfl (y_assign rfl) ?_
        refine s_nil ?_
        refine W_ret ?_
        refine ret1 (v := .bool true) rfl rfl rfl ⟨_, rfl, ?_⟩
        exact ⟨rfl, B.ext⟩
    · obtain rfl : v15 = .int .i64 (-1) := hv16.trans (congrArg _ (if_neg c17))
      refine s_y (v := .int .i64 (-1)) rfl (y_assign rfl) ?_
      refine s_nil ?_
      refine W_seq ?_
      refine W_seq ?_
      refine W_region (by kernel_rfl) ?_
      refine s_y (v := .int .i64 (-1)) rfl (y_move rfl) ?_
      have hk302 : (-1 : Int) < 0 := (by decide)
      refine s_y (v := .bool true) rfl (y_lss rfl rfl (decide_eq_true hk302)) ?_
      refine s_nil ?_
      refine W_if_t (by decide) rfl ?_
      refine W_seq ?_
      refine W_region (by kernel_rfl) ?_
      refine s_y (v := .bool true) rfl (y_assign rfl) ?_
      refine s_nil ?_
      refine W_ret ?_
      refine ret1 (v := .bool true) rfl rfl rfl ⟨_, rfl, ?_⟩
      exact ⟨rfl, B.ext⟩
  · obtain rfl : v9 = .int .i64 (-1) := hv10.trans (congrArg _ (if_neg c11))
    refine s_y (v := .int .i64 (-1)) rfl (y_assign rfl) ?_
    refine s_nil ?_
    refine W_seq ?_
    refine W_seq ?_
    refine W_region (by kernel_rfl) ?_
    refine s_y (v := .int .i64 (-1)) rfl (y_move rfl) ?_
    have hk303 : (-1 : Int) < 0 := (by decide)
    refine s_y (v := .bool true) rfl (y_lss rfl rfl (decide_eq_true hk303)) ?_
    refine s_nil ?_
    refine W_if_t (by decide) rfl ?_
    refine W_seq ?_
    refine W_region (by kernel_rfl) ?_
    refine s_y (v := .bool true) rfl (y_assign rfl) ?_
    refine s_nil ?_
    refine W_ret ?_
    refine ret1 (v := .bool true) rfl rfl rfl ⟨_, rfl, ?_⟩
    exact ⟨rfl, B.ext⟩
end Go.Proofs.Ytmcldploldaceaa
