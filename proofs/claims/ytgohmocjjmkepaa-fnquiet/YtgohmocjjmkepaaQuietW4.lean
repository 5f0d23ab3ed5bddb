/- Walks: what the functions under FnQuiet do (part 5). Printed by a program of this claim's author. -/
import Derived.Test.YtgohmocjjmkepaaQuietW3
set_option linter.unusedSimpArgs false
set_option linter.unusedVariables false
open Go.Wv
namespace Go.Proofs.Ytgohmocjjmkepaa
open Go.Proofs
namespace T118
theorem mx : Try.prog.follows .mixedOrders = true := by kernel_rfl
theorem agg_26_5 : aggB Try.prog 26 5 = true := by kernel_rfl
theorem agg_30_3 : aggB Try.prog 30 3 = true := by kernel_rfl
theorem fn_141 : fnB Try.prog 141 = true := by kernel_rfl
theorem fn_41 : fnB Try.prog 41 = true := by kernel_rfl
theorem fn_68 : fnB Try.prog 68 = true := by kernel_rfl
theorem fn_71 : fnB Try.prog 71 = true := by kernel_rfl
theorem fn_74 : fnB Try.prog 74 = true := by kernel_rfl
theorem fn_89 : fnB Try.prog 89 = true := by kernel_rfl
theorem one_24 : oneB Try.prog 24 = true := by kernel_rfl
theorem slt_24 : SlT Try.prog 24 34 1 4 (.float .f32 0) := ⟨by kernel_rfl, by kernel_rfl, rfl, by decide⟩
theorem sz_24_1 : szB Try.prog 24 1 = true := by kernel_rfl
theorem sz_30_3 : szB Try.prog 30 3 = true := by kernel_rfl
theorem zero_24 : zeroB Try.prog 24 (.slice none 0 0) := by unfold zeroB; kernel_rfl
theorem zero_30 : zeroB Try.prog 30 (.agg #[.slice none 0 0, .slice none 0 0, .slice none 0 0]) := by unfold zeroB; kernel_rfl
end T118
set_option maxRecDepth 100000 in
set_option maxHeartbeats 4000000 in
theorem c_i_run_trace {wd : Int} {hi : Int} {wr : Bool} {asp : Option Addr} {nsp : Nat} {csp : Nat} {Xsp : List Nat} {als : Option Addr} {nls : Nat} {cls : Nat} {Xls : List Nat} {afe : Option Addr} {nfe : Nat} {cfe : Nat} {Xfe : List Nat} {afx : Option Addr} {nfx : Nat} {cfx : Nat} {Xfx : List Nat} {afy : Option Addr} {nfy : Nat} {cfy : Nat} {Xfy : List Nat} {m : Int} {bo : Nat} {bn : Nat} {f : Nat} {us xs : List Value} {FN : Fld → Nat} {aq : Option Addr} {nq cq : Nat} {Xq : List Nat} {w : World} (hfB : fnB Try.prog f = true) (hF : ∀ {ae ax ay : Option Addr} {ce cx cy : Nat} {E X Y : List Nat} {w1 : World}, Ext (hasW [.blk bo [.slice aq nq cq] 24, .ow kF aq nq cq 34 Xq]) w w1 → Rd w1 kF ae nfe E → Rd w1 kF ax nfx X → Rd w1 kF ay nfy Y → fieldB wd hi wr Xsp Xls Xfe Xfx Xfy = true → Calls Try.prog f (us ++ ([.agg #[.slice ae nfe ce, .slice ax nfx cx, .slice ay nfy cy]] : List Value) ++ xs).toArray w1 (Rt fun v w2 => (∃ r, v = .float .f32 r ∧ Cn .f32 r (FN (E, X, Y))) ∧ Ext0 w1 w2)) (hbsp : nsp ≤ 9223372036854775806) (hbls : nls ≤ 9223372036854775806) (hbfe : nfe ≤ 9223372036854775806) (hbfx : nfx ≤ 9223372036854775806) (hbfy : nfy ≤ 9223372036854775806) (hq : nq = 0) (HA : All w [.blk bo [.slice aq nq cq] 24, .ow kF aq nq cq 34 Xq, .rd kF asp nsp Xsp, .rd kF als nls Xls, .rd kF afe nfe Xfe, .rd kF afx nfx Xfx, .rd kF afy nfy Xfy, .sl (some ⟨bn, 0, none⟩) [.func (.func f) us.toArray xs.toArray]]) (HP : Pw [.blk bo [.slice aq nq cq] 24, .ow kF aq nq cq 34 Xq, .rd kF asp nsp Xsp, .rd kF als nls Xls, .rd kF afe nfe Xfe, .rd kF afx nfx Xfx, .rd kF afy nfy Xfy, .sl (some ⟨bn, 0, none⟩) [.func (.func f) us.toArray xs.toArray]]) :
    Calls Try.prog 71 #[.agg #[.int .i64 wd, .int .i64 hi, .bool wr, .slice asp nsp csp, .slice als nls cls], .agg #[.slice afe nfe cfe, .slice afx nfx cfx, .slice afy nfy cfy], .int .i64 m, .func (.func 141) #[] #[.pointer (some ⟨bo, 0, none⟩), .pointer (some ⟨bn, 0, none⟩)]] w (Rt fun v w' => (runB wd hi wr Xsp Xls Xfe Xfx Xfy m = true ∧ ∃ (a9 : Option Addr) (n9 : Nat) (c9 : Nat) (a1 : Option Addr) (a2 : Option Addr) (a3 : Option Addr) (c1 : Nat) (c2 : Nat) (c3 : Nat), v = .tuple #[.agg #[.slice a1 nfe c1, .slice a2 nfx c2, .slice a3 nfy c3], .bool true] ∧ Upd w w' [.blk bo [.slice aq nq cq] 24, .ow kF aq nq cq 34 Xq] [.blk bo [.slice a9 n9 c9] 24, .ow kF a9 n9 c9 34 (Xq ++ trL wd hi wr Xsp Xls (Xfe, Xfx, Xfy) FN m), .ow kF a1 nfe c1 34 ((rnT wd hi wr Xsp Xls (Xfe, Xfx, Xfy) (Int.toNat m)).1), .ow kF a2 nfx c2 34 ((rnT wd hi wr Xsp Xls (Xfe, Xfx, Xfy) (Int.toNat m)).2.1), .ow kF a3 nfy c3 34 ((rnT wd hi wr Xsp Xls (Xfe, Xfx, Xfy) (Int.toNat m)).2.2)]) ∨ (runB wd hi wr Xsp Xls Xfe Xfx Xfy m = false ∧ v = .tuple #[.agg #[.slice none 0 0, .slice none 0 0, .slice none 0 0], .bool false] ∧ Upd w w' [.blk bo [.slice aq nq cq] 24, .ow kF aq nq cq 34 Xq] [.blk bo [.slice aq nq cq] 24, .ow kF aq nq cq 34 Xq])) := by
  have B : Bu w (hasW [.blk bo [.slice aq nq cq] 24, .ow kF aq nq cq 34 Xq]) w [.blk bo [.slice aq nq cq] 24, .ow kF aq nq cq 34 Xq, .rd kF asp nsp Xsp, .rd kF als nls Xls, .rd kF afe nfe Xfe, .rd kF afx nfx Xfx, .rd kF afy nfy Xfy, .sl (some ⟨bn, 0, none⟩) [.func (.func f) us.toArray xs.toArray]] := Bu.initW (W := [.blk bo [.slice aq nq cq] 24, .ow kF aq nq cq 34 Xq]) (R := [.rd kF asp nsp Xsp, .rd kF als nls Xls, .rd kF afe nfe Xfe, .rd kF afx nfx Xfx, .rd kF afy nfy Xfy, .sl (some ⟨bn, 0, none⟩) [.func (.func f) us.toArray xs.toArray]]) HA HP rfl
  have hlq := (B.o 1 rfl).len
  have hlsp := (B.r 2 rfl).len
  have hlls := (B.r 3 rfl).len
  have hlfe := (B.r 4 rfl).len
  have hlfx := (B.r 5 rfl).len
  have hlfy := (B.r 6 rfl).len
  refine calls_W (n := 34) Try.func71 rfl rfl (Nat.le_of_ble_eq_true rfl) ?_
  refine W_seq ?_
  refine W_region (by kernel_rfl) ?_
  refine s_k rfl (k_boxN (v := .agg #[.int .i64 wd, .int .i64 hi, .bool wr, .slice asp nsp csp, .slice als nls cls]) (cs := [.int .i64 wd, .int .i64 hi, .bool wr, .slice asp nsp csp, .slice als nls cls]) rfl rfl (fun b1 w2 hN3 => ?_))
  replace B := B.new1 hN3
  clear hN3
  refine s_k rfl (k_boxN (v := .agg #[.slice afe nfe cfe, .slice afx nfx cfx, .slice afy nfy cfy]) (cs := [.slice afe nfe cfe, .slice afx nfx cfx, .slice afy nfy cfy]) rfl rfl (fun b4 w5 hN6 => ?_))
  replace B := B.new1 hN6
  clear hN6
  refine s_k rfl (k_allocN (z := (.agg #[.slice none 0 0, .slice none 0 0, .slice none 0 0])) (cs := [.slice none 0 0, .slice none 0 0, .slice none 0 0]) T118.zero_30 rfl (fun b7 w8 hN9 => ?_))
  replace B := B.new1 hN9
  clear hN9
  refine s_y (v := .bool false) rfl (y_assign rfl) ?_
  refine s_nil ?_
  refine W_seq ?_
  refine W_seq ?_
  refine W_region (by kernel_rfl) ?_
  refine s_y (v := .agg #[.int .i64 wd, .int .i64 hi, .bool wr, .slice asp nsp csp, .slice als nls cls]) rfl (y_loadn (b := b1) (o := 0) (vs := [.int .i64 wd, .int .i64 hi, .bool wr, .slice asp nsp csp, .slice als nls cls]) T118.agg_26_5 rfl rfl ((B.b 2 rfl).cells (o := 0) rfl)) ?_
  refine s_y (v := .agg #[.slice afe nfe cfe, .slice afx nfx cfx, .slice afy nfy cfy]) rfl (y_loadn (b := b4) (o := 0) (vs := [.slice afe nfe cfe, .slice afx nfx cfx, .slice afy nfy cfy]) T118.agg_30_3 rfl rfl ((B.b 1 rfl).cells (o := 0) rfl)) ?_
  refine s_k rfl (k_call T118.fn_41 (c_i_IsField (B.r 5 rfl) (B.r 6 rfl) (B.r 7 rfl) (B.r 8 rfl) (B.r 9 rfl) (by omega) (by omega) (by omega) (by omega) (by omega)) rfl ?_)
  rintro v12 w10 ⟨hv13, e11⟩
  replace B := B.ext0 e11
  clear e11
  by_cases c14 : fieldB wd hi wr Xsp Xls Xfe Xfx Xfy = true
  · have hb15 := fieldB_b c14
    obtain rfl : v12 = .bool true := hv13.trans (congrArg Value.bool c14)
    refine s_y (v := .bool false) rfl (y_not rfl rfl) ?_
    refine s_y (v := .bool false) rfl (y_move rfl) ?_
    refine s_y (v := .int .i64 m) rfl (y_move rfl) ?_
    refine s_k rfl (k_call T118.fn_74 (c_i_within) rfl ?_)
    rintro v18 w16 ⟨hv19, e17⟩
    replace B := B.ext0 e17
    clear e17
    by_cases c20 : within m 0 64 = true
    · have hb21 := within_b c20
      obtain rfl : v18 = .bool true := hv19.trans (congrArg Value.bool c20)
      refine s_y (v := .bool false) rfl (y_not rfl rfl) ?_
      refine s_y (v := .bool false) rfl (y_pick_f rfl rfl) ?_
      refine s_nil ?_
      refine W_if_f (by decide) rfl ?_
      refine W_skip ?_
      refine W_seq ?_
      refine W_region (by kernel_rfl) ?_
      refine s_y (v := .agg #[.slice afe nfe cfe, .slice afx nfx cfx, .slice afy nfy cfy]) rfl (y_loadn (b := b4) (o := 0) (vs := [.slice afe nfe cfe, .slice afx nfx cfx, .slice afy nfy cfy]) T118.agg_30_3 rfl rfl ((B.b 1 rfl).cells (o := 0) rfl)) ?_
      refine s_k rfl (k_call T118.fn_68 (c_i_copyField (B.r 7 rfl) (B.r 8 rfl) (B.r 9 rfl) (by omega) (by omega) (by omega)) rfl ?_)
      rintro _ w22 ⟨a23, c24, a25, c26, a27, c28, rfl, hN29⟩
      replace B := B.new3 hN29
      clear hN29
      refine s_k rfl (k_allocN (z := (.agg #[.slice none 0 0, .slice none 0 0, .slice none 0 0])) (cs := [.slice none 0 0, .slice none 0 0, .slice none 0 0]) T118.zero_30 rfl (fun b30 w31 hN32 => ?_))
      replace B := B.new1 hN32
      clear hN32
      refine s_k0 rfl (k_stB (v := .agg #[.slice a23 nfe c24, .slice a25 nfx c26, .slice a27 nfy c28]) (n := 3) (cs' := [.slice a23 nfe c24, .slice a25 nfx c26, .slice a27 nfy c28]) T118.sz_30_3 rfl rfl rfl (B.b 0 rfl) (by simp [Value.cells, Value.oneCell']) (Nat.le_of_ble_eq_true rfl) rfl (fun w33 hU34 => ?_))
      replace B : Bu w (hasW [.blk bo [.slice aq nq cq] 24, .ow kF aq nq cq 34 Xq]) w33 [.blk b30 [.slice a23 nfe c24, .slice a25 nfx c26, .slice a27 nfy c28] 30, .ow kF a23 nfe c24 34 Xfe, .ow kF a25 nfx c26 34 Xfx, .ow kF a27 nfy c28 34 Xfy, .blk b7 [.slice none 0 0, .slice none 0 0, .slice none 0 0] 30, .blk b4 [.slice afe nfe cfe, .slice afx nfx cfx, .slice afy nfy cfy] 30, .blk b1 [.int .i64 wd, .int .i64 hi, .bool wr, .slice asp nsp csp, .slice als nls cls] 26, .blk bo [.slice aq nq cq] 24, .ow kF aq nq cq 34 Xq, .rd kF asp nsp Xsp, .rd kF als nls Xls, .rd kF afe nfe Xfe, .rd kF afx nfx Xfx, .rd kF afy nfy Xfy, .sl (some ⟨bn, 0, none⟩) [.func (.func f) us.toArray xs.toArray]] := B.upd [0] rfl hU34
      clear hU34
      refine s_nil ?_
      refine W_seq ?_
      refine W_seq ?_
      refine W_region (by kernel_rfl) ?_
      refine s_y (v := .int .i64 m) rfl (y_move rfl) ?_
      refine s_y (v := .int .i64 0) rfl (y_move rfl) ?_
      refine s_nil ?_
      refine W_block ?_
      have hrunf := c14
      refine W_loop (fun ρ' w' => ∃ (ρ1 : Env) (k : Int) (A1 : Option Addr) (A2 : Option Addr) (A3 : Option Addr) (C1 : Nat) (C2 : Nat) (C3 : Nat) (A9 : Option Addr) (N9 : Nat) (C9 : Nat), ρ' = updL ρ1 [(3, .func (.func 141) #[] #[.pointer (some ⟨bo, 0, none⟩), .pointer (some ⟨bn, 0, none⟩)]), (4, .pointer (some ⟨b1, 0, none⟩)), (8, .pointer (some ⟨b7, 0, none⟩)), (9, .bool false), (10, .pointer (some ⟨b30, 0, none⟩)), (23, .int .i64 m), (24, .int .i64 k)] ∧ Bu w (hasW [.blk bo [.slice aq nq cq] 24, .ow kF aq nq cq 34 Xq]) w' [.ow kF A1 nfe C1 34 ((rnT wd hi wr Xsp Xls (Xfe, Xfx, Xfy) (Int.toNat k)).1), .ow kF A2 nfx C2 34 ((rnT wd hi wr Xsp Xls (Xfe, Xfx, Xfy) (Int.toNat k)).2.1), .ow kF A3 nfy C3 34 ((rnT wd hi wr Xsp Xls (Xfe, Xfx, Xfy) (Int.toNat k)).2.2), .ow kF A9 N9 C9 34 (Xq ++ trL wd hi wr Xsp Xls (Xfe, Xfx, Xfy) FN k), .blk b30 [.slice A1 nfe C1, .slice A2 nfx C2, .slice A3 nfy C3] 30, .blk b7 [.slice none 0 0, .slice none 0 0, .slice none 0 0] 30, .blk b4 [.slice afe nfe cfe, .slice afx nfx cfx, .slice afy nfy cfy] 30, .blk b1 [.int .i64 wd, .int .i64 hi, .bool wr, .slice asp nsp csp, .slice als nls cls] 26, .blk bo [.slice A9 N9 C9] 24, .rd kF asp nsp Xsp, .rd kF als nls Xls, .rd kF afe nfe Xfe, .rd kF afx nfx Xfx, .rd kF afy nfy Xfy, .sl (some ⟨bn, 0, none⟩) [.func (.func f) us.toArray xs.toArray]] ∧ (0 ≤ k) ∧ (k ≤ m)) (fun ρ' _ => (m - iv (ρ' 24)).toNat) ?_ ?_
      · replace B : Bu w (hasW [.blk bo [.slice aq nq cq] 24, .ow kF aq nq cq 34 Xq]) w33 [.blk b30 [.slice a23 nfe c24, .slice a25 nfx c26, .slice a27 nfy c28] 30, .ow kF a23 nfe c24 34 ((rnT wd hi wr Xsp Xls (Xfe, Xfx, Xfy) (Int.toNat 0)).1), .ow kF a25 nfx c26 34 Xfx, .ow kF a27 nfy c28 34 Xfy, .blk b7 [.slice none 0 0, .slice none 0 0, .slice none 0 0] 30, .blk b4 [.slice afe nfe cfe, .slice afx nfx cfx, .slice afy nfy cfy] 30, .blk b1 [.int .i64 wd, .int .i64 hi, .bool wr, .slice asp nsp csp, .slice als nls cls] 26, .blk bo [.slice aq nq cq] 24, .ow kF aq nq cq 34 Xq, .rd kF asp nsp Xsp, .rd kF als nls Xls, .rd kF afe nfe Xfe, .rd kF afx nfx Xfx, .rd kF afy nfy Xfy, .sl (some ⟨bn, 0, none⟩) [.func (.func f) us.toArray xs.toArray]] := B.castX 1 rfl rfl rfl
        replace B : Bu w (hasW [.blk bo [.slice aq nq cq] 24, .ow kF aq nq cq 34 Xq]) w33 [.blk b30 [.slice a23 nfe c24, .slice a25 nfx c26, .slice a27 nfy c28] 30, .ow kF a23 nfe c24 34 ((rnT wd hi wr Xsp Xls (Xfe, Xfx, Xfy) (Int.toNat 0)).1), .ow kF a25 nfx c26 34 ((rnT wd hi wr Xsp Xls (Xfe, Xfx, Xfy) (Int.toNat 0)).2.1), .ow kF a27 nfy c28 34 Xfy, .blk b7 [.slice none 0 0, .slice none 0 0, .slice none 0 0] 30, .blk b4 [.slice afe nfe cfe, .slice afx nfx cfx, .slice afy nfy cfy] 30, .blk b1 [.int .i64 wd, .int .i64 hi, .bool wr, .slice asp nsp csp, .slice als nls cls] 26, .blk bo [.slice aq nq cq] 24, .ow kF aq nq cq 34 Xq, .rd kF asp nsp Xsp, .rd kF als nls Xls, .rd kF afe nfe Xfe, .rd kF afx nfx Xfx, .rd kF afy nfy Xfy, .sl (some ⟨bn, 0, none⟩) [.func (.func f) us.toArray xs.toArray]] := B.castX 2 rfl rfl rfl
        replace B : Bu w (hasW [.blk bo [.slice aq nq cq] 24, .ow kF aq nq cq 34 Xq]) w33 [.blk b30 [.slice a23 nfe c24, .slice a25 nfx c26, .slice a27 nfy c28] 30, .ow kF a23 nfe c24 34 ((rnT wd hi wr Xsp Xls (Xfe, Xfx, Xfy) (Int.toNat 0)).1), .ow kF a25 nfx c26 34 ((rnT wd hi wr Xsp Xls (Xfe, Xfx, Xfy) (Int.toNat 0)).2.1), .ow kF a27 nfy c28 34 ((rnT wd hi wr Xsp Xls (Xfe, Xfx, Xfy) (Int.toNat 0)).2.2), .blk b7 [.slice none 0 0, .slice none 0 0, .slice none 0 0] 30, .blk b4 [.slice afe nfe cfe, .slice afx nfx cfx, .slice afy nfy cfy] 30, .blk b1 [.int .i64 wd, .int .i64 hi, .bool wr, .slice asp nsp csp, .slice als nls cls] 26, .blk bo [.slice aq nq cq] 24, .ow kF aq nq cq 34 Xq, .rd kF asp nsp Xsp, .rd kF als nls Xls, .rd kF afe nfe Xfe, .rd kF afx nfx Xfx, .rd kF afy nfy Xfy, .sl (some ⟨bn, 0, none⟩) [.func (.func f) us.toArray xs.toArray]] := B.castX 3 rfl rfl rfl
        replace B : Bu w (hasW [.blk bo [.slice aq nq cq] 24, .ow kF aq nq cq 34 Xq]) w33 [.blk b30 [.slice a23 nfe c24, .slice a25 nfx c26, .slice a27 nfy c28] 30, .ow kF a23 nfe c24 34 ((rnT wd hi wr Xsp Xls (Xfe, Xfx, Xfy) (Int.toNat 0)).1), .ow kF a25 nfx c26 34 ((rnT wd hi wr Xsp Xls (Xfe, Xfx, Xfy) (Int.toNat 0)).2.1), .ow kF a27 nfy c28 34 ((rnT wd hi wr Xsp Xls (Xfe, Xfx, Xfy) (Int.toNat 0)).2.2), .blk b7 [.slice none 0 0, .slice none 0 0, .slice none 0 0] 30, .blk b4 [.slice afe nfe cfe, .slice afx nfx cfx, .slice afy nfy cfy] 30, .blk b1 [.int .i64 wd, .int .i64 hi, .bool wr, .slice asp nsp csp, .slice als nls cls] 26, .blk bo [.slice aq nq cq] 24, .ow kF aq nq cq 34 (Xq ++ trL wd hi wr Xsp Xls (Xfe, Xfx, Xfy) FN 0), .rd kF asp nsp Xsp, .rd kF als nls Xls, .rd kF afe nfe Xfe, .rd kF afx nfx Xfx, .rd kF afy nfy Xfy, .sl (some ⟨bn, 0, none⟩) [.func (.func f) us.toArray xs.toArray]] := B.castX 8 rfl rfl (List.append_nil _).symm
        exact ⟨_, 0, a23, a25, a27, c24, c26, c28, aq, nq, cq, Fits.eq ⟨rfl, rfl, rfl, rfl, rfl, rfl, rfl, trivial⟩, (B.pick [1, 2, 3, 8, 0, 4, 5, 6, 7, 9, 10, 11, 12, 13, 14] rfl rfl), (Int.le_refl _), (by omega)⟩
      · clear B; rintro _ w35 ⟨ρ36, k, A1, A2, A3, C1, C2, C3, A9, N9, C9, rfl, B, h0k, h1k⟩
        have hN9 := (B.o 3 rfl).len
        rw [List.length_append, trL_len] at hN9
        refine W_seq ?_
        refine W_region (by kernel_rfl) ?_
        by_cases c37 : k < m
        · refine s_y (v := .bool true) rfl (y_lss rfl rfl (decide_eq_true c37)) ?_
          refine s_nil ?_
          refine W_seq ?_
          refine W_if_t (by decide) rfl ?_
          refine W_skip ?_
          refine W_seq ?_
          refine W_block ?_
          refine W_seq ?_
          refine W_region (by kernel_rfl) ?_
          refine s_y (v := .agg #[.int .i64 wd, .int .i64 hi, .bool wr, .slice asp nsp csp, .slice als nls cls]) rfl (y_loadn (b := b1) (o := 0) (vs := [.int .i64 wd, .int .i64 hi, .bool wr, .slice asp nsp csp, .slice als nls cls]) T118.agg_26_5 rfl rfl ((B.b 7 rfl).cells (o := 0) rfl)) ?_
          refine s_y (v := .agg #[.slice A1 nfe C1, .slice A2 nfx C2, .slice A3 nfy C3]) rfl (y_loadn (b := b30) (o := 0) (vs := [.slice A1 nfe C1, .slice A2 nfx C2, .slice A3 nfy C3]) T118.agg_30_3 rfl rfl ((B.b 4 rfl).cells (o := 0) rfl)) ?_
          refine s_k rfl (k_call T118.fn_89 (c_i_stepped (B.r 9 rfl) (B.r 10 rfl) ((B.o 0 rfl).rd) ((B.o 1 rfl).rd) ((B.o 2 rfl).rd) (by omega) (by omega) (by omega) (by omega) (by omega) (by omega) (by omega) (by omega) (by omega)) rfl ?_)
          rintro _ w38 ⟨a39, c40, a41, c42, a43, c44, rfl, hN45⟩
          replace B := B.new3 hN45
          clear hN45
          refine s_k0 rfl (k_stB (v := .agg #[.slice a39 nfe c40, .slice a41 nfx c42, .slice a43 nfy c44]) (n := 3) (cs' := [.slice a39 nfe c40, .slice a41 nfx c42, .slice a43 nfy c44]) T118.sz_30_3 rfl rfl rfl (B.b 7 rfl) (by simp [Value.cells, Value.oneCell']) (Nat.le_of_ble_eq_true rfl) rfl (fun w46 hU47 => ?_))
          replace B : Bu w (hasW [.blk bo [.slice aq nq cq] 24, .ow kF aq nq cq 34 Xq]) w46 [.blk b30 [.slice a39 nfe c40, .slice a41 nfx c42, .slice a43 nfy c44] 30, .ow kF a39 nfe c40 34 (nwL wd hi wr Xsp Xls ((rnT wd hi wr Xsp Xls (Xfe, Xfx, Xfy) (Int.toNat k)).1) (hxL wd hi wr ((rnT wd hi wr Xsp Xls (Xfe, Xfx, Xfy) (Int.toNat k)).1) ((rnT wd hi wr Xsp Xls (Xfe, Xfx, Xfy) (Int.toNat k)).2.1)) (hyL wd hi wr ((rnT wd hi wr Xsp Xls (Xfe, Xfx, Xfy) (Int.toNat k)).1) ((rnT wd hi wr Xsp Xls (Xfe, Xfx, Xfy) (Int.toNat k)).2.2))), .ow kF a41 nfx c42 34 (hxL wd hi wr ((rnT wd hi wr Xsp Xls (Xfe, Xfx, Xfy) (Int.toNat k)).1) ((rnT wd hi wr Xsp Xls (Xfe, Xfx, Xfy) (Int.toNat k)).2.1)), .ow kF a43 nfy c44 34 (hyL wd hi wr ((rnT wd hi wr Xsp Xls (Xfe, Xfx, Xfy) (Int.toNat k)).1) ((rnT wd hi wr Xsp Xls (Xfe, Xfx, Xfy) (Int.toNat k)).2.2)), .ow kF A1 nfe C1 34 ((rnT wd hi wr Xsp Xls (Xfe, Xfx, Xfy) (Int.toNat k)).1), .ow kF A2 nfx C2 34 ((rnT wd hi wr Xsp Xls (Xfe, Xfx, Xfy) (Int.toNat k)).2.1), .ow kF A3 nfy C3 34 ((rnT wd hi wr Xsp Xls (Xfe, Xfx, Xfy) (Int.toNat k)).2.2), .ow kF A9 N9 C9 34 (Xq ++ trL wd hi wr Xsp Xls (Xfe, Xfx, Xfy) FN k), .blk b7 [.slice none 0 0, .slice none 0 0, .slice none 0 0] 30, .blk b4 [.slice afe nfe cfe, .slice afx nfx cfx, .slice afy nfy cfy] 30, .blk b1 [.int .i64 wd, .int .i64 hi, .bool wr, .slice asp nsp csp, .slice als nls cls] 26, .blk bo [.slice A9 N9 C9] 24, .rd kF asp nsp Xsp, .rd kF als nls Xls, .rd kF afe nfe Xfe, .rd kF afx nfx Xfx, .rd kF afy nfy Xfy, .sl (some ⟨bn, 0, none⟩) [.func (.func f) us.toArray xs.toArray]] := B.upd [7] rfl hU47
          clear hU47
          refine s_nil ?_
          refine W_region (by kernel_rfl) ?_
          refine s_y (v := .func (.func 141) #[] #[.pointer (some ⟨bo, 0, none⟩), .pointer (some ⟨bn, 0, none⟩)]) rfl (y_move rfl) ?_
          refine s_y (v := .agg #[.slice a39 nfe c40, .slice a41 nfx c42, .slice a43 nfy c44]) rfl (y_loadn (b := b30) (o := 0) (vs := [.slice a39 nfe c40, .slice a41 nfx c42, .slice a43 nfy c44]) T118.agg_30_3 rfl rfl ((B.b 0 rfl).cells (o := 0) rfl)) ?_
          have Bt := B.weakO 1 rfl
          have Bt := Bt.weakO 2 rfl
          have Bt := Bt.weakO 3 rfl
          refine s_k rfl (k_callv (us := []) (vs := [.agg #[.slice a39 nfe c40, .slice a41 nfx c42, .slice a43 nfy c44]]) (xs := [.pointer (some ⟨bo, 0, none⟩), .pointer (some ⟨bn, 0, none⟩)]) T118.fn_141 rfl (c_i_traceBy_1 (f := f) (us := us) (xs := xs) (FN := FN) hfB (fun {w1} e => hF (B.out [11, 7] rfl e) (B.keepO [11, 7] rfl 1 rfl rfl e) (B.keepO [11, 7] rfl 2 rfl rfl e) (B.keepO [11, 7] rfl 3 rfl rfl e) hrunf) (by omega) (Bt.all.pick [11, 7, 1, 2, 3, 17] rfl) (Bt.pw.pick [11, 7, 1, 2, 3, 17] rfl rfl)) rfl ?_)
          rintro _ w48 ⟨a50, c51, rfl, hU49⟩
          replace B : Bu w (hasW [.blk bo [.slice aq nq cq] 24, .ow kF aq nq cq 34 Xq]) w48 [.blk bo [.slice a50 (N9 + 1) c51] 24, .ow kF a50 (N9 + 1) c51 34 ((Xq ++ trL wd hi wr Xsp Xls (Xfe, Xfx, Xfy) FN k) ++ [FN ((nwL wd hi wr Xsp Xls ((rnT wd hi wr Xsp Xls (Xfe, Xfx, Xfy) (Int.toNat k)).1) (hxL wd hi wr ((rnT wd hi wr Xsp Xls (Xfe, Xfx, Xfy) (Int.toNat k)).1) ((rnT wd hi wr Xsp Xls (Xfe, Xfx, Xfy) (Int.toNat k)).2.1)) (hyL wd hi wr ((rnT wd hi wr Xsp Xls (Xfe, Xfx, Xfy) (Int.toNat k)).1) ((rnT wd hi wr Xsp Xls (Xfe, Xfx, Xfy) (Int.toNat k)).2.2))), (hxL wd hi wr ((rnT wd hi wr Xsp Xls (Xfe, Xfx, Xfy) (Int.toNat k)).1) ((rnT wd hi wr Xsp Xls (Xfe, Xfx, Xfy) (Int.toNat k)).2.1)), (hyL wd hi wr ((rnT wd hi wr Xsp Xls (Xfe, Xfx, Xfy) (Int.toNat k)).1) ((rnT wd hi wr Xsp Xls (Xfe, Xfx, Xfy) (Int.toNat k)).2.2)))]), .blk b30 [.slice a39 nfe c40, .slice a41 nfx c42, .slice a43 nfy c44] 30, .ow kF a39 nfe c40 34 (nwL wd hi wr Xsp Xls ((rnT wd hi wr Xsp Xls (Xfe, Xfx, Xfy) (Int.toNat k)).1) (hxL wd hi wr ((rnT wd hi wr Xsp Xls (Xfe, Xfx, Xfy) (Int.toNat k)).1) ((rnT wd hi wr Xsp Xls (Xfe, Xfx, Xfy) (Int.toNat k)).2.1)) (hyL wd hi wr ((rnT wd hi wr Xsp Xls (Xfe, Xfx, Xfy) (Int.toNat k)).1) ((rnT wd hi wr Xsp Xls (Xfe, Xfx, Xfy) (Int.toNat k)).2.2))), .ow kF a41 nfx c42 34 (hxL wd hi wr ((rnT wd hi wr Xsp Xls (Xfe, Xfx, Xfy) (Int.toNat k)).1) ((rnT wd hi wr Xsp Xls (Xfe, Xfx, Xfy) (Int.toNat k)).2.1)), .ow kF a43 nfy c44 34 (hyL wd hi wr ((rnT wd hi wr Xsp Xls (Xfe, Xfx, Xfy) (Int.toNat k)).1) ((rnT wd hi wr Xsp Xls (Xfe, Xfx, Xfy) (Int.toNat k)).2.2)), .ow kF A1 nfe C1 34 ((rnT wd hi wr Xsp Xls (Xfe, Xfx, Xfy) (Int.toNat k)).1), .ow kF A2 nfx C2 34 ((rnT wd hi wr Xsp Xls (Xfe, Xfx, Xfy) (Int.toNat k)).2.1), .ow kF A3 nfy C3 34 ((rnT wd hi wr Xsp Xls (Xfe, Xfx, Xfy) (Int.toNat k)).2.2), .blk b7 [.slice none 0 0, .slice none 0 0, .slice none 0 0] 30, .blk b4 [.slice afe nfe cfe, .slice afx nfx cfx, .slice afy nfy cfy] 30, .blk b1 [.int .i64 wd, .int .i64 hi, .bool wr, .slice asp nsp csp, .slice als nls cls] 26, .rd kF asp nsp Xsp, .rd kF als nls Xls, .rd kF afe nfe Xfe, .rd kF afx nfx Xfx, .rd kF afy nfy Xfy, .sl (some ⟨bn, 0, none⟩) [.func (.func f) us.toArray xs.toArray]] := B.upd [11, 7] rfl hU49
          clear hU49
          refine s_nil ?_
          refine W_region (by kernel_rfl) ?_
          refine s_y (v := .int .i64 (k + 1)) rfl (y_add rfl rfl rfl (by omega)) ?_
          refine s_y (v := .int .i64 (k + 1)) rfl (y_move rfl) ?_
          refine s_nil ?_
          replace B : Bu w (hasW [.blk bo [.slice aq nq cq] 24, .ow kF aq nq cq 34 Xq]) w48 [.blk bo [.slice a50 (N9 + 1) c51] 24, .ow kF a50 (N9 + 1) c51 34 ((Xq ++ trL wd hi wr Xsp Xls (Xfe, Xfx, Xfy) FN k) ++ [FN ((nwL wd hi wr Xsp Xls ((rnT wd hi wr Xsp Xls (Xfe, Xfx, Xfy) (Int.toNat k)).1) (hxL wd hi wr ((rnT wd hi wr Xsp Xls (Xfe, Xfx, Xfy) (Int.toNat k)).1) ((rnT wd hi wr Xsp Xls (Xfe, Xfx, Xfy) (Int.toNat k)).2.1)) (hyL wd hi wr ((rnT wd hi wr Xsp Xls (Xfe, Xfx, Xfy) (Int.toNat k)).1) ((rnT wd hi wr Xsp Xls (Xfe, Xfx, Xfy) (Int.toNat k)).2.2))), (hxL wd hi wr ((rnT wd hi wr Xsp Xls (Xfe, Xfx, Xfy) (Int.toNat k)).1) ((rnT wd hi wr Xsp Xls (Xfe, Xfx, Xfy) (Int.toNat k)).2.1)), (hyL wd hi wr ((rnT wd hi wr Xsp Xls (Xfe, Xfx, Xfy) (Int.toNat k)).1) ((rnT wd hi wr Xsp Xls (Xfe, Xfx, Xfy) (Int.toNat k)).2.2)))]), .blk b30 [.slice a39 nfe c40, .slice a41 nfx c42, .slice a43 nfy c44] 30, .ow kF a39 nfe c40 34 ((rnT wd hi wr Xsp Xls (Xfe, Xfx, Xfy) (Int.toNat (k + 1))).1), .ow kF a41 nfx c42 34 (hxL wd hi wr ((rnT wd hi wr Xsp Xls (Xfe, Xfx, Xfy) (Int.toNat k)).1) ((rnT wd hi wr Xsp Xls (Xfe, Xfx, Xfy) (Int.toNat k)).2.1)), .ow kF a43 nfy c44 34 (hyL wd hi wr ((rnT wd hi wr Xsp Xls (Xfe, Xfx, Xfy) (Int.toNat k)).1) ((rnT wd hi wr Xsp Xls (Xfe, Xfx, Xfy) (Int.toNat k)).2.2)), .ow kF A1 nfe C1 34 ((rnT wd hi wr Xsp Xls (Xfe, Xfx, Xfy) (Int.toNat k)).1), .ow kF A2 nfx C2 34 ((rnT wd hi wr Xsp Xls (Xfe, Xfx, Xfy) (Int.toNat k)).2.1), .ow kF A3 nfy C3 34 ((rnT wd hi wr Xsp Xls (Xfe, Xfx, Xfy) (Int.toNat k)).2.2), .blk b7 [.slice none 0 0, .slice none 0 0, .slice none 0 0] 30, .blk b4 [.slice afe nfe cfe, .slice afx nfx cfx, .slice afy nfy cfy] 30, .blk b1 [.int .i64 wd, .int .i64 hi, .bool wr, .slice asp nsp csp, .slice als nls cls] 26, .rd kF asp nsp Xsp, .rd kF als nls Xls, .rd kF afe nfe Xfe, .rd kF afx nfx Xfx, .rd kF afy nfy Xfy, .sl (some ⟨bn, 0, none⟩) [.func (.func f) us.toArray xs.toArray]] := B.castX 3 rfl rfl (congrArg (fun q : Fld => q.1) (rnT_next (by omega)))
          replace B : Bu w (hasW [.blk bo [.slice aq nq cq] 24, .ow kF aq nq cq 34 Xq]) w48 [.blk bo [.slice a50 (N9 + 1) c51] 24, .ow kF a50 (N9 + 1) c51 34 ((Xq ++ trL wd hi wr Xsp Xls (Xfe, Xfx, Xfy) FN k) ++ [FN ((nwL wd hi wr Xsp Xls ((rnT wd hi wr Xsp Xls (Xfe, Xfx, Xfy) (Int.toNat k)).1) (hxL wd hi wr ((rnT wd hi wr Xsp Xls (Xfe, Xfx, Xfy) (Int.toNat k)).1) ((rnT wd hi wr Xsp Xls (Xfe, Xfx, Xfy) (Int.toNat k)).2.1)) (hyL wd hi wr ((rnT wd hi wr Xsp Xls (Xfe, Xfx, Xfy) (Int.toNat k)).1) ((rnT wd hi wr Xsp Xls (Xfe, Xfx, Xfy) (Int.toNat k)).2.2))), (hxL wd hi wr ((rnT wd hi wr Xsp Xls (Xfe, Xfx, Xfy) (Int.toNat k)).1) ((rnT wd hi wr Xsp Xls (Xfe, Xfx, Xfy) (Int.toNat k)).2.1)), (hyL wd hi wr ((rnT wd hi wr Xsp Xls (Xfe, Xfx, Xfy) (Int.toNat k)).1) ((rnT wd hi wr Xsp Xls (Xfe, Xfx, Xfy) (Int.toNat k)).2.2)))]), .blk b30 [.slice a39 nfe c40, .slice a41 nfx c42, .slice a43 nfy c44] 30, .ow kF a39 nfe c40 34 ((rnT wd hi wr Xsp Xls (Xfe, Xfx, Xfy) (Int.toNat (k + 1))).1), .ow kF a41 nfx c42 34 ((rnT wd hi wr Xsp Xls (Xfe, Xfx, Xfy) (Int.toNat (k + 1))).2.1), .ow kF a43 nfy c44 34 (hyL wd hi wr ((rnT wd hi wr Xsp Xls (Xfe, Xfx, Xfy) (Int.toNat k)).1) ((rnT wd hi wr Xsp Xls (Xfe, Xfx, Xfy) (Int.toNat k)).2.2)), .ow kF A1 nfe C1 34 ((rnT wd hi wr Xsp Xls (Xfe, Xfx, Xfy) (Int.toNat k)).1), .ow kF A2 nfx C2 34 ((rnT wd hi wr Xsp Xls (Xfe, Xfx, Xfy) (Int.toNat k)).2.1), .ow kF A3 nfy C3 34 ((rnT wd hi wr Xsp Xls (Xfe, Xfx, Xfy) (Int.toNat k)).2.2), .blk b7 [.slice none 0 0, .slice none 0 0, .slice none 0 0] 30, .blk b4 [.slice afe nfe cfe, .slice afx nfx cfx, .slice afy nfy cfy] 30, .blk b1 [.int .i64 wd, .int .i64 hi, .bool wr, .slice asp nsp csp, .slice als nls cls] 26, .rd kF asp nsp Xsp, .rd kF als nls Xls, .rd kF afe nfe Xfe, .rd kF afx nfx Xfx, .rd kF afy nfy Xfy, .sl (some ⟨bn, 0, none⟩) [.func (.func f) us.toArray xs.toArray]] := B.castX 4 rfl rfl (congrArg (fun q : Fld => q.2.1) (rnT_next (by omega)))
          replace B : Bu w (hasW [.blk bo [.slice aq nq cq] 24, .ow kF aq nq cq 34 Xq]) w48 [.blk bo [.slice a50 (N9 + 1) c51] 24, .ow kF a50 (N9 + 1) c51 34 ((Xq ++ trL wd hi wr Xsp Xls (Xfe, Xfx, Xfy) FN k) ++ [FN ((nwL wd hi wr Xsp Xls ((rnT wd hi wr Xsp Xls (Xfe, Xfx, Xfy) (Int.toNat k)).1) (hxL wd hi wr ((rnT wd hi wr Xsp Xls (Xfe, Xfx, Xfy) (Int.toNat k)).1) ((rnT wd hi wr Xsp Xls (Xfe, Xfx, Xfy) (Int.toNat k)).2.1)) (hyL wd hi wr ((rnT wd hi wr Xsp Xls (Xfe, Xfx, Xfy) (Int.toNat k)).1) ((rnT wd hi wr Xsp Xls (Xfe, Xfx, Xfy) (Int.toNat k)).2.2))), (hxL wd hi wr ((rnT wd hi wr Xsp Xls (Xfe, Xfx, Xfy) (Int.toNat k)).1) ((rnT wd hi wr Xsp Xls (Xfe, Xfx, Xfy) (Int.toNat k)).2.1)), (hyL wd hi wr ((rnT wd hi wr Xsp Xls (Xfe, Xfx, Xfy) (Int.toNat k)).1) ((rnT wd hi wr Xsp Xls (Xfe, Xfx, Xfy) (Int.toNat k)).2.2)))]), .blk b30 [.slice a39 nfe c40, .slice a41 nfx c42, .slice a43 nfy c44] 30, .ow kF a39 nfe c40 34 ((rnT wd hi wr Xsp Xls (Xfe, Xfx, Xfy) (Int.toNat (k + 1))).1), .ow kF a41 nfx c42 34 ((rnT wd hi wr Xsp Xls (Xfe, Xfx, Xfy) (Int.toNat (k + 1))).2.1), .ow kF a43 nfy c44 34 ((rnT wd hi wr Xsp Xls (Xfe, Xfx, Xfy) (Int.toNat (k + 1))).2.2), .ow kF A1 nfe C1 34 ((rnT wd hi wr Xsp Xls (Xfe, Xfx, Xfy) (Int.toNat k)).1), .ow kF A2 nfx C2 34 ((rnT wd hi wr Xsp Xls (Xfe, Xfx, Xfy) (Int.toNat k)).2.1), .ow kF A3 nfy C3 34 ((rnT wd hi wr Xsp Xls (Xfe, Xfx, Xfy) (Int.toNat k)).2.2), .blk b7 [.slice none 0 0, .slice none 0 0, .slice none 0 0] 30, .blk b4 [.slice afe nfe cfe, .slice afx nfx cfx, .slice afy nfy cfy] 30, .blk b1 [.int .i64 wd, .int .i64 hi, .bool wr, .slice asp nsp csp, .slice als nls cls] 26, .rd kF asp nsp Xsp, .rd kF als nls Xls, .rd kF afe nfe Xfe, .rd kF afx nfx Xfx, .rd kF afy nfy Xfy, .sl (some ⟨bn, 0, none⟩) [.func (.func f) us.toArray xs.toArray]] := B.castX 5 rfl rfl (congrArg (fun q : Fld => q.2.2) (rnT_next (by omega)))
          replace B : Bu w (hasW [.blk bo [.slice aq nq cq] 24, .ow kF aq nq cq 34 Xq]) w48 [.blk bo [.slice a50 (N9 + 1) c51] 24, .ow kF a50 (N9 + 1) c51 34 (Xq ++ trL wd hi wr Xsp Xls (Xfe, Xfx, Xfy) FN (k + 1)), .blk b30 [.slice a39 nfe c40, .slice a41 nfx c42, .slice a43 nfy c44] 30, .ow kF a39 nfe c40 34 ((rnT wd hi wr Xsp Xls (Xfe, Xfx, Xfy) (Int.toNat (k + 1))).1), .ow kF a41 nfx c42 34 ((rnT wd hi wr Xsp Xls (Xfe, Xfx, Xfy) (Int.toNat (k + 1))).2.1), .ow kF a43 nfy c44 34 ((rnT wd hi wr Xsp Xls (Xfe, Xfx, Xfy) (Int.toNat (k + 1))).2.2), .ow kF A1 nfe C1 34 ((rnT wd hi wr Xsp Xls (Xfe, Xfx, Xfy) (Int.toNat k)).1), .ow kF A2 nfx C2 34 ((rnT wd hi wr Xsp Xls (Xfe, Xfx, Xfy) (Int.toNat k)).2.1), .ow kF A3 nfy C3 34 ((rnT wd hi wr Xsp Xls (Xfe, Xfx, Xfy) (Int.toNat k)).2.2), .blk b7 [.slice none 0 0, .slice none 0 0, .slice none 0 0] 30, .blk b4 [.slice afe nfe cfe, .slice afx nfx cfx, .slice afy nfy cfy] 30, .blk b1 [.int .i64 wd, .int .i64 hi, .bool wr, .slice asp nsp csp, .slice als nls cls] 26, .rd kF asp nsp Xsp, .rd kF als nls Xls, .rd kF afe nfe Xfe, .rd kF afx nfx Xfx, .rd kF afy nfy Xfy, .sl (some ⟨bn, 0, none⟩) [.func (.func f) us.toArray xs.toArray]] := B.castX 1 rfl rfl ((List.append_assoc ..).trans (congrArg _ (trL_next (by omega) (congrArg FN (rnT_next (by omega))))))
          refine ⟨⟨_, k + 1, a39, a41, a43, c40, c42, c44, a50, N9 + 1, c51, Fits.eq ⟨rfl, rfl, rfl, rfl, rfl, rfl, rfl, trivial⟩, (B.pick [3, 4, 5, 1, 2, 9, 10, 11, 0, 12, 13, 14, 15, 16, 17] rfl rfl), (by omega), (by omega)⟩, ?_⟩
          show (m - (k + 1)).toNat < (m - k).toNat
          omega
        · refine s_y (v := .bool false) rfl (y_lss rfl rfl (decide_eq_false c37)) ?_
          refine s_nil ?_
          refine W_seq ?_
          refine W_if_f (by decide) rfl ?_
          refine W_exit ?_
          have hkm : k = m := by omega
          subst k
          refine W_seq ?_
          refine W_region (by kernel_rfl) ?_
          refine s_y (v := .agg #[.slice A1 nfe C1, .slice A2 nfx C2, .slice A3 nfy C3]) rfl (y_loadn (b := b30) (o := 0) (vs := [.slice A1 nfe C1, .slice A2 nfx C2, .slice A3 nfy C3]) T118.agg_30_3 rfl rfl ((B.b 4 rfl).cells (o := 0) rfl)) ?_
          refine s_k0 rfl (k_stB (v := .agg #[.slice A1 nfe C1, .slice A2 nfx C2, .slice A3 nfy C3]) (n := 3) (cs' := [.slice A1 nfe C1, .slice A2 nfx C2, .slice A3 nfy C3]) T118.sz_30_3 rfl rfl rfl (B.b 5 rfl) (by simp [Value.cells, Value.oneCell']) (Nat.le_of_ble_eq_true rfl) rfl (fun w52 hU53 => ?_))
          replace B : Bu w (hasW [.blk bo [.slice aq nq cq] 24, .ow kF aq nq cq 34 Xq]) w52 [.blk b7 [.slice A1 nfe C1, .slice A2 nfx C2, .slice A3 nfy C3] 30, .ow kF A1 nfe C1 34 ((rnT wd hi wr Xsp Xls (Xfe, Xfx, Xfy) (Int.toNat m)).1), .ow kF A2 nfx C2 34 ((rnT wd hi wr Xsp Xls (Xfe, Xfx, Xfy) (Int.toNat m)).2.1), .ow kF A3 nfy C3 34 ((rnT wd hi wr Xsp Xls (Xfe, Xfx, Xfy) (Int.toNat m)).2.2), .ow kF A9 N9 C9 34 (Xq ++ trL wd hi wr Xsp Xls (Xfe, Xfx, Xfy) FN m), .blk b30 [.slice A1 nfe C1, .slice A2 nfx C2, .slice A3 nfy C3] 30, .blk b4 [.slice afe nfe cfe, .slice afx nfx cfx, .slice afy nfy cfy] 30, .blk b1 [.int .i64 wd, .int .i64 hi, .bool wr, .slice asp nsp csp, .slice als nls cls] 26, .blk bo [.slice A9 N9 C9] 24, .rd kF asp nsp Xsp, .rd kF als nls Xls, .rd kF afe nfe Xfe, .rd kF afx nfx Xfx, .rd kF afy nfy Xfy, .sl (some ⟨bn, 0, none⟩) [.func (.func f) us.toArray xs.toArray]] := B.upd [5] rfl hU53
          clear hU53
          refine s_y (v := .bool true) rfl (y_assign rfl) ?_
          refine s_nil ?_
          refine W_ret ?_
          refine ret2 (v1 := .agg #[.slice A1 nfe C1, .slice A2 nfx C2, .slice A3 nfy C3]) (v2 := .bool true) rfl rfl rfl ⟨_, [.slice A1 nfe C1, .slice A2 nfx C2, .slice A3 nfy C3], _, rfl, (B.b 0 rfl), T118.agg_30_3, rfl⟩ rfl ⟨_, rfl, ?_⟩
          have hcond : runB wd hi wr Xsp Xls Xfe Xfx Xfy m = true := by simp only [runB, c14, c20, (decide_eq_false c37), Bool.and_true, Bool.true_and, Bool.and_false, Bool.false_and, Bool.not_true, Bool.not_false, Bool.or_true, Bool.true_or, Bool.or_false, Bool.false_or]
          exact .inl ⟨hcond, ⟨_, _, _, _, _, _, _, _, _, rfl, B.wrote [8, 4, 1, 2, 3] rfl rfl rfl⟩⟩
    · obtain rfl : v18 = .bool false := hv19.trans (congrArg Value.bool (Bool.eq_false_iff.2 c20))
      refine s_y (v := .bool true) rfl (y_not rfl rfl) ?_
      refine s_y (v := .bool true) rfl (y_pick_f rfl rfl) ?_
      refine s_nil ?_
      refine W_if_t (by decide) rfl ?_
      refine W_seq ?_
      refine W_region (by kernel_rfl) ?_
      refine s_y (v := .agg #[.slice none 0 0, .slice none 0 0, .slice none 0 0]) rfl (y_build (cells := #[.slice none 0 0, .slice none 0 0, .slice none 0 0]) (by kernel_rfl)) ?_
      refine s_k0 rfl (k_stB (v := .agg #[.slice none 0 0, .slice none 0 0, .slice none 0 0]) (n := 3) (cs' := [.slice none 0 0, .slice none 0 0, .slice none 0 0]) T118.sz_30_3 rfl rfl rfl (B.b 0 rfl) (by simp [Value.cells, Value.oneCell']) (Nat.le_of_ble_eq_true rfl) rfl (fun w54 hU55 => ?_))
      replace B : Bu w (hasW [.blk bo [.slice aq nq cq] 24, .ow kF aq nq cq 34 Xq]) w54 [.blk b7 [.slice none 0 0, .slice none 0 0, .slice none 0 0] 30, .blk b4 [.slice afe nfe cfe, .slice afx nfx cfx, .slice afy nfy cfy] 30, .blk b1 [.int .i64 wd, .int .i64 hi, .bool wr, .slice asp nsp csp, .slice als nls cls] 26, .blk bo [.slice aq nq cq] 24, .ow kF aq nq cq 34 Xq, .rd kF asp nsp Xsp, .rd kF als nls Xls, .rd kF afe nfe Xfe, .rd kF afx nfx Xfx, .rd kF afy nfy Xfy, .sl (some ⟨bn, 0, none⟩) [.func (.func f) us.toArray xs.toArray]] := B.upd [0] rfl hU55
      clear hU55
      refine s_y (v := .bool false) rfl (y_assign rfl) ?_
      refine s_nil ?_
      refine W_ret ?_
      refine ret2 (v1 := .agg #[.slice none 0 0, .slice none 0 0, .slice none 0 0]) (v2 := .bool false) rfl rfl rfl ⟨_, [.slice none 0 0, .slice none 0 0, .slice none 0 0], _, rfl, (B.b 0 rfl), T118.agg_30_3, rfl⟩ rfl ⟨_, rfl, ?_⟩
      exact .inr ⟨by simp only [runB, c14, (Bool.eq_false_iff.2 c20), Bool.and_true, Bool.true_and, Bool.and_false, Bool.false_and, Bool.not_true, Bool.not_false, Bool.or_true, Bool.true_or, Bool.or_false, Bool.false_or], rfl, B.wrote [3, 4] rfl rfl rfl⟩
  · obtain rfl : v12 = .bool false := hv13.trans (congrArg Value.bool (Bool.eq_false_iff.2 c14))
    refine s_y (v := .bool true) rfl (y_not rfl rfl) ?_
    refine s_y (v := .bool true) rfl (y_move rfl) ?_
    refine s_skip rfl ?_
    refine s_skip rfl ?_
    refine s_skip rfl ?_
    refine s_y (v := .bool true) rfl (y_pick_t rfl rfl) ?_
    refine s_nil ?_
    refine W_if_t (by decide) rfl ?_
    refine W_seq ?_
    refine W_region (by kernel_rfl) ?_
    refine s_y (v := .agg #[.slice none 0 0, .slice none 0 0, .slice none 0 0]) rfl (y_build (cells := #[.slice none 0 0, .slice none 0 0, .slice none 0 0]) (by kernel_rfl)) ?_
    refine s_k0 rfl (k_stB (v := .agg #[.slice none 0 0, .slice none 0 0, .slice none 0 0]) (n := 3) (cs' := [.slice none 0 0, .slice none 0 0, .slice none 0 0]) T118.sz_30_3 rfl rfl rfl (B.b 0 rfl) (by simp [Value.cells, Value.oneCell']) (Nat.le_of_ble_eq_true rfl) rfl (fun w56 hU57 => ?_))
    replace B : Bu w (hasW [.blk bo [.slice aq nq cq] 24, .ow kF aq nq cq 34 Xq]) w56 [.blk b7 [.slice none 0 0, .slice none 0 0, .slice none 0 0] 30, .blk b4 [.slice afe nfe cfe, .slice afx nfx cfx, .slice afy nfy cfy] 30, .blk b1 [.int .i64 wd, .int .i64 hi, .bool wr, .slice asp nsp csp, .slice als nls cls] 26, .blk bo [.slice aq nq cq] 24, .ow kF aq nq cq 34 Xq, .rd kF asp nsp Xsp, .rd kF als nls Xls, .rd kF afe nfe Xfe, .rd kF afx nfx Xfx, .rd kF afy nfy Xfy, .sl (some ⟨bn, 0, none⟩) [.func (.func f) us.toArray xs.toArray]] := B.upd [0] rfl hU57
    clear hU57
    refine s_y (v := .bool false) rfl (y_assign rfl) ?_
    refine s_nil ?_
    refine W_ret ?_
    refine ret2 (v1 := .agg #[.slice none 0 0, .slice none 0 0, .slice none 0 0]) (v2 := .bool false) rfl rfl rfl ⟨_, [.slice none 0 0, .slice none 0 0, .slice none 0 0], _, rfl, (B.b 0 rfl), T118.agg_30_3, rfl⟩ rfl ⟨_, rfl, ?_⟩
    exact .inr ⟨by simp only [runB, (Bool.eq_false_iff.2 c14), Bool.and_true, Bool.true_and, Bool.and_false, Bool.false_and, Bool.not_true, Bool.not_false, Bool.or_true, Bool.true_or, Bool.or_false, Bool.false_or], rfl, B.wrote [3, 4] rfl rfl rfl⟩
set_option maxRecDepth 100000 in
set_option maxHeartbeats 4000000 in
theorem c_i_traceBy {wd : Int} {hi : Int} {wr : Bool} {asp : Option Addr} {nsp : Nat} {csp : Nat} {Xsp : List Nat} {als : Option Addr} {nls : Nat} {cls : Nat} {Xls : List Nat} {afe : Option Addr} {nfe : Nat} {cfe : Nat} {Xfe : List Nat} {afx : Option Addr} {nfx : Nat} {cfx : Nat} {Xfx : List Nat} {afy : Option Addr} {nfy : Nat} {cfy : Nat} {Xfy : List Nat} {m : Int} {f : Nat} {us xs : List Value} {FN : Fld → Nat} {w : World} (qsp : Rd w kF asp nsp Xsp) (qls : Rd w kF als nls Xls) (qfe : Rd w kF afe nfe Xfe) (qfx : Rd w kF afx nfx Xfx) (qfy : Rd w kF afy nfy Xfy) (hfB : fnB Try.prog f = true) (hF : ∀ {ae ax ay : Option Addr} {ce cx cy : Nat} {E X Y : List Nat} {w1 : World}, Ext (no) w w1 → Rd w1 kF ae nfe E → Rd w1 kF ax nfx X → Rd w1 kF ay nfy Y → fieldB wd hi wr Xsp Xls Xfe Xfx Xfy = true → Calls Try.prog f (us ++ ([.agg #[.slice ae nfe ce, .slice ax nfx cx, .slice ay nfy cy]] : List Value) ++ xs).toArray w1 (Rt fun v w2 => (∃ r, v = .float .f32 r ∧ Cn .f32 r (FN (E, X, Y))) ∧ Ext0 w1 w2)) (hbsp : nsp ≤ 9223372036854775806) (hbls : nls ≤ 9223372036854775806) (hbfe : nfe ≤ 9223372036854775806) (hbfx : nfx ≤ 9223372036854775806) (hbfy : nfy ≤ 9223372036854775806) :
    Calls Try.prog 118 #[.agg #[.int .i64 wd, .int .i64 hi, .bool wr, .slice asp nsp csp, .slice als nls cls], .agg #[.slice afe nfe cfe, .slice afx nfx cfx, .slice afy nfy cfy], .int .i64 m, .func (.func f) us.toArray xs.toArray] w (Rt fun v w' => (runB wd hi wr Xsp Xls Xfe Xfx Xfy m = true ∧ ∃ (a1 : Option Addr) (c1 : Nat), v = .tuple #[.slice a1 (Int.toNat m) c1, .bool true] ∧ New w w' [.ow kF a1 (Int.toNat m) c1 34 (trL wd hi wr Xsp Xls (Xfe, Xfx, Xfy) FN m)]) ∨ (runB wd hi wr Xsp Xls Xfe Xfx Xfy m = false ∧ v = .tuple #[.slice none 0 0, .bool false] ∧ Ext0 w w')) := by
  have hlsp := qsp.len
  have hlls := qls.len
  have hlfe := qfe.len
  have hlfx := qfx.len
  have hlfy := qfy.len
  have B : Bu w no w [.rd kF asp nsp Xsp, .rd kF als nls Xls, .rd kF afe nfe Xfe, .rd kF afx nfx Xfx, .rd kF afy nfy Xfy] := Bu.ro (All.cons qsp (All.cons qls (All.cons qfe (All.cons qfx (All.cons qfy All.nil))))) rfl
  refine calls_W (n := 25) Try.func118 rfl rfl (Nat.le_of_ble_eq_true rfl) ?_
  refine W_seq ?_
  refine W_region (by kernel_rfl) ?_
  refine s_k rfl (k_boxN (v := .agg #[.int .i64 wd, .int .i64 hi, .bool wr, .slice asp nsp csp, .slice als nls cls]) (cs := [.int .i64 wd, .int .i64 hi, .bool wr, .slice asp nsp csp, .slice als nls cls]) rfl rfl (fun b1 w2 hN3 => ?_))
  replace B := B.new1 hN3
  clear hN3
  refine s_k rfl (k_boxN (v := .agg #[.slice afe nfe cfe, .slice afx nfx cfx, .slice afy nfy cfy]) (cs := [.slice afe nfe cfe, .slice afx nfx cfx, .slice afy nfy cfy]) rfl rfl (fun b4 w5 hN6 => ?_))
  replace B := B.new1 hN6
  clear hN6
  refine s_k rfl (k_boxN (v := .func (.func f) us.toArray xs.toArray) (cs := [.func (.func f) us.toArray xs.toArray]) rfl rfl (fun b7 w8 hN9 => ?_))
  replace B := B.new1 hN9
  clear hN9
  refine s_y (v := .slice none 0 0) rfl (y_assign rfl) ?_
  refine s_y (v := .bool false) rfl (y_assign rfl) ?_
  refine s_nil ?_
  refine W_seq ?_
  refine W_region (by kernel_rfl) ?_
  refine s_k rfl (k_bsliceO (k := kF) (n := 0) (cells := #[]) (X := []) T118.slt_24 (by decide) (by first | rfl | kernel_rfl) (rfl : Reps kF [] []) rfl (fun b10 w11 hN12 => ?_))
  replace B := B.new1 hN12
  clear hN12
  refine s_k rfl (k_allocN (z := (.slice none 0 0)) (cs := [.slice none 0 0]) T118.zero_24 rfl (fun b13 w14 hN15 => ?_))
  replace B := B.new1 hN15
  clear hN15
  refine s_k0 rfl (k_stB (v := .slice (some ⟨b10, 0, none⟩) 0 0) (n := 1) (cs' := [.slice (some ⟨b10, 0, none⟩) 0 0]) T118.sz_24_1 rfl rfl rfl (B.b 0 rfl) (by simp [Value.cells, Value.oneCell']) (Nat.le_of_ble_eq_true rfl) rfl (fun w16 hU17 => ?_))
  replace B : Bu w no w16 [.blk b13 [.slice (some ⟨b10, 0, none⟩) 0 0] 24, .ow kF (some ⟨b10, 0, none⟩) 0 0 34 ([] : List Nat), .blk b7 [.func (.func f) us.toArray xs.toArray] 117, .blk b4 [.slice afe nfe cfe, .slice afx nfx cfx, .slice afy nfy cfy] 30, .blk b1 [.int .i64 wd, .int .i64 hi, .bool wr, .slice asp nsp csp, .slice als nls cls] 26, .rd kF asp nsp Xsp, .rd kF als nls Xls, .rd kF afe nfe Xfe, .rd kF afx nfx Xfx, .rd kF afy nfy Xfy] := B.upd [0] rfl hU17
  clear hU17
  refine s_nil ?_
  refine W_seq ?_
  refine W_region (by kernel_rfl) ?_
  refine s_y (v := .agg #[.int .i64 wd, .int .i64 hi, .bool wr, .slice asp nsp csp, .slice als nls cls]) rfl (y_loadn (b := b1) (o := 0) (vs := [.int .i64 wd, .int .i64 hi, .bool wr, .slice asp nsp csp, .slice als nls cls]) T118.agg_26_5 rfl rfl ((B.b 4 rfl).cells (o := 0) rfl)) ?_
  refine s_y (v := .agg #[.slice afe nfe cfe, .slice afx nfx cfx, .slice afy nfy cfy]) rfl (y_loadn (b := b4) (o := 0) (vs := [.slice afe nfe cfe, .slice afx nfx cfx, .slice afy nfy cfy]) T118.agg_30_3 rfl rfl ((B.b 3 rfl).cells (o := 0) rfl)) ?_
  refine s_y (v := .int .i64 m) rfl (y_move rfl) ?_
  refine s_y (v := .func (.func 141) #[] #[.pointer (some ⟨b13, 0, none⟩), .pointer (some ⟨b7, 0, none⟩)]) rfl (y_func rfl rfl) ?_
  have Bt := B.weakB 2 rfl
  refine s_k rfl (k_call T118.fn_71 (c_i_run_trace (f := f) (us := us) (xs := xs) (FN := FN) (m := m) hfB (fun {ae ax ay ce cx cy E X Y w1} e r1 r2 r3 hk => hF (B.out [0, 1] rfl e) r1 r2 r3 hk) (by omega) (by omega) (by omega) (by omega) (by omega) (by omega) (Bt.all.pick [0, 1, 5, 6, 7, 8, 9, 2] rfl) (Bt.pw.pick [0, 1, 5, 6, 7, 8, 9, 2] rfl rfl)) rfl ?_)
  rintro v20 w18 hx19
  by_cases c21 : runB wd hi wr Xsp Xls Xfe Xfx Xfy m = true
  · have hb22 := runB_b c21
    obtain ⟨a24, c25, c26, a27, a28, a29, c30, c31, c32, rfl, hU23⟩ := (hx19.resolve_right (fun hz => by rw [c21] at hz; cases hz.1)).2
    clear hx19
    replace B : Bu w no w18 [.blk b13 [.slice a24 c25 c26] 24, .ow kF a24 c25 c26 34 (([] : List Nat) ++ trL wd hi wr Xsp Xls (Xfe, Xfx, Xfy) FN m), .ow kF a27 nfe c30 34 ((rnT wd hi wr Xsp Xls (Xfe, Xfx, Xfy) (Int.toNat m)).1), .ow kF a28 nfx c31 34 ((rnT wd hi wr Xsp Xls (Xfe, Xfx, Xfy) (Int.toNat m)).2.1), .ow kF a29 nfy c32 34 ((rnT wd hi wr Xsp Xls (Xfe, Xfx, Xfy) (Int.toNat m)).2.2), .blk b7 [.func (.func f) us.toArray xs.toArray] 117, .blk b4 [.slice afe nfe cfe, .slice afx nfx cfx, .slice afy nfy cfy] 30, .blk b1 [.int .i64 wd, .int .i64 hi, .bool wr, .slice asp nsp csp, .slice als nls cls] 26, .rd kF asp nsp Xsp, .rd kF als nls Xls, .rd kF afe nfe Xfe, .rd kF afx nfx Xfx, .rd kF afy nfy Xfy] := B.upd [0, 1] rfl hU23
    clear hU23
    refine s_y (v := .tuple #[.agg #[.slice a27 nfe c30, .slice a28 nfx c31, .slice a29 nfy c32], .bool true]) rfl (y_move rfl) ?_
    refine s_y (v := .agg #[.slice a27 nfe c30, .slice a28 nfx c31, .slice a29 nfy c32]) rfl (y_extract rfl rfl) ?_
    refine s_y (v := .bool true) rfl (y_extract rfl rfl) ?_
    refine s_k rfl (k_allocN (z := (.agg #[.slice none 0 0, .slice none 0 0, .slice none 0 0])) (cs := [.slice none 0 0, .slice none 0 0, .slice none 0 0]) T118.zero_30 rfl (fun b33 w34 hN35 => ?_))
    replace B := B.new1 hN35
    clear hN35
    refine s_k0 rfl (k_stB (v := .agg #[.slice a27 nfe c30, .slice a28 nfx c31, .slice a29 nfy c32]) (n := 3) (cs' := [.slice a27 nfe c30, .slice a28 nfx c31, .slice a29 nfy c32]) T118.sz_30_3 rfl rfl rfl (B.b 0 rfl) (by simp [Value.cells, Value.oneCell']) (Nat.le_of_ble_eq_true rfl) rfl (fun w36 hU37 => ?_))
    replace B : Bu w no w36 [.blk b33 [.slice a27 nfe c30, .slice a28 nfx c31, .slice a29 nfy c32] 30, .blk b13 [.slice a24 c25 c26] 24, .ow kF a24 c25 c26 34 (([] : List Nat) ++ trL wd hi wr Xsp Xls (Xfe, Xfx, Xfy) FN m), .ow kF a27 nfe c30 34 ((rnT wd hi wr Xsp Xls (Xfe, Xfx, Xfy) (Int.toNat m)).1), .ow kF a28 nfx c31 34 ((rnT wd hi wr Xsp Xls (Xfe, Xfx, Xfy) (Int.toNat m)).2.1), .ow kF a29 nfy c32 34 ((rnT wd hi wr Xsp Xls (Xfe, Xfx, Xfy) (Int.toNat m)).2.2), .blk b7 [.func (.func f) us.toArray xs.toArray] 117, .blk b4 [.slice afe nfe cfe, .slice afx nfx cfx, .slice afy nfy cfy] 30, .blk b1 [.int .i64 wd, .int .i64 hi, .bool wr, .slice asp nsp csp, .slice als nls cls] 26, .rd kF asp nsp Xsp, .rd kF als nls Xls, .rd kF afe nfe Xfe, .rd kF afx nfx Xfx, .rd kF afy nfy Xfy] := B.upd [0] rfl hU37
    clear hU37
    refine s_y (v := .bool true) rfl (y_assign rfl) ?_
    refine s_nil ?_
    refine W_seq ?_
    refine W_seq ?_
    refine W_region (by kernel_rfl) ?_
    refine s_y (v := .bool true) rfl (y_move rfl) ?_
    refine s_y (v := .bool false) rfl (y_not rfl rfl) ?_
    refine s_nil ?_
    refine W_if_f (by decide) rfl ?_
    refine W_skip ?_
    refine W_seq ?_
    refine W_region (by kernel_rfl) ?_
    refine s_y (v := .slice a24 c25 c26) rfl (y_load T118.one_24 rfl ((B.b 1 rfl).cell (j := 0) rfl)) ?_
    refine s_y (v := .slice a24 c25 c26) rfl (y_assign rfl) ?_
    refine s_y (v := .bool true) rfl (y_assign rfl) ?_
    refine s_nil ?_
    refine W_ret ?_
    refine ret2 (v1 := .slice a24 c25 c26) (v2 := .bool true) rfl rfl rfl rfl rfl ⟨_, rfl, ?_⟩
    have hcond : runB wd hi wr Xsp Xls Xfe Xfx Xfy m = true := by simp only [c21, Bool.and_true, Bool.true_and, Bool.and_false, Bool.false_and, Bool.not_true, Bool.not_false, Bool.or_true, Bool.true_or, Bool.or_false, Bool.false_or]
    have hln := (B.o 2 rfl).len
    rw [List.length_append, trL_len] at hln; simp only [List.length_nil, Nat.zero_add] at hln
    replace B : Bu w no w36 [.blk b33 [.slice a27 nfe c30, .slice a28 nfx c31, .slice a29 nfy c32] 30, .blk b13 [.slice a24 c25 c26] 24, .ow kF a24 (Int.toNat m) c26 34 (trL wd hi wr Xsp Xls (Xfe, Xfx, Xfy) FN m), .ow kF a27 nfe c30 34 ((rnT wd hi wr Xsp Xls (Xfe, Xfx, Xfy) (Int.toNat m)).1), .ow kF a28 nfx c31 34 ((rnT wd hi wr Xsp Xls (Xfe, Xfx, Xfy) (Int.toNat m)).2.1), .ow kF a29 nfy c32 34 ((rnT wd hi wr Xsp Xls (Xfe, Xfx, Xfy) (Int.toNat m)).2.2), .blk b7 [.func (.func f) us.toArray xs.toArray] 117, .blk b4 [.slice afe nfe cfe, .slice afx nfx cfx, .slice afy nfy cfy] 30, .blk b1 [.int .i64 wd, .int .i64 hi, .bool wr, .slice asp nsp csp, .slice als nls cls] 26, .rd kF asp nsp Xsp, .rd kF als nls Xls, .rd kF afe nfe Xfe, .rd kF afx nfx Xfx, .rd kF afy nfy Xfy] := B.castX 2 rfl hln.symm (List.nil_append _)
    exact .inl ⟨hcond, ⟨_, _, (by rw [(show c25 = Int.toNat m from hln.symm)]), B.give [2] rfl rfl rfl⟩⟩
  · obtain ⟨_, rfl, hU38⟩ := hx19.resolve_left (fun hz => c21 hz.1)
    clear hx19
    replace B : Bu w no w18 [.blk b13 [.slice (some ⟨b10, 0, none⟩) 0 0] 24, .ow kF (some ⟨b10, 0, none⟩) 0 0 34 ([] : List Nat), .blk b7 [.func (.func f) us.toArray xs.toArray] 117, .blk b4 [.slice afe nfe cfe, .slice afx nfx cfx, .slice afy nfy cfy] 30, .blk b1 [.int .i64 wd, .int .i64 hi, .bool wr, .slice asp nsp csp, .slice als nls cls] 26, .rd kF asp nsp Xsp, .rd kF als nls Xls, .rd kF afe nfe Xfe, .rd kF afx nfx Xfx, .rd kF afy nfy Xfy] := B.upd [0, 1] rfl hU38
    clear hU38
    refine s_y (v := .tuple #[.agg #[.slice none 0 0, .slice none 0 0, .slice none 0 0], .bool false]) rfl (y_move rfl) ?_
    refine s_y (v := .agg #[.slice none 0 0, .slice none 0 0, .slice none 0 0]) rfl (y_extract rfl rfl) ?_
    refine s_y (v := .bool false) rfl (y_extract rfl rfl) ?_
    refine s_k rfl (k_allocN (z := (.agg #[.slice none 0 0, .slice none 0 0, .slice none 0 0])) (cs := [.slice none 0 0, .slice none 0 0, .slice none 0 0]) T118.zero_30 rfl (fun b39 w40 hN41 => ?_))
    replace B := B.new1 hN41
    clear hN41
    refine s_k0 rfl (k_stB (v := .agg #[.slice none 0 0, .slice none 0 0, .slice none 0 0]) (n := 3) (cs' := [.slice none 0 0, .slice none 0 0, .slice none 0 0]) T118.sz_30_3 rfl rfl rfl (B.b 0 rfl) (by simp [Value.cells, Value.oneCell']) (Nat.le_of_ble_eq_true rfl) rfl (fun w42 hU43 => ?_))
    replace B : Bu w no w42 [.blk b39 [.slice none 0 0, .slice none 0 0, .slice none 0 0] 30, .blk b13 [.slice (some ⟨b10, 0, none⟩) 0 0] 24, .ow kF (some ⟨b10, 0, none⟩) 0 0 34 ([] : List Nat), .blk b7 [.func (.func f) us.toArray xs.toArray] 117, .blk b4 [.slice afe nfe cfe, .slice afx nfx cfx, .slice afy nfy cfy] 30, .blk b1 [.int .i64 wd, .int .i64 hi, .bool wr, .slice asp nsp csp, .slice als nls cls] 26, .rd kF asp nsp Xsp, .rd kF als nls Xls, .rd kF afe nfe Xfe, .rd kF afx nfx Xfx, .rd kF afy nfy Xfy] := B.upd [0] rfl hU43
    clear hU43
    refine s_y (v := .bool false) rfl (y_assign rfl) ?_
    refine s_nil ?_
    refine W_seq ?_
    refine W_seq ?_
    refine W_region (by kernel_rfl) ?_
    refine s_y (v := .bool false) rfl (y_move rfl) ?_
    refine s_y (v := .bool true) rfl (y_not rfl rfl) ?_
    refine s_nil ?_
    refine W_if_t (by decide) rfl ?_
    refine W_seq ?_
    refine W_region (by kernel_rfl) ?_
    refine s_y (v := .slice none 0 0) rfl (y_assign rfl) ?_
    refine s_y (v := .bool false) rfl (y_assign rfl) ?_
    refine s_nil ?_
    refine W_ret ?_
    refine ret2 (v1 := .slice none 0 0) (v2 := .bool false) rfl rfl rfl rfl rfl ⟨_, rfl, ?_⟩
    exact .inr ⟨by simp only [(Bool.eq_false_iff.2 c21), Bool.and_true, Bool.true_and, Bool.and_false, Bool.false_and, Bool.not_true, Bool.not_false, Bool.or_true, Bool.true_or, Bool.or_false, Bool.false_or], rfl, B.ext⟩
namespace T62
theorem mx : Try.prog.follows .mixedOrders = true := by kernel_rfl
theorem agg_26_5 : aggB Try.prog 26 5 = true := by kernel_rfl
theorem agg_30_3 : aggB Try.prog 30 3 = true := by kernel_rfl
theorem fn_111 : fnB Try.prog 111 = true := by kernel_rfl
theorem fn_118 : fnB Try.prog 118 = true := by kernel_rfl
end T62
set_option maxRecDepth 100000 in
set_option maxHeartbeats 4000000 in
theorem c_i_PeakTrace {wd : Int} {hi : Int} {wr : Bool} {asp : Option Addr} {nsp : Nat} {csp : Nat} {Xsp : List Nat} {als : Option Addr} {nls : Nat} {cls : Nat} {Xls : List Nat} {afe : Option Addr} {nfe : Nat} {cfe : Nat} {Xfe : List Nat} {afx : Option Addr} {nfx : Nat} {cfx : Nat} {Xfx : List Nat} {afy : Option Addr} {nfy : Nat} {cfy : Nat} {Xfy : List Nat} {m : Int} {w : World} (qsp : Rd w kF asp nsp Xsp) (qls : Rd w kF als nls Xls) (qfe : Rd w kF afe nfe Xfe) (qfx : Rd w kF afx nfx Xfx) (qfy : Rd w kF afy nfy Xfy) (hbsp : nsp ≤ 9223372036854775806) (hbls : nls ≤ 9223372036854775806) (hbfe : nfe ≤ 9223372036854775806) (hbfx : nfx ≤ 9223372036854775806) (hbfy : nfy ≤ 9223372036854775806) :
    Calls Try.prog 62 #[.agg #[.int .i64 wd, .int .i64 hi, .bool wr, .slice asp nsp csp, .slice als nls cls], .agg #[.slice afe nfe cfe, .slice afx nfx cfx, .slice afy nfy cfy], .int .i64 m] w (Rt fun v w' => (runB wd hi wr Xsp Xls Xfe Xfx Xfy m = true ∧ ∃ (a1 : Option Addr) (c1 : Nat), v = .tuple #[.slice a1 (Int.toNat m) c1, .bool true] ∧ New w w' [.ow kF a1 (Int.toNat m) c1 34 (trL wd hi wr Xsp Xls (Xfe, Xfx, Xfy) (fun F => pkS F.1) m)]) ∨ (runB wd hi wr Xsp Xls Xfe Xfx Xfy m = false ∧ v = .tuple #[.slice none 0 0, .bool false] ∧ Ext0 w w')) := by
  have hlsp := qsp.len
  have hlls := qls.len
  have hlfe := qfe.len
  have hlfx := qfx.len
  have hlfy := qfy.len
  have B : Bu w no w [.rd kF asp nsp Xsp, .rd kF als nls Xls, .rd kF afe nfe Xfe, .rd kF afx nfx Xfx, .rd kF afy nfy Xfy] := Bu.ro (All.cons qsp (All.cons qls (All.cons qfe (All.cons qfx (All.cons qfy All.nil))))) rfl
  refine calls_W (n := 14) Try.func62 rfl rfl (Nat.le_of_ble_eq_true rfl) ?_
  refine W_seq ?_
  refine W_region (by kernel_rfl) ?_
  refine s_k rfl (k_boxN (v := .agg #[.int .i64 wd, .int .i64 hi, .bool wr, .slice asp nsp csp, .slice als nls cls]) (cs := [.int .i64 wd, .int .i64 hi, .bool wr, .slice asp nsp csp, .slice als nls cls]) rfl rfl (fun b1 w2 hN3 => ?_))
  replace B := B.new1 hN3
  clear hN3
  refine s_k rfl (k_boxN (v := .agg #[.slice afe nfe cfe, .slice afx nfx cfx, .slice afy nfy cfy]) (cs := [.slice afe nfe cfe, .slice afx nfx cfx, .slice afy nfy cfy]) rfl rfl (fun b4 w5 hN6 => ?_))
  replace B := B.new1 hN6
  clear hN6
  refine s_y (v := .slice none 0 0) rfl (y_assign rfl) ?_
  refine s_y (v := .bool false) rfl (y_assign rfl) ?_
  refine s_nil ?_
  refine W_seq ?_
  refine W_region (by kernel_rfl) ?_
  refine s_y (v := .agg #[.int .i64 wd, .int .i64 hi, .bool wr, .slice asp nsp csp, .slice als nls cls]) rfl (y_loadn (b := b1) (o := 0) (vs := [.int .i64 wd, .int .i64 hi, .bool wr, .slice asp nsp csp, .slice als nls cls]) T62.agg_26_5 rfl rfl ((B.b 1 rfl).cells (o := 0) rfl)) ?_
  refine s_y (v := .agg #[.slice afe nfe cfe, .slice afx nfx cfx, .slice afy nfy cfy]) rfl (y_loadn (b := b4) (o := 0) (vs := [.slice afe nfe cfe, .slice afx nfx cfx, .slice afy nfy cfy]) T62.agg_30_3 rfl rfl ((B.b 0 rfl).cells (o := 0) rfl)) ?_
  refine s_y (v := .int .i64 m) rfl (y_move rfl) ?_
  refine s_k rfl (k_call T62.fn_118 (c_i_traceBy (f := 111) (us := []) (xs := []) (FN := (fun F => pkS F.1)) (m := m) (B.r 2 rfl) (B.r 3 rfl) (B.r 4 rfl) (B.r 5 rfl) (B.r 6 rfl) T62.fn_111 (fun {ae ax ay ce cx cy E X Y w1} e r1 r2 r3 hk => (by have hz := fieldB_b hk; exact c_i_peakSize r1 r2 r3 (by omega))) (by omega) (by omega) (by omega) (by omega) (by omega)) rfl ?_)
  rintro v9 w7 hx8
  by_cases c10 : runB wd hi wr Xsp Xls Xfe Xfx Xfy m = true
  · have hb11 := runB_b c10
    obtain ⟨a12, c13, rfl, hN14⟩ := (hx8.resolve_right (fun hz => by rw [c10] at hz; cases hz.1)).2
    clear hx8
    replace B := B.new1 hN14
    clear hN14
    refine s_y (v := .slice a12 (Int.toNat m) c13) rfl (y_extract rfl rfl) ?_
    refine s_y (v := .bool true) rfl (y_extract rfl rfl) ?_
    refine s_y (v := .slice a12 (Int.toNat m) c13) rfl (y_assign rfl) ?_
    refine s_y (v := .bool true) rfl (y_assign rfl) ?_
    refine s_nil ?_
    refine W_ret ?_
    refine ret2 (v1 := .slice a12 (Int.toNat m) c13) (v2 := .bool true) rfl rfl rfl rfl rfl ⟨_, rfl, ?_⟩
    have hcond : runB wd hi wr Xsp Xls Xfe Xfx Xfy m = true := by simp only [c10, Bool.and_true, Bool.true_and, Bool.and_false, Bool.false_and, Bool.not_true, Bool.not_false, Bool.or_true, Bool.true_or, Bool.or_false, Bool.false_or]
    exact .inl ⟨hcond, ⟨_, _, rfl, B.give [0] rfl rfl rfl⟩⟩
  · obtain ⟨_, rfl, e15⟩ := hx8.resolve_left (fun hz => c10 hz.1)
    clear hx8
    replace B := B.ext0 e15
    clear e15
    refine s_y (v := .slice none 0 0) rfl (y_extract rfl rfl) ?_
    refine s_y (v := .bool false) rfl (y_extract rfl rfl) ?_
    refine s_y (v := .slice none 0 0) rfl (y_assign rfl) ?_
    refine s_y (v := .bool false) rfl (y_assign rfl) ?_
    refine s_nil ?_
    refine W_ret ?_
    refine ret2 (v1 := .slice none 0 0) (v2 := .bool false) rfl rfl rfl rfl rfl ⟨_, rfl, ?_⟩
    exact .inr ⟨by simp only [(Bool.eq_false_iff.2 c10), Bool.and_true, Bool.true_and, Bool.and_false, Bool.false_and, Bool.not_true, Bool.not_false, Bool.or_true, Bool.true_or, Bool.or_false, Bool.false_or], rfl, B.ext⟩
namespace T11
theorem mx : Try.prog.follows .mixedOrders = true := by kernel_rfl
theorem agg_26_5 : aggB Try.prog 26 5 = true := by kernel_rfl
theorem agg_30_3 : aggB Try.prog 30 3 = true := by kernel_rfl
theorem bool_4 : Try.prog.underlying 4 = some .bool := by kernel_rfl
theorem fld_26_0_0 : fldB Try.prog 26 0 0 = true := by kernel_rfl
theorem fld_26_1_1 : fldB Try.prog 26 1 1 = true := by kernel_rfl
theorem flt_34_f32 : Try.prog.underlying 34 = some (.float .f32) := by kernel_rfl
theorem fn_12 : fnB Try.prog 12 = true := by kernel_rfl
theorem fn_13 : fnB Try.prog 13 = true := by kernel_rfl
theorem fn_14 : fnB Try.prog 14 = true := by kernel_rfl
theorem fn_20 : fnB Try.prog 20 = true := by kernel_rfl
theorem fn_21 : fnB Try.prog 21 = true := by kernel_rfl
theorem fn_58 : fnB Try.prog 58 = true := by kernel_rfl
theorem fn_59 : fnB Try.prog 59 = true := by kernel_rfl
theorem fn_60 : fnB Try.prog 60 = true := by kernel_rfl
theorem fn_61 : fnB Try.prog 61 = true := by kernel_rfl
theorem fn_62 : fnB Try.prog 62 = true := by kernel_rfl
theorem one_2 : oneB Try.prog 2 = true := by kernel_rfl
theorem one_34 : oneB Try.prog 34 = true := by kernel_rfl
theorem sl_24_34_1 : slB Try.prog 24 34 1 = true := by kernel_rfl
theorem sz_26_5 : szB Try.prog 26 5 = true := by kernel_rfl
theorem sz_30_3 : szB Try.prog 30 3 = true := by kernel_rfl
theorem und_2 : (Try.prog.underlying 2).isSome = true := by kernel_rfl
theorem zero_26 : zeroB Try.prog 26 (.agg #[.int .i64 0, .int .i64 0, .bool false, .slice none 0 0, .slice none 0 0]) := by unfold zeroB; kernel_rfl
theorem zero_30 : zeroB Try.prog 30 (.agg #[.slice none 0 0, .slice none 0 0, .slice none 0 0]) := by unfold zeroB; kernel_rfl
end T11
set_option maxRecDepth 100000 in
set_option maxHeartbeats 20000000 in
theorem c_FnQuiet {a0 : Option Addr} {n0 : Nat} {c0 : Nat} {X0 : List Nat} {a1 : Option Addr} {n1 : Nat} {c1 : Nat} {X1 : List Nat} {w : World} (q0 : Rd w kY a0 n0 X0) (q1 : Rd w kY a1 n1 X1) (g0 : n0 ≤ 9223372036854775807) (g1 : n1 ≤ 9223372036854775807) :
    Calls Try.prog 11 #[.slice a0 n0 c0, .slice a1 n1 c1] w (Rt fun v w' => v = .bool true ∧ Ext0 w w') := by
  have hl0 := q0.len
  have hl1 := q1.len
  have B : Bu w no w [.rd kY a0 n0 X0, .rd kY a1 n1 X1] := Bu.ro (All.cons q0 (All.cons q1 All.nil)) rfl
  refine calls_W (n := 156) Try.func11 rfl rfl (Nat.le_of_ble_eq_true rfl) ?_
  refine W_seq ?_
  refine W_region (by kernel_rfl) ?_
  refine s_y (v := .bool false) rfl (y_assign rfl) ?_
  refine s_nil ?_
  refine W_seq ?_
  refine W_seq ?_
  refine W_region (by kernel_rfl) ?_
  refine s_y (v := .slice a0 n0 c0) rfl (y_move rfl) ?_
  refine s_y (v := .slice a1 n1 c1) rfl (y_move rfl) ?_
  refine s_k rfl (k_call T11.fn_12 (c_l_b10Long (B.r 0 rfl) (B.r 1 rfl) (by first | exact lenle (by assumption) | exact lenle6 (by assumption) | omega) (by first | exact lenle (by assumption) | exact lenle6 (by assumption) | omega)) rfl ?_)
  rintro v3 w1 ⟨hv4, e2⟩
  replace B := B.ext0 e2
  clear e2
  by_cases c5 : (decide (1048576 < (n0 : Int)) || decide (1048576 < (n1 : Int))) = true
  · obtain rfl : v3 = .bool true := hv4.trans (congrArg Value.bool c5)
    refine s_nil ?_
    refine W_if_t (by decide) rfl ?_
    refine W_seq ?_
    refine W_region (by kernel_rfl) ?_
    refine s_y (v := .bool true) rfl (y_assign rfl) ?_
    refine s_nil ?_
    refine W_ret ?_
    refine ret1 (v := .bool true) rfl rfl rfl ⟨_, rfl, ?_⟩
    exact ⟨rfl, B.ext⟩
  · obtain rfl : v3 = .bool false := hv4.trans (congrArg Value.bool (Bool.eq_false_iff.2 c5))
    refine s_nil ?_
    refine W_if_f (by decide) rfl ?_
    refine W_skip ?_
    refine W_seq ?_
    refine W_region (by kernel_rfl) ?_
    refine s_y (v := .slice a0 n0 c0) rfl (y_move rfl) ?_
    refine s_k rfl (k_call T11.fn_13 (c_s_B10Sheet (B.r 0 rfl)) rfl ?_)
    rintro _ w6 ⟨v8, v9, vb10, a11, c12, c13, Z14, a15, c16, c17, Z18, rfl, hp19, hp20, hp21, hN7⟩
    replace B := B.new2 hN7
    clear hN7
    have hl22 := (B.o 0 rfl).len
    have hl23 := (B.o 1 rfl).len
    obtain ⟨⟨⟨⟨hv24, hv25⟩, hv26, hv27⟩, hv28, hv29⟩, hv30, hv31⟩ := validS_b hp21
    refine s_k rfl (k_allocN (z := (.agg #[.int .i64 0, .int .i64 0, .bool false, .slice none 0 0, .slice none 0 0])) (cs := [.int .i64 0, .int .i64 0, .bool false, .slice none 0 0, .slice none 0 0]) T11.zero_26 rfl (fun b32 w33 hN34 => ?_))
    replace B := B.new1 hN34
    clear hN34
    refine s_k0 rfl (k_stB (v := .agg #[.int .i64 v8, .int .i64 v9, .bool vb10, .slice a11 c12 c13, .slice a15 c16 c17]) (n := 5) (cs' := [.int .i64 v8, .int .i64 v9, .bool vb10, .slice a11 c12 c13, .slice a15 c16 c17]) T11.sz_26_5 rfl rfl rfl (B.b 0 rfl) (by simp [Value.cells, Value.oneCell']) (Nat.le_of_ble_eq_true rfl) rfl (fun w35 hU36 => ?_))
    replace B : Bu w no w35 [.blk b32 [.int .i64 v8, .int .i64 v9, .bool vb10, .slice a11 c12 c13, .slice a15 c16 c17] 26, .ow kF a11 c12 c13 34 Z14, .ow kF a15 c16 c17 34 Z18, .rd kY a0 n0 X0, .rd kY a1 n1 X1] := B.upd [0] rfl hU36
    clear hU36
    refine s_nil ?_
    refine W_seq ?_
    refine W_region (by kernel_rfl) ?_
    refine s_y (v := .slice a1 n1 c1) rfl (y_move rfl) ?_
    refine s_y (v := .agg #[.int .i64 v8, .int .i64 v9, .bool vb10, .slice a11 c12 c13, .slice a15 c16 c17]) rfl (y_loadn (b := b32) (o := 0) (vs := [.int .i64 v8, .int .i64 v9, .bool vb10, .slice a11 c12 c13, .slice a15 c16 c17]) T11.agg_26_5 rfl rfl ((B.b 0 rfl).cells (o := 0) rfl)) ?_
    refine s_k rfl (k_call T11.fn_20 (c_s_B10Field (B.r 4 rfl) ((B.o 1 rfl).rd) ((B.o 2 rfl).rd) (by first | assumption | omega) (by first | assumption | omega) (by first | assumption | omega) (by first | assumption | omega) (by omega) (by first | exact lenle (by assumption) | exact lenle6 (by assumption) | omega) (by first | exact lenle (by assumption) | exact lenle6 (by assumption) | omega)) rfl ?_)
    rintro _ w37 ⟨a39, c40, c41, Z42, a43, c44, c45, Z46, a47, c48, c49, Z50, rfl, hp51, hN38⟩
    replace B := B.new3 hN38
    clear hN38
    have hl52 := (B.o 0 rfl).len
    have hl53 := (B.o 1 rfl).len
    have hl54 := (B.o 2 rfl).len
    have hb55 := fieldB_b hp51
    refine s_k rfl (k_allocN (z := (.agg #[.slice none 0 0, .slice none 0 0, .slice none 0 0])) (cs := [.slice none 0 0, .slice none 0 0, .slice none 0 0]) T11.zero_30 rfl (fun b56 w57 hN58 => ?_))
    replace B := B.new1 hN58
    clear hN58
    refine s_k0 rfl (k_stB (v := .agg #[.slice a39 c40 c41, .slice a43 c44 c45, .slice a47 c48 c49]) (n := 3) (cs' := [.slice a39 c40 c41, .slice a43 c44 c45, .slice a47 c48 c49]) T11.sz_30_3 rfl rfl rfl (B.b 0 rfl) (by simp [Value.cells, Value.oneCell']) (Nat.le_of_ble_eq_true rfl) rfl (fun w59 hU60 => ?_))
    replace B : Bu w no w59 [.blk b56 [.slice a39 c40 c41, .slice a43 c44 c45, .slice a47 c48 c49] 30, .ow kF a39 c40 c41 34 Z42, .ow kF a43 c44 c45 34 Z46, .ow kF a47 c48 c49 34 Z50, .blk b32 [.int .i64 v8, .int .i64 v9, .bool vb10, .slice a11 c12 c13, .slice a15 c16 c17] 26, .ow kF a11 c12 c13 34 Z14, .ow kF a15 c16 c17 34 Z18, .rd kY a0 n0 X0, .rd kY a1 n1 X1] := B.upd [0] rfl hU60
    clear hU60
    refine s_nil ?_
    refine W_seq ?_
    refine W_region (by kernel_rfl) ?_
    refine s_y (v := .slice a1 n1 c1) rfl (y_move rfl) ?_
    refine s_k rfl (k_call T11.fn_14 (c_l_b10At (B.r 8 rfl) (by omega) (by omega) (by omega) (by first | exact lenle (by assumption) | exact lenle6 (by assumption) | omega)) rfl ?_)
    rintro _ w61 ⟨v63, rfl, hp64, e62⟩
    replace B := B.ext0 e62
    clear e62
    have hb65 := b10A_b X1 (show 1 ≤ 13 by omega) (show 0 ≤ 0 by omega)
    rw [← hp64] at hb65
    refine s_y (v := .float .f32 (FloatKind.nearest .f32 v63)) rfl (y_if T11.und_2 T11.flt_34_f32 rfl) ?_
    refine s_n rfl (n_arith (by decide) rfl rfl) ?_
    rintro _ w69 e70 ⟨r67, rfl, hr68⟩
    replace B := B.ext0 e70
    clear e70
    have hc71 := fopC hr68 (cn_nearest .f32 v63) (cnLit (k := .f32) (t := 1082130432) (by kernel_rfl) (by kernel_rfl))
    refine s_y (v := .float .f32 r67) rfl (y_assign rfl) ?_
    refine s_nil ?_
    refine W_seq ?_
    refine W_region (by kernel_rfl) ?_
    refine s_y (v := .agg #[.int .i64 v8, .int .i64 v9, .bool vb10, .slice a11 c12 c13, .slice a15 c16 c17]) rfl (y_loadn (b := b32) (o := 0) (vs := [.int .i64 v8, .int .i64 v9, .bool vb10, .slice a11 c12 c13, .slice a15 c16 c17]) T11.agg_26_5 rfl rfl ((B.b 4 rfl).cells (o := 0) rfl)) ?_
    refine s_y (v := .agg #[.slice a39 c40 c41, .slice a43 c44 c45, .slice a47 c48 c49]) rfl (y_loadn (b := b56) (o := 0) (vs := [.slice a39 c40 c41, .slice a43 c44 c45, .slice a47 c48 c49]) T11.agg_30_3 rfl rfl ((B.b 0 rfl).cells (o := 0) rfl)) ?_
    refine s_y (v := .float .f32 r67) rfl (y_move rfl) ?_
    refine s_k rfl (k_call T11.fn_58 (c_i_QuietAfter ((B.o 5 rfl).rd) ((B.o 6 rfl).rd) ((B.o 1 rfl).rd) ((B.o 2 rfl).rd) ((B.o 3 rfl).rd) hc71 (by first | exact lenle (by assumption) | exact lenle6 (by assumption) | omega) (by first | exact lenle (by assumption) | exact lenle6 (by assumption) | omega) (by first | exact lenle (by assumption) | exact lenle6 (by assumption) | omega) (by first | exact lenle (by assumption) | exact lenle6 (by assumption) | omega) (by first | exact lenle (by assumption) | exact lenle6 (by assumption) | omega)) rfl ?_)
    rintro v74 w72 hx73
    by_cases c75 : qtB v8 v9 vb10 Z14 Z18 Z42 Z46 Z50 (fop .quo .f32 (FloatKind.nearest .f32 v63) 1082130432) 6 = true
    · have hb76 := qt_b c75
      obtain ⟨rfl, e77⟩ := (hx73.resolve_right (fun hz => by rw [c75] at hz; cases hz.1)).2
      clear hx73
      replace B := B.ext0 e77
      clear e77
      refine s_y (v := .tuple #[.int .i64 (qtV v8 v9 vb10 Z14 Z18 (Z42, Z46, Z50) (fop .quo .f32 (FloatKind.nearest .f32 v63) 1082130432) 6), .bool true]) rfl (y_move rfl) ?_
      refine s_y (v := .int .i64 (qtV v8 v9 vb10 Z14 Z18 (Z42, Z46, Z50) (fop .quo .f32 (FloatKind.nearest .f32 v63) 1082130432) 6)) rfl (y_extract rfl rfl) ?_
      refine s_y (v := .bool true) rfl (y_extract rfl rfl) ?_
      refine s_y (v := .int .i64 (qtV v8 v9 vb10 Z14 Z18 (Z42, Z46, Z50) (fop .quo .f32 (FloatKind.nearest .f32 v63) 1082130432) 6)) rfl (y_assign rfl) ?_
      refine s_y (v := .bool true) rfl (y_assign rfl) ?_
      refine s_nil ?_
      refine W_seq ?_
      refine W_region (by kernel_rfl) ?_
      refine s_y (v := .agg #[.int .i64 v8, .int .i64 v9, .bool vb10, .slice a11 c12 c13, .slice a15 c16 c17]) rfl (y_loadn (b := b32) (o := 0) (vs := [.int .i64 v8, .int .i64 v9, .bool vb10, .slice a11 c12 c13, .slice a15 c16 c17]) T11.agg_26_5 rfl rfl ((B.b 4 rfl).cells (o := 0) rfl)) ?_
      refine s_y (v := .agg #[.slice a39 c40 c41, .slice a43 c44 c45, .slice a47 c48 c49]) rfl (y_loadn (b := b56) (o := 0) (vs := [.slice a39 c40 c41, .slice a43 c44 c45, .slice a47 c48 c49]) T11.agg_30_3 rfl rfl ((B.b 0 rfl).cells (o := 0) rfl)) ?_
      refine s_y (v := .float .f32 r67) rfl (y_move rfl) ?_
      refine s_k rfl (k_call T11.fn_59 (c_s_QuietAfter ((B.o 5 rfl).rd) ((B.o 6 rfl).rd) ((B.o 1 rfl).rd) ((B.o 2 rfl).rd) ((B.o 3 rfl).rd) hc71 (by first | exact lenle (by assumption) | exact lenle6 (by assumption) | omega) (by first | exact lenle (by assumption) | exact lenle6 (by assumption) | omega) (by first | exact lenle (by assumption) | exact lenle6 (by assumption) | omega) (by first | exact lenle (by assumption) | exact lenle6 (by assumption) | omega) (by first | exact lenle (by assumption) | exact lenle6 (by assumption) | omega)) rfl ?_)
      rintro v80 w78 hx79
      obtain ⟨rfl, e81⟩ := (hx79.resolve_right (fun hz => by rw [c75] at hz; cases hz.1)).2
      clear hx79
      replace B := B.ext0 e81
      clear e81
      refine s_y (v := .tuple #[.int .i64 (qtV v8 v9 vb10 Z14 Z18 (Z42, Z46, Z50) (fop .quo .f32 (FloatKind.nearest .f32 v63) 1082130432) 6), .bool true]) rfl (y_move rfl) ?_
      refine s_y (v := .int .i64 (qtV v8 v9 vb10 Z14 Z18 (Z42, Z46, Z50) (fop .quo .f32 (FloatKind.nearest .f32 v63) 1082130432) 6)) rfl (y_extract rfl rfl) ?_
      refine s_y (v := .bool true) rfl (y_extract rfl rfl) ?_
      refine s_y (v := .int .i64 (qtV v8 v9 vb10 Z14 Z18 (Z42, Z46, Z50) (fop .quo .f32 (FloatKind.nearest .f32 v63) 1082130432) 6)) rfl (y_assign rfl) ?_
      refine s_y (v := .bool true) rfl (y_assign rfl) ?_
      refine s_nil ?_
      refine W_seq ?_
      have B0_86 := B
      refine W_draw (no) T11.mx (by kernel_rfl) (fun w84 e85 => ?_)
      have R87 := Ext.refl (no) w78
      replace R87 := R87.trans (Ext0.any e85)
      replace B := B.ext0 e85
      clear e85
      refine m_y (v := .agg #[.int .i64 v8, .int .i64 v9, .bool vb10, .slice a11 c12 c13, .slice a15 c16 c17]) 0 rfl (by kernel_rfl) rfl rfl (fun w' e' => y_loadn (b := b32) (o := 0) (vs := [.int .i64 v8, .int .i64 v9, .bool vb10, .slice a11 c12 c13, .slice a15 c16 c17]) T11.agg_26_5 rfl rfl (((B0_86.b 4 rfl).ext0 e').cells (o := 0) rfl)) ?_
      refine m_y (v := .agg #[.slice a39 c40 c41, .slice a43 c44 c45, .slice a47 c48 c49]) 1 rfl (by kernel_rfl) rfl rfl (fun w' e' => y_loadn (b := b56) (o := 0) (vs := [.slice a39 c40 c41, .slice a43 c44 c45, .slice a47 c48 c49]) T11.agg_30_3 rfl rfl (((B0_86.b 0 rfl).ext0 e').cells (o := 0) rfl)) ?_
      refine m_y (v := .slice a1 n1 c1) 2 rfl (by kernel_rfl) rfl rfl (fun w' e' => y_move rfl) ?_
      refine m_y (v := .pointer (some ⟨b32, 1, none⟩)) 3 rfl (by kernel_rfl) rfl rfl (fun w' e' => y_fld (o := 0) T11.fld_26_1_1 rfl) ?_
      refine m_y (v := .int .i64 v9) 4 rfl (by kernel_rfl) rfl rfl (fun w' e' => y_load T11.one_2 rfl (((B0_86.b 4 rfl).ext0 e').cell (j := 1) rfl)) ?_
      refine m_k 5 [6, 7, 8, 9, 10, 11] rfl (by kernel_rfl) rfl rfl (fun w88 e89 => ?_)
      replace R87 := R87.trans (Ext0.any e89)
      replace B := B.ext0 e89
      clear e89
      refine k_call T11.fn_14 (c_l_b10At (B.r 8 rfl) (by omega) (by omega) (by omega) (by first | exact lenle (by assumption) | exact lenle6 (by assumption) | omega)) rfl ?_
      rintro _ w90 ⟨v92, rfl, hp93, e91⟩
      replace R87 := R87.trans (Ext0.any e91)
      replace B := B.ext0 e91
      clear e91
      refine ⟨fun _ => R87, ?_⟩
      have hb94 := b10A_b X1 (show 1 ≤ v9 by omega) (show 0 ≤ 1 by omega)
      rw [← hp93] at hb94
      refine m_k 6 [7, 8, 9, 10, 11] rfl (by kernel_rfl) rfl rfl (fun w95 e96 => ?_)
      replace R87 := R87.trans (Ext0.any e96)
      replace B := B.ext0 e96
      clear e96
      refine k_call T11.fn_60 (c_i_RowOf ((B.o 5 rfl).rd) ((B.o 6 rfl).rd) ((B.o 1 rfl).rd) ((B.o 2 rfl).rd) ((B.o 3 rfl).rd) (by first | exact lenle (by assumption) | exact lenle6 (by assumption) | omega) (by first | exact lenle (by assumption) | exact lenle6 (by assumption) | omega) (by first | exact lenle (by assumption) | exact lenle6 (by assumption) | omega) (by first | exact lenle (by assumption) | exact lenle6 (by assumption) | omega) (by first | exact lenle (by assumption) | exact lenle6 (by assumption) | omega) ((B.o 1 rfl).cap)) rfl ?_
      rintro v99 w97 hx98
      have hk100 : rowB v8 v9 vb10 Z14 Z18 Z42 Z46 Z50 v92 = true := (rowB_yes hp51 (by omega) (by omega))
      have hb101 := rowB_b hk100
      obtain ⟨a102, c103, rfl, hN104⟩ := (hx98.resolve_right (fun hz => by rw [hk100] at hz; cases hz.1)).2
      clear hx98
      replace R87 := R87.trans (Ext0.any hN104.ext)
      replace B := B.new1 hN104
      clear hN104
      refine ⟨fun _ => R87, ?_⟩
      refine m_y (v := .tuple #[.slice a102 v8.toNat c103, .bool true]) 7 rfl (by kernel_rfl) rfl rfl (fun w' e' => y_move rfl) ?_
      refine m_y (v := .slice a102 v8.toNat c103) 8 rfl (by kernel_rfl) rfl rfl (fun w' e' => y_extract rfl rfl) ?_
      refine m_y (v := .bool true) 9 rfl (by kernel_rfl) rfl rfl (fun w' e' => y_extract rfl rfl) ?_
      refine m_y (v := .slice a102 v8.toNat c103) 10 rfl (by kernel_rfl) rfl rfl (fun w' e' => y_assign rfl) ?_
      refine m_y (v := .bool true) 11 rfl (by kernel_rfl) rfl rfl (fun w' e' => y_assign rfl) ?_
      refine m_done (by kernel_rfl) (fun w105 e106 => ?_)
      replace B := B.ext0 e106
      clear e106
      clear B0_86 R87
      refine W_seq ?_
      have B0_111 := B
      refine W_draw (no) T11.mx (by kernel_rfl) (fun w109 e110 => ?_)
      have R112 := Ext.refl (no) w105
      replace R112 := R112.trans (Ext0.any e110)
      replace B := B.ext0 e110
      clear e110
      refine m_y (v := .agg #[.int .i64 v8, .int .i64 v9, .bool vb10, .slice a11 c12 c13, .slice a15 c16 c17]) 0 rfl (by kernel_rfl) rfl rfl (fun w' e' => y_loadn (b := b32) (o := 0) (vs := [.int .i64 v8, .int .i64 v9, .bool vb10, .slice a11 c12 c13, .slice a15 c16 c17]) T11.agg_26_5 rfl rfl (((B0_111.b 5 rfl).ext0 e').cells (o := 0) rfl)) ?_
      refine m_y (v := .agg #[.slice a39 c40 c41, .slice a43 c44 c45, .slice a47 c48 c49]) 1 rfl (by kernel_rfl) rfl rfl (fun w' e' => y_loadn (b := b56) (o := 0) (vs := [.slice a39 c40 c41, .slice a43 c44 c45, .slice a47 c48 c49]) T11.agg_30_3 rfl rfl (((B0_111.b 1 rfl).ext0 e').cells (o := 0) rfl)) ?_
      refine m_y (v := .slice a1 n1 c1) 2 rfl (by kernel_rfl) rfl rfl (fun w' e' => y_move rfl) ?_
      refine m_y (v := .pointer (some ⟨b32, 0, none⟩)) 3 rfl (by kernel_rfl) rfl rfl (fun w' e' => y_fld (o := 0) T11.fld_26_0_0 rfl) ?_
      refine m_y (v := .int .i64 v8) 4 rfl (by kernel_rfl) rfl rfl (fun w' e' => y_load T11.one_2 rfl (((B0_111.b 5 rfl).ext0 e').cell (j := 0) rfl)) ?_
      refine m_k 5 [6, 7, 8, 9, 10, 11] rfl (by kernel_rfl) rfl rfl (fun w113 e114 => ?_)
      replace R112 := R112.trans (Ext0.any e114)
      replace B := B.ext0 e114
      clear e114
      refine k_call T11.fn_14 (c_l_b10At (B.r 9 rfl) (by omega) (by omega) (by omega) (by first | exact lenle (by assumption) | exact lenle6 (by assumption) | omega)) rfl ?_
      rintro _ w115 ⟨v117, rfl, hp118, e116⟩
      replace R112 := R112.trans (Ext0.any e116)
      replace B := B.ext0 e116
      clear e116
      refine ⟨fun _ => R112, ?_⟩
      have hb119 := b10A_b X1 (show 1 ≤ v8 by omega) (show 0 ≤ 2 by omega)
      rw [← hp118] at hb119
      refine m_k 6 [7, 8, 9, 10, 11] rfl (by kernel_rfl) rfl rfl (fun w120 e121 => ?_)
      replace R112 := R112.trans (Ext0.any e121)
      replace B := B.ext0 e121
      clear e121
      refine k_call T11.fn_61 (c_i_ColumnOf ((B.o 6 rfl).rd) ((B.o 7 rfl).rd) ((B.o 2 rfl).rd) ((B.o 3 rfl).rd) ((B.o 4 rfl).rd) (by first | exact lenle (by assumption) | exact lenle6 (by assumption) | omega) (by first | exact lenle (by assumption) | exact lenle6 (by assumption) | omega) (by first | exact lenle (by assumption) | exact lenle6 (by assumption) | omega) (by first | exact lenle (by assumption) | exact lenle6 (by assumption) | omega) (by first | exact lenle (by assumption) | exact lenle6 (by assumption) | omega)) rfl ?_
      rintro v124 w122 hx123
      have hk125 : colB v8 v9 vb10 Z14 Z18 Z42 Z46 Z50 v117 = true := (colB_yes hp51 (by omega) (by omega))
      have hb126 := colB_b hk125
      obtain ⟨a127, c128, rfl, hN129⟩ := (hx123.resolve_right (fun hz => by rw [hk125] at hz; cases hz.1)).2
      clear hx123
      replace R112 := R112.trans (Ext0.any hN129.ext)
      replace B := B.new1 hN129
      clear hN129
      refine ⟨fun _ => R112, ?_⟩
      refine m_y (v := .tuple #[.slice a127 v9.toNat c128, .bool true]) 7 rfl (by kernel_rfl) rfl rfl (fun w' e' => y_move rfl) ?_
      refine m_y (v := .slice a127 v9.toNat c128) 8 rfl (by kernel_rfl) rfl rfl (fun w' e' => y_extract rfl rfl) ?_
      refine m_y (v := .bool true) 9 rfl (by kernel_rfl) rfl rfl (fun w' e' => y_extract rfl rfl) ?_
      refine m_y (v := .slice a127 v9.toNat c128) 10 rfl (by kernel_rfl) rfl rfl (fun w' e' => y_assign rfl) ?_
      refine m_y (v := .bool true) 11 rfl (by kernel_rfl) rfl rfl (fun w' e' => y_assign rfl) ?_
      refine m_done (by kernel_rfl) (fun w130 e131 => ?_)
      replace B := B.ext0 e131
      clear e131
      clear B0_111 R112
      refine W_seq ?_
      refine W_seq ?_
      have B0_136 := B
      refine W_draw (no) T11.mx (by kernel_rfl) (fun w134 e135 => ?_)
      have R137 := Ext.refl (no) w130
      replace R137 := R137.trans (Ext0.any e135)
      replace B := B.ext0 e135
      clear e135
      refine m_y (v := .bool true) 0 rfl (by kernel_rfl) rfl rfl (fun w' e' => y_move rfl) ?_
      refine m_y (v := .bool true) 1 rfl (by kernel_rfl) rfl rfl (fun w' e' => y_move rfl) ?_
      refine m_y (v := .bool false) 2 rfl (by kernel_rfl) rfl rfl (fun w' e' => y_bneq T11.bool_4 rfl rfl rfl) ?_
      refine m_y (v := .bool false) 3 rfl (by kernel_rfl) rfl rfl (fun w' e' => y_move rfl) ?_
      refine m_y (v := .bool true) 4 rfl (by kernel_rfl) rfl rfl (fun w' e' => y_move rfl) ?_
      refine m_y (v := .bool false) 5 rfl (by kernel_rfl) rfl rfl (fun w' e' => y_not rfl rfl) ?_
      refine m_y (v := .bool false) 6 rfl (by kernel_rfl) rfl rfl (fun w' e' => y_pick_f rfl rfl) ?_
      refine m_y (v := .bool false) 7 rfl (by kernel_rfl) rfl rfl (fun w' e' => y_move rfl) ?_
      refine m_y (v := .bool true) 8 rfl (by kernel_rfl) rfl rfl (fun w' e' => y_move rfl) ?_
      refine m_y (v := .bool false) 9 rfl (by kernel_rfl) rfl rfl (fun w' e' => y_not rfl rfl) ?_
      refine m_y (v := .bool false) 10 rfl (by kernel_rfl) rfl rfl (fun w' e' => y_pick_f rfl rfl) ?_
      refine m_y (v := .bool false) 11 rfl (by kernel_rfl) rfl rfl (fun w' e' => y_move rfl) ?_
      refine m_y (v := .slice a102 v8.toNat c103) 12 rfl (by kernel_rfl) rfl rfl (fun w' e' => y_move rfl) ?_
      refine m_y (v := .int .i64 ((v8.toNat : Nat) : Int)) 13 rfl (by kernel_rfl) rfl rfl (fun w' e' => y_len T11.sl_24_34_1 rfl rfl) ?_
      refine m_y (v := .pointer (some ⟨b32, 0, none⟩)) 14 rfl (by kernel_rfl) rfl rfl (fun w' e' => y_fld (o := 0) T11.fld_26_0_0 rfl) ?_
      refine m_y (v := .int .i64 v8) 15 rfl (by kernel_rfl) rfl rfl (fun w' e' => y_load T11.one_2 rfl (((B0_136.b 6 rfl).ext0 e').cell (j := 0) rfl)) ?_
      have hk138 : ¬ (((v8.toNat : Nat) : Int) ≠ v8) := (by omega)
      refine m_y (v := .bool false) 16 rfl (by kernel_rfl) rfl rfl (fun w' e' => y_neq rfl rfl (decide_eq_false hk138)) ?_
      refine m_y (v := .bool false) 17 rfl (by kernel_rfl) rfl rfl (fun w' e' => y_pick_f rfl rfl) ?_
      refine m_y (v := .bool false) 18 rfl (by kernel_rfl) rfl rfl (fun w' e' => y_move rfl) ?_
      refine m_y (v := .slice a127 v9.toNat c128) 19 rfl (by kernel_rfl) rfl rfl (fun w' e' => y_move rfl) ?_
      refine m_y (v := .int .i64 ((v9.toNat : Nat) : Int)) 20 rfl (by kernel_rfl) rfl rfl (fun w' e' => y_len T11.sl_24_34_1 rfl rfl) ?_
      refine m_y (v := .pointer (some ⟨b32, 1, none⟩)) 21 rfl (by kernel_rfl) rfl rfl (fun w' e' => y_fld (o := 0) T11.fld_26_1_1 rfl) ?_
      refine m_y (v := .int .i64 v9) 22 rfl (by kernel_rfl) rfl rfl (fun w' e' => y_load T11.one_2 rfl (((B0_136.b 6 rfl).ext0 e').cell (j := 1) rfl)) ?_
      have hk139 : ¬ (((v9.toNat : Nat) : Int) ≠ v9) := (by omega)
      refine m_y (v := .bool false) 23 rfl (by kernel_rfl) rfl rfl (fun w' e' => y_neq rfl rfl (decide_eq_false hk139)) ?_
      refine m_y (v := .bool false) 24 rfl (by kernel_rfl) rfl rfl (fun w' e' => y_pick_f rfl rfl) ?_
      refine m_y (v := .bool false) 25 rfl (by kernel_rfl) rfl rfl (fun w' e' => y_move rfl) ?_
      refine m_y (v := .slice a102 v8.toNat c103) 26 rfl (by kernel_rfl) rfl rfl (fun w' e' => y_move rfl) ?_
      refine m_y (v := .slice a1 n1 c1) 27 rfl (by kernel_rfl) rfl rfl (fun w' e' => y_move rfl) ?_
      refine m_y (v := .pointer (some ⟨b32, 0, none⟩)) 28 rfl (by kernel_rfl) rfl rfl (fun w' e' => y_fld (o := 0) T11.fld_26_0_0 rfl) ?_
      refine m_y (v := .int .i64 v8) 29 rfl (by kernel_rfl) rfl rfl (fun w' e' => y_load T11.one_2 rfl (((B0_136.b 6 rfl).ext0 e').cell (j := 0) rfl)) ?_
      refine m_y (v := .slice a127 v9.toNat c128) 33 rfl (by kernel_rfl) rfl rfl (fun w' e' => y_move rfl) ?_
      refine m_y (v := .slice a1 n1 c1) 34 rfl (by kernel_rfl) rfl rfl (fun w' e' => y_move rfl) ?_
      refine m_y (v := .pointer (some ⟨b32, 1, none⟩)) 35 rfl (by kernel_rfl) rfl rfl (fun w' e' => y_fld (o := 0) T11.fld_26_1_1 rfl) ?_
      refine m_y (v := .int .i64 v9) 36 rfl (by kernel_rfl) rfl rfl (fun w' e' => y_load T11.one_2 rfl (((B0_136.b 6 rfl).ext0 e').cell (j := 1) rfl)) ?_
      refine m_k 30 [31, 32, 37, 38, 39, 40, 41, 42] rfl (by kernel_rfl) rfl rfl (fun w140 e141 => ?_)
      replace R137 := R137.trans (Ext0.any e141)
      replace B := B.ext0 e141
      clear e141
      refine k_call T11.fn_14 (c_l_b10At (B.r 10 rfl) (by omega) (by omega) (by omega) (by first | exact lenle (by assumption) | exact lenle6 (by assumption) | omega)) rfl ?_
      rintro _ w142 ⟨v144, rfl, hp145, e143⟩
      replace R137 := R137.trans (Ext0.any e143)
      replace B := B.ext0 e143
      clear e143
      refine ⟨fun _ => R137, ?_⟩
      have hb146 := b10A_b X1 (show 1 ≤ v8 by omega) (show 0 ≤ 2 by omega)
      rw [← hp145] at hb146
      obtain rfl : v117 = v144 := hp118.trans hp145.symm
      refine m_y (v := .pointer (some (sat a102 ((v117).toNat * 1)))) 31 rfl (by kernel_rfl) rfl rfl (fun w' e' => y_idx T11.sl_24_34_1 rfl rfl ((B.o 1 rfl).rd.addr (by omega)) (by omega) (by omega)) ?_
      obtain ⟨r148, hr149, hR147⟩ := Rd.atF (B0_136.o 1 rfl).rd v117 (by omega) (by omega)
      refine m_y (v := .float .f32 r148) 32 rfl (by kernel_rfl) rfl rfl (fun w' e' => y_load T11.one_34 rfl ((hR147.ext0 e').cell (i := 0) rfl)) ?_
      refine m_k 37 [38, 39, 40, 41, 42] rfl (by kernel_rfl) rfl rfl (fun w150 e151 => ?_)
      replace R137 := R137.trans (Ext0.any e151)
      replace B := B.ext0 e151
      clear e151
      refine k_call T11.fn_14 (c_l_b10At (B.r 10 rfl) (by omega) (by omega) (by omega) (by first | exact lenle (by assumption) | exact lenle6 (by assumption) | omega)) rfl ?_
      rintro _ w152 ⟨v154, rfl, hp155, e153⟩
      replace R137 := R137.trans (Ext0.any e153)
      replace B := B.ext0 e153
      clear e153
      refine ⟨fun _ => R137, ?_⟩
      have hb156 := b10A_b X1 (show 1 ≤ v9 by omega) (show 0 ≤ 1 by omega)
      rw [← hp155] at hb156
      obtain rfl : v92 = v154 := hp93.trans hp155.symm
      refine m_y (v := .pointer (some (sat a127 ((v92).toNat * 1)))) 38 rfl (by kernel_rfl) rfl rfl (fun w' e' => y_idx T11.sl_24_34_1 rfl rfl ((B.o 0 rfl).rd.addr (by omega)) (by omega) (by omega)) ?_
      obtain ⟨r158, hr159, hR157⟩ := Rd.atF (B0_136.o 0 rfl).rd v92 (by omega) (by omega)
      refine m_y (v := .float .f32 r158) 39 rfl (by kernel_rfl) rfl rfl (fun w' e' => y_load T11.one_34 rfl ((hR157.ext0 e').cell (i := 0) rfl)) ?_
      refine m_k 40 [41, 42] rfl (by kernel_rfl) rfl rfl (fun w160 e161 => ?_)
      replace R137 := R137.trans (Ext0.any e161)
      replace B := B.ext0 e161
      clear e161
      refine k_call T11.fn_21 (c_s_SameNumber hr149 hr159) rfl ?_
      rintro v164 w162 ⟨hv165, e163⟩
      replace R137 := R137.trans (Ext0.any e163)
      replace B := B.ext0 e163
      clear e163
      refine ⟨fun _ => R137, ?_⟩
      have hk166 : decide (bitN (el (rowS v8 Z42 v92) v117) = bitN (el (colS v8 v9 Z42 v117) v92)) = true := (decide_eq_true (congrArg bitN (row_col (by omega) (by omega) (by omega) (by omega))))
      obtain rfl : v164 = .bool true := hv165.trans (congrArg Value.bool hk166)
      refine m_y (v := .bool false) 41 rfl (by kernel_rfl) rfl rfl (fun w' e' => y_not rfl rfl) ?_
      refine m_y (v := .bool false) 42 rfl (by kernel_rfl) rfl rfl (fun w' e' => y_pick_f rfl rfl) ?_
      refine m_done (by kernel_rfl) (fun w167 e168 => ?_)
      replace B := B.ext0 e168
      clear e168
      clear B0_136 R137
      refine W_if_f (by decide) rfl ?_
      refine W_skip ?_
      refine W_seq ?_
      refine W_seq ?_
      refine W_region (by kernel_rfl) ?_
      refine s_y (v := .bool true) rfl (y_move rfl) ?_
      refine s_y (v := .bool false) rfl (y_not rfl rfl) ?_
      refine s_nil ?_
      refine W_if_f (by decide) rfl ?_
      refine W_skip ?_
      refine W_seq ?_
      refine W_region (by kernel_rfl) ?_
      refine s_y (v := .agg #[.int .i64 v8, .int .i64 v9, .bool vb10, .slice a11 c12 c13, .slice a15 c16 c17]) rfl (y_loadn (b := b32) (o := 0) (vs := [.int .i64 v8, .int .i64 v9, .bool vb10, .slice a11 c12 c13, .slice a15 c16 c17]) T11.agg_26_5 rfl rfl ((B.b 6 rfl).cells (o := 0) rfl)) ?_
      refine s_y (v := .agg #[.slice a39 c40 c41, .slice a43 c44 c45, .slice a47 c48 c49]) rfl (y_loadn (b := b56) (o := 0) (vs := [.slice a39 c40 c41, .slice a43 c44 c45, .slice a47 c48 c49]) T11.agg_30_3 rfl rfl ((B.b 2 rfl).cells (o := 0) rfl)) ?_
      refine s_y (v := .int .i64 (qtV v8 v9 vb10 Z14 Z18 (Z42, Z46, Z50) (fop .quo .f32 (FloatKind.nearest .f32 v63) 1082130432) 6)) rfl (y_move rfl) ?_
      refine s_k rfl (k_call T11.fn_62 (c_i_PeakTrace ((B.o 7 rfl).rd) ((B.o 8 rfl).rd) ((B.o 3 rfl).rd) ((B.o 4 rfl).rd) ((B.o 5 rfl).rd) (by first | exact lenle (by assumption) | exact lenle6 (by assumption) | omega) (by first | exact lenle (by assumption) | exact lenle6 (by assumption) | omega) (by first | exact lenle (by assumption) | exact lenle6 (by assumption) | omega) (by first | exact lenle (by assumption) | exact lenle6 (by assumption) | omega) (by first | exact lenle (by assumption) | exact lenle6 (by assumption) | omega)) rfl ?_)
      rintro v171 w169 hx170
      have hk172 : runB v8 v9 vb10 Z14 Z18 Z42 Z46 Z50 (qtV v8 v9 vb10 Z14 Z18 (Z42, Z46, Z50) (fop .quo .f32 (FloatKind.nearest .f32 v63) 1082130432) 6) = true := (qt_run c75)
      have hb173 := runB_b hk172
      obtain ⟨a174, c175, rfl, hN176⟩ := (hx170.resolve_right (fun hz => by rw [hk172] at hz; cases hz.1)).2
      clear hx170
      replace B := B.new1 hN176
      clear hN176
      refine s_y (v := .tuple #[.slice a174 (Int.toNat (qtV v8 v9 vb10 Z14 Z18 (Z42, Z46, Z50) (fop .quo .f32 (FloatKind.nearest .f32 v63) 1082130432) 6)) c175, .bool true]) rfl (y_move rfl) ?_
      refine s_y (v := .slice a174 (Int.toNat (qtV v8 v9 vb10 Z14 Z18 (Z42, Z46, Z50) (fop .quo .f32 (FloatKind.nearest .f32 v63) 1082130432) 6)) c175) rfl (y_extract rfl rfl) ?_
      refine s_y (v := .bool true) rfl (y_extract rfl rfl) ?_
      refine s_y (v := .slice a174 (Int.toNat (qtV v8 v9 vb10 Z14 Z18 (Z42, Z46, Z50) (fop .quo .f32 (FloatKind.nearest .f32 v63) 1082130432) 6)) c175) rfl (y_assign rfl) ?_
      refine s_y (v := .bool true) rfl (y_assign rfl) ?_
      refine s_nil ?_
      refine W_seq ?_
      refine W_seq ?_
      refine W_region (by kernel_rfl) ?_
      refine s_y (v := .bool true) rfl (y_move rfl) ?_
      refine s_y (v := .bool false) rfl (y_not rfl rfl) ?_
      refine s_y (v := .bool false) rfl (y_move rfl) ?_
      refine s_y (v := .slice a174 (Int.toNat (qtV v8 v9 vb10 Z14 Z18 (Z42, Z46, Z50) (fop .quo .f32 (FloatKind.nearest .f32 v63) 1082130432) 6)) c175) rfl (y_move rfl) ?_
      refine s_y (v := .int .i64 ((Int.toNat (qtV v8 v9 vb10 Z14 Z18 (Z42, Z46, Z50) (fop .quo .f32 (FloatKind.nearest .f32 v63) 1082130432) 6) : Nat) : Int)) rfl (y_len T11.sl_24_34_1 rfl rfl) ?_
      refine s_y (v := .int .i64 (qtV v8 v9 vb10 Z14 Z18 (Z42, Z46, Z50) (fop .quo .f32 (FloatKind.nearest .f32 v63) 1082130432) 6)) rfl (y_move rfl) ?_
      have hk177 : ¬ (((Int.toNat (qtV v8 v9 vb10 Z14 Z18 (Z42, Z46, Z50) (fop .quo .f32 (FloatKind.nearest .f32 v63) 1082130432) 6) : Nat) : Int) ≠ (qtV v8 v9 vb10 Z14 Z18 (Z42, Z46, Z50) (fop .quo .f32 (FloatKind.nearest .f32 v63) 1082130432) 6)) := (by omega)
      refine s_y (v := .bool false) rfl (y_neq rfl rfl (decide_eq_false hk177)) ?_
      refine s_y (v := .bool false) rfl (y_pick_f rfl rfl) ?_
      refine s_y (v := .bool false) rfl (y_move rfl) ?_
      refine s_y (v := .int .i64 (qtV v8 v9 vb10 Z14 Z18 (Z42, Z46, Z50) (fop .quo .f32 (FloatKind.nearest .f32 v63) 1082130432) 6)) rfl (y_move rfl) ?_
      have hk178 : ¬ ((qtV v8 v9 vb10 Z14 Z18 (Z42, Z46, Z50) (fop .quo .f32 (FloatKind.nearest .f32 v63) 1082130432) 6) < 0) := (by omega)
      refine s_y (v := .bool false) rfl (y_lss rfl rfl (decide_eq_false hk178)) ?_
      refine s_y (v := .bool false) rfl (y_pick_f rfl rfl) ?_
      refine s_y (v := .bool false) rfl (y_move rfl) ?_
      refine s_y (v := .int .i64 (qtV v8 v9 vb10 Z14 Z18 (Z42, Z46, Z50) (fop .quo .f32 (FloatKind.nearest .f32 v63) 1082130432) 6)) rfl (y_move rfl) ?_
      have hk179 : ¬ (6 < (qtV v8 v9 vb10 Z14 Z18 (Z42, Z46, Z50) (fop .quo .f32 (FloatKind.nearest .f32 v63) 1082130432) 6)) := (by omega)
      refine s_y (v := .bool false) rfl (y_gtr rfl rfl (decide_eq_false hk179)) ?_
      refine s_y (v := .bool false) rfl (y_pick_f rfl rfl) ?_
      refine s_nil ?_
      refine W_if_f (by decide) rfl ?_
      refine W_skip ?_
      refine W_seq ?_
      refine W_seq ?_
      refine W_region (by kernel_rfl) ?_
      refine s_y (v := .int .i64 0) rfl (y_assign rfl) ?_
      refine s_nil ?_
      refine W_block ?_
      refine W_loop (fun ρ' w' => ∃ (ρ1 : Env) (k : Int), ρ' = updL ρ1 [(7, .float .f32 r67), (8, .int .i64 (qtV v8 v9 vb10 Z14 Z18 (Z42, Z46, Z50) (fop .quo .f32 (FloatKind.nearest .f32 v63) 1082130432) 6)), (16, .slice a174 (Int.toNat (qtV v8 v9 vb10 Z14 Z18 (Z42, Z46, Z50) (fop .quo .f32 (FloatKind.nearest .f32 v63) 1082130432) 6)) c175), (18, .int .i64 k)] ∧ Bu w no w' [.ow kF a174 (Int.toNat (qtV v8 v9 vb10 Z14 Z18 (Z42, Z46, Z50) (fop .quo .f32 (FloatKind.nearest .f32 v63) 1082130432) 6)) c175 34 (trL v8 v9 vb10 Z14 Z18 (Z42, Z46, Z50) (fun F => pkS F.1) (qtV v8 v9 vb10 Z14 Z18 (Z42, Z46, Z50) (fop .quo .f32 (FloatKind.nearest .f32 v63) 1082130432) 6)), .ow kF a127 v9.toNat c128 34 (colS v8 v9 Z42 v117), .ow kF a102 v8.toNat c103 34 (rowS v8 Z42 v92), .blk b56 [.slice a39 c40 c41, .slice a43 c44 c45, .slice a47 c48 c49] 30, .ow kF a39 c40 c41 34 Z42, .ow kF a43 c44 c45 34 Z46, .ow kF a47 c48 c49 34 Z50, .blk b32 [.int .i64 v8, .int .i64 v9, .bool vb10, .slice a11 c12 c13, .slice a15 c16 c17] 26, .ow kF a11 c12 c13 34 Z14, .ow kF a15 c16 c17 34 Z18, .rd kY a0 n0 X0, .rd kY a1 n1 X1] ∧ (0 ≤ k) ∧ (k ≤ qtV v8 v9 vb10 Z14 Z18 (Z42, Z46, Z50) (fop .quo .f32 (FloatKind.nearest .f32 v63) 1082130432) 6)) (fun ρ' _ => (qtV v8 v9 vb10 Z14 Z18 (Z42, Z46, Z50) (fop .quo .f32 (FloatKind.nearest .f32 v63) 1082130432) 6 - iv (ρ' 18)).toNat) ?_ ?_
      · exact ⟨_, 0, Fits.eq ⟨rfl, rfl, rfl, rfl, trivial⟩, B, (Int.le_refl _), (by omega)⟩
      · clear B; rintro _ w180 ⟨ρ181, k, rfl, B, h0k, h1k⟩
        refine W_seq ?_
        refine W_seq ?_
        refine W_region (by kernel_rfl) ?_
        refine s_y (v := .int .i64 k) rfl (y_move rfl) ?_
        refine s_y (v := .int .i64 (k + 1)) rfl (y_add rfl rfl rfl (by omega)) ?_
        refine s_y (v := .int .i64 (qtV v8 v9 vb10 Z14 Z18 (Z42, Z46, Z50) (fop .quo .f32 (FloatKind.nearest .f32 v63) 1082130432) 6)) rfl (y_move rfl) ?_
        by_cases c182 : (k + 1) < (qtV v8 v9 vb10 Z14 Z18 (Z42, Z46, Z50) (fop .quo .f32 (FloatKind.nearest .f32 v63) 1082130432) 6)
        · refine s_y (v := .bool true) rfl (y_lss rfl rfl (decide_eq_true c182)) ?_
          refine s_nil ?_
          refine W_if_t (by decide) rfl ?_
          refine W_skip ?_
          refine W_seq ?_
          refine W_block ?_
          refine W_seq ?_
          refine W_region (by kernel_rfl) ?_
          refine s_y (v := .slice a174 (Int.toNat (qtV v8 v9 vb10 Z14 Z18 (Z42, Z46, Z50) (fop .quo .f32 (FloatKind.nearest .f32 v63) 1082130432) 6)) c175) rfl (y_move rfl) ?_
          refine s_y (v := .int .i64 k) rfl (y_move rfl) ?_
          refine s_y (v := .pointer (some (sat a174 ((k).toNat * 1)))) rfl (y_idx T11.sl_24_34_1 rfl rfl ((B.o 0 rfl).rd.addr (by omega)) (by omega) (by omega)) ?_
          obtain ⟨r184, hr185, hR183⟩ := Rd.atF (B.o 0 rfl).rd k (by omega) (by omega)
          refine s_y (v := .float .f32 r184) rfl (y_load T11.one_34 rfl (hR183.cell (i := 0) rfl)) ?_
          refine s_y (v := .float .f32 r67) rfl (y_move rfl) ?_
          have hk186 : ¬ (flt .f32 (el (trL v8 v9 vb10 Z14 Z18 (Z42, Z46, Z50) (fun F => pkS F.1) (qtV v8 v9 vb10 Z14 Z18 (Z42, Z46, Z50) (fop .quo .f32 (FloatKind.nearest .f32 v63) 1082130432) 6)) k) (fop .quo .f32 (FloatKind.nearest .f32 v63) 1082130432) = true) := (qt_before c75 (by omega) (by omega))
          refine s_y (v := .bool false) rfl (y_flss rfl rfl (fltC hr185 hc71 (Bool.eq_false_iff.2 hk186))) ?_
          refine s_nil ?_
          refine W_if_f (by decide) rfl ?_
          refine W_skip ?_
          refine W_region (by kernel_rfl) ?_
          refine s_y (v := .int .i64 k) rfl (y_move rfl) ?_
          refine s_y (v := .int .i64 (k + 1)) rfl (y_add rfl rfl rfl (by omega)) ?_
          refine s_y (v := .int .i64 (k + 1)) rfl (y_assign rfl) ?_
          refine s_nil ?_
          refine ⟨⟨_, k + 1, Fits.eq ⟨rfl, rfl, rfl, rfl, trivial⟩, B, (by omega), (by omega)⟩, ?_⟩
          show (qtV v8 v9 vb10 Z14 Z18 (Z42, Z46, Z50) (fop .quo .f32 (FloatKind.nearest .f32 v63) 1082130432) 6 - (k + 1)).toNat < (qtV v8 v9 vb10 Z14 Z18 (Z42, Z46, Z50) (fop .quo .f32 (FloatKind.nearest .f32 v63) 1082130432) 6 - k).toNat
          omega
        · refine s_y (v := .bool false) rfl (y_lss rfl rfl (decide_eq_false c182)) ?_
          refine s_nil ?_
          refine W_if_f (by decide) rfl ?_
          refine W_exit ?_
          refine W_seq ?_
          refine W_region (by kernel_rfl) ?_
          refine s_y (v := .int .i64 (qtV v8 v9 vb10 Z14 Z18 (Z42, Z46, Z50) (fop .quo .f32 (FloatKind.nearest .f32 v63) 1082130432) 6)) rfl (y_move rfl) ?_
          by_cases c187 : (qtV v8 v9 vb10 Z14 Z18 (Z42, Z46, Z50) (fop .quo .f32 (FloatKind.nearest .f32 v63) 1082130432) 6) = 0
          · refine s_y (v := .bool true) rfl (y_eql rfl rfl (decide_eq_true c187)) ?_
            refine s_y (v := .bool true) rfl (y_move rfl) ?_
            refine s_skip rfl ?_
            refine s_skip rfl ?_
            refine s_skip rfl ?_
            refine s_skip rfl ?_
            refine s_skip rfl ?_
            refine s_skip rfl ?_
            refine s_skip rfl ?_
            refine s_y (v := .bool true) rfl (y_pick_t rfl rfl) ?_
            refine s_y (v := .bool true) rfl (y_assign rfl) ?_
            refine s_nil ?_
            refine W_ret ?_
            refine ret1 (v := .bool true) rfl rfl rfl ⟨_, rfl, ?_⟩
            exact ⟨rfl, B.ext⟩
          · refine s_y (v := .bool false) rfl (y_eql rfl rfl (decide_eq_false c187)) ?_
            refine s_y (v := .bool false) rfl (y_move rfl) ?_
            refine s_y (v := .slice a174 (Int.toNat (qtV v8 v9 vb10 Z14 Z18 (Z42, Z46, Z50) (fop .quo .f32 (FloatKind.nearest .f32 v63) 1082130432) 6)) c175) rfl (y_move rfl) ?_
            refine s_y (v := .int .i64 (qtV v8 v9 vb10 Z14 Z18 (Z42, Z46, Z50) (fop .quo .f32 (FloatKind.nearest .f32 v63) 1082130432) 6)) rfl (y_move rfl) ?_
            refine s_y (v := .int .i64 ((qtV v8 v9 vb10 Z14 Z18 (Z42, Z46, Z50) (fop .quo .f32 (FloatKind.nearest .f32 v63) 1082130432) 6) - 1)) rfl (y_sub rfl rfl rfl (by omega)) ?_
            refine s_y (v := .pointer (some (sat a174 (((qtV v8 v9 vb10 Z14 Z18 (Z42, Z46, Z50) (fop .quo .f32 (FloatKind.nearest .f32 v63) 1082130432) 6) - 1).toNat * 1)))) rfl (y_idx T11.sl_24_34_1 rfl rfl ((B.o 0 rfl).rd.addr (by omega)) (by omega) (by omega)) ?_
            obtain ⟨r189, hr190, hR188⟩ := Rd.atF (B.o 0 rfl).rd ((qtV v8 v9 vb10 Z14 Z18 (Z42, Z46, Z50) (fop .quo .f32 (FloatKind.nearest .f32 v63) 1082130432) 6) - 1) (by omega) (by omega)
            refine s_y (v := .float .f32 r189) rfl (y_load T11.one_34 rfl (hR188.cell (i := 0) rfl)) ?_
            refine s_y (v := .float .f32 r67) rfl (y_move rfl) ?_
            have hk191 : flt .f32 (el (trL v8 v9 vb10 Z14 Z18 (Z42, Z46, Z50) (fun F => pkS F.1) (qtV v8 v9 vb10 Z14 Z18 (Z42, Z46, Z50) (fop .quo .f32 (FloatKind.nearest .f32 v63) 1082130432) 6)) ((qtV v8 v9 vb10 Z14 Z18 (Z42, Z46, Z50) (fop .quo .f32 (FloatKind.nearest .f32 v63) 1082130432) 6) - 1)) (fop .quo .f32 (FloatKind.nearest .f32 v63) 1082130432) = true := (qt_at c75 (by omega))
            refine s_y (v := .bool true) rfl (y_flss rfl rfl (fltC hr190 hc71 hk191)) ?_
            refine s_y (v := .bool true) rfl (y_pick_f rfl rfl) ?_
            refine s_y (v := .bool true) rfl (y_assign rfl) ?_
            refine s_nil ?_
            refine W_ret ?_
            refine ret1 (v := .bool true) rfl rfl rfl ⟨_, rfl, ?_⟩
            exact ⟨rfl, B.ext⟩
    · obtain ⟨_, rfl, e192⟩ := hx73.resolve_left (fun hz => c75 hz.1)
      clear hx73
      replace B := B.ext0 e192
      clear e192
      refine s_y (v := .tuple #[.int .i64 0, .bool false]) rfl (y_move rfl) ?_
      refine s_y (v := .int .i64 0) rfl (y_extract rfl rfl) ?_
      refine s_y (v := .bool false) rfl (y_extract rfl rfl) ?_
      refine s_y (v := .int .i64 0) rfl (y_assign rfl) ?_
      refine s_y (v := .bool false) rfl (y_assign rfl) ?_
      refine s_nil ?_
      refine W_seq ?_
      refine W_region (by kernel_rfl) ?_
      refine s_y (v := .agg #[.int .i64 v8, .int .i64 v9, .bool vb10, .slice a11 c12 c13, .slice a15 c16 c17]) rfl (y_loadn (b := b32) (o := 0) (vs := [.int .i64 v8, .int .i64 v9, .bool vb10, .slice a11 c12 c13, .slice a15 c16 c17]) T11.agg_26_5 rfl rfl ((B.b 4 rfl).cells (o := 0) rfl)) ?_
      refine s_y (v := .agg #[.slice a39 c40 c41, .slice a43 c44 c45, .slice a47 c48 c49]) rfl (y_loadn (b := b56) (o := 0) (vs := [.slice a39 c40 c41, .slice a43 c44 c45, .slice a47 c48 c49]) T11.agg_30_3 rfl rfl ((B.b 0 rfl).cells (o := 0) rfl)) ?_
      refine s_y (v := .float .f32 r67) rfl (y_move rfl) ?_
      refine s_k rfl (k_call T11.fn_59 (c_s_QuietAfter ((B.o 5 rfl).rd) ((B.o 6 rfl).rd) ((B.o 1 rfl).rd) ((B.o 2 rfl).rd) ((B.o 3 rfl).rd) hc71 (by first | exact lenle (by assumption) | exact lenle6 (by assumption) | omega) (by first | exact lenle (by assumption) | exact lenle6 (by assumption) | omega) (by first | exact lenle (by assumption) | exact lenle6 (by assumption) | omega) (by first | exact lenle (by assumption) | exact lenle6 (by assumption) | omega) (by first | exact lenle (by assumption) | exact lenle6 (by assumption) | omega)) rfl ?_)
      rintro v195 w193 hx194
      obtain ⟨_, rfl, e196⟩ := hx194.resolve_left (fun hz => c75 hz.1)
      clear hx194
      replace B := B.ext0 e196
      clear e196
      refine s_y (v := .tuple #[.int .i64 0, .bool false]) rfl (y_move rfl) ?_
      refine s_y (v := .int .i64 0) rfl (y_extract rfl rfl) ?_
      refine s_y (v := .bool false) rfl (y_extract rfl rfl) ?_
      refine s_y (v := .int .i64 0) rfl (y_assign rfl) ?_
      refine s_y (v := .bool false) rfl (y_assign rfl) ?_
      refine s_nil ?_
      refine W_seq ?_
      have B0_201 := B
      refine W_draw (no) T11.mx (by kernel_rfl) (fun w199 e200 => ?_)
      have R202 := Ext.refl (no) w193
      replace R202 := R202.trans (Ext0.any e200)
      replace B := B.ext0 e200
      clear e200
      refine m_y (v := .agg #[.int .i64 v8, .int .i64 v9, .bool vb10, .slice a11 c12 c13, .slice a15 c16 c17]) 0 rfl (by kernel_rfl) rfl rfl (fun w' e' => y_loadn (b := b32) (o := 0) (vs := [.int .i64 v8, .int .i64 v9, .bool vb10, .slice a11 c12 c13, .slice a15 c16 c17]) T11.agg_26_5 rfl rfl (((B0_201.b 4 rfl).ext0 e').cells (o := 0) rfl)) ?_
      refine m_y (v := .agg #[.slice a39 c40 c41, .slice a43 c44 c45, .slice a47 c48 c49]) 1 rfl (by kernel_rfl) rfl rfl (fun w' e' => y_loadn (b := b56) (o := 0) (vs := [.slice a39 c40 c41, .slice a43 c44 c45, .slice a47 c48 c49]) T11.agg_30_3 rfl rfl (((B0_201.b 0 rfl).ext0 e').cells (o := 0) rfl)) ?_
      refine m_y (v := .slice a1 n1 c1) 2 rfl (by kernel_rfl) rfl rfl (fun w' e' => y_move rfl) ?_
      refine m_y (v := .pointer (some ⟨b32, 1, none⟩)) 3 rfl (by kernel_rfl) rfl rfl (fun w' e' => y_fld (o := 0) T11.fld_26_1_1 rfl) ?_
      refine m_y (v := .int .i64 v9) 4 rfl (by kernel_rfl) rfl rfl (fun w' e' => y_load T11.one_2 rfl (((B0_201.b 4 rfl).ext0 e').cell (j := 1) rfl)) ?_
      refine m_k 5 [6, 7, 8, 9, 10, 11] rfl (by kernel_rfl) rfl rfl (fun w203 e204 => ?_)
      replace R202 := R202.trans (Ext0.any e204)
      replace B := B.ext0 e204
      clear e204
      refine k_call T11.fn_14 (c_l_b10At (B.r 8 rfl) (by omega) (by omega) (by omega) (by first | exact lenle (by assumption) | exact lenle6 (by assumption) | omega)) rfl ?_
      rintro _ w205 ⟨v207, rfl, hp208, e206⟩
      replace R202 := R202.trans (Ext0.any e206)
      replace B := B.ext0 e206
      clear e206
      refine ⟨fun _ => R202, ?_⟩
      have hb209 := b10A_b X1 (show 1 ≤ v9 by omega) (show 0 ≤ 1 by omega)
      rw [← hp208] at hb209
      refine m_k 6 [7, 8, 9, 10, 11] rfl (by kernel_rfl) rfl rfl (fun w210 e211 => ?_)
      replace R202 := R202.trans (Ext0.any e211)
      replace B := B.ext0 e211
      clear e211
      refine k_call T11.fn_60 (c_i_RowOf ((B.o 5 rfl).rd) ((B.o 6 rfl).rd) ((B.o 1 rfl).rd) ((B.o 2 rfl).rd) ((B.o 3 rfl).rd) (by first | exact lenle (by assumption) | exact lenle6 (by assumption) | omega) (by first | exact lenle (by assumption) | exact lenle6 (by assumption) | omega) (by first | exact lenle (by assumption) | exact lenle6 (by assumption) | omega) (by first | exact lenle (by assumption) | exact lenle6 (by assumption) | omega) (by first | exact lenle (by assumption) | exact lenle6 (by assumption) | omega) ((B.o 1 rfl).cap)) rfl ?_
      rintro v214 w212 hx213
      have hk215 : rowB v8 v9 vb10 Z14 Z18 Z42 Z46 Z50 v207 = true := (rowB_yes hp51 (by omega) (by omega))
      have hb216 := rowB_b hk215
      obtain ⟨a217, c218, rfl, hN219⟩ := (hx213.resolve_right (fun hz => by rw [hk215] at hz; cases hz.1)).2
      clear hx213
      replace R202 := R202.trans (Ext0.any hN219.ext)
      replace B := B.new1 hN219
      clear hN219
      refine ⟨fun _ => R202, ?_⟩
      refine m_y (v := .tuple #[.slice a217 v8.toNat c218, .bool true]) 7 rfl (by kernel_rfl) rfl rfl (fun w' e' => y_move rfl) ?_
      refine m_y (v := .slice a217 v8.toNat c218) 8 rfl (by kernel_rfl) rfl rfl (fun w' e' => y_extract rfl rfl) ?_
      refine m_y (v := .bool true) 9 rfl (by kernel_rfl) rfl rfl (fun w' e' => y_extract rfl rfl) ?_
      refine m_y (v := .slice a217 v8.toNat c218) 10 rfl (by kernel_rfl) rfl rfl (fun w' e' => y_assign rfl) ?_
      refine m_y (v := .bool true) 11 rfl (by kernel_rfl) rfl rfl (fun w' e' => y_assign rfl) ?_
      refine m_done (by kernel_rfl) (fun w220 e221 => ?_)
      replace B := B.ext0 e221
      clear e221
      clear B0_201 R202
      refine W_seq ?_
      have B0_226 := B
      refine W_draw (no) T11.mx (by kernel_rfl) (fun w224 e225 => ?_)
      have R227 := Ext.refl (no) w220
      replace R227 := R227.trans (Ext0.any e225)
      replace B := B.ext0 e225
      clear e225
      refine m_y (v := .agg #[.int .i64 v8, .int .i64 v9, .bool vb10, .slice a11 c12 c13, .slice a15 c16 c17]) 0 rfl (by kernel_rfl) rfl rfl (fun w' e' => y_loadn (b := b32) (o := 0) (vs := [.int .i64 v8, .int .i64 v9, .bool vb10, .slice a11 c12 c13, .slice a15 c16 c17]) T11.agg_26_5 rfl rfl (((B0_226.b 5 rfl).ext0 e').cells (o := 0) rfl)) ?_
      refine m_y (v := .agg #[.slice a39 c40 c41, .slice a43 c44 c45, .slice a47 c48 c49]) 1 rfl (by kernel_rfl) rfl rfl (fun w' e' => y_loadn (b := b56) (o := 0) (vs := [.slice a39 c40 c41, .slice a43 c44 c45, .slice a47 c48 c49]) T11.agg_30_3 rfl rfl (((B0_226.b 1 rfl).ext0 e').cells (o := 0) rfl)) ?_
      refine m_y (v := .slice a1 n1 c1) 2 rfl (by kernel_rfl) rfl rfl (fun w' e' => y_move rfl) ?_
      refine m_y (v := .pointer (some ⟨b32, 0, none⟩)) 3 rfl (by kernel_rfl) rfl rfl (fun w' e' => y_fld (o := 0) T11.fld_26_0_0 rfl) ?_
      refine m_y (v := .int .i64 v8) 4 rfl (by kernel_rfl) rfl rfl (fun w' e' => y_load T11.one_2 rfl (((B0_226.b 5 rfl).ext0 e').cell (j := 0) rfl)) ?_
      refine m_k 5 [6, 7, 8, 9, 10, 11] rfl (by kernel_rfl) rfl rfl (fun w228 e229 => ?_)
      replace R227 := R227.trans (Ext0.any e229)
      replace B := B.ext0 e229
      clear e229
      refine k_call T11.fn_14 (c_l_b10At (B.r 9 rfl) (by omega) (by omega) (by omega) (by first | exact lenle (by assumption) | exact lenle6 (by assumption) | omega)) rfl ?_
      rintro _ w230 ⟨v232, rfl, hp233, e231⟩
      replace R227 := R227.trans (Ext0.any e231)
      replace B := B.ext0 e231
      clear e231
      refine ⟨fun _ => R227, ?_⟩
      have hb234 := b10A_b X1 (show 1 ≤ v8 by omega) (show 0 ≤ 2 by omega)
      rw [← hp233] at hb234
      refine m_k 6 [7, 8, 9, 10, 11] rfl (by kernel_rfl) rfl rfl (fun w235 e236 => ?_)
      replace R227 := R227.trans (Ext0.any e236)
      replace B := B.ext0 e236
      clear e236
      refine k_call T11.fn_61 (c_i_ColumnOf ((B.o 6 rfl).rd) ((B.o 7 rfl).rd) ((B.o 2 rfl).rd) ((B.o 3 rfl).rd) ((B.o 4 rfl).rd) (by first | exact lenle (by assumption) | exact lenle6 (by assumption) | omega) (by first | exact lenle (by assumption) | exact lenle6 (by assumption) | omega) (by first | exact lenle (by assumption) | exact lenle6 (by assumption) | omega) (by first | exact lenle (by assumption) | exact lenle6 (by assumption) | omega) (by first | exact lenle (by assumption) | exact lenle6 (by assumption) | omega)) rfl ?_
      rintro v239 w237 hx238
      have hk240 : colB v8 v9 vb10 Z14 Z18 Z42 Z46 Z50 v232 = true := (colB_yes hp51 (by omega) (by omega))
      have hb241 := colB_b hk240
      obtain ⟨a242, c243, rfl, hN244⟩ := (hx238.resolve_right (fun hz => by rw [hk240] at hz; cases hz.1)).2
      clear hx238
      replace R227 := R227.trans (Ext0.any hN244.ext)
      replace B := B.new1 hN244
      clear hN244
      refine ⟨fun _ => R227, ?_⟩
      refine m_y (v := .tuple #[.slice a242 v9.toNat c243, .bool true]) 7 rfl (by kernel_rfl) rfl rfl (fun w' e' => y_move rfl) ?_
      refine m_y (v := .slice a242 v9.toNat c243) 8 rfl (by kernel_rfl) rfl rfl (fun w' e' => y_extract rfl rfl) ?_
      refine m_y (v := .bool true) 9 rfl (by kernel_rfl) rfl rfl (fun w' e' => y_extract rfl rfl) ?_
      refine m_y (v := .slice a242 v9.toNat c243) 10 rfl (by kernel_rfl) rfl rfl (fun w' e' => y_assign rfl) ?_
      refine m_y (v := .bool true) 11 rfl (by kernel_rfl) rfl rfl (fun w' e' => y_assign rfl) ?_
      refine m_done (by kernel_rfl) (fun w245 e246 => ?_)
      replace B := B.ext0 e246
      clear e246
      clear B0_226 R227
      refine W_seq ?_
      refine W_seq ?_
      have B0_251 := B
      refine W_draw (no) T11.mx (by kernel_rfl) (fun w249 e250 => ?_)
      have R252 := Ext.refl (no) w245
      replace R252 := R252.trans (Ext0.any e250)
      replace B := B.ext0 e250
      clear e250
      refine m_y (v := .bool false) 0 rfl (by kernel_rfl) rfl rfl (fun w' e' => y_move rfl) ?_
      refine m_y (v := .bool false) 1 rfl (by kernel_rfl) rfl rfl (fun w' e' => y_move rfl) ?_
      refine m_y (v := .bool false) 2 rfl (by kernel_rfl) rfl rfl (fun w' e' => y_bneq T11.bool_4 rfl rfl rfl) ?_
      refine m_y (v := .bool false) 3 rfl (by kernel_rfl) rfl rfl (fun w' e' => y_move rfl) ?_
      refine m_y (v := .bool true) 4 rfl (by kernel_rfl) rfl rfl (fun w' e' => y_move rfl) ?_
      refine m_y (v := .bool false) 5 rfl (by kernel_rfl) rfl rfl (fun w' e' => y_not rfl rfl) ?_
      refine m_y (v := .bool false) 6 rfl (by kernel_rfl) rfl rfl (fun w' e' => y_pick_f rfl rfl) ?_
      refine m_y (v := .bool false) 7 rfl (by kernel_rfl) rfl rfl (fun w' e' => y_move rfl) ?_
      refine m_y (v := .bool true) 8 rfl (by kernel_rfl) rfl rfl (fun w' e' => y_move rfl) ?_
      refine m_y (v := .bool false) 9 rfl (by kernel_rfl) rfl rfl (fun w' e' => y_not rfl rfl) ?_
      refine m_y (v := .bool false) 10 rfl (by kernel_rfl) rfl rfl (fun w' e' => y_pick_f rfl rfl) ?_
      refine m_y (v := .bool false) 11 rfl (by kernel_rfl) rfl rfl (fun w' e' => y_move rfl) ?_
      refine m_y (v := .slice a217 v8.toNat c218) 12 rfl (by kernel_rfl) rfl rfl (fun w' e' => y_move rfl) ?_
      refine m_y (v := .int .i64 ((v8.toNat : Nat) : Int)) 13 rfl (by kernel_rfl) rfl rfl (fun w' e' => y_len T11.sl_24_34_1 rfl rfl) ?_
      refine m_y (v := .pointer (some ⟨b32, 0, none⟩)) 14 rfl (by kernel_rfl) rfl rfl (fun w' e' => y_fld (o := 0) T11.fld_26_0_0 rfl) ?_
      refine m_y (v := .int .i64 v8) 15 rfl (by kernel_rfl) rfl rfl (fun w' e' => y_load T11.one_2 rfl (((B0_251.b 6 rfl).ext0 e').cell (j := 0) rfl)) ?_
      have hk253 : ¬ (((v8.toNat : Nat) : Int) ≠ v8) := (by omega)
      refine m_y (v := .bool false) 16 rfl (by kernel_rfl) rfl rfl (fun w' e' => y_neq rfl rfl (decide_eq_false hk253)) ?_
      refine m_y (v := .bool false) 17 rfl (by kernel_rfl) rfl rfl (fun w' e' => y_pick_f rfl rfl) ?_
      refine m_y (v := .bool false) 18 rfl (by kernel_rfl) rfl rfl (fun w' e' => y_move rfl) ?_
      refine m_y (v := .slice a242 v9.toNat c243) 19 rfl (by kernel_rfl) rfl rfl (fun w' e' => y_move rfl) ?_
      refine m_y (v := .int .i64 ((v9.toNat : Nat) : Int)) 20 rfl (by kernel_rfl) rfl rfl (fun w' e' => y_len T11.sl_24_34_1 rfl rfl) ?_
      refine m_y (v := .pointer (some ⟨b32, 1, none⟩)) 21 rfl (by kernel_rfl) rfl rfl (fun w' e' => y_fld (o := 0) T11.fld_26_1_1 rfl) ?_
      refine m_y (v := .int .i64 v9) 22 rfl (by kernel_rfl) rfl rfl (fun w' e' => y_load T11.one_2 rfl (((B0_251.b 6 rfl).ext0 e').cell (j := 1) rfl)) ?_
      have hk254 : ¬ (((v9.toNat : Nat) : Int) ≠ v9) := (by omega)
      refine m_y (v := .bool false) 23 rfl (by kernel_rfl) rfl rfl (fun w' e' => y_neq rfl rfl (decide_eq_false hk254)) ?_
      refine m_y (v := .bool false) 24 rfl (by kernel_rfl) rfl rfl (fun w' e' => y_pick_f rfl rfl) ?_
      refine m_y (v := .bool false) 25 rfl (by kernel_rfl) rfl rfl (fun w' e' => y_move rfl) ?_
      refine m_y (v := .slice a217 v8.toNat c218) 26 rfl (by kernel_rfl) rfl rfl (fun w' e' => y_move rfl) ?_
      refine m_y (v := .slice a1 n1 c1) 27 rfl (by kernel_rfl) rfl rfl (fun w' e' => y_move rfl) ?_
      refine m_y (v := .pointer (some ⟨b32, 0, none⟩)) 28 rfl (by kernel_rfl) rfl rfl (fun w' e' => y_fld (o := 0) T11.fld_26_0_0 rfl) ?_
      refine m_y (v := .int .i64 v8) 29 rfl (by kernel_rfl) rfl rfl (fun w' e' => y_load T11.one_2 rfl (((B0_251.b 6 rfl).ext0 e').cell (j := 0) rfl)) ?_
      refine m_y (v := .slice a242 v9.toNat c243) 33 rfl (by kernel_rfl) rfl rfl (fun w' e' => y_move rfl) ?_
      refine m_y (v := .slice a1 n1 c1) 34 rfl (by kernel_rfl) rfl rfl (fun w' e' => y_move rfl) ?_
      refine m_y (v := .pointer (some ⟨b32, 1, none⟩)) 35 rfl (by kernel_rfl) rfl rfl (fun w' e' => y_fld (o := 0) T11.fld_26_1_1 rfl) ?_
      refine m_y (v := .int .i64 v9) 36 rfl (by kernel_rfl) rfl rfl (fun w' e' => y_load T11.one_2 rfl (((B0_251.b 6 rfl).ext0 e').cell (j := 1) rfl)) ?_
      refine m_k 30 [31, 32, 37, 38, 39, 40, 41, 42] rfl (by kernel_rfl) rfl rfl (fun w255 e256 => ?_)
      replace R252 := R252.trans (Ext0.any e256)
      replace B := B.ext0 e256
      clear e256
      refine k_call T11.fn_14 (c_l_b10At (B.r 10 rfl) (by omega) (by omega) (by omega) (by first | exact lenle (by assumption) | exact lenle6 (by assumption) | omega)) rfl ?_
      rintro _ w257 ⟨v259, rfl, hp260, e258⟩
      replace R252 := R252.trans (Ext0.any e258)
      replace B := B.ext0 e258
      clear e258
      refine ⟨fun _ => R252, ?_⟩
      have hb261 := b10A_b X1 (show 1 ≤ v8 by omega) (show 0 ≤ 2 by omega)
      rw [← hp260] at hb261
      obtain rfl : v232 = v259 := hp233.trans hp260.symm
      refine m_y (v := .pointer (some (sat a217 ((v232).toNat * 1)))) 31 rfl (by kernel_rfl) rfl rfl (fun w' e' => y_idx T11.sl_24_34_1 rfl rfl ((B.o 1 rfl).rd.addr (by omega)) (by omega) (by omega)) ?_
      obtain ⟨r263, hr264, hR262⟩ := Rd.atF (B0_251.o 1 rfl).rd v232 (by omega) (by omega)
      refine m_y (v := .float .f32 r263) 32 rfl (by kernel_rfl) rfl rfl (fun w' e' => y_load T11.one_34 rfl ((hR262.ext0 e').cell (i := 0) rfl)) ?_
      refine m_k 37 [38, 39, 40, 41, 42] rfl (by kernel_rfl) rfl rfl (fun w265 e266 => ?_)
      replace R252 := R252.trans (Ext0.any e266)
      replace B := B.ext0 e266
      clear e266
      refine k_call T11.fn_14 (c_l_b10At (B.r 10 rfl) (by omega) (by omega) (by omega) (by first | exact lenle (by assumption) | exact lenle6 (by assumption) | omega)) rfl ?_
      rintro _ w267 ⟨v269, rfl, hp270, e268⟩
      replace R252 := R252.trans (Ext0.any e268)
      replace B := B.ext0 e268
      clear e268
      refine ⟨fun _ => R252, ?_⟩
      have hb271 := b10A_b X1 (show 1 ≤ v9 by omega) (show 0 ≤ 1 by omega)
      rw [← hp270] at hb271
      obtain rfl : v207 = v269 := hp208.trans hp270.symm
      refine m_y (v := .pointer (some (sat a242 ((v207).toNat * 1)))) 38 rfl (by kernel_rfl) rfl rfl (fun w' e' => y_idx T11.sl_24_34_1 rfl rfl ((B.o 0 rfl).rd.addr (by omega)) (by omega) (by omega)) ?_
      obtain ⟨r273, hr274, hR272⟩ := Rd.atF (B0_251.o 0 rfl).rd v207 (by omega) (by omega)
      refine m_y (v := .float .f32 r273) 39 rfl (by kernel_rfl) rfl rfl (fun w' e' => y_load T11.one_34 rfl ((hR272.ext0 e').cell (i := 0) rfl)) ?_
      refine m_k 40 [41, 42] rfl (by kernel_rfl) rfl rfl (fun w275 e276 => ?_)
      replace R252 := R252.trans (Ext0.any e276)
      replace B := B.ext0 e276
      clear e276
      refine k_call T11.fn_21 (c_s_SameNumber hr264 hr274) rfl ?_
      rintro v279 w277 ⟨hv280, e278⟩
      replace R252 := R252.trans (Ext0.any e278)
      replace B := B.ext0 e278
      clear e278
      refine ⟨fun _ => R252, ?_⟩
      have hk281 : decide (bitN (el (rowS v8 Z42 v207) v232) = bitN (el (colS v8 v9 Z42 v232) v207)) = true := (decide_eq_true (congrArg bitN (row_col (by omega) (by omega) (by omega) (by omega))))
      obtain rfl : v279 = .bool true := hv280.trans (congrArg Value.bool hk281)
      refine m_y (v := .bool false) 41 rfl (by kernel_rfl) rfl rfl (fun w' e' => y_not rfl rfl) ?_
      refine m_y (v := .bool false) 42 rfl (by kernel_rfl) rfl rfl (fun w' e' => y_pick_f rfl rfl) ?_
      refine m_done (by kernel_rfl) (fun w282 e283 => ?_)
      replace B := B.ext0 e283
      clear e283
      clear B0_251 R252
      refine W_if_f (by decide) rfl ?_
      refine W_skip ?_
      refine W_seq ?_
      refine W_seq ?_
      refine W_region (by kernel_rfl) ?_
      refine s_y (v := .bool false) rfl (y_move rfl) ?_
      refine s_y (v := .bool true) rfl (y_not rfl rfl) ?_
      refine s_nil ?_
      refine W_if_t (by decide) rfl ?_
      refine W_seq ?_
      refine W_region (by kernel_rfl) ?_
      refine s_y (v := .bool true) rfl (y_assign rfl) ?_
      refine s_nil ?_
      refine W_ret ?_
      refine ret1 (v := .bool true) rfl rfl rfl ⟨_, rfl, ?_⟩
      exact ⟨rfl, B.ext⟩
end Go.Proofs.Ytgohmocjjmkepaa
