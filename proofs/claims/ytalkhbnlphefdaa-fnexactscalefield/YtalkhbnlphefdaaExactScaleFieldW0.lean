/- Walks: what the functions under FnExactScaleField do (part 1). Printed by a program of this claim's author. -/
import Derived.Test.YtalkhbnlphefdaaBw1
set_option linter.unusedSimpArgs false
set_option linter.unusedVariables false
open Go.Wv
namespace Go.Proofs.Ytalkhbnlphefdaa
open Go.Proofs
namespace T86
theorem mx : Try.prog.follows .mixedOrders = true := by kernel_rfl
theorem agg_49_3 : aggB Try.prog 49 3 = true := by kernel_rfl
theorem fld_49_0_0 : fldB Try.prog 49 0 0 = true := by kernel_rfl
theorem fld_49_1_1 : fldB Try.prog 49 1 1 = true := by kernel_rfl
theorem fld_49_2_2 : fldB Try.prog 49 2 2 = true := by kernel_rfl
theorem one_24 : oneB Try.prog 24 = true := by kernel_rfl
theorem slt_24 : SlT Try.prog 24 56 1 4 (.float .f32 0) := ⟨by kernel_rfl, by kernel_rfl, rfl, by decide⟩
theorem sz_24_1 : szB Try.prog 24 1 = true := by kernel_rfl
theorem sz_49_3 : szB Try.prog 49 3 = true := by kernel_rfl
theorem zero_49 : zeroB Try.prog 49 (.agg #[.slice none 0 0, .slice none 0 0, .slice none 0 0]) := by unfold zeroB; kernel_rfl
end T86
set_option maxRecDepth 100000 in
set_option maxHeartbeats 4000000 in
theorem c_s_l02Own {b : Nat} {o : Nat} {afe : Option Addr} {nfe : Nat} {cfe : Nat} {Xfe : List Nat} {afx : Option Addr} {nfx : Nat} {cfx : Nat} {Xfx : List Nat} {afy : Option Addr} {nfy : Nat} {cfy : Nat} {Xfy : List Nat} {w : World} (qfe : Rd w kF afe nfe Xfe) (qfx : Rd w kF afx nfx Xfx) (qfy : Rd w kF afy nfy Xfy) (Pb : Sl w (some ⟨b, o, none⟩) [.slice afe nfe cfe, .slice afx nfx cfx, .slice afy nfy cfy]) (b1 : nfe ≤ 1048576) (b2 : nfx ≤ 1048576) (b3 : nfy ≤ 1048576) :
    Calls Try.prog 86 #[.pointer (some ⟨b, o, none⟩)] w (Rt fun v w' => ∃ (a1 : Option Addr) (c1 : Nat) (a2 : Option Addr) (c2 : Nat) (a3 : Option Addr) (c3 : Nat), v = .agg #[.slice a1 nfe c1, .slice a2 nfx c2, .slice a3 nfy c3] ∧ New w w' [.ow kF a1 nfe c1 56 Xfe, .ow kF a2 nfx c2 56 Xfx, .ow kF a3 nfy c3 56 Xfy]) := by
  have hlfe := qfe.len
  have hlfx := qfx.len
  have hlfy := qfy.len
  have B : Bu w no w [.rd kF afe nfe Xfe, .rd kF afx nfx Xfx, .rd kF afy nfy Xfy, .sl (some ⟨b, o, none⟩) [.slice afe nfe cfe, .slice afx nfx cfx, .slice afy nfy cfy]] := Bu.ro (All.cons qfe (All.cons qfx (All.cons qfy (All.cons Pb All.nil)))) rfl
  refine calls_W (n := 26) Try.func86 rfl rfl (Nat.le_of_ble_eq_true rfl) ?_
  refine W_seq ?_
  refine W_region (by kernel_rfl) ?_
  refine s_k rfl (k_allocN (z := (.agg #[.slice none 0 0, .slice none 0 0, .slice none 0 0])) (cs := [.slice none 0 0, .slice none 0 0, .slice none 0 0]) T86.zero_49 rfl (fun b1 w2 hN3 => ?_))
  replace B := B.new1 hN3
  clear hN3
  refine s_nil ?_
  refine W_seq ?_
  refine W_region (by kernel_rfl) ?_
  refine s_k rfl (k_bsliceO (k := kF) (n := 0) (cells := #[]) (X := []) T86.slt_24 (by decide) (by first | rfl | kernel_rfl) (rfl : Reps kF [] []) rfl (fun b4 w5 hN6 => ?_))
  replace B := B.new1 hN6
  clear hN6
  refine s_y (v := .pointer (some ⟨b, o, none⟩)) rfl (y_move rfl) ?_
  refine s_y (v := .pointer (some ⟨b, o, none⟩)) rfl (y_nil rfl) ?_
  refine s_y (v := .pointer (some ⟨b, o, none⟩)) rfl (y_fld (o := o + 0) T86.fld_49_0_0 rfl) ?_
  refine s_y (v := .slice afe nfe cfe) rfl (y_load T86.one_24 rfl ((B.s 5 rfl).cell (j := 0) rfl)) ?_
  refine s_k rfl (k_appO (k := kF) T86.slt_24 rfl rfl rfl (B.o 0 rfl) (B.r 2 rfl) (by omega) (by unfold maxLen; omega) (fun a7 c8 w9 hU10 => ?_))
  replace B : Bu w no w9 [.ow kF a7 (0 + nfe) c8 56 (([] : List Nat) ++ Xfe), .blk b1 [.slice none 0 0, .slice none 0 0, .slice none 0 0] 49, .rd kF afe nfe Xfe, .rd kF afx nfx Xfx, .rd kF afy nfy Xfy, .sl (some ⟨b, o, none⟩) [.slice afe nfe cfe, .slice afx nfx cfx, .slice afy nfy cfy]] := B.upd [0] rfl hU10
  clear hU10
  refine s_y (v := .agg #[.slice a7 (0 + nfe) c8, .slice none 0 0, .slice none 0 0]) rfl (y_build (cells := #[.slice a7 (0 + nfe) c8, .slice none 0 0, .slice none 0 0]) (by kernel_rfl)) ?_
  refine s_k rfl (k_allocN (z := (.agg #[.slice none 0 0, .slice none 0 0, .slice none 0 0])) (cs := [.slice none 0 0, .slice none 0 0, .slice none 0 0]) T86.zero_49 rfl (fun b11 w12 hN13 => ?_))
  replace B := B.new1 hN13
  clear hN13
  refine s_k0 rfl (k_stB (v := .agg #[.slice a7 (0 + nfe) c8, .slice none 0 0, .slice none 0 0]) (n := 3) (cs' := [.slice a7 (0 + nfe) c8, .slice none 0 0, .slice none 0 0]) T86.sz_49_3 rfl rfl rfl (B.b 0 rfl) (by simp [Value.cells, Value.oneCell']) (Nat.le_of_ble_eq_true rfl) rfl (fun w14 hU15 => ?_))
  replace B : Bu w no w14 [.blk b11 [.slice a7 (0 + nfe) c8, .slice none 0 0, .slice none 0 0] 49, .ow kF a7 (0 + nfe) c8 56 (([] : List Nat) ++ Xfe), .blk b1 [.slice none 0 0, .slice none 0 0, .slice none 0 0] 49, .rd kF afe nfe Xfe, .rd kF afx nfx Xfx, .rd kF afy nfy Xfy, .sl (some ⟨b, o, none⟩) [.slice afe nfe cfe, .slice afx nfx cfx, .slice afy nfy cfy]] := B.upd [0] rfl hU15
  clear hU15
  refine s_nil ?_
  refine W_seq ?_
  refine W_region (by kernel_rfl) ?_
  refine s_k rfl (k_bsliceO (k := kF) (n := 0) (cells := #[]) (X := []) T86.slt_24 (by decide) (by first | rfl | kernel_rfl) (rfl : Reps kF [] []) rfl (fun b16 w17 hN18 => ?_))
  replace B := B.new1 hN18
  clear hN18
  refine s_y (v := .pointer (some ⟨b, o, none⟩)) rfl (y_move rfl) ?_
  refine s_y (v := .pointer (some ⟨b, o, none⟩)) rfl (y_nil rfl) ?_
  refine s_y (v := .pointer (some ⟨b, o + 1, none⟩)) rfl (y_fld (o := o + 0) T86.fld_49_1_1 rfl) ?_
  refine s_y (v := .slice afx nfx cfx) rfl (y_load T86.one_24 rfl ((B.s 7 rfl).cell (j := 1) rfl)) ?_
  refine s_k rfl (k_appO (k := kF) T86.slt_24 rfl rfl rfl (B.o 0 rfl) (B.r 5 rfl) (by omega) (by unfold maxLen; omega) (fun a19 c20 w21 hU22 => ?_))
  replace B : Bu w no w21 [.ow kF a19 (0 + nfx) c20 56 (([] : List Nat) ++ Xfx), .blk b11 [.slice a7 (0 + nfe) c8, .slice none 0 0, .slice none 0 0] 49, .ow kF a7 (0 + nfe) c8 56 (([] : List Nat) ++ Xfe), .blk b1 [.slice none 0 0, .slice none 0 0, .slice none 0 0] 49, .rd kF afe nfe Xfe, .rd kF afx nfx Xfx, .rd kF afy nfy Xfy, .sl (some ⟨b, o, none⟩) [.slice afe nfe cfe, .slice afx nfx cfx, .slice afy nfy cfy]] := B.upd [0] rfl hU22
  clear hU22
  refine s_y (v := .pointer (some ⟨b11, 1, none⟩)) rfl (y_fld (o := 0) T86.fld_49_1_1 rfl) ?_
  refine s_k0 rfl (k_stB (v := .slice a19 (0 + nfx) c20) (n := 1) (cs' := [.slice a7 (0 + nfe) c8, .slice a19 (0 + nfx) c20, .slice none 0 0]) T86.sz_24_1 rfl rfl rfl (B.b 1 rfl) (by simp [Value.cells, Value.oneCell']) (Nat.le_of_ble_eq_true rfl) rfl (fun w23 hU24 => ?_))
  replace B : Bu w no w23 [.blk b11 [.slice a7 (0 + nfe) c8, .slice a19 (0 + nfx) c20, .slice none 0 0] 49, .ow kF a19 (0 + nfx) c20 56 (([] : List Nat) ++ Xfx), .ow kF a7 (0 + nfe) c8 56 (([] : List Nat) ++ Xfe), .blk b1 [.slice none 0 0, .slice none 0 0, .slice none 0 0] 49, .rd kF afe nfe Xfe, .rd kF afx nfx Xfx, .rd kF afy nfy Xfy, .sl (some ⟨b, o, none⟩) [.slice afe nfe cfe, .slice afx nfx cfx, .slice afy nfy cfy]] := B.upd [1] rfl hU24
  clear hU24
  refine s_nil ?_
  refine W_seq ?_
  refine W_region (by kernel_rfl) ?_
  refine s_k rfl (k_bsliceO (k := kF) (n := 0) (cells := #[]) (X := []) T86.slt_24 (by decide) (by first | rfl | kernel_rfl) (rfl : Reps kF [] []) rfl (fun b25 w26 hN27 => ?_))
  replace B := B.new1 hN27
  clear hN27
  refine s_y (v := .pointer (some ⟨b, o, none⟩)) rfl (y_move rfl) ?_
  refine s_y (v := .pointer (some ⟨b, o, none⟩)) rfl (y_nil rfl) ?_
  refine s_y (v := .pointer (some ⟨b, o + 2, none⟩)) rfl (y_fld (o := o + 0) T86.fld_49_2_2 rfl) ?_
  refine s_y (v := .slice afy nfy cfy) rfl (y_load T86.one_24 rfl ((B.s 8 rfl).cell (j := 2) rfl)) ?_
  refine s_k rfl (k_appO (k := kF) T86.slt_24 rfl rfl rfl (B.o 0 rfl) (B.r 7 rfl) (by omega) (by unfold maxLen; omega) (fun a28 c29 w30 hU31 => ?_))
  replace B : Bu w no w30 [.ow kF a28 (0 + nfy) c29 56 (([] : List Nat) ++ Xfy), .blk b11 [.slice a7 (0 + nfe) c8, .slice a19 (0 + nfx) c20, .slice none 0 0] 49, .ow kF a19 (0 + nfx) c20 56 (([] : List Nat) ++ Xfx), .ow kF a7 (0 + nfe) c8 56 (([] : List Nat) ++ Xfe), .blk b1 [.slice none 0 0, .slice none 0 0, .slice none 0 0] 49, .rd kF afe nfe Xfe, .rd kF afx nfx Xfx, .rd kF afy nfy Xfy, .sl (some ⟨b, o, none⟩) [.slice afe nfe cfe, .slice afx nfx cfx, .slice afy nfy cfy]] := B.upd [0] rfl hU31
  clear hU31
  refine s_y (v := .pointer (some ⟨b11, 2, none⟩)) rfl (y_fld (o := 0) T86.fld_49_2_2 rfl) ?_
  refine s_k0 rfl (k_stB (v := .slice a28 (0 + nfy) c29) (n := 1) (cs' := [.slice a7 (0 + nfe) c8, .slice a19 (0 + nfx) c20, .slice a28 (0 + nfy) c29]) T86.sz_24_1 rfl rfl rfl (B.b 1 rfl) (by simp [Value.cells, Value.oneCell']) (Nat.le_of_ble_eq_true rfl) rfl (fun w32 hU33 => ?_))
  replace B : Bu w no w32 [.blk b11 [.slice a7 (0 + nfe) c8, .slice a19 (0 + nfx) c20, .slice a28 (0 + nfy) c29] 49, .ow kF a28 (0 + nfy) c29 56 (([] : List Nat) ++ Xfy), .ow kF a19 (0 + nfx) c20 56 (([] : List Nat) ++ Xfx), .ow kF a7 (0 + nfe) c8 56 (([] : List Nat) ++ Xfe), .blk b1 [.slice none 0 0, .slice none 0 0, .slice none 0 0] 49, .rd kF afe nfe Xfe, .rd kF afx nfx Xfx, .rd kF afy nfy Xfy, .sl (some ⟨b, o, none⟩) [.slice afe nfe cfe, .slice afx nfx cfx, .slice afy nfy cfy]] := B.upd [1] rfl hU33
  clear hU33
  refine s_nil ?_
  refine W_seq ?_
  refine W_region (by kernel_rfl) ?_
  refine s_y (v := .agg #[.slice a7 (0 + nfe) c8, .slice a19 (0 + nfx) c20, .slice a28 (0 + nfy) c29]) rfl (y_loadn (b := b11) (o := 0) (vs := [.slice a7 (0 + nfe) c8, .slice a19 (0 + nfx) c20, .slice a28 (0 + nfy) c29]) T86.agg_49_3 rfl rfl ((B.b 0 rfl).cells (o := 0) rfl)) ?_
  refine s_k0 rfl (k_stB (v := .agg #[.slice a7 (0 + nfe) c8, .slice a19 (0 + nfx) c20, .slice a28 (0 + nfy) c29]) (n := 3) (cs' := [.slice a7 (0 + nfe) c8, .slice a19 (0 + nfx) c20, .slice a28 (0 + nfy) c29]) T86.sz_49_3 rfl rfl rfl (B.b 4 rfl) (by simp [Value.cells, Value.oneCell']) (Nat.le_of_ble_eq_true rfl) rfl (fun w34 hU35 => ?_))
  replace B : Bu w no w34 [.blk b1 [.slice a7 (0 + nfe) c8, .slice a19 (0 + nfx) c20, .slice a28 (0 + nfy) c29] 49, .blk b11 [.slice a7 (0 + nfe) c8, .slice a19 (0 + nfx) c20, .slice a28 (0 + nfy) c29] 49, .ow kF a28 (0 + nfy) c29 56 (([] : List Nat) ++ Xfy), .ow kF a19 (0 + nfx) c20 56 (([] : List Nat) ++ Xfx), .ow kF a7 (0 + nfe) c8 56 (([] : List Nat) ++ Xfe), .rd kF afe nfe Xfe, .rd kF afx nfx Xfx, .rd kF afy nfy Xfy, .sl (some ⟨b, o, none⟩) [.slice afe nfe cfe, .slice afx nfx cfx, .slice afy nfy cfy]] := B.upd [4] rfl hU35
  clear hU35
  refine s_nil ?_
  refine W_ret ?_
  refine ret1 (v := .agg #[.slice a7 (0 + nfe) c8, .slice a19 (0 + nfx) c20, .slice a28 (0 + nfy) c29]) rfl rfl ⟨_, [.slice a7 (0 + nfe) c8, .slice a19 (0 + nfx) c20, .slice a28 (0 + nfy) c29], _, rfl, (B.b 0 rfl), T86.agg_49_3, rfl⟩ ⟨_, rfl, ?_⟩
  replace B : Bu w no w34 [.blk b1 [.slice a7 (0 + nfe) c8, .slice a19 (0 + nfx) c20, .slice a28 (0 + nfy) c29] 49, .blk b11 [.slice a7 (0 + nfe) c8, .slice a19 (0 + nfx) c20, .slice a28 (0 + nfy) c29] 49, .ow kF a28 (0 + nfy) c29 56 (([] : List Nat) ++ Xfy), .ow kF a19 (0 + nfx) c20 56 (([] : List Nat) ++ Xfx), .ow kF a7 nfe c8 56 Xfe, .rd kF afe nfe Xfe, .rd kF afx nfx Xfx, .rd kF afy nfy Xfy, .sl (some ⟨b, o, none⟩) [.slice afe nfe cfe, .slice afx nfx cfx, .slice afy nfy cfy]] := B.castX 4 rfl (by omega) rfl
  replace B : Bu w no w34 [.blk b1 [.slice a7 (0 + nfe) c8, .slice a19 (0 + nfx) c20, .slice a28 (0 + nfy) c29] 49, .blk b11 [.slice a7 (0 + nfe) c8, .slice a19 (0 + nfx) c20, .slice a28 (0 + nfy) c29] 49, .ow kF a28 (0 + nfy) c29 56 (([] : List Nat) ++ Xfy), .ow kF a19 nfx c20 56 Xfx, .ow kF a7 nfe c8 56 Xfe, .rd kF afe nfe Xfe, .rd kF afx nfx Xfx, .rd kF afy nfy Xfy, .sl (some ⟨b, o, none⟩) [.slice afe nfe cfe, .slice afx nfx cfx, .slice afy nfy cfy]] := B.castX 3 rfl (by omega) rfl
  replace B : Bu w no w34 [.blk b1 [.slice a7 (0 + nfe) c8, .slice a19 (0 + nfx) c20, .slice a28 (0 + nfy) c29] 49, .blk b11 [.slice a7 (0 + nfe) c8, .slice a19 (0 + nfx) c20, .slice a28 (0 + nfy) c29] 49, .ow kF a28 nfy c29 56 Xfy, .ow kF a19 nfx c20 56 Xfx, .ow kF a7 nfe c8 56 Xfe, .rd kF afe nfe Xfe, .rd kF afx nfx Xfx, .rd kF afy nfy Xfy, .sl (some ⟨b, o, none⟩) [.slice afe nfe cfe, .slice afx nfx cfx, .slice afy nfy cfy]] := B.castX 2 rfl (by omega) rfl
  exact ⟨_, _, _, _, _, _, (by rw [(show 0 + nfe = nfe from (by omega)), (show 0 + nfx = nfx from (by omega)), (show 0 + nfy = nfy from (by omega))]), B.give [4, 3, 2] rfl rfl rfl⟩
namespace T89
theorem mx : Try.prog.follows .mixedOrders = true := by kernel_rfl
theorem agg_49_3 : aggB Try.prog 49 3 = true := by kernel_rfl
theorem fn_76 : fnB Try.prog 76 = true := by kernel_rfl
theorem sz_49_3 : szB Try.prog 49 3 = true := by kernel_rfl
theorem zero_49 : zeroB Try.prog 49 (.agg #[.slice none 0 0, .slice none 0 0, .slice none 0 0]) := by unfold zeroB; kernel_rfl
end T89
set_option maxRecDepth 100000 in
set_option maxHeartbeats 4000000 in
theorem c_s_l02Give {b : Nat} {o : Nat} {wd : Int} {hi : Int} {wr : Bool} {asp : Option Addr} {nsp : Nat} {csp : Nat} {als : Option Addr} {nls : Nat} {cls : Nat} {afe : Option Addr} {nfe : Nat} {cfe : Nat} {Xfe : List Nat} {afx : Option Addr} {nfx : Nat} {cfx : Nat} {Xfx : List Nat} {afy : Option Addr} {nfy : Nat} {cfy : Nat} {Xfy : List Nat} {w : World} (Pb : Sl w (some ⟨b, o, none⟩) [.int .i64 wd, .int .i64 hi, .bool wr, .slice asp nsp csp, .slice als nls cls]) (qfe : Rd w kF afe nfe Xfe) (qfx : Rd w kF afx nfx Xfx) (qfy : Rd w kF afy nfy Xfy) (h1 : 3 ≤ wd) (h2 : wd ≤ 16) (h3 : 3 ≤ hi) (h4 : hi ≤ 16) (hbfe : nfe ≤ 9223372036854775806) (hbfx : nfx ≤ 9223372036854775806) (hbfy : nfy ≤ 9223372036854775806) :
    Calls Try.prog 89 #[.pointer (some ⟨b, o, none⟩), .agg #[.slice afe nfe cfe, .slice afx nfx cfx, .slice afy nfy cfy]] w (Rt fun v w' => (fitsB wd hi wr Xfe Xfx Xfy = true ∧ v = .tuple #[.agg #[.slice afe nfe cfe, .slice afx nfx cfx, .slice afy nfy cfy], .bool true] ∧ Ext0 w w') ∨ (fitsB wd hi wr Xfe Xfx Xfy = false ∧ v = .tuple #[.agg #[.slice none 0 0, .slice none 0 0, .slice none 0 0], .bool false] ∧ Ext0 w w')) := by
  have hlfe := qfe.len
  have hlfx := qfx.len
  have hlfy := qfy.len
  have B : Bu w no w [.sl (some ⟨b, o, none⟩) [.int .i64 wd, .int .i64 hi, .bool wr, .slice asp nsp csp, .slice als nls cls], .rd kF afe nfe Xfe, .rd kF afx nfx Xfx, .rd kF afy nfy Xfy] := Bu.ro (All.cons Pb (All.cons qfe (All.cons qfx (All.cons qfy All.nil)))) rfl
  refine calls_W (n := 11) Try.func89 rfl rfl (Nat.le_of_ble_eq_true rfl) ?_
  refine W_seq ?_
  refine W_region (by kernel_rfl) ?_
  refine s_k rfl (k_boxN (v := .agg #[.slice afe nfe cfe, .slice afx nfx cfx, .slice afy nfy cfy]) (cs := [.slice afe nfe cfe, .slice afx nfx cfx, .slice afy nfy cfy]) rfl rfl (fun b1 w2 hN3 => ?_))
  replace B := B.new1 hN3
  clear hN3
  refine s_k rfl (k_allocN (z := (.agg #[.slice none 0 0, .slice none 0 0, .slice none 0 0])) (cs := [.slice none 0 0, .slice none 0 0, .slice none 0 0]) T89.zero_49 rfl (fun b4 w5 hN6 => ?_))
  replace B := B.new1 hN6
  clear hN6
  refine s_y (v := .bool false) rfl (y_assign rfl) ?_
  refine s_nil ?_
  refine W_seq ?_
  refine W_seq ?_
  refine W_region (by kernel_rfl) ?_
  refine s_y (v := .pointer (some ⟨b, o, none⟩)) rfl (y_move rfl) ?_
  refine s_k rfl (k_call T89.fn_76 (c_s_l02Fits (B.s 2 rfl) (B.r 3 rfl) (B.r 4 rfl) (B.r 5 rfl) ((B.b 1 rfl).sl) (by omega) (by omega) (by omega) (by omega) (by omega) (by omega) (by omega)) rfl ?_)
  rintro v9 w7 ⟨hv10, e8⟩
  replace B := B.ext0 e8
  clear e8
  by_cases c11 : fitsB wd hi wr Xfe Xfx Xfy = true
  · have hb12 := fitsB_b c11
    obtain rfl : v9 = .bool true := hv10.trans (congrArg Value.bool c11)
    refine s_y (v := .bool false) rfl (y_not rfl rfl) ?_
    refine s_nil ?_
    refine W_if_f (by decide) rfl ?_
    refine W_skip ?_
    refine W_seq ?_
    refine W_region (by kernel_rfl) ?_
    refine s_y (v := .agg #[.slice afe nfe cfe, .slice afx nfx cfx, .slice afy nfy cfy]) rfl (y_loadn (b := b1) (o := 0) (vs := [.slice afe nfe cfe, .slice afx nfx cfx, .slice afy nfy cfy]) T89.agg_49_3 rfl rfl ((B.b 1 rfl).cells (o := 0) rfl)) ?_
    refine s_k0 rfl (k_stB (v := .agg #[.slice afe nfe cfe, .slice afx nfx cfx, .slice afy nfy cfy]) (n := 3) (cs' := [.slice afe nfe cfe, .slice afx nfx cfx, .slice afy nfy cfy]) T89.sz_49_3 rfl rfl rfl (B.b 0 rfl) (by simp [Value.cells, Value.oneCell']) (Nat.le_of_ble_eq_true rfl) rfl (fun w13 hU14 => ?_))
    replace B : Bu w no w13 [.blk b4 [.slice afe nfe cfe, .slice afx nfx cfx, .slice afy nfy cfy] 49, .blk b1 [.slice afe nfe cfe, .slice afx nfx cfx, .slice afy nfy cfy] 49, .sl (some ⟨b, o, none⟩) [.int .i64 wd, .int .i64 hi, .bool wr, .slice asp nsp csp, .slice als nls cls], .rd kF afe nfe Xfe, .rd kF afx nfx Xfx, .rd kF afy nfy Xfy] := B.upd [0] rfl hU14
    clear hU14
    refine s_y (v := .bool true) rfl (y_assign rfl) ?_
    refine s_nil ?_
    refine W_ret ?_
    refine ret2 (v1 := .agg #[.slice afe nfe cfe, .slice afx nfx cfx, .slice afy nfy cfy]) (v2 := .bool true) rfl rfl rfl ⟨_, [.slice afe nfe cfe, .slice afx nfx cfx, .slice afy nfy cfy], _, rfl, (B.b 0 rfl), T89.agg_49_3, rfl⟩ rfl ⟨_, rfl, ?_⟩
    have hcond : fitsB wd hi wr Xfe Xfx Xfy = true := by simp only [c11, Bool.and_true, Bool.true_and, Bool.and_false, Bool.false_and, Bool.not_true, Bool.not_false, Bool.or_true, Bool.true_or, Bool.or_false, Bool.false_or]
    exact .inl ⟨hcond, ⟨rfl, B.ext⟩⟩
  · obtain rfl : v9 = .bool false := hv10.trans (congrArg Value.bool (Bool.eq_false_iff.2 c11))
    refine s_y (v := .bool true) rfl (y_not rfl rfl) ?_
    refine s_nil ?_
    refine W_if_t (by decide) rfl ?_
    refine W_seq ?_
    refine W_region (by kernel_rfl) ?_
    refine s_y (v := .agg #[.slice none 0 0, .slice none 0 0, .slice none 0 0]) rfl (y_build (cells := #[.slice none 0 0, .slice none 0 0, .slice none 0 0]) (by kernel_rfl)) ?_
    refine s_k0 rfl (k_stB (v := .agg #[.slice none 0 0, .slice none 0 0, .slice none 0 0]) (n := 3) (cs' := [.slice none 0 0, .slice none 0 0, .slice none 0 0]) T89.sz_49_3 rfl rfl rfl (B.b 0 rfl) (by simp [Value.cells, Value.oneCell']) (Nat.le_of_ble_eq_true rfl) rfl (fun w15 hU16 => ?_))
    replace B : Bu w no w15 [.blk b4 [.slice none 0 0, .slice none 0 0, .slice none 0 0] 49, .blk b1 [.slice afe nfe cfe, .slice afx nfx cfx, .slice afy nfy cfy] 49, .sl (some ⟨b, o, none⟩) [.int .i64 wd, .int .i64 hi, .bool wr, .slice asp nsp csp, .slice als nls cls], .rd kF afe nfe Xfe, .rd kF afx nfx Xfx, .rd kF afy nfy Xfy] := B.upd [0] rfl hU16
    clear hU16
    refine s_y (v := .bool false) rfl (y_assign rfl) ?_
    refine s_nil ?_
    refine W_ret ?_
    refine ret2 (v1 := .agg #[.slice none 0 0, .slice none 0 0, .slice none 0 0]) (v2 := .bool false) rfl rfl rfl ⟨_, [.slice none 0 0, .slice none 0 0, .slice none 0 0], _, rfl, (B.b 0 rfl), T89.agg_49_3, rfl⟩ rfl ⟨_, rfl, ?_⟩
    exact .inr ⟨by simp only [(Bool.eq_false_iff.2 c11), Bool.and_true, Bool.true_and, Bool.and_false, Bool.false_and, Bool.not_true, Bool.not_false, Bool.or_true, Bool.true_or, Bool.or_false, Bool.false_or], rfl, B.ext⟩
namespace T51
theorem mx : Try.prog.follows .mixedOrders = true := by kernel_rfl
theorem agg_49_3 : aggB Try.prog 49 3 = true := by kernel_rfl
theorem fld_49_0_0 : fldB Try.prog 49 0 0 = true := by kernel_rfl
theorem fld_49_1_1 : fldB Try.prog 49 1 1 = true := by kernel_rfl
theorem fld_49_2_2 : fldB Try.prog 49 2 2 = true := by kernel_rfl
theorem fn_68 : fnB Try.prog 68 = true := by kernel_rfl
theorem fn_76 : fnB Try.prog 76 = true := by kernel_rfl
theorem fn_86 : fnB Try.prog 86 = true := by kernel_rfl
theorem fn_89 : fnB Try.prog 89 = true := by kernel_rfl
theorem one_24 : oneB Try.prog 24 = true := by kernel_rfl
theorem one_56 : oneB Try.prog 56 = true := by kernel_rfl
theorem sl_24_56_1 : slB Try.prog 24 56 1 = true := by kernel_rfl
theorem sz_49_3 : szB Try.prog 49 3 = true := by kernel_rfl
theorem sz_56_1 : szB Try.prog 56 1 = true := by kernel_rfl
theorem zero_49 : zeroB Try.prog 49 (.agg #[.slice none 0 0, .slice none 0 0, .slice none 0 0]) := by unfold zeroB; kernel_rfl
end T51
set_option maxRecDepth 100000 in
set_option maxHeartbeats 4000000 in
theorem c_s_ScaleField {wd : Int} {hi : Int} {wr : Bool} {asp : Option Addr} {nsp : Nat} {csp : Nat} {Xsp : List Nat} {als : Option Addr} {nls : Nat} {cls : Nat} {Xls : List Nat} {afe : Option Addr} {nfe : Nat} {cfe : Nat} {Xfe : List Nat} {afx : Option Addr} {nfx : Nat} {cfx : Nat} {Xfx : List Nat} {afy : Option Addr} {nfy : Nat} {cfy : Nat} {Xfy : List Nat} {sv : Nat} {S : Nat} {w : World} (qsp : Rd w kF asp nsp Xsp) (qls : Rd w kF als nls Xls) (qfe : Rd w kF afe nfe Xfe) (qfx : Rd w kF afx nfx Xfx) (qfy : Rd w kF afy nfy Xfy) (hsv : can .f32 sv = S) (hbsp : nsp ≤ 9223372036854775806) (hbls : nls ≤ 9223372036854775806) (hbfe : nfe ≤ 9223372036854775806) (hbfx : nfx ≤ 9223372036854775806) (hbfy : nfy ≤ 9223372036854775806) :
    Calls Try.prog 51 #[.agg #[.int .i64 wd, .int .i64 hi, .bool wr, .slice asp nsp csp, .slice als nls cls], .agg #[.slice afe nfe cfe, .slice afx nfx cfx, .slice afy nfy cfy], .float .f32 sv] w (Rt fun v w' => (sclB wd hi wr Xsp Xls Xfe Xfx Xfy S = true ∧ ∃ (a1 : Option Addr) (c1 : Nat) (a2 : Option Addr) (c2 : Nat) (a3 : Option Addr) (c3 : Nat), v = .tuple #[.agg #[.slice a1 ((wd * hi).toNat) c1, .slice a2 ((wd * hi).toNat) c2, .slice a3 ((wd * hi).toNat) c3], .bool true] ∧ New w w' [.ow kF a1 ((wd * hi).toNat) c1 56 (mulL (wd * hi) Xfe S), .ow kF a2 ((wd * hi).toNat) c2 56 (mulL (wd * hi) Xfx S), .ow kF a3 ((wd * hi).toNat) c3 56 (mulL (wd * hi) Xfy S)]) ∨ (sclB wd hi wr Xsp Xls Xfe Xfx Xfy S = false ∧ v = .tuple #[.agg #[.slice none 0 0, .slice none 0 0, .slice none 0 0], .bool false] ∧ Ext0 w w')) := by
  have hlsp := qsp.len
  have hlls := qls.len
  have hlfe := qfe.len
  have hlfx := qfx.len
  have hlfy := qfy.len
  have B : Bu w no w [.rd kF asp nsp Xsp, .rd kF als nls Xls, .rd kF afe nfe Xfe, .rd kF afx nfx Xfx, .rd kF afy nfy Xfy] := Bu.ro (All.cons qsp (All.cons qls (All.cons qfe (All.cons qfx (All.cons qfy All.nil))))) rfl
  refine calls_W (n := 62) Try.func51 rfl rfl (Nat.le_of_ble_eq_true rfl) ?_
  refine W_seq ?_
  refine W_region (by kernel_rfl) ?_
  refine s_k rfl (k_boxN (v := .agg #[.int .i64 wd, .int .i64 hi, .bool wr, .slice asp nsp csp, .slice als nls cls]) (cs := [.int .i64 wd, .int .i64 hi, .bool wr, .slice asp nsp csp, .slice als nls cls]) rfl rfl (fun b1 w2 hN3 => ?_))
  replace B := B.new1 hN3
  clear hN3
  refine s_k rfl (k_boxN (v := .agg #[.slice afe nfe cfe, .slice afx nfx cfx, .slice afy nfy cfy]) (cs := [.slice afe nfe cfe, .slice afx nfx cfx, .slice afy nfy cfy]) rfl rfl (fun b4 w5 hN6 => ?_))
  replace B := B.new1 hN6
  clear hN6
  refine s_k rfl (k_allocN (z := (.agg #[.slice none 0 0, .slice none 0 0, .slice none 0 0])) (cs := [.slice none 0 0, .slice none 0 0, .slice none 0 0]) T51.zero_49 rfl (fun b7 w8 hN9 => ?_))
  replace B := B.new1 hN9
  clear hN9
  refine s_y (v := .bool false) rfl (y_assign rfl) ?_
  refine s_nil ?_
  refine W_seq ?_
  refine W_seq ?_
  refine W_region (by kernel_rfl) ?_
  refine s_k rfl (k_call T51.fn_68 (c_s_l02Is (B.r 3 rfl) (B.r 4 rfl) ((B.b 2 rfl).sl) (by omega) (by omega)) rfl ?_)
  rintro v12 w10 ⟨hv13, e11⟩
  replace B := B.ext0 e11
  clear e11
  by_cases c14 : validS wd hi Xsp Xls = true
  · have hb15 := validS_b c14
    obtain rfl : v12 = .bool true := hv13.trans (congrArg Value.bool c14)
    refine s_y (v := .bool false) rfl (y_not rfl rfl) ?_
    refine s_y (v := .bool false) rfl (y_move rfl) ?_
    refine s_k rfl (k_call T51.fn_76 (c_s_l02Fits ((B.b 2 rfl).sl) (B.r 5 rfl) (B.r 6 rfl) (B.r 7 rfl) ((B.b 1 rfl).sl) (by omega) (by omega) (by omega) (by omega) (by omega) (by omega) (by omega)) rfl ?_)
    rintro v18 w16 ⟨hv19, e17⟩
    replace B := B.ext0 e17
    clear e17
    by_cases c20 : fitsB wd hi wr Xfe Xfx Xfy = true
    · have hb21 := fitsB_b c20
      obtain rfl : v18 = .bool true := hv19.trans (congrArg Value.bool c20)
      refine s_y (v := .bool false) rfl (y_not rfl rfl) ?_
      refine s_y (v := .bool false) rfl (y_pick_f rfl rfl) ?_
      refine s_nil ?_
      refine W_if_f (by decide) rfl ?_
      refine W_skip ?_
      refine W_seq ?_
      refine W_region (by kernel_rfl) ?_
      refine s_k rfl (k_call T51.fn_86 (c_s_l02Own (B.r 5 rfl) (B.r 6 rfl) (B.r 7 rfl) ((B.b 1 rfl).sl) (by omega) (by omega) (by omega)) rfl ?_)
      rintro _ w22 ⟨a23, c24, a25, c26, a27, c28, rfl, hN29⟩
      replace B := B.new3 hN29
      clear hN29
      refine s_k rfl (k_allocN (z := (.agg #[.slice none 0 0, .slice none 0 0, .slice none 0 0])) (cs := [.slice none 0 0, .slice none 0 0, .slice none 0 0]) T51.zero_49 rfl (fun b30 w31 hN32 => ?_))
      replace B := B.new1 hN32
      clear hN32
      refine s_k0 rfl (k_stB (v := .agg #[.slice a23 nfe c24, .slice a25 nfx c26, .slice a27 nfy c28]) (n := 3) (cs' := [.slice a23 nfe c24, .slice a25 nfx c26, .slice a27 nfy c28]) T51.sz_49_3 rfl rfl rfl (B.b 0 rfl) (by simp [Value.cells, Value.oneCell']) (Nat.le_of_ble_eq_true rfl) rfl (fun w33 hU34 => ?_))
      replace B : Bu w no w33 [.blk b30 [.slice a23 nfe c24, .slice a25 nfx c26, .slice a27 nfy c28] 49, .ow kF a23 nfe c24 56 Xfe, .ow kF a25 nfx c26 56 Xfx, .ow kF a27 nfy c28 56 Xfy, .blk b7 [.slice none 0 0, .slice none 0 0, .slice none 0 0] 49, .blk b4 [.slice afe nfe cfe, .slice afx nfx cfx, .slice afy nfy cfy] 49, .blk b1 [.int .i64 wd, .int .i64 hi, .bool wr, .slice asp nsp csp, .slice als nls cls] 26, .rd kF asp nsp Xsp, .rd kF als nls Xls, .rd kF afe nfe Xfe, .rd kF afx nfx Xfx, .rd kF afy nfy Xfy] := B.upd [0] rfl hU34
      clear hU34
      refine s_nil ?_
      refine W_seq ?_
      refine W_seq ?_
      refine W_region (by kernel_rfl) ?_
      refine s_y (v := .int .i64 0) rfl (y_assign rfl) ?_
      refine s_nil ?_
      refine W_block ?_
      refine W_loop (fun ρ' w' => ∃ (ρ1 : Env) (k : Int), ρ' = updL ρ1 [(2, .float .f32 sv), (3, .pointer (some ⟨b1, 0, none⟩)), (6, .pointer (some ⟨b7, 0, none⟩)), (7, .bool false), (8, .pointer (some ⟨b30, 0, none⟩)), (9, .int .i64 k)] ∧ Bu w no w' [.ow kF a23 nfe c24 56 (mix (wd * hi) k (fun i => fop .mul .f32 (el Xfe i) S) Xfe), .ow kF a25 nfx c26 56 (mix (wd * hi) k (fun i => fop .mul .f32 (el Xfx i) S) Xfx), .ow kF a27 nfy c28 56 (mix (wd * hi) k (fun i => fop .mul .f32 (el Xfy i) S) Xfy), .blk b30 [.slice a23 nfe c24, .slice a25 nfx c26, .slice a27 nfy c28] 49, .blk b7 [.slice none 0 0, .slice none 0 0, .slice none 0 0] 49, .blk b4 [.slice afe nfe cfe, .slice afx nfx cfx, .slice afy nfy cfy] 49, .blk b1 [.int .i64 wd, .int .i64 hi, .bool wr, .slice asp nsp csp, .slice als nls cls] 26, .rd kF asp nsp Xsp, .rd kF als nls Xls, .rd kF afe nfe Xfe, .rd kF afx nfx Xfx, .rd kF afy nfy Xfy] ∧ (0 ≤ k) ∧ (k ≤ wd * hi)) (fun ρ' _ => (wd * hi - iv (ρ' 9)).toNat) ?_ ?_
      · replace B : Bu w no w33 [.blk b30 [.slice a23 nfe c24, .slice a25 nfx c26, .slice a27 nfy c28] 49, .ow kF a23 nfe c24 56 (mix (wd * hi) 0 (fun i => fop .mul .f32 (el Xfe i) S) Xfe), .ow kF a25 nfx c26 56 Xfx, .ow kF a27 nfy c28 56 Xfy, .blk b7 [.slice none 0 0, .slice none 0 0, .slice none 0 0] 49, .blk b4 [.slice afe nfe cfe, .slice afx nfx cfx, .slice afy nfy cfy] 49, .blk b1 [.int .i64 wd, .int .i64 hi, .bool wr, .slice asp nsp csp, .slice als nls cls] 26, .rd kF asp nsp Xsp, .rd kF als nls Xls, .rd kF afe nfe Xfe, .rd kF afx nfx Xfx, .rd kF afy nfy Xfy] := B.castX 1 rfl rfl (mix_zero (by omega))
        replace B : Bu w no w33 [.blk b30 [.slice a23 nfe c24, .slice a25 nfx c26, .slice a27 nfy c28] 49, .ow kF a23 nfe c24 56 (mix (wd * hi) 0 (fun i => fop .mul .f32 (el Xfe i) S) Xfe), .ow kF a25 nfx c26 56 (mix (wd * hi) 0 (fun i => fop .mul .f32 (el Xfx i) S) Xfx), .ow kF a27 nfy c28 56 Xfy, .blk b7 [.slice none 0 0, .slice none 0 0, .slice none 0 0] 49, .blk b4 [.slice afe nfe cfe, .slice afx nfx cfx, .slice afy nfy cfy] 49, .blk b1 [.int .i64 wd, .int .i64 hi, .bool wr, .slice asp nsp csp, .slice als nls cls] 26, .rd kF asp nsp Xsp, .rd kF als nls Xls, .rd kF afe nfe Xfe, .rd kF afx nfx Xfx, .rd kF afy nfy Xfy] := B.castX 2 rfl rfl (mix_zero (by omega))
        replace B : Bu w no w33 [.blk b30 [.slice a23 nfe c24, .slice a25 nfx c26, .slice a27 nfy c28] 49, .ow kF a23 nfe c24 56 (mix (wd * hi) 0 (fun i => fop .mul .f32 (el Xfe i) S) Xfe), .ow kF a25 nfx c26 56 (mix (wd * hi) 0 (fun i => fop .mul .f32 (el Xfx i) S) Xfx), .ow kF a27 nfy c28 56 (mix (wd * hi) 0 (fun i => fop .mul .f32 (el Xfy i) S) Xfy), .blk b7 [.slice none 0 0, .slice none 0 0, .slice none 0 0] 49, .blk b4 [.slice afe nfe cfe, .slice afx nfx cfx, .slice afy nfy cfy] 49, .blk b1 [.int .i64 wd, .int .i64 hi, .bool wr, .slice asp nsp csp, .slice als nls cls] 26, .rd kF asp nsp Xsp, .rd kF als nls Xls, .rd kF afe nfe Xfe, .rd kF afx nfx Xfx, .rd kF afy nfy Xfy] := B.castX 3 rfl rfl (mix_zero (by omega))
        exact ⟨_, 0, Fits.eq ⟨rfl, rfl, rfl, rfl, rfl, rfl, trivial⟩, (B.pick [1, 2, 3, 0, 4, 5, 6, 7, 8, 9, 10, 11] rfl rfl), (Int.le_refl _), (by omega)⟩
      · clear B; rintro _ w35 ⟨ρ36, k, rfl, B, h0k, h1k⟩
        refine W_seq ?_
        refine W_seq ?_
        refine W_region (by kernel_rfl) ?_
        refine s_y (v := .int .i64 k) rfl (y_move rfl) ?_
        refine s_y (v := .pointer (some ⟨b30, 0, none⟩)) rfl (y_fld (o := 0) T51.fld_49_0_0 rfl) ?_
        refine s_y (v := .slice a23 nfe c24) rfl (y_load T51.one_24 rfl ((B.b 3 rfl).cell (j := 0) rfl)) ?_
        refine s_y (v := .int .i64 ((nfe : Nat) : Int)) rfl (y_len T51.sl_24_56_1 rfl rfl) ?_
        by_cases c37 : k < ((nfe : Nat) : Int)
        · refine s_y (v := .bool true) rfl (y_lss rfl rfl (decide_eq_true c37)) ?_
          refine s_nil ?_
          refine W_if_t (by decide) rfl ?_
          refine W_skip ?_
          refine W_seq ?_
          refine W_block ?_
          refine W_seq ?_
          have B0_42 := B
          refine W_draw (no) T51.mx (by kernel_rfl) (fun w40 e41 => ?_)
          have R43 := Ext.refl (no) w35
          replace R43 := R43.trans (Ext0.any e41)
          replace B := B.ext0 e41
          clear e41
          refine m_y (v := .pointer (some ⟨b30, 0, none⟩)) 0 rfl (by kernel_rfl) rfl rfl (fun w' e' => y_fld (o := 0) T51.fld_49_0_0 rfl) ?_
          refine m_y (v := .slice a23 nfe c24) 1 rfl (by kernel_rfl) rfl rfl (fun w' e' => y_load T51.one_24 rfl (((B0_42.b 3 rfl).ext0 e').cell (j := 0) rfl)) ?_
          refine m_y (v := .int .i64 k) 2 rfl (by kernel_rfl) rfl rfl (fun w' e' => y_move rfl) ?_
          refine m_y (v := .pointer (some ⟨b30, 0, none⟩)) 3 rfl (by kernel_rfl) rfl rfl (fun w' e' => y_fld (o := 0) T51.fld_49_0_0 rfl) ?_
          refine m_y (v := .slice a23 nfe c24) 4 rfl (by kernel_rfl) rfl rfl (fun w' e' => y_load T51.one_24 rfl (((B0_42.b 3 rfl).ext0 e').cell (j := 0) rfl)) ?_
          refine m_y (v := .int .i64 k) 5 rfl (by kernel_rfl) rfl rfl (fun w' e' => y_move rfl) ?_
          refine m_y (v := .pointer (some (sat a23 ((k).toNat * 1)))) 6 rfl (by kernel_rfl) rfl rfl (fun w' e' => y_idx T51.sl_24_56_1 rfl rfl ((B.o 0 rfl).rd.addr (by omega)) (by omega) (by omega)) ?_
          obtain ⟨r45, hr46, hR44⟩ := Rd.atF (B0_42.o 0 rfl).rd k (by omega) (by omega)
          refine m_y (v := .float .f32 r45) 7 rfl (by kernel_rfl) rfl rfl (fun w' e' => y_load T51.one_56 rfl ((hR44.ext0 e').cell (i := 0) rfl)) ?_
          refine m_y (v := .float .f32 sv) 8 rfl (by kernel_rfl) rfl rfl (fun w' e' => y_move rfl) ?_
          refine m_n 9 [10, 11] rfl (by kernel_rfl) rfl rfl (fun w' e' => n_arith (by decide) rfl rfl) ?_
          rintro _ ⟨r48, rfl, hr49⟩
          have hc52 := fopC hr49 hr46 hsv
          refine m_y (v := .pointer (some (sat a23 ((k).toNat * 1)))) 10 rfl (by kernel_rfl) rfl rfl (fun w' e' => y_idx T51.sl_24_56_1 rfl rfl ((B.o 0 rfl).rd.addr (by omega)) (by omega) (by omega)) ?_
          refine m_kt 11 [] rfl (by kernel_rfl) rfl rfl (by kernel_rfl) (fun w55 e56 => ?_)
          replace R43 := R43.trans (Ext0.any e56)
          replace B := B.ext0 e56
          clear e56
          refine k_stO (k := kF) (i := k) (j := 0) (x' := fop .mul .f32 (el (mix (wd * hi) k (fun i => fop .mul .f32 (el Xfe i) S) Xfe) k) S) (new := [.float .f32 r48]) T51.sz_56_1 rfl rfl rfl rfl rfl (by simp [Value.oneCell']) (by decide) (B.o 0 rfl) (by omega) (by omega) (by decide) (by rintro q ⟨_, rfl, _⟩; exact ⟨_, rfl, hc52⟩) (fun w53 hU54 => ?_)
          clear R43
          replace B : Bu w no w53 [.ow kF a23 nfe c24 56 (put (mix (wd * hi) k (fun i => fop .mul .f32 (el Xfe i) S) Xfe) k (fop .mul .f32 (el (mix (wd * hi) k (fun i => fop .mul .f32 (el Xfe i) S) Xfe) k) S)), .ow kF a25 nfx c26 56 (mix (wd * hi) k (fun i => fop .mul .f32 (el Xfx i) S) Xfx), .ow kF a27 nfy c28 56 (mix (wd * hi) k (fun i => fop .mul .f32 (el Xfy i) S) Xfy), .blk b30 [.slice a23 nfe c24, .slice a25 nfx c26, .slice a27 nfy c28] 49, .blk b7 [.slice none 0 0, .slice none 0 0, .slice none 0 0] 49, .blk b4 [.slice afe nfe cfe, .slice afx nfx cfx, .slice afy nfy cfy] 49, .blk b1 [.int .i64 wd, .int .i64 hi, .bool wr, .slice asp nsp csp, .slice als nls cls] 26, .rd kF asp nsp Xsp, .rd kF als nls Xls, .rd kF afe nfe Xfe, .rd kF afx nfx Xfx, .rd kF afy nfy Xfy] := B.upd [0] rfl hU54
          clear hU54
          refine m_done (by kernel_rfl) (fun w57 e58 => ?_)
          replace B := B.ext0 e58
          clear e58
          clear B0_42
          refine W_seq ?_
          have B0_63 := B
          refine W_draw (no) T51.mx (by kernel_rfl) (fun w61 e62 => ?_)
          have R64 := Ext.refl (no) w57
          replace R64 := R64.trans (Ext0.any e62)
          replace B := B.ext0 e62
          clear e62
          refine m_y (v := .pointer (some ⟨b30, 1, none⟩)) 0 rfl (by kernel_rfl) rfl rfl (fun w' e' => y_fld (o := 0) T51.fld_49_1_1 rfl) ?_
          refine m_y (v := .slice a25 nfx c26) 1 rfl (by kernel_rfl) rfl rfl (fun w' e' => y_load T51.one_24 rfl (((B0_63.b 3 rfl).ext0 e').cell (j := 1) rfl)) ?_
          refine m_y (v := .int .i64 k) 2 rfl (by kernel_rfl) rfl rfl (fun w' e' => y_move rfl) ?_
          refine m_y (v := .pointer (some ⟨b30, 1, none⟩)) 3 rfl (by kernel_rfl) rfl rfl (fun w' e' => y_fld (o := 0) T51.fld_49_1_1 rfl) ?_
          refine m_y (v := .slice a25 nfx c26) 4 rfl (by kernel_rfl) rfl rfl (fun w' e' => y_load T51.one_24 rfl (((B0_63.b 3 rfl).ext0 e').cell (j := 1) rfl)) ?_
          refine m_y (v := .int .i64 k) 5 rfl (by kernel_rfl) rfl rfl (fun w' e' => y_move rfl) ?_
          refine m_y (v := .pointer (some (sat a25 ((k).toNat * 1)))) 6 rfl (by kernel_rfl) rfl rfl (fun w' e' => y_idx T51.sl_24_56_1 rfl rfl ((B.o 1 rfl).rd.addr (by omega)) (by omega) (by omega)) ?_
          obtain ⟨r66, hr67, hR65⟩ := Rd.atF (B0_63.o 1 rfl).rd k (by omega) (by omega)
          refine m_y (v := .float .f32 r66) 7 rfl (by kernel_rfl) rfl rfl (fun w' e' => y_load T51.one_56 rfl ((hR65.ext0 e').cell (i := 0) rfl)) ?_
          refine m_y (v := .float .f32 sv) 8 rfl (by kernel_rfl) rfl rfl (fun w' e' => y_move rfl) ?_
          refine m_n 9 [10, 11] rfl (by kernel_rfl) rfl rfl (fun w' e' => n_arith (by decide) rfl rfl) ?_
          rintro _ ⟨r69, rfl, hr70⟩
          have hc73 := fopC hr70 hr67 hsv
          refine m_y (v := .pointer (some (sat a25 ((k).toNat * 1)))) 10 rfl (by kernel_rfl) rfl rfl (fun w' e' => y_idx T51.sl_24_56_1 rfl rfl ((B.o 1 rfl).rd.addr (by omega)) (by omega) (by omega)) ?_
          refine m_kt 11 [] rfl (by kernel_rfl) rfl rfl (by kernel_rfl) (fun w76 e77 => ?_)
          replace R64 := R64.trans (Ext0.any e77)
          replace B := B.ext0 e77
          clear e77
          refine k_stO (k := kF) (i := k) (j := 0) (x' := fop .mul .f32 (el (mix (wd * hi) k (fun i => fop .mul .f32 (el Xfx i) S) Xfx) k) S) (new := [.float .f32 r69]) T51.sz_56_1 rfl rfl rfl rfl rfl (by simp [Value.oneCell']) (by decide) (B.o 1 rfl) (by omega) (by omega) (by decide) (by rintro q ⟨_, rfl, _⟩; exact ⟨_, rfl, hc73⟩) (fun w74 hU75 => ?_)
          clear R64
          replace B : Bu w no w74 [.ow kF a25 nfx c26 56 (put (mix (wd * hi) k (fun i => fop .mul .f32 (el Xfx i) S) Xfx) k (fop .mul .f32 (el (mix (wd * hi) k (fun i => fop .mul .f32 (el Xfx i) S) Xfx) k) S)), .ow kF a23 nfe c24 56 (put (mix (wd * hi) k (fun i => fop .mul .f32 (el Xfe i) S) Xfe) k (fop .mul .f32 (el (mix (wd * hi) k (fun i => fop .mul .f32 (el Xfe i) S) Xfe) k) S)), .ow kF a27 nfy c28 56 (mix (wd * hi) k (fun i => fop .mul .f32 (el Xfy i) S) Xfy), .blk b30 [.slice a23 nfe c24, .slice a25 nfx c26, .slice a27 nfy c28] 49, .blk b7 [.slice none 0 0, .slice none 0 0, .slice none 0 0] 49, .blk b4 [.slice afe nfe cfe, .slice afx nfx cfx, .slice afy nfy cfy] 49, .blk b1 [.int .i64 wd, .int .i64 hi, .bool wr, .slice asp nsp csp, .slice als nls cls] 26, .rd kF asp nsp Xsp, .rd kF als nls Xls, .rd kF afe nfe Xfe, .rd kF afx nfx Xfx, .rd kF afy nfy Xfy] := B.upd [1] rfl hU75
          clear hU75
          refine m_done (by kernel_rfl) (fun w78 e79 => ?_)
          replace B := B.ext0 e79
          clear e79
          clear B0_63
          have B0_84 := B
          refine W_draw (no) T51.mx (by kernel_rfl) (fun w82 e83 => ?_)
          have R85 := Ext.refl (no) w78
          replace R85 := R85.trans (Ext0.any e83)
          replace B := B.ext0 e83
          clear e83
          refine m_y (v := .pointer (some ⟨b30, 2, none⟩)) 0 rfl (by kernel_rfl) rfl rfl (fun w' e' => y_fld (o := 0) T51.fld_49_2_2 rfl) ?_
          refine m_y (v := .slice a27 nfy c28) 1 rfl (by kernel_rfl) rfl rfl (fun w' e' => y_load T51.one_24 rfl (((B0_84.b 3 rfl).ext0 e').cell (j := 2) rfl)) ?_
          refine m_y (v := .int .i64 k) 2 rfl (by kernel_rfl) rfl rfl (fun w' e' => y_move rfl) ?_
          refine m_y (v := .pointer (some ⟨b30, 2, none⟩)) 3 rfl (by kernel_rfl) rfl rfl (fun w' e' => y_fld (o := 0) T51.fld_49_2_2 rfl) ?_
          refine m_y (v := .slice a27 nfy c28) 4 rfl (by kernel_rfl) rfl rfl (fun w' e' => y_load T51.one_24 rfl (((B0_84.b 3 rfl).ext0 e').cell (j := 2) rfl)) ?_
          refine m_y (v := .int .i64 k) 5 rfl (by kernel_rfl) rfl rfl (fun w' e' => y_move rfl) ?_
          refine m_y (v := .pointer (some (sat a27 ((k).toNat * 1)))) 6 rfl (by kernel_rfl) rfl rfl (fun w' e' => y_idx T51.sl_24_56_1 rfl rfl ((B.o 2 rfl).rd.addr (by omega)) (by omega) (by omega)) ?_
          obtain ⟨r87, hr88, hR86⟩ := Rd.atF (B0_84.o 2 rfl).rd k (by omega) (by omega)
          refine m_y (v := .float .f32 r87) 7 rfl (by kernel_rfl) rfl rfl (fun w' e' => y_load T51.one_56 rfl ((hR86.ext0 e').cell (i := 0) rfl)) ?_
          refine m_y (v := .float .f32 sv) 8 rfl (by kernel_rfl) rfl rfl (fun w' e' => y_move rfl) ?_
          refine m_n 9 [10, 11] rfl (by kernel_rfl) rfl rfl (fun w' e' => n_arith (by decide) rfl rfl) ?_
          rintro _ ⟨r90, rfl, hr91⟩
          have hc94 := fopC hr91 hr88 hsv
          refine m_y (v := .pointer (some (sat a27 ((k).toNat * 1)))) 10 rfl (by kernel_rfl) rfl rfl (fun w' e' => y_idx T51.sl_24_56_1 rfl rfl ((B.o 2 rfl).rd.addr (by omega)) (by omega) (by omega)) ?_
          refine m_kt 11 [] rfl (by kernel_rfl) rfl rfl (by kernel_rfl) (fun w97 e98 => ?_)
          replace R85 := R85.trans (Ext0.any e98)
          replace B := B.ext0 e98
          clear e98
          refine k_stO (k := kF) (i := k) (j := 0) (x' := fop .mul .f32 (el (mix (wd * hi) k (fun i => fop .mul .f32 (el Xfy i) S) Xfy) k) S) (new := [.float .f32 r90]) T51.sz_56_1 rfl rfl rfl rfl rfl (by simp [Value.oneCell']) (by decide) (B.o 2 rfl) (by omega) (by omega) (by decide) (by rintro q ⟨_, rfl, _⟩; exact ⟨_, rfl, hc94⟩) (fun w95 hU96 => ?_)
          clear R85
          replace B : Bu w no w95 [.ow kF a27 nfy c28 56 (put (mix (wd * hi) k (fun i => fop .mul .f32 (el Xfy i) S) Xfy) k (fop .mul .f32 (el (mix (wd * hi) k (fun i => fop .mul .f32 (el Xfy i) S) Xfy) k) S)), .ow kF a25 nfx c26 56 (put (mix (wd * hi) k (fun i => fop .mul .f32 (el Xfx i) S) Xfx) k (fop .mul .f32 (el (mix (wd * hi) k (fun i => fop .mul .f32 (el Xfx i) S) Xfx) k) S)), .ow kF a23 nfe c24 56 (put (mix (wd * hi) k (fun i => fop .mul .f32 (el Xfe i) S) Xfe) k (fop .mul .f32 (el (mix (wd * hi) k (fun i => fop .mul .f32 (el Xfe i) S) Xfe) k) S)), .blk b30 [.slice a23 nfe c24, .slice a25 nfx c26, .slice a27 nfy c28] 49, .blk b7 [.slice none 0 0, .slice none 0 0, .slice none 0 0] 49, .blk b4 [.slice afe nfe cfe, .slice afx nfx cfx, .slice afy nfy cfy] 49, .blk b1 [.int .i64 wd, .int .i64 hi, .bool wr, .slice asp nsp csp, .slice als nls cls] 26, .rd kF asp nsp Xsp, .rd kF als nls Xls, .rd kF afe nfe Xfe, .rd kF afx nfx Xfx, .rd kF afy nfy Xfy] := B.upd [2] rfl hU96
          clear hU96
          refine m_done (by kernel_rfl) (fun w99 e100 => ?_)
          replace B := B.ext0 e100
          clear e100
          clear B0_84
          refine W_region (by kernel_rfl) ?_
          refine s_y (v := .int .i64 k) rfl (y_move rfl) ?_
          refine s_y (v := .int .i64 (k + 1)) rfl (y_add rfl rfl rfl (by omega)) ?_
          refine s_y (v := .int .i64 (k + 1)) rfl (y_assign rfl) ?_
          refine s_nil ?_
          replace B : Bu w no w99 [.ow kF a27 nfy c28 56 (put (mix (wd * hi) k (fun i => fop .mul .f32 (el Xfy i) S) Xfy) k (fop .mul .f32 (el (mix (wd * hi) k (fun i => fop .mul .f32 (el Xfy i) S) Xfy) k) S)), .ow kF a25 nfx c26 56 (put (mix (wd * hi) k (fun i => fop .mul .f32 (el Xfx i) S) Xfx) k (fop .mul .f32 (el (mix (wd * hi) k (fun i => fop .mul .f32 (el Xfx i) S) Xfx) k) S)), .ow kF a23 nfe c24 56 (mix (wd * hi) (k + 1) (fun i => fop .mul .f32 (el Xfe i) S) Xfe), .blk b30 [.slice a23 nfe c24, .slice a25 nfx c26, .slice a27 nfy c28] 49, .blk b7 [.slice none 0 0, .slice none 0 0, .slice none 0 0] 49, .blk b4 [.slice afe nfe cfe, .slice afx nfx cfx, .slice afy nfy cfy] 49, .blk b1 [.int .i64 wd, .int .i64 hi, .bool wr, .slice asp nsp csp, .slice als nls cls] 26, .rd kF asp nsp Xsp, .rd kF als nls Xls, .rd kF afe nfe Xfe, .rd kF afx nfx Xfx, .rd kF afy nfy Xfy] := B.castX 2 rfl rfl (mix_put (by omega) (by omega) (by rw [el_mix (by omega) (by omega) (Int.le_refl _)]))
          replace B : Bu w no w99 [.ow kF a27 nfy c28 56 (put (mix (wd * hi) k (fun i => fop .mul .f32 (el Xfy i) S) Xfy) k (fop .mul .f32 (el (mix (wd * hi) k (fun i => fop .mul .f32 (el Xfy i) S) Xfy) k) S)), .ow kF a25 nfx c26 56 (mix (wd * hi) (k + 1) (fun i => fop .mul .f32 (el Xfx i) S) Xfx), .ow kF a23 nfe c24 56 (mix (wd * hi) (k + 1) (fun i => fop .mul .f32 (el Xfe i) S) Xfe), .blk b30 [.slice a23 nfe c24, .slice a25 nfx c26, .slice a27 nfy c28] 49, .blk b7 [.slice none 0 0, .slice none 0 0, .slice none 0 0] 49, .blk b4 [.slice afe nfe cfe, .slice afx nfx cfx, .slice afy nfy cfy] 49, .blk b1 [.int .i64 wd, .int .i64 hi, .bool wr, .slice asp nsp csp, .slice als nls cls] 26, .rd kF asp nsp Xsp, .rd kF als nls Xls, .rd kF afe nfe Xfe, .rd kF afx nfx Xfx, .rd kF afy nfy Xfy] := B.castX 1 rfl rfl (mix_put (by omega) (by omega) (by rw [el_mix (by omega) (by omega) (Int.le_refl _)]))
          replace B : Bu w no w99 [.ow kF a27 nfy c28 56 (mix (wd * hi) (k + 1) (fun i => fop .mul .f32 (el Xfy i) S) Xfy), .ow kF a25 nfx c26 56 (mix (wd * hi) (k + 1) (fun i => fop .mul .f32 (el Xfx i) S) Xfx), .ow kF a23 nfe c24 56 (mix (wd * hi) (k + 1) (fun i => fop .mul .f32 (el Xfe i) S) Xfe), .blk b30 [.slice a23 nfe c24, .slice a25 nfx c26, .slice a27 nfy c28] 49, .blk b7 [.slice none 0 0, .slice none 0 0, .slice none 0 0] 49, .blk b4 [.slice afe nfe cfe, .slice afx nfx cfx, .slice afy nfy cfy] 49, .blk b1 [.int .i64 wd, .int .i64 hi, .bool wr, .slice asp nsp csp, .slice als nls cls] 26, .rd kF asp nsp Xsp, .rd kF als nls Xls, .rd kF afe nfe Xfe, .rd kF afx nfx Xfx, .rd kF afy nfy Xfy] := B.castX 0 rfl rfl (mix_put (by omega) (by omega) (by rw [el_mix (by omega) (by omega) (Int.le_refl _)]))
          refine ⟨⟨_, k + 1, Fits.eq ⟨rfl, rfl, rfl, rfl, rfl, rfl, trivial⟩, (B.pick [2, 1, 0, 3, 4, 5, 6, 7, 8, 9, 10, 11] rfl rfl), (by omega), (by omega)⟩, ?_⟩
          show (wd * hi - (k + 1)).toNat < (wd * hi - k).toNat
          omega
        · refine s_y (v := .bool false) rfl (y_lss rfl rfl (decide_eq_false c37)) ?_
          refine s_nil ?_
          refine W_if_f (by decide) rfl ?_
          refine W_exit ?_
          obtain rfl : k = wd * hi := by omega
          replace B : Bu w no w35 [.ow kF a23 nfe c24 56 (mulL (wd * hi) Xfe S), .ow kF a25 nfx c26 56 (mix (wd * hi) (wd * hi) (fun i => fop .mul .f32 (el Xfx i) S) Xfx), .ow kF a27 nfy c28 56 (mix (wd * hi) (wd * hi) (fun i => fop .mul .f32 (el Xfy i) S) Xfy), .blk b30 [.slice a23 nfe c24, .slice a25 nfx c26, .slice a27 nfy c28] 49, .blk b7 [.slice none 0 0, .slice none 0 0, .slice none 0 0] 49, .blk b4 [.slice afe nfe cfe, .slice afx nfx cfx, .slice afy nfy cfy] 49, .blk b1 [.int .i64 wd, .int .i64 hi, .bool wr, .slice asp nsp csp, .slice als nls cls] 26, .rd kF asp nsp Xsp, .rd kF als nls Xls, .rd kF afe nfe Xfe, .rd kF afx nfx Xfx, .rd kF afy nfy Xfy] := B.castX 0 rfl rfl mix_all
          replace B : Bu w no w35 [.ow kF a23 nfe c24 56 (mulL (wd * hi) Xfe S), .ow kF a25 nfx c26 56 (mulL (wd * hi) Xfx S), .ow kF a27 nfy c28 56 (mix (wd * hi) (wd * hi) (fun i => fop .mul .f32 (el Xfy i) S) Xfy), .blk b30 [.slice a23 nfe c24, .slice a25 nfx c26, .slice a27 nfy c28] 49, .blk b7 [.slice none 0 0, .slice none 0 0, .slice none 0 0] 49, .blk b4 [.slice afe nfe cfe, .slice afx nfx cfx, .slice afy nfy cfy] 49, .blk b1 [.int .i64 wd, .int .i64 hi, .bool wr, .slice asp nsp csp, .slice als nls cls] 26, .rd kF asp nsp Xsp, .rd kF als nls Xls, .rd kF afe nfe Xfe, .rd kF afx nfx Xfx, .rd kF afy nfy Xfy] := B.castX 1 rfl rfl mix_all
          replace B : Bu w no w35 [.ow kF a23 nfe c24 56 (mulL (wd * hi) Xfe S), .ow kF a25 nfx c26 56 (mulL (wd * hi) Xfx S), .ow kF a27 nfy c28 56 (mulL (wd * hi) Xfy S), .blk b30 [.slice a23 nfe c24, .slice a25 nfx c26, .slice a27 nfy c28] 49, .blk b7 [.slice none 0 0, .slice none 0 0, .slice none 0 0] 49, .blk b4 [.slice afe nfe cfe, .slice afx nfx cfx, .slice afy nfy cfy] 49, .blk b1 [.int .i64 wd, .int .i64 hi, .bool wr, .slice asp nsp csp, .slice als nls cls] 26, .rd kF asp nsp Xsp, .rd kF als nls Xls, .rd kF afe nfe Xfe, .rd kF afx nfx Xfx, .rd kF afy nfy Xfy] := B.castX 2 rfl rfl mix_all
          refine W_seq ?_
          refine W_region (by kernel_rfl) ?_
          refine s_y (v := .agg #[.slice a23 nfe c24, .slice a25 nfx c26, .slice a27 nfy c28]) rfl (y_loadn (b := b30) (o := 0) (vs := [.slice a23 nfe c24, .slice a25 nfx c26, .slice a27 nfy c28]) T51.agg_49_3 rfl rfl ((B.b 3 rfl).cells (o := 0) rfl)) ?_
          refine s_k rfl (k_call T51.fn_89 (c_s_l02Give ((B.b 6 rfl).sl) ((B.o 0 rfl).rd) ((B.o 1 rfl).rd) ((B.o 2 rfl).rd) (by omega) (by omega) (by omega) (by omega) (by omega) (by omega) (by omega)) rfl ?_)
          rintro v103 w101 hx102
          by_cases c104 : fitsB wd hi wr (mulL (wd * hi) Xfe S) (mulL (wd * hi) Xfx S) (mulL (wd * hi) Xfy S) = true
          · have hb105 := fitsB_b c104
            obtain ⟨rfl, e106⟩ := (hx102.resolve_right (fun hz => by rw [c104] at hz; cases hz.1)).2
            clear hx102
            replace B := B.ext0 e106
            clear e106
            refine s_y (v := .agg #[.slice a23 nfe c24, .slice a25 nfx c26, .slice a27 nfy c28]) rfl (y_extract rfl rfl) ?_
            refine s_y (v := .bool true) rfl (y_extract rfl rfl) ?_
            refine s_k0 rfl (k_stB (v := .agg #[.slice a23 nfe c24, .slice a25 nfx c26, .slice a27 nfy c28]) (n := 3) (cs' := [.slice a23 nfe c24, .slice a25 nfx c26, .slice a27 nfy c28]) T51.sz_49_3 rfl rfl rfl (B.b 4 rfl) (by simp [Value.cells, Value.oneCell']) (Nat.le_of_ble_eq_true rfl) rfl (fun w107 hU108 => ?_))
            replace B : Bu w no w107 [.blk b7 [.slice a23 nfe c24, .slice a25 nfx c26, .slice a27 nfy c28] 49, .ow kF a23 nfe c24 56 (mulL (wd * hi) Xfe S), .ow kF a25 nfx c26 56 (mulL (wd * hi) Xfx S), .ow kF a27 nfy c28 56 (mulL (wd * hi) Xfy S), .blk b30 [.slice a23 nfe c24, .slice a25 nfx c26, .slice a27 nfy c28] 49, .blk b4 [.slice afe nfe cfe, .slice afx nfx cfx, .slice afy nfy cfy] 49, .blk b1 [.int .i64 wd, .int .i64 hi, .bool wr, .slice asp nsp csp, .slice als nls cls] 26, .rd kF asp nsp Xsp, .rd kF als nls Xls, .rd kF afe nfe Xfe, .rd kF afx nfx Xfx, .rd kF afy nfy Xfy] := B.upd [4] rfl hU108
            clear hU108
            refine s_y (v := .bool true) rfl (y_assign rfl) ?_
            refine s_nil ?_
            refine W_ret ?_
            refine ret2 (v1 := .agg #[.slice a23 nfe c24, .slice a25 nfx c26, .slice a27 nfy c28]) (v2 := .bool true) rfl rfl rfl ⟨_, [.slice a23 nfe c24, .slice a25 nfx c26, .slice a27 nfy c28], _, rfl, (B.b 0 rfl), T51.agg_49_3, rfl⟩ rfl ⟨_, rfl, ?_⟩
            have hcond : sclB wd hi wr Xsp Xls Xfe Xfx Xfy S = true := by simp only [sclB, fieldB, c14, c20, (decide_eq_false c37), c104, Bool.and_true, Bool.true_and, Bool.and_false, Bool.false_and, Bool.not_true, Bool.not_false, Bool.or_true, Bool.true_or, Bool.or_false, Bool.false_or]
            replace B : Bu w no w107 [.blk b7 [.slice a23 nfe c24, .slice a25 nfx c26, .slice a27 nfy c28] 49, .ow kF a23 ((wd * hi).toNat) c24 56 (mulL (wd * hi) Xfe S), .ow kF a25 nfx c26 56 (mulL (wd * hi) Xfx S), .ow kF a27 nfy c28 56 (mulL (wd * hi) Xfy S), .blk b30 [.slice a23 nfe c24, .slice a25 nfx c26, .slice a27 nfy c28] 49, .blk b4 [.slice afe nfe cfe, .slice afx nfx cfx, .slice afy nfy cfy] 49, .blk b1 [.int .i64 wd, .int .i64 hi, .bool wr, .slice asp nsp csp, .slice als nls cls] 26, .rd kF asp nsp Xsp, .rd kF als nls Xls, .rd kF afe nfe Xfe, .rd kF afx nfx Xfx, .rd kF afy nfy Xfy] := B.castX 1 rfl (by omega) rfl
            replace B : Bu w no w107 [.blk b7 [.slice a23 nfe c24, .slice a25 nfx c26, .slice a27 nfy c28] 49, .ow kF a23 ((wd * hi).toNat) c24 56 (mulL (wd * hi) Xfe S), .ow kF a25 ((wd * hi).toNat) c26 56 (mulL (wd * hi) Xfx S), .ow kF a27 nfy c28 56 (mulL (wd * hi) Xfy S), .blk b30 [.slice a23 nfe c24, .slice a25 nfx c26, .slice a27 nfy c28] 49, .blk b4 [.slice afe nfe cfe, .slice afx nfx cfx, .slice afy nfy cfy] 49, .blk b1 [.int .i64 wd, .int .i64 hi, .bool wr, .slice asp nsp csp, .slice als nls cls] 26, .rd kF asp nsp Xsp, .rd kF als nls Xls, .rd kF afe nfe Xfe, .rd kF afx nfx Xfx, .rd kF afy nfy Xfy] := B.castX 2 rfl (by omega) rfl
            replace B : Bu w no w107 [.blk b7 [.slice a23 nfe c24, .slice a25 nfx c26, .slice a27 nfy c28] 49, .ow kF a23 ((wd * hi).toNat) c24 56 (mulL (wd * hi) Xfe S), .ow kF a25 ((wd * hi).toNat) c26 56 (mulL (wd * hi) Xfx S), .ow kF a27 ((wd * hi).toNat) c28 56 (mulL (wd * hi) Xfy S), .blk b30 [.slice a23 nfe c24, .slice a25 nfx c26, .slice a27 nfy c28] 49, .blk b4 [.slice afe nfe cfe, .slice afx nfx cfx, .slice afy nfy cfy] 49, .blk b1 [.int .i64 wd, .int .i64 hi, .bool wr, .slice asp nsp csp, .slice als nls cls] 26, .rd kF asp nsp Xsp, .rd kF als nls Xls, .rd kF afe nfe Xfe, .rd kF afx nfx Xfx, .rd kF afy nfy Xfy] := B.castX 3 rfl (by omega) rfl
            exact .inl ⟨hcond, ⟨_, _, _, _, _, _, (by rw [(show nfe = (wd * hi).toNat from (by omega)), (show nfx = (wd * hi).toNat from (by omega)), (show nfy = (wd * hi).toNat from (by omega))]), B.give [1, 2, 3] rfl rfl rfl⟩⟩
          · obtain ⟨_, rfl, e109⟩ := hx102.resolve_left (fun hz => c104 hz.1)
            clear hx102
            replace B := B.ext0 e109
            clear e109
            refine s_y (v := .agg #[.slice none 0 0, .slice none 0 0, .slice none 0 0]) rfl (y_extract rfl rfl) ?_
            refine s_y (v := .bool false) rfl (y_extract rfl rfl) ?_
            refine s_k0 rfl (k_stB (v := .agg #[.slice none 0 0, .slice none 0 0, .slice none 0 0]) (n := 3) (cs' := [.slice none 0 0, .slice none 0 0, .slice none 0 0]) T51.sz_49_3 rfl rfl rfl (B.b 4 rfl) (by simp [Value.cells, Value.oneCell']) (Nat.le_of_ble_eq_true rfl) rfl (fun w110 hU111 => ?_))
            replace B : Bu w no w110 [.blk b7 [.slice none 0 0, .slice none 0 0, .slice none 0 0] 49, .ow kF a23 nfe c24 56 (mulL (wd * hi) Xfe S), .ow kF a25 nfx c26 56 (mulL (wd * hi) Xfx S), .ow kF a27 nfy c28 56 (mulL (wd * hi) Xfy S), .blk b30 [.slice a23 nfe c24, .slice a25 nfx c26, .slice a27 nfy c28] 49, .blk b4 [.slice afe nfe cfe, .slice afx nfx cfx, .slice afy nfy cfy] 49, .blk b1 [.int .i64 wd, .int .i64 hi, .bool wr, .slice asp nsp csp, .slice als nls cls] 26, .rd kF asp nsp Xsp, .rd kF als nls Xls, .rd kF afe nfe Xfe, .rd kF afx nfx Xfx, .rd kF afy nfy Xfy] := B.upd [4] rfl hU111
            clear hU111
            refine s_y (v := .bool false) rfl (y_assign rfl) ?_
            refine s_nil ?_
            refine W_ret ?_
            refine ret2 (v1 := .agg #[.slice none 0 0, .slice none 0 0, .slice none 0 0]) (v2 := .bool false) rfl rfl rfl ⟨_, [.slice none 0 0, .slice none 0 0, .slice none 0 0], _, rfl, (B.b 0 rfl), T51.agg_49_3, rfl⟩ rfl ⟨_, rfl, ?_⟩
            exact .inr ⟨by simp only [sclB, fieldB, c14, c20, (decide_eq_false c37), (Bool.eq_false_iff.2 c104), Bool.and_true, Bool.true_and, Bool.and_false, Bool.false_and, Bool.not_true, Bool.not_false, Bool.or_true, Bool.true_or, Bool.or_false, Bool.false_or], rfl, B.ext⟩
    · obtain rfl : v18 = .bool false := hv19.trans (congrArg Value.bool (Bool.eq_false_iff.2 c20))
      refine s_y (v := .bool true) rfl (y_not rfl rfl) ?_
      refine s_y (v := .bool true) rfl (y_pick_f rfl rfl) ?_
      refine s_nil ?_
      refine W_if_t (by decide) rfl ?_
      refine W_seq ?_
      refine W_region (by kernel_rfl) ?_
      refine s_y (v := .agg #[.slice none 0 0, .slice none 0 0, .slice none 0 0]) rfl (y_build (cells := #[.slice none 0 0, .slice none 0 0, .slice none 0 0]) (by kernel_rfl)) ?_
      refine s_k0 rfl (k_stB (v := .agg #[.slice none 0 0, .slice none 0 0, .slice none 0 0]) (n := 3) (cs' := [.slice none 0 0, .slice none 0 0, .slice none 0 0]) T51.sz_49_3 rfl rfl rfl (B.b 0 rfl) (by simp [Value.cells, Value.oneCell']) (Nat.le_of_ble_eq_true rfl) rfl (fun w112 hU113 => ?_))
      replace B : Bu w no w112 [.blk b7 [.slice none 0 0, .slice none 0 0, .slice none 0 0] 49, .blk b4 [.slice afe nfe cfe, .slice afx nfx cfx, .slice afy nfy cfy] 49, .blk b1 [.int .i64 wd, .int .i64 hi, .bool wr, .slice asp nsp csp, .slice als nls cls] 26, .rd kF asp nsp Xsp, .rd kF als nls Xls, .rd kF afe nfe Xfe, .rd kF afx nfx Xfx, .rd kF afy nfy Xfy] := B.upd [0] rfl hU113
      clear hU113
      refine s_y (v := .bool false) rfl (y_assign rfl) ?_
      refine s_nil ?_
      refine W_ret ?_
      refine ret2 (v1 := .agg #[.slice none 0 0, .slice none 0 0, .slice none 0 0]) (v2 := .bool false) rfl rfl rfl ⟨_, [.slice none 0 0, .slice none 0 0, .slice none 0 0], _, rfl, (B.b 0 rfl), T51.agg_49_3, rfl⟩ rfl ⟨_, rfl, ?_⟩
      exact .inr ⟨by simp only [sclB, fieldB, c14, (Bool.eq_false_iff.2 c20), Bool.and_true, Bool.true_and, Bool.and_false, Bool.false_and, Bool.not_true, Bool.not_false, Bool.or_true, Bool.true_or, Bool.or_false, Bool.false_or], rfl, B.ext⟩
  · obtain rfl : v12 = .bool false := hv13.trans (congrArg Value.bool (Bool.eq_false_iff.2 c14))
    refine s_y (v := .bool true) rfl (y_not rfl rfl) ?_
    refine s_y (v := .bool true) rfl (y_move rfl) ?_
    refine s_skip rfl ?_
    refine s_skip rfl ?_
    refine s_y (v := .bool true) rfl (y_pick_t rfl rfl) ?_
    refine s_nil ?_
    refine W_if_t (by decide) rfl ?_
    refine W_seq ?_
    refine W_region (by kernel_rfl) ?_
    refine s_y (v := .agg #[.slice none 0 0, .slice none 0 0, .slice none 0 0]) rfl (y_build (cells := #[.slice none 0 0, .slice none 0 0, .slice none 0 0]) (by kernel_rfl)) ?_
    refine s_k0 rfl (k_stB (v := .agg #[.slice none 0 0, .slice none 0 0, .slice none 0 0]) (n := 3) (cs' := [.slice none 0 0, .slice none 0 0, .slice none 0 0]) T51.sz_49_3 rfl rfl rfl (B.b 0 rfl) (by simp [Value.cells, Value.oneCell']) (Nat.le_of_ble_eq_true rfl) rfl (fun w114 hU115 => ?_))
    replace B : Bu w no w114 [.blk b7 [.slice none 0 0, .slice none 0 0, .slice none 0 0] 49, .blk b4 [.slice afe nfe cfe, .slice afx nfx cfx, .slice afy nfy cfy] 49, .blk b1 [.int .i64 wd, .int .i64 hi, .bool wr, .slice asp nsp csp, .slice als nls cls] 26, .rd kF asp nsp Xsp, .rd kF als nls Xls, .rd kF afe nfe Xfe, .rd kF afx nfx Xfx, .rd kF afy nfy Xfy] := B.upd [0] rfl hU115
    clear hU115
    refine s_y (v := .bool false) rfl (y_assign rfl) ?_
    refine s_nil ?_
    refine W_ret ?_
    refine ret2 (v1 := .agg #[.slice none 0 0, .slice none 0 0, .slice none 0 0]) (v2 := .bool false) rfl rfl rfl ⟨_, [.slice none 0 0, .slice none 0 0, .slice none 0 0], _, rfl, (B.b 0 rfl), T51.agg_49_3, rfl⟩ rfl ⟨_, rfl, ?_⟩
    exact .inr ⟨by simp only [sclB, fieldB, (Bool.eq_false_iff.2 c14), Bool.and_true, Bool.true_and, Bool.and_false, Bool.false_and, Bool.not_true, Bool.not_false, Bool.or_true, Bool.true_or, Bool.or_false, Bool.false_or], rfl, B.ext⟩
namespace T90
theorem mx : Try.prog.follows .mixedOrders = true := by kernel_rfl
theorem one_56 : oneB Try.prog 56 = true := by kernel_rfl
end T90
set_option maxRecDepth 100000 in
set_option maxHeartbeats 4000000 in
theorem c_i_ScaleField_1 {r : Nat} {R : Nat} {r2 : Nat} {R2 : Nat} {b : Nat} {s : Nat} {S : Nat} {w : World} (h1 : can .f32 r = R) (h2 : can .f32 r2 = R2) (hs : can .f32 s = S) (Pb : Sl w (some ⟨b, 0, none⟩) [.float .f32 s]) :
    Calls Try.prog 90 #[.float .f32 r, .float .f32 r2, .pointer (some ⟨b, 0, none⟩)] w (Rt fun v w' => (∃ r, v = .float .f32 r ∧ can .f32 r = fop .mul .f32 R S) ∧ Ext0 w w') := by
  have B : Bu w no w [.sl (some ⟨b, 0, none⟩) [.float .f32 s]] := Bu.ro (All.cons Pb All.nil) rfl
  refine calls_W (n := 9) Try.func90 rfl rfl (Nat.le_of_ble_eq_true rfl) ?_
  refine W_seq ?_
  refine W_region (by kernel_rfl) ?_
  refine s_y (v := .float .f32 0) rfl (y_assign rfl) ?_
  refine s_nil ?_
  refine W_seq ?_
  refine W_region (by kernel_rfl) ?_
  refine s_y (v := .float .f32 r) rfl (y_move rfl) ?_
  refine s_y (v := .float .f32 s) rfl (y_load T90.one_56 rfl ((B.s 0 rfl).cell (j := 0) rfl)) ?_
  refine s_n rfl (n_arith (by decide) rfl rfl) ?_
  rintro _ w4 e5 ⟨r2, rfl, hr3⟩
  replace B := B.ext0 e5
  clear e5
  have hc6 := fopC hr3 h1 hs
  refine s_y (v := .float .f32 r2) rfl (y_assign rfl) ?_
  refine s_nil ?_
  refine W_ret ?_
  refine ret1 (v := .float .f32 r2) rfl rfl rfl ⟨_, rfl, ?_⟩
  exact ⟨⟨_, rfl, hc6⟩, B.ext⟩
namespace T91
theorem mx : Try.prog.follows .mixedOrders = true := by kernel_rfl
theorem one_56 : oneB Try.prog 56 = true := by kernel_rfl
theorem sl_24_56_1 : slB Try.prog 24 56 1 = true := by kernel_rfl
theorem slt_24 : SlT Try.prog 24 56 1 4 (.float .f32 0) := ⟨by kernel_rfl, by kernel_rfl, rfl, by decide⟩
end T91
set_option maxRecDepth 100000 in
set_option maxHeartbeats 4000000 in
theorem c_i_both {aa : Option Addr} {na : Nat} {ca : Nat} {Xa : List Nat} {ab : Option Addr} {nb : Nat} {cb : Nat} {Xb : List Nat} {f : Nat} {us xs : List Value} {FM : Nat → Nat → Nat} {w : World} (qa : Rd w kF aa na Xa) (qb : Rd w kF ab nb Xb) (hfB : fnB Try.prog f = true) (hF : ∀ r R r2 R2 {w1}, Ext0 w w1 → can .f32 r = R → can .f32 r2 = R2 → Calls Try.prog f (us ++ ([.float .f32 r, .float .f32 r2] : List Value) ++ xs).toArray w1 (Rt fun v w2 => (∃ q, v = .float .f32 q ∧ can .f32 q = FM R R2) ∧ Ext0 w1 w2)) (hab : nb = na) (hb : na ≤ 1048576) :
    Calls Try.prog 91 #[.slice aa na ca, .slice ab nb cb, .func (.func f) us.toArray xs.toArray] w (Rt fun v w' => ∃ (a1 : Option Addr) (c1 : Nat), v = .slice a1 na c1 ∧ New w w' [.ow kF a1 na c1 56 (zipL na FM Xa Xb)]) := by
  have hla := qa.len
  have hlb := qb.len
  have B : Bu w no w [.rd kF aa na Xa, .rd kF ab nb Xb] := Bu.ro (All.cons qa (All.cons qb All.nil)) rfl
  refine calls_W (n := 30) Try.func91 rfl rfl (Nat.le_of_ble_eq_true rfl) ?_
  refine W_seq ?_
  refine W_region (by kernel_rfl) ?_
  refine s_y (v := .slice none 0 0) rfl (y_assign rfl) ?_
  refine s_nil ?_
  refine W_seq ?_
  refine W_region (by kernel_rfl) ?_
  refine s_k rfl (k_bsliceO (k := kF) (n := 0) (cells := #[]) (X := []) T91.slt_24 (by decide) (by first | rfl | kernel_rfl) (rfl : Reps kF [] []) rfl (fun b1 w2 hN3 => ?_))
  replace B := B.new1 hN3
  clear hN3
  refine s_y (v := .slice (some ⟨b1, 0, none⟩) 0 0) rfl (y_assign rfl) ?_
  refine s_nil ?_
  refine W_seq ?_
  refine W_seq ?_
  refine W_region (by kernel_rfl) ?_
  refine s_y (v := .slice aa na ca) rfl (y_move rfl) ?_
  refine s_y (v := .int .i64 ((na : Nat) : Int)) rfl (y_len T91.sl_24_56_1 rfl rfl) ?_
  refine s_y (v := .int .i64 0) rfl (y_move rfl) ?_
  refine s_nil ?_
  refine W_block ?_
  refine W_loop (fun ρ' w' => ∃ (ρ1 : Env) (k : Int) (a0 : Option Addr) (cc0 : Nat) (nn0 : Nat), ρ' = updL ρ1 [(1, .slice ab nb cb), (2, .func (.func f) us.toArray xs.toArray), (6, .slice none 0 0), (7, .slice a0 nn0 cc0), (11, .slice aa na ca), (12, .int .i64 ((na : Nat) : Int)), (13, .int .i64 k)] ∧ Bu w no w' [.ow kF a0 nn0 cc0 56 (tab k (fun i => FM (el Xa i) (el Xb i))), .rd kF aa na Xa, .rd kF ab nb Xb] ∧ (0 ≤ k) ∧ (k ≤ (na : Int))) (fun ρ' _ => ((na : Int) - iv (ρ' 13)).toNat) ?_ ?_
  · replace B : Bu w no w2 [.ow kF (some ⟨b1, 0, none⟩) 0 0 56 (tab 0 (fun i => FM (el Xa i) (el Xb i))), .rd kF aa na Xa, .rd kF ab nb Xb] := B.castX 0 rfl rfl rfl
    exact ⟨_, 0, (some ⟨b1, 0, none⟩), 0, 0, Fits.eq ⟨rfl, rfl, rfl, rfl, rfl, rfl, rfl, trivial⟩, B, (Int.le_refl _), (by omega)⟩
  · clear B; rintro _ w4 ⟨ρ5, k, a0, cc0, nn0, rfl, B, h0k, h1k⟩
    have hnn0 := (B.o 0 rfl).len
    rw [tab_length] at hnn0
    refine W_seq ?_
    refine W_region (by kernel_rfl) ?_
    by_cases c6 : k < ((na : Nat) : Int)
    · refine s_y (v := .bool true) rfl (y_lss rfl rfl (decide_eq_true c6)) ?_
      refine s_nil ?_
      refine W_seq ?_
      refine W_if_t (by decide) rfl ?_
      refine W_skip ?_
      refine W_seq ?_
      refine W_block ?_
      refine W_seq ?_
      refine W_region (by kernel_rfl) ?_
      refine s_y (v := .int .i64 k) rfl (y_move rfl) ?_
      refine s_y (v := .pointer (some (sat aa ((k).toNat * 1)))) rfl (y_idx T91.sl_24_56_1 rfl rfl ((B.r 1 rfl).addr (by omega)) (by omega) (by omega)) ?_
      obtain ⟨r8, hr9, hR7⟩ := Rd.atF (B.r 1 rfl) k (by omega) (by omega)
      refine s_y (v := .float .f32 r8) rfl (y_load T91.one_56 rfl (hR7.cell (i := 0) rfl)) ?_
      refine s_y (v := .int .i64 k) rfl (y_assign rfl) ?_
      refine s_y (v := .float .f32 r8) rfl (y_assign rfl) ?_
      refine s_nil ?_
      refine W_region (by kernel_rfl) ?_
      refine s_y (v := .slice a0 nn0 cc0) rfl (y_move rfl) ?_
      refine s_y (v := .func (.func f) us.toArray xs.toArray) rfl (y_move rfl) ?_
      refine s_y (v := .float .f32 r8) rfl (y_move rfl) ?_
      refine s_y (v := .slice ab nb cb) rfl (y_move rfl) ?_
      refine s_y (v := .int .i64 k) rfl (y_move rfl) ?_
      refine s_y (v := .pointer (some (sat ab ((k).toNat * 1)))) rfl (y_idx T91.sl_24_56_1 rfl rfl ((B.r 2 rfl).addr (by omega)) (by omega) (by omega)) ?_
      obtain ⟨r11, hr12, hR10⟩ := Rd.atF (B.r 2 rfl) k (by omega) (by omega)
      refine s_y (v := .float .f32 r11) rfl (y_load T91.one_56 rfl (hR10.cell (i := 0) rfl)) ?_
      refine s_k rfl (k_callv hfB rfl (hF r8 (el Xa k) r11 (el Xb k) B.ext hr9 hr12) rfl ?_)
      rintro _ w13 ⟨⟨r15, rfl, hr16⟩, e14⟩
      replace B := B.ext0 e14
      clear e14
      refine s_k rfl (k_bsliceO (k := kF) (n := 1) (cells := #[.float .f32 r15]) (X := [FM (el Xa k) (el Xb k)]) T91.slt_24 (by decide) (by first | rfl | kernel_rfl) (reps_cons (c := [.float .f32 r15]) ⟨_, rfl, hr16⟩ (rfl : Reps kF [] [])) rfl (fun b17 w18 hN19 => ?_))
      replace B := B.new1 hN19
      clear hN19
      refine s_k rfl (k_appO (k := kF) T91.slt_24 rfl rfl rfl (B.o 1 rfl) (B.o 0 rfl).rd (by omega) (by unfold maxLen; omega) (fun a20 c21 w22 hU23 => ?_))
      replace B : Bu w no w22 [.ow kF a20 (nn0 + 1) c21 56 ((tab k (fun i => FM (el Xa i) (el Xb i))) ++ ([FM (el Xa k) (el Xb k)])), .ow kF (some ⟨b17, 0, none⟩) 1 1 56 ([FM (el Xa k) (el Xb k)]), .rd kF aa na Xa, .rd kF ab nb Xb] := B.upd [1] rfl hU23
      clear hU23
      refine s_y (v := .slice a20 (nn0 + 1) c21) rfl (y_assign rfl) ?_
      refine s_nil ?_
      refine W_region (by kernel_rfl) ?_
      refine s_y (v := .int .i64 (k + 1)) rfl (y_add rfl rfl rfl (by omega)) ?_
      refine s_y (v := .int .i64 (k + 1)) rfl (y_move rfl) ?_
      refine s_nil ?_
      replace B : Bu w no w22 [.ow kF a20 (nn0 + 1) c21 56 (tab (k + 1) (fun i => FM (el Xa i) (el Xb i))), .ow kF (some ⟨b17, 0, none⟩) 1 1 56 ([FM (el Xa k) (el Xb k)]), .rd kF aa na Xa, .rd kF ab nb Xb] := B.castX 0 rfl rfl (tab_snoc (g := fun i => FM (el Xa i) (el Xb i)) (by omega) rfl)
      refine ⟨⟨_, k + 1, a20, c21, nn0 + 1, Fits.eq ⟨rfl, rfl, rfl, rfl, rfl, rfl, rfl, trivial⟩, (B.pick [0, 2, 3] rfl rfl), (by omega), (by omega)⟩, ?_⟩
      show ((na : Int) - (k + 1)).toNat < ((na : Int) - k).toNat
      omega
    · refine s_y (v := .bool false) rfl (y_lss rfl rfl (decide_eq_false c6)) ?_
      refine s_nil ?_
      refine W_seq ?_
      refine W_if_f (by decide) rfl ?_
      refine W_exit ?_
      refine W_seq ?_
      refine W_region (by kernel_rfl) ?_
      refine s_y (v := .slice a0 nn0 cc0) rfl (y_move rfl) ?_
      refine s_y (v := .slice a0 nn0 cc0) rfl (y_assign rfl) ?_
      refine s_nil ?_
      refine W_ret ?_
      refine ret1 (v := .slice a0 nn0 cc0) rfl rfl rfl ⟨_, rfl, ?_⟩
      obtain rfl : k = (na : Int) := by omega
      replace B : Bu w no w4 [.ow kF a0 na cc0 56 (zipL na FM Xa Xb), .rd kF aa na Xa, .rd kF ab nb Xb] := B.castX 0 rfl (by omega) rfl
      exact ⟨_, _, (by rw [(show nn0 = na from (by omega))]), B.give [0] rfl rfl rfl⟩
namespace T88
theorem mx : Try.prog.follows .mixedOrders = true := by kernel_rfl
theorem agg_26_5 : aggB Try.prog 26 5 = true := by kernel_rfl
theorem agg_49_3 : aggB Try.prog 49 3 = true := by kernel_rfl
theorem fn_74 : fnB Try.prog 74 = true := by kernel_rfl
theorem sz_49_3 : szB Try.prog 49 3 = true := by kernel_rfl
theorem zero_49 : zeroB Try.prog 49 (.agg #[.slice none 0 0, .slice none 0 0, .slice none 0 0]) := by unfold zeroB; kernel_rfl
end T88
set_option maxRecDepth 100000 in
set_option maxHeartbeats 4000000 in
theorem c_i_validField {wd : Int} {hi : Int} {wr : Bool} {asp : Option Addr} {nsp : Nat} {csp : Nat} {Xsp : List Nat} {als : Option Addr} {nls : Nat} {cls : Nat} {Xls : List Nat} {afe : Option Addr} {nfe : Nat} {cfe : Nat} {Xfe : List Nat} {afx : Option Addr} {nfx : Nat} {cfx : Nat} {Xfx : List Nat} {afy : Option Addr} {nfy : Nat} {cfy : Nat} {Xfy : List Nat} {w : World} (qsp : Rd w kF asp nsp Xsp) (qls : Rd w kF als nls Xls) (qfe : Rd w kF afe nfe Xfe) (qfx : Rd w kF afx nfx Xfx) (qfy : Rd w kF afy nfy Xfy) (hbsp : nsp ≤ 9223372036854775806) (hbls : nls ≤ 9223372036854775806) (hbfe : nfe ≤ 9223372036854775806) (hbfx : nfx ≤ 9223372036854775806) (hbfy : nfy ≤ 9223372036854775806) :
    Calls Try.prog 88 #[.agg #[.int .i64 wd, .int .i64 hi, .bool wr, .slice asp nsp csp, .slice als nls cls], .agg #[.slice afe nfe cfe, .slice afx nfx cfx, .slice afy nfy cfy]] w (Rt fun v w' => (fieldB wd hi wr Xsp Xls Xfe Xfx Xfy = true ∧ v = .tuple #[.agg #[.slice afe nfe cfe, .slice afx nfx cfx, .slice afy nfy cfy], .bool true] ∧ Ext0 w w') ∨ (fieldB wd hi wr Xsp Xls Xfe Xfx Xfy = false ∧ v = .tuple #[.agg #[.slice none 0 0, .slice none 0 0, .slice none 0 0], .bool false] ∧ Ext0 w w')) := by
  have hlsp := qsp.len
  have hlls := qls.len
  have hlfe := qfe.len
  have hlfx := qfx.len
  have hlfy := qfy.len
  have B : Bu w no w [.rd kF asp nsp Xsp, .rd kF als nls Xls, .rd kF afe nfe Xfe, .rd kF afx nfx Xfx, .rd kF afy nfy Xfy] := Bu.ro (All.cons qsp (All.cons qls (All.cons qfe (All.cons qfx (All.cons qfy All.nil))))) rfl
  refine calls_W (n := 12) Try.func88 rfl rfl (Nat.le_of_ble_eq_true rfl) ?_
  refine W_seq ?_
  refine W_region (by kernel_rfl) ?_
  refine s_k rfl (k_boxN (v := .agg #[.int .i64 wd, .int .i64 hi, .bool wr, .slice asp nsp csp, .slice als nls cls]) (cs := [.int .i64 wd, .int .i64 hi, .bool wr, .slice asp nsp csp, .slice als nls cls]) rfl rfl (fun b1 w2 hN3 => ?_))
  replace B := B.new1 hN3
  clear hN3
  refine s_k rfl (k_boxN (v := .agg #[.slice afe nfe cfe, .slice afx nfx cfx, .slice afy nfy cfy]) (cs := [.slice afe nfe cfe, .slice afx nfx cfx, .slice afy nfy cfy]) rfl rfl (fun b4 w5 hN6 => ?_))
  replace B := B.new1 hN6
  clear hN6
  refine s_k rfl (k_allocN (z := (.agg #[.slice none 0 0, .slice none 0 0, .slice none 0 0])) (cs := [.slice none 0 0, .slice none 0 0, .slice none 0 0]) T88.zero_49 rfl (fun b7 w8 hN9 => ?_))
  replace B := B.new1 hN9
  clear hN9
  refine s_y (v := .bool false) rfl (y_assign rfl) ?_
  refine s_nil ?_
  refine W_seq ?_
  refine W_seq ?_
  refine W_region (by kernel_rfl) ?_
  refine s_y (v := .agg #[.int .i64 wd, .int .i64 hi, .bool wr, .slice asp nsp csp, .slice als nls cls]) rfl (y_loadn (b := b1) (o := 0) (vs := [.int .i64 wd, .int .i64 hi, .bool wr, .slice asp nsp csp, .slice als nls cls]) T88.agg_26_5 rfl rfl ((B.b 2 rfl).cells (o := 0) rfl)) ?_
  refine s_y (v := .agg #[.slice afe nfe cfe, .slice afx nfx cfx, .slice afy nfy cfy]) rfl (y_loadn (b := b4) (o := 0) (vs := [.slice afe nfe cfe, .slice afx nfx cfx, .slice afy nfy cfy]) T88.agg_49_3 rfl rfl ((B.b 1 rfl).cells (o := 0) rfl)) ?_
  refine s_k rfl (k_call T88.fn_74 (c_i_IsField (B.r 3 rfl) (B.r 4 rfl) (B.r 5 rfl) (B.r 6 rfl) (B.r 7 rfl) (by omega) (by omega) (by omega) (by omega) (by omega)) rfl ?_)
  rintro v12 w10 ⟨hv13, e11⟩
  replace B := B.ext0 e11
  clear e11
  by_cases c14 : fieldB wd hi wr Xsp Xls Xfe Xfx Xfy = true
  · have hb15 := fieldB_b c14
    obtain rfl : v12 = .bool true := hv13.trans (congrArg Value.bool c14)
    refine s_y (v := .bool false) rfl (y_not rfl rfl) ?_
    refine s_nil ?_
    refine W_if_f (by decide) rfl ?_
    refine W_skip ?_
    refine W_seq ?_
    refine W_region (by kernel_rfl) ?_
    refine s_y (v := .agg #[.slice afe nfe cfe, .slice afx nfx cfx, .slice afy nfy cfy]) rfl (y_loadn (b := b4) (o := 0) (vs := [.slice afe nfe cfe, .slice afx nfx cfx, .slice afy nfy cfy]) T88.agg_49_3 rfl rfl ((B.b 1 rfl).cells (o := 0) rfl)) ?_
    refine s_k0 rfl (k_stB (v := .agg #[.slice afe nfe cfe, .slice afx nfx cfx, .slice afy nfy cfy]) (n := 3) (cs' := [.slice afe nfe cfe, .slice afx nfx cfx, .slice afy nfy cfy]) T88.sz_49_3 rfl rfl rfl (B.b 0 rfl) (by simp [Value.cells, Value.oneCell']) (Nat.le_of_ble_eq_true rfl) rfl (fun w16 hU17 => ?_))
    replace B : Bu w no w16 [.blk b7 [.slice afe nfe cfe, .slice afx nfx cfx, .slice afy nfy cfy] 49, .blk b4 [.slice afe nfe cfe, .slice afx nfx cfx, .slice afy nfy cfy] 49, .blk b1 [.int .i64 wd, .int .i64 hi, .bool wr, .slice asp nsp csp, .slice als nls cls] 26, .rd kF asp nsp Xsp, .rd kF als nls Xls, .rd kF afe nfe Xfe, .rd kF afx nfx Xfx, .rd kF afy nfy Xfy] := B.upd [0] rfl hU17
    clear hU17
    refine s_y (v := .bool true) rfl (y_assign rfl) ?_
    refine s_nil ?_
    refine W_ret ?_
    refine ret2 (v1 := .agg #[.slice afe nfe cfe, .slice afx nfx cfx, .slice afy nfy cfy]) (v2 := .bool true) rfl rfl rfl ⟨_, [.slice afe nfe cfe, .slice afx nfx cfx, .slice afy nfy cfy], _, rfl, (B.b 0 rfl), T88.agg_49_3, rfl⟩ rfl ⟨_, rfl, ?_⟩
    have hcond : fieldB wd hi wr Xsp Xls Xfe Xfx Xfy = true := by simp only [c14, Bool.and_true, Bool.true_and, Bool.and_false, Bool.false_and, Bool.not_true, Bool.not_false, Bool.or_true, Bool.true_or, Bool.or_false, Bool.false_or]
    exact .inl ⟨hcond, ⟨rfl, B.ext⟩⟩
  · obtain rfl : v12 = .bool false := hv13.trans (congrArg Value.bool (Bool.eq_false_iff.2 c14))
    refine s_y (v := .bool true) rfl (y_not rfl rfl) ?_
    refine s_nil ?_
    refine W_if_t (by decide) rfl ?_
    refine W_seq ?_
    refine W_region (by kernel_rfl) ?_
    refine s_y (v := .agg #[.slice none 0 0, .slice none 0 0, .slice none 0 0]) rfl (y_build (cells := #[.slice none 0 0, .slice none 0 0, .slice none 0 0]) (by kernel_rfl)) ?_
    refine s_k0 rfl (k_stB (v := .agg #[.slice none 0 0, .slice none 0 0, .slice none 0 0]) (n := 3) (cs' := [.slice none 0 0, .slice none 0 0, .slice none 0 0]) T88.sz_49_3 rfl rfl rfl (B.b 0 rfl) (by simp [Value.cells, Value.oneCell']) (Nat.le_of_ble_eq_true rfl) rfl (fun w18 hU19 => ?_))
    replace B : Bu w no w18 [.blk b7 [.slice none 0 0, .slice none 0 0, .slice none 0 0] 49, .blk b4 [.slice afe nfe cfe, .slice afx nfx cfx, .slice afy nfy cfy] 49, .blk b1 [.int .i64 wd, .int .i64 hi, .bool wr, .slice asp nsp csp, .slice als nls cls] 26, .rd kF asp nsp Xsp, .rd kF als nls Xls, .rd kF afe nfe Xfe, .rd kF afx nfx Xfx, .rd kF afy nfy Xfy] := B.upd [0] rfl hU19
    clear hU19
    refine s_y (v := .bool false) rfl (y_assign rfl) ?_
    refine s_nil ?_
    refine W_ret ?_
    refine ret2 (v1 := .agg #[.slice none 0 0, .slice none 0 0, .slice none 0 0]) (v2 := .bool false) rfl rfl rfl ⟨_, [.slice none 0 0, .slice none 0 0, .slice none 0 0], _, rfl, (B.b 0 rfl), T88.agg_49_3, rfl⟩ rfl ⟨_, rfl, ?_⟩
    exact .inr ⟨by simp only [(Bool.eq_false_iff.2 c14), Bool.and_true, Bool.true_and, Bool.and_false, Bool.false_and, Bool.not_true, Bool.not_false, Bool.or_true, Bool.true_or, Bool.or_false, Bool.false_or], rfl, B.ext⟩
namespace T52
theorem mx : Try.prog.follows .mixedOrders = true := by kernel_rfl
theorem agg_26_5 : aggB Try.prog 26 5 = true := by kernel_rfl
theorem agg_49_3 : aggB Try.prog 49 3 = true := by kernel_rfl
theorem fld_49_0_0 : fldB Try.prog 49 0 0 = true := by kernel_rfl
theorem fld_49_1_1 : fldB Try.prog 49 1 1 = true := by kernel_rfl
theorem fld_49_2_2 : fldB Try.prog 49 2 2 = true := by kernel_rfl
theorem fn_74 : fnB Try.prog 74 = true := by kernel_rfl
theorem fn_88 : fnB Try.prog 88 = true := by kernel_rfl
theorem fn_90 : fnB Try.prog 90 = true := by kernel_rfl
theorem fn_91 : fnB Try.prog 91 = true := by kernel_rfl
theorem one_24 : oneB Try.prog 24 = true := by kernel_rfl
theorem sz_49_3 : szB Try.prog 49 3 = true := by kernel_rfl
theorem zero_49 : zeroB Try.prog 49 (.agg #[.slice none 0 0, .slice none 0 0, .slice none 0 0]) := by unfold zeroB; kernel_rfl
end T52
set_option maxRecDepth 100000 in
set_option maxHeartbeats 4000000 in
theorem c_i_ScaleField {wd : Int} {hi : Int} {wr : Bool} {asp : Option Addr} {nsp : Nat} {csp : Nat} {Xsp : List Nat} {als : Option Addr} {nls : Nat} {cls : Nat} {Xls : List Nat} {afe : Option Addr} {nfe : Nat} {cfe : Nat} {Xfe : List Nat} {afx : Option Addr} {nfx : Nat} {cfx : Nat} {Xfx : List Nat} {afy : Option Addr} {nfy : Nat} {cfy : Nat} {Xfy : List Nat} {sv : Nat} {S : Nat} {w : World} (qsp : Rd w kF asp nsp Xsp) (qls : Rd w kF als nls Xls) (qfe : Rd w kF afe nfe Xfe) (qfx : Rd w kF afx nfx Xfx) (qfy : Rd w kF afy nfy Xfy) (hsv : can .f32 sv = S) (hbsp : nsp ≤ 9223372036854775806) (hbls : nls ≤ 9223372036854775806) (hbfe : nfe ≤ 9223372036854775806) (hbfx : nfx ≤ 9223372036854775806) (hbfy : nfy ≤ 9223372036854775806) :
    Calls Try.prog 52 #[.agg #[.int .i64 wd, .int .i64 hi, .bool wr, .slice asp nsp csp, .slice als nls cls], .agg #[.slice afe nfe cfe, .slice afx nfx cfx, .slice afy nfy cfy], .float .f32 sv] w (Rt fun v w' => (sclB wd hi wr Xsp Xls Xfe Xfx Xfy S = true ∧ ∃ (a1 : Option Addr) (c1 : Nat) (a2 : Option Addr) (c2 : Nat) (a3 : Option Addr) (c3 : Nat), v = .tuple #[.agg #[.slice a1 ((wd * hi).toNat) c1, .slice a2 ((wd * hi).toNat) c2, .slice a3 ((wd * hi).toNat) c3], .bool true] ∧ New w w' [.ow kF a1 ((wd * hi).toNat) c1 56 (mulL (wd * hi) Xfe S), .ow kF a2 ((wd * hi).toNat) c2 56 (mulL (wd * hi) Xfx S), .ow kF a3 ((wd * hi).toNat) c3 56 (mulL (wd * hi) Xfy S)]) ∨ (sclB wd hi wr Xsp Xls Xfe Xfx Xfy S = false ∧ v = .tuple #[.agg #[.slice none 0 0, .slice none 0 0, .slice none 0 0], .bool false] ∧ Ext0 w w')) := by
  have hlsp := qsp.len
  have hlls := qls.len
  have hlfe := qfe.len
  have hlfx := qfx.len
  have hlfy := qfy.len
  have B : Bu w no w [.rd kF asp nsp Xsp, .rd kF als nls Xls, .rd kF afe nfe Xfe, .rd kF afx nfx Xfx, .rd kF afy nfy Xfy] := Bu.ro (All.cons qsp (All.cons qls (All.cons qfe (All.cons qfx (All.cons qfy All.nil))))) rfl
  refine calls_W (n := 38) Try.func52 rfl rfl (Nat.le_of_ble_eq_true rfl) ?_
  refine W_seq ?_
  refine W_region (by kernel_rfl) ?_
  refine s_k rfl (k_boxN (v := .agg #[.int .i64 wd, .int .i64 hi, .bool wr, .slice asp nsp csp, .slice als nls cls]) (cs := [.int .i64 wd, .int .i64 hi, .bool wr, .slice asp nsp csp, .slice als nls cls]) rfl rfl (fun b1 w2 hN3 => ?_))
  replace B := B.new1 hN3
  clear hN3
  refine s_k rfl (k_boxN (v := .agg #[.slice afe nfe cfe, .slice afx nfx cfx, .slice afy nfy cfy]) (cs := [.slice afe nfe cfe, .slice afx nfx cfx, .slice afy nfy cfy]) rfl rfl (fun b4 w5 hN6 => ?_))
  replace B := B.new1 hN6
  clear hN6
  refine s_k rfl (k_boxN (v := .float .f32 sv) (cs := [.float .f32 sv]) rfl rfl (fun b7 w8 hN9 => ?_))
  replace B := B.new1 hN9
  clear hN9
  refine s_k rfl (k_allocN (z := (.agg #[.slice none 0 0, .slice none 0 0, .slice none 0 0])) (cs := [.slice none 0 0, .slice none 0 0, .slice none 0 0]) T52.zero_49 rfl (fun b10 w11 hN12 => ?_))
  replace B := B.new1 hN12
  clear hN12
  refine s_y (v := .bool false) rfl (y_assign rfl) ?_
  refine s_nil ?_
  refine W_seq ?_
  refine W_seq ?_
  refine W_region (by kernel_rfl) ?_
  refine s_y (v := .agg #[.int .i64 wd, .int .i64 hi, .bool wr, .slice asp nsp csp, .slice als nls cls]) rfl (y_loadn (b := b1) (o := 0) (vs := [.int .i64 wd, .int .i64 hi, .bool wr, .slice asp nsp csp, .slice als nls cls]) T52.agg_26_5 rfl rfl ((B.b 3 rfl).cells (o := 0) rfl)) ?_
  refine s_y (v := .agg #[.slice afe nfe cfe, .slice afx nfx cfx, .slice afy nfy cfy]) rfl (y_loadn (b := b4) (o := 0) (vs := [.slice afe nfe cfe, .slice afx nfx cfx, .slice afy nfy cfy]) T52.agg_49_3 rfl rfl ((B.b 2 rfl).cells (o := 0) rfl)) ?_
  refine s_k rfl (k_call T52.fn_74 (c_i_IsField (B.r 4 rfl) (B.r 5 rfl) (B.r 6 rfl) (B.r 7 rfl) (B.r 8 rfl) (by omega) (by omega) (by omega) (by omega) (by omega)) rfl ?_)
  rintro v15 w13 ⟨hv16, e14⟩
  replace B := B.ext0 e14
  clear e14
  by_cases c17 : fieldB wd hi wr Xsp Xls Xfe Xfx Xfy = true
  · have hb18 := fieldB_b c17
    obtain rfl : v15 = .bool true := hv16.trans (congrArg Value.bool c17)
    refine s_y (v := .bool false) rfl (y_not rfl rfl) ?_
    refine s_nil ?_
    refine W_if_f (by decide) rfl ?_
    refine W_skip ?_
    refine W_seq ?_
    refine W_region (by kernel_rfl) ?_
    refine s_y (v := .func (.func 90) #[] #[.pointer (some ⟨b7, 0, none⟩)]) rfl (y_func rfl rfl) ?_
    refine s_y (v := .func (.func 90) #[] #[.pointer (some ⟨b7, 0, none⟩)]) rfl (y_assign rfl) ?_
    refine s_nil ?_
    refine W_seq ?_
    have B0_23 := B
    refine W_draw (at1 b10) T52.mx (by kernel_rfl) (fun w21 e22 => ?_)
    have R24 := Ext.refl (at1 b10) w13
    replace R24 := R24.trans (Ext0.any e22)
    replace B := B.ext0 e22
    clear e22
    refine m_y (v := .agg #[.int .i64 wd, .int .i64 hi, .bool wr, .slice asp nsp csp, .slice als nls cls]) 0 rfl (by kernel_rfl) rfl rfl (fun w' e' => y_loadn (b := b1) (o := 0) (vs := [.int .i64 wd, .int .i64 hi, .bool wr, .slice asp nsp csp, .slice als nls cls]) T52.agg_26_5 rfl rfl ((B0_23.bx 3 0 rfl rfl rfl rfl e' (fun _ h => h)).cells (o := 0) rfl)) ?_
    refine m_y (v := .pointer (some ⟨b4, 0, none⟩)) 1 rfl (by kernel_rfl) rfl rfl (fun w' e' => y_fld (o := 0) T52.fld_49_0_0 rfl) ?_
    refine m_y (v := .slice afe nfe cfe) 2 rfl (by kernel_rfl) rfl rfl (fun w' e' => y_load T52.one_24 rfl ((B0_23.bx 2 0 rfl rfl rfl rfl e' (fun _ h => h)).cell (j := 0) rfl)) ?_
    refine m_y (v := .pointer (some ⟨b4, 0, none⟩)) 3 rfl (by kernel_rfl) rfl rfl (fun w' e' => y_fld (o := 0) T52.fld_49_0_0 rfl) ?_
    refine m_y (v := .slice afe nfe cfe) 4 rfl (by kernel_rfl) rfl rfl (fun w' e' => y_load T52.one_24 rfl ((B0_23.bx 2 0 rfl rfl rfl rfl e' (fun _ h => h)).cell (j := 0) rfl)) ?_
    refine m_y (v := .func (.func 90) #[] #[.pointer (some ⟨b7, 0, none⟩)]) 5 rfl (by kernel_rfl) rfl rfl (fun w' e' => y_move rfl) ?_
    refine m_y (v := .pointer (some ⟨b4, 1, none⟩)) 7 rfl (by kernel_rfl) rfl rfl (fun w' e' => y_fld (o := 0) T52.fld_49_1_1 rfl) ?_
    refine m_y (v := .slice afx nfx cfx) 8 rfl (by kernel_rfl) rfl rfl (fun w' e' => y_load T52.one_24 rfl ((B0_23.bx 2 0 rfl rfl rfl rfl e' (fun _ h => h)).cell (j := 1) rfl)) ?_
    refine m_y (v := .pointer (some ⟨b4, 1, none⟩)) 9 rfl (by kernel_rfl) rfl rfl (fun w' e' => y_fld (o := 0) T52.fld_49_1_1 rfl) ?_
    refine m_y (v := .slice afx nfx cfx) 10 rfl (by kernel_rfl) rfl rfl (fun w' e' => y_load T52.one_24 rfl ((B0_23.bx 2 0 rfl rfl rfl rfl e' (fun _ h => h)).cell (j := 1) rfl)) ?_
    refine m_y (v := .func (.func 90) #[] #[.pointer (some ⟨b7, 0, none⟩)]) 11 rfl (by kernel_rfl) rfl rfl (fun w' e' => y_move rfl) ?_
    refine m_y (v := .pointer (some ⟨b4, 2, none⟩)) 13 rfl (by kernel_rfl) rfl rfl (fun w' e' => y_fld (o := 0) T52.fld_49_2_2 rfl) ?_
    refine m_y (v := .slice afy nfy cfy) 14 rfl (by kernel_rfl) rfl rfl (fun w' e' => y_load T52.one_24 rfl ((B0_23.bx 2 0 rfl rfl rfl rfl e' (fun _ h => h)).cell (j := 2) rfl)) ?_
    refine m_y (v := .pointer (some ⟨b4, 2, none⟩)) 15 rfl (by kernel_rfl) rfl rfl (fun w' e' => y_fld (o := 0) T52.fld_49_2_2 rfl) ?_
    refine m_y (v := .slice afy nfy cfy) 16 rfl (by kernel_rfl) rfl rfl (fun w' e' => y_load T52.one_24 rfl ((B0_23.bx 2 0 rfl rfl rfl rfl e' (fun _ h => h)).cell (j := 2) rfl)) ?_
    refine m_y (v := .func (.func 90) #[] #[.pointer (some ⟨b7, 0, none⟩)]) 17 rfl (by kernel_rfl) rfl rfl (fun w' e' => y_move rfl) ?_
    refine m_k 6 [12, 18, 19, 20, 21, 22, 23, 24] rfl (by kernel_rfl) rfl rfl (fun w25 e26 => ?_)
    replace R24 := R24.trans (Ext0.any e26)
    replace B := B.ext0 e26
    clear e26
    refine k_call T52.fn_91 (c_i_both (f := 90) (us := []) (xs := [.pointer (some ⟨b7, 0, none⟩)]) (FM := (fun a _ => fop .mul .f32 a S)) (B.r 6 rfl) (B.r 6 rfl) T52.fn_90 (fun r R r2 R2 w1 he h1 h2 => (c_i_ScaleField_1 h1 h2 hsv ((B.b 1 rfl).sl.ext0 he))) rfl (by omega)) rfl ?_
    rintro _ w27 ⟨a28, c29, rfl, hN30⟩
    replace R24 := R24.trans (Ext0.any hN30.ext)
    replace B := B.new1 hN30
    clear hN30
    refine ⟨fun _ => R24, ?_⟩
    refine m_k 12 [18, 19, 20, 21, 22, 23, 24] rfl (by kernel_rfl) rfl rfl (fun w31 e32 => ?_)
    replace R24 := R24.trans (Ext0.any e32)
    replace B := B.ext0 e32
    clear e32
    refine k_call T52.fn_91 (c_i_both (f := 90) (us := []) (xs := [.pointer (some ⟨b7, 0, none⟩)]) (FM := (fun a _ => fop .mul .f32 a S)) (B.r 8 rfl) (B.r 8 rfl) T52.fn_90 (fun r R r2 R2 w1 he h1 h2 => (c_i_ScaleField_1 h1 h2 hsv ((B.b 2 rfl).sl.ext0 he))) rfl (by omega)) rfl ?_
    rintro _ w33 ⟨a34, c35, rfl, hN36⟩
    replace R24 := R24.trans (Ext0.any hN36.ext)
    replace B := B.new1 hN36
    clear hN36
    refine ⟨fun _ => R24, ?_⟩
    refine m_k 18 [19, 20, 21, 22, 23, 24] rfl (by kernel_rfl) rfl rfl (fun w37 e38 => ?_)
    replace R24 := R24.trans (Ext0.any e38)
    replace B := B.ext0 e38
    clear e38
    refine k_call T52.fn_91 (c_i_both (f := 90) (us := []) (xs := [.pointer (some ⟨b7, 0, none⟩)]) (FM := (fun a _ => fop .mul .f32 a S)) (B.r 10 rfl) (B.r 10 rfl) T52.fn_90 (fun r R r2 R2 w1 he h1 h2 => (c_i_ScaleField_1 h1 h2 hsv ((B.b 3 rfl).sl.ext0 he))) rfl (by omega)) rfl ?_
    rintro _ w39 ⟨a40, c41, rfl, hN42⟩
    replace R24 := R24.trans (Ext0.any hN42.ext)
    replace B := B.new1 hN42
    clear hN42
    refine ⟨fun _ => R24, ?_⟩
    refine m_y (v := .agg #[.slice a28 nfe c29, .slice a34 nfx c35, .slice a40 nfy c41]) 19 rfl (by kernel_rfl) rfl rfl (fun w' e' => y_build (cells := #[.slice a28 nfe c29, .slice a34 nfx c35, .slice a40 nfy c41]) (by kernel_rfl)) ?_
    refine m_k 20 [21, 22, 23, 24] rfl (by kernel_rfl) rfl rfl (fun w43 e44 => ?_)
    replace R24 := R24.trans (Ext0.any e44)
    replace B := B.ext0 e44
    clear e44
    refine k_call T52.fn_88 (c_i_validField (B.r 7 rfl) (B.r 8 rfl) ((B.o 2 rfl).rd) ((B.o 1 rfl).rd) ((B.o 0 rfl).rd) (by omega) (by omega) (by omega) (by omega) (by omega)) rfl ?_
    rintro v47 w45 hx46
    by_cases c48 : fieldB wd hi wr Xsp Xls (zipL nfe (fun a _ => fop .mul .f32 a S) Xfe Xfe) (zipL nfx (fun a _ => fop .mul .f32 a S) Xfx Xfx) (zipL nfy (fun a _ => fop .mul .f32 a S) Xfy Xfy) = true
    · have hb49 := fieldB_b c48
      obtain ⟨rfl, e50⟩ := (hx46.resolve_right (fun hz => by rw [c48] at hz; cases hz.1)).2
      clear hx46
      replace R24 := R24.trans (Ext0.any e50)
      replace B := B.ext0 e50
      clear e50
      refine ⟨fun _ => R24, ?_⟩
      refine m_y (v := .agg #[.slice a28 nfe c29, .slice a34 nfx c35, .slice a40 nfy c41]) 21 rfl (by kernel_rfl) rfl rfl (fun w' e' => y_extract rfl rfl) ?_
      refine m_y (v := .bool true) 22 rfl (by kernel_rfl) rfl rfl (fun w' e' => y_extract rfl rfl) ?_
      refine m_k 23 [24] rfl (by kernel_rfl) rfl rfl (fun w53 e54 => ?_)
      replace R24 := R24.trans (Ext0.any e54)
      replace B := B.ext0 e54
      clear e54
      refine k_stB (v := .agg #[.slice a28 nfe c29, .slice a34 nfx c35, .slice a40 nfy c41]) (n := 3) (cs' := [.slice a28 nfe c29, .slice a34 nfx c35, .slice a40 nfy c41]) T52.sz_49_3 rfl rfl rfl (B.b 3 rfl) (by simp [Value.cells, Value.oneCell']) (Nat.le_of_ble_eq_true rfl) rfl (fun w51 hU52 => ?_)
      replace R24 := R24.trans hU52.at1
      replace B : Bu w no w51 [.blk b10 [.slice a28 nfe c29, .slice a34 nfx c35, .slice a40 nfy c41] 49, .ow kF a40 nfy c41 56 (zipL nfy (fun a _ => fop .mul .f32 a S) Xfy Xfy), .ow kF a34 nfx c35 56 (zipL nfx (fun a _ => fop .mul .f32 a S) Xfx Xfx), .ow kF a28 nfe c29 56 (zipL nfe (fun a _ => fop .mul .f32 a S) Xfe Xfe), .blk b7 [.float .f32 sv] 56, .blk b4 [.slice afe nfe cfe, .slice afx nfx cfx, .slice afy nfy cfy] 49, .blk b1 [.int .i64 wd, .int .i64 hi, .bool wr, .slice asp nsp csp, .slice als nls cls] 26, .rd kF asp nsp Xsp, .rd kF als nls Xls, .rd kF afe nfe Xfe, .rd kF afx nfx Xfx, .rd kF afy nfy Xfy] := B.upd [3] rfl hU52
      clear hU52
      refine ⟨fun _ => R24, ?_⟩
      refine m_y (v := .bool true) 24 rfl (by kernel_rfl) rfl rfl (fun w' e' => y_assign rfl) ?_
      refine m_done (by kernel_rfl) (fun w55 e56 => ?_)
      replace B := B.ext0 e56
      clear e56
      clear B0_23 R24
      refine W_ret ?_
      refine ret2 (v1 := .agg #[.slice a28 nfe c29, .slice a34 nfx c35, .slice a40 nfy c41]) (v2 := .bool true) rfl rfl rfl ⟨_, [.slice a28 nfe c29, .slice a34 nfx c35, .slice a40 nfy c41], _, rfl, (B.b 0 rfl), T52.agg_49_3, rfl⟩ rfl ⟨_, rfl, ?_⟩
      have hlast := (sclB_i (by omega) (by omega) (by omega)).trans c48
      have hcond : sclB wd hi wr Xsp Xls Xfe Xfx Xfy S = true := by simp only [sclB, hlast, c17, c48, Bool.and_true, Bool.true_and, Bool.and_false, Bool.false_and, Bool.not_true, Bool.not_false, Bool.or_true, Bool.true_or, Bool.or_false, Bool.false_or]
      replace B : Bu w no w55 [.blk b10 [.slice a28 nfe c29, .slice a34 nfx c35, .slice a40 nfy c41] 49, .ow kF a40 nfy c41 56 (zipL nfy (fun a _ => fop .mul .f32 a S) Xfy Xfy), .ow kF a34 nfx c35 56 (zipL nfx (fun a _ => fop .mul .f32 a S) Xfx Xfx), .ow kF a28 ((wd * hi).toNat) c29 56 (mulL (wd * hi) Xfe S), .blk b7 [.float .f32 sv] 56, .blk b4 [.slice afe nfe cfe, .slice afx nfx cfx, .slice afy nfy cfy] 49, .blk b1 [.int .i64 wd, .int .i64 hi, .bool wr, .slice asp nsp csp, .slice als nls cls] 26, .rd kF asp nsp Xsp, .rd kF als nls Xls, .rd kF afe nfe Xfe, .rd kF afx nfx Xfx, .rd kF afy nfy Xfy] := B.castX 3 rfl (by omega) (congrArg (fun q => mulL q _ _) (by omega))
      replace B : Bu w no w55 [.blk b10 [.slice a28 nfe c29, .slice a34 nfx c35, .slice a40 nfy c41] 49, .ow kF a40 nfy c41 56 (zipL nfy (fun a _ => fop .mul .f32 a S) Xfy Xfy), .ow kF a34 ((wd * hi).toNat) c35 56 (mulL (wd * hi) Xfx S), .ow kF a28 ((wd * hi).toNat) c29 56 (mulL (wd * hi) Xfe S), .blk b7 [.float .f32 sv] 56, .blk b4 [.slice afe nfe cfe, .slice afx nfx cfx, .slice afy nfy cfy] 49, .blk b1 [.int .i64 wd, .int .i64 hi, .bool wr, .slice asp nsp csp, .slice als nls cls] 26, .rd kF asp nsp Xsp, .rd kF als nls Xls, .rd kF afe nfe Xfe, .rd kF afx nfx Xfx, .rd kF afy nfy Xfy] := B.castX 2 rfl (by omega) (congrArg (fun q => mulL q _ _) (by omega))
      replace B : Bu w no w55 [.blk b10 [.slice a28 nfe c29, .slice a34 nfx c35, .slice a40 nfy c41] 49, .ow kF a40 ((wd * hi).toNat) c41 56 (mulL (wd * hi) Xfy S), .ow kF a34 ((wd * hi).toNat) c35 56 (mulL (wd * hi) Xfx S), .ow kF a28 ((wd * hi).toNat) c29 56 (mulL (wd * hi) Xfe S), .blk b7 [.float .f32 sv] 56, .blk b4 [.slice afe nfe cfe, .slice afx nfx cfx, .slice afy nfy cfy] 49, .blk b1 [.int .i64 wd, .int .i64 hi, .bool wr, .slice asp nsp csp, .slice als nls cls] 26, .rd kF asp nsp Xsp, .rd kF als nls Xls, .rd kF afe nfe Xfe, .rd kF afx nfx Xfx, .rd kF afy nfy Xfy] := B.castX 1 rfl (by omega) (congrArg (fun q => mulL q _ _) (by omega))
      exact .inl ⟨hcond, ⟨_, _, _, _, _, _, (by rw [(show nfe = (wd * hi).toNat from (by omega)), (show nfx = (wd * hi).toNat from (by omega)), (show nfy = (wd * hi).toNat from (by omega))]), B.give [3, 2, 1] rfl rfl rfl⟩⟩
    · obtain ⟨_, rfl, e57⟩ := hx46.resolve_left (fun hz => c48 hz.1)
      clear hx46
      replace R24 := R24.trans (Ext0.any e57)
      replace B := B.ext0 e57
      clear e57
      refine ⟨fun _ => R24, ?_⟩
      refine m_y (v := .agg #[.slice none 0 0, .slice none 0 0, .slice none 0 0]) 21 rfl (by kernel_rfl) rfl rfl (fun w' e' => y_extract rfl rfl) ?_
      refine m_y (v := .bool false) 22 rfl (by kernel_rfl) rfl rfl (fun w' e' => y_extract rfl rfl) ?_
      refine m_k 23 [24] rfl (by kernel_rfl) rfl rfl (fun w60 e61 => ?_)
      replace R24 := R24.trans (Ext0.any e61)
      replace B := B.ext0 e61
      clear e61
      refine k_stB (v := .agg #[.slice none 0 0, .slice none 0 0, .slice none 0 0]) (n := 3) (cs' := [.slice none 0 0, .slice none 0 0, .slice none 0 0]) T52.sz_49_3 rfl rfl rfl (B.b 3 rfl) (by simp [Value.cells, Value.oneCell']) (Nat.le_of_ble_eq_true rfl) rfl (fun w58 hU59 => ?_)
      replace R24 := R24.trans hU59.at1
      replace B : Bu w no w58 [.blk b10 [.slice none 0 0, .slice none 0 0, .slice none 0 0] 49, .ow kF a40 nfy c41 56 (zipL nfy (fun a _ => fop .mul .f32 a S) Xfy Xfy), .ow kF a34 nfx c35 56 (zipL nfx (fun a _ => fop .mul .f32 a S) Xfx Xfx), .ow kF a28 nfe c29 56 (zipL nfe (fun a _ => fop .mul .f32 a S) Xfe Xfe), .blk b7 [.float .f32 sv] 56, .blk b4 [.slice afe nfe cfe, .slice afx nfx cfx, .slice afy nfy cfy] 49, .blk b1 [.int .i64 wd, .int .i64 hi, .bool wr, .slice asp nsp csp, .slice als nls cls] 26, .rd kF asp nsp Xsp, .rd kF als nls Xls, .rd kF afe nfe Xfe, .rd kF afx nfx Xfx, .rd kF afy nfy Xfy] := B.upd [3] rfl hU59
      clear hU59
      refine ⟨fun _ => R24, ?_⟩
      refine m_y (v := .bool false) 24 rfl (by kernel_rfl) rfl rfl (fun w' e' => y_assign rfl) ?_
      refine m_done (by kernel_rfl) (fun w62 e63 => ?_)
      replace B := B.ext0 e63
      clear e63
      clear B0_23 R24
      refine W_ret ?_
      refine ret2 (v1 := .agg #[.slice none 0 0, .slice none 0 0, .slice none 0 0]) (v2 := .bool false) rfl rfl rfl ⟨_, [.slice none 0 0, .slice none 0 0, .slice none 0 0], _, rfl, (B.b 0 rfl), T52.agg_49_3, rfl⟩ rfl ⟨_, rfl, ?_⟩
      have hlast := (sclB_i (by omega) (by omega) (by omega)).trans (Bool.eq_false_iff.2 c48)
      exact .inr ⟨by simp only [sclB, hlast, c17, (Bool.eq_false_iff.2 c48), Bool.and_true, Bool.true_and, Bool.and_false, Bool.false_and, Bool.not_true, Bool.not_false, Bool.or_true, Bool.true_or, Bool.or_false, Bool.false_or], rfl, B.ext⟩
  · obtain rfl : v15 = .bool false := hv16.trans (congrArg Value.bool (Bool.eq_false_iff.2 c17))
    refine s_y (v := .bool true) rfl (y_not rfl rfl) ?_
    refine s_nil ?_
    refine W_if_t (by decide) rfl ?_
    refine W_seq ?_
    refine W_region (by kernel_rfl) ?_
    refine s_y (v := .agg #[.slice none 0 0, .slice none 0 0, .slice none 0 0]) rfl (y_build (cells := #[.slice none 0 0, .slice none 0 0, .slice none 0 0]) (by kernel_rfl)) ?_
    refine s_k0 rfl (k_stB (v := .agg #[.slice none 0 0, .slice none 0 0, .slice none 0 0]) (n := 3) (cs' := [.slice none 0 0, .slice none 0 0, .slice none 0 0]) T52.sz_49_3 rfl rfl rfl (B.b 0 rfl) (by simp [Value.cells, Value.oneCell']) (Nat.le_of_ble_eq_true rfl) rfl (fun w64 hU65 => ?_))
    replace B : Bu w no w64 [.blk b10 [.slice none 0 0, .slice none 0 0, .slice none 0 0] 49, .blk b7 [.float .f32 sv] 56, .blk b4 [.slice afe nfe cfe, .slice afx nfx cfx, .slice afy nfy cfy] 49, .blk b1 [.int .i64 wd, .int .i64 hi, .bool wr, .slice asp nsp csp, .slice als nls cls] 26, .rd kF asp nsp Xsp, .rd kF als nls Xls, .rd kF afe nfe Xfe, .rd kF afx nfx Xfx, .rd kF afy nfy Xfy] := B.upd [0] rfl hU65
    clear hU65
    refine s_y (v := .bool false) rfl (y_assign rfl) ?_
    refine s_nil ?_
    refine W_ret ?_
    refine ret2 (v1 := .agg #[.slice none 0 0, .slice none 0 0, .slice none 0 0]) (v2 := .bool false) rfl rfl rfl ⟨_, [.slice none 0 0, .slice none 0 0, .slice none 0 0], _, rfl, (B.b 0 rfl), T52.agg_49_3, rfl⟩ rfl ⟨_, rfl, ?_⟩
    exact .inr ⟨by simp only [sclB, (Bool.eq_false_iff.2 c17), Bool.and_true, Bool.true_and, Bool.and_false, Bool.false_and, Bool.not_true, Bool.not_false, Bool.or_true, Bool.true_or, Bool.or_false, Bool.false_or], rfl, B.ext⟩
end Go.Proofs.Ytalkhbnlphefdaa
