/- Walks: what the functions under FnExactPutValue do (part 1). Printed by a program of this claim's author. -/
import Derived.Test.YtalkhbnlphefdaaBw1
set_option linter.unusedSimpArgs false
set_option linter.unusedVariables false
open Go.Wv
namespace Go.Proofs.Ytalkhbnlphefdaa
open Go.Proofs
namespace T86
theorem mx : Try.prog.follows .mixedOrders = true := by kernel_rfl
theorem agg_49_3 : aggB Try.prog 49 3 = true := by kernel_rfl
theorem fld_49_0_0 : fldB Try.prog 49 0 0 = true := by kernel_rfl
theorem fld_49_1_1 : fldB Try.prog 49 1 1 = true := by kernel_rfl
theorem fld_49_2_2 : fldB Try.prog 49 2 2 = true := by kernel_rfl
theorem one_24 : oneB Try.prog 24 = true := by kernel_rfl
theorem slt_24 : SlT Try.prog 24 56 1 4 (.float .f32 0) := ⟨by kernel_rfl, by kernel_rfl, rfl, by decide⟩
theorem sz_24_1 : szB Try.prog 24 1 = true := by kernel_rfl
theorem sz_49_3 : szB Try.prog 49 3 = true := by kernel_rfl
theorem zero_49 : zeroB Try.prog 49 (.agg #[.slice none 0 0, .slice none 0 0, .slice none 0 0]) := by unfold zeroB; kernel_rfl
end T86
set_option maxRecDepth 100000 in
set_option maxHeartbeats 4000000 in
theorem c_s_l02Own {b : Nat} {o : Nat} {afe : Option Addr} {nfe : Nat} {cfe : Nat} {Xfe : List Nat} {afx : Option Addr} {nfx : Nat} {cfx : Nat} {Xfx : List Nat} {afy : Option Addr} {nfy : Nat} {cfy : Nat} {Xfy : List Nat} {w : World} (qfe : Rd w kF afe nfe Xfe) (qfx : Rd w kF afx nfx Xfx) (qfy : Rd w kF afy nfy Xfy) (Pb : Sl w (some ⟨b, o, none⟩) [.slice afe nfe cfe, .slice afx nfx cfx, .slice afy nfy cfy]) (b1 : nfe ≤ 1048576) (b2 : nfx ≤ 1048576) (b3 : nfy ≤ 1048576) :
    Calls Try.prog 86 #[.pointer (some ⟨b, o, none⟩)] w (Rt fun v w' => ∃ (a1 : Option Addr) (c1 : Nat) (a2 : Option Addr) (c2 : Nat) (a3 : Option Addr) (c3 : Nat), v = .agg #[.slice a1 nfe c1, .slice a2 nfx c2, .slice a3 nfy c3] ∧ New w w' [.ow kF a1 nfe c1 56 Xfe, .ow kF a2 nfx c2 56 Xfx, .ow kF a3 nfy c3 56 Xfy]) := by
  have hlfe := qfe.len
  have hlfx := qfx.len
  have hlfy := qfy.len
  have B : Bu w no w [.rd kF afe nfe Xfe, .rd kF afx nfx Xfx, .rd kF afy nfy Xfy, .sl (some ⟨b, o, none⟩) [.slice afe nfe cfe, .slice afx nfx cfx, .slice afy nfy cfy]] := Bu.ro (All.cons qfe (All.cons qfx (All.cons qfy (All.cons Pb All.nil)))) rfl
  refine calls_W (n := 26) Try.func86 rfl rfl (Nat.le_of_ble_eq_true rfl) ?_
  refine W_seq ?_
  refine W_region (by kernel_rfl) ?_
  refine s_k rfl (k_allocN (z := (.agg #[.slice none 0 0, .slice none 0 0, .slice none 0 0])) (cs := [.slice none 0 0, .slice none 0 0, .slice none 0 0]) T86.zero_49 rfl (fun b1 w2 hN3 => ?_))
  replace B := B.new1 hN3
  clear hN3
  refine s_nil ?_
  refine W_seq ?_
  refine W_region (by kernel_rfl) ?_
  refine s_k rfl (k_bsliceO (k := kF) (n := 0) (cells := #[]) (X := []) T86.slt_24 (by decide) (by first | rfl | kernel_rfl) (rfl : Reps kF [] []) rfl (fun b4 w5 hN6 => ?_))
  replace B := B.new1 hN6
  clear hN6
  refine s_y (v := .pointer (some ⟨b, o, none⟩)) rfl (y_move rfl) ?_
  refine s_y (v := .pointer (some ⟨b, o, none⟩)) rfl (y_nil rfl) ?_
  refine s_y (v := .pointer (some ⟨b, o, none⟩)) rfl (y_fld (o := o + 0) T86.fld_49_0_0 rfl) ?_
  refine s_y (v := .slice afe nfe cfe) rfl (y_load T86.one_24 rfl ((B.s 5 rfl).cell (j := 0) rfl)) ?_
  refine s_k rfl (k_appO (k := kF) T86.slt_24 rfl rfl rfl (B.o 0 rfl) (B.r 2 rfl) (by omega) (by unfold maxLen; omega) (fun a7 c8 w9 hU10 => ?_))
  replace B : Bu w no w9 [.ow kF a7 (0 + nfe) c8 56 (([] : List Nat) ++ Xfe), .blk b1 [.slice none 0 0, .slice none 0 0, .slice none 0 0] 49, .rd kF afe nfe Xfe, .rd kF afx nfx Xfx, .rd kF afy nfy Xfy, .sl (some ⟨b, o, none⟩) [.slice afe nfe cfe, .slice afx nfx cfx, .slice afy nfy cfy]] := B.upd [0] rfl hU10
  clear hU10
  refine s_y (v := .agg #[.slice a7 (0 + nfe) c8, .slice none 0 0, .slice none 0 0]) rfl (y_build (cells := #[.slice a7 (0 + nfe) c8, .slice none 0 0, .slice none 0 0]) (by kernel_rfl)) ?_
  refine s_k rfl (k_allocN (z := (.agg #[.slice none 0 0, .slice none 0 0, .slice none 0 0])) (cs := [.slice none 0 0, .slice none 0 0, .slice none 0 0]) T86.zero_49 rfl (fun b11 w12 hN13 => ?_))
  replace B := B.new1 hN13
  clear hN13
  refine s_k0 rfl (k_stB (v := .agg #[.slice a7 (0 + nfe) c8, .slice none 0 0, .slice none 0 0]) (n := 3) (cs' := [.slice a7 (0 + nfe) c8, .slice none 0 0, .slice none 0 0]) T86.sz_49_3 rfl rfl rfl (B.b 0 rfl) (by simp [Value.cells, Value.oneCell']) (Nat.le_of_ble_eq_true rfl) rfl (fun w14 hU15 => ?_))
  replace B : Bu w no w14 [.blk b11 [.slice a7 (0 + nfe) c8, .slice none 0 0, .slice none 0 0] 49, .ow kF a7 (0 + nfe) c8 56 (([] : List Nat) ++ Xfe), .blk b1 [.slice none 0 0, .slice none 0 0, .slice none 0 0] 49, .rd kF afe nfe Xfe, .rd kF afx nfx Xfx, .rd kF afy nfy Xfy, .sl (some ⟨b, o, none⟩) [.slice afe nfe cfe, .slice afx nfx cfx, .slice afy nfy cfy]] := B.upd [0] rfl hU15
  clear hU15
  refine s_nil ?_
  refine W_seq ?_
  refine W_region (by kernel_rfl) ?_
  refine s_k rfl (k_bsliceO (k := kF) (n := 0) (cells := #[]) (X := []) T86.slt_24 (by decide) (by first | rfl | kernel_rfl) (rfl : Reps kF [] []) rfl (fun b16 w17 hN18 => ?_))
  replace B := B.new1 hN18
  clear hN18
  refine s_y (v := .pointer (some ⟨b, o, none⟩)) rfl (y_move rfl) ?_
  refine s_y (v := .pointer (some ⟨b, o, none⟩)) rfl (y_nil rfl) ?_
  refine s_y (v := .pointer (some ⟨b, o + 1, none⟩)) rfl (y_fld (o := o + 0) T86.fld_49_1_1 rfl) ?_
  refine s_y (v := .slice afx nfx cfx) rfl (y_load T86.one_24 rfl ((B.s 7 rfl).cell (j := 1) rfl)) ?_
  refine s_k rfl (k_appO (k := kF) T86.slt_24 rfl rfl rfl (B.o 0 rfl) (B.r 5 rfl) (by omega) (by unfold maxLen; omega) (fun a19 c20 w21 hU22 => ?_))
  replace B : Bu w no w21 [.ow kF a19 (0 + nfx) c20 56 (([] : List Nat) ++ Xfx), .blk b11 [.slice a7 (0 + nfe) c8, .slice none 0 0, .slice none 0 0] 49, .ow kF a7 (0 + nfe) c8 56 (([] : List Nat) ++ Xfe), .blk b1 [.slice none 0 0, .slice none 0 0, .slice none 0 0] 49, .rd kF afe nfe Xfe, .rd kF afx nfx Xfx, .rd kF afy nfy Xfy, .sl (some ⟨b, o, none⟩) [.slice afe nfe cfe, .slice afx nfx cfx, .slice afy nfy cfy]] := B.upd [0] rfl hU22
  clear hU22
  refine s_y (v := .pointer (some ⟨b11, 1, none⟩)) rfl (y_fld (o := 0) T86.fld_49_1_1 rfl) ?_
  refine s_k0 rfl (k_stB (v := .slice a19 (0 + nfx) c20) (n := 1) (cs' := [.slice a7 (0 + nfe) c8, .slice a19 (0 + nfx) c20, .slice none 0 0]) T86.sz_24_1 rfl rfl rfl (B.b 1 rfl) (by simp [Value.cells, Value.oneCell']) (Nat.le_of_ble_eq_true rfl) rfl (fun w23 hU24 => ?_))
  replace B : Bu w no w23 [.blk b11 [.slice a7 (0 + nfe) c8, .slice a19 (0 + nfx) c20, .slice none 0 0] 49, .ow kF a19 (0 + nfx) c20 56 (([] : List Nat) ++ Xfx), .ow kF a7 (0 + nfe) c8 56 (([] : List Nat) ++ Xfe), .blk b1 [.slice none 0 0, .slice none 0 0, .slice none 0 0] 49, .rd kF afe nfe Xfe, .rd kF afx nfx Xfx, .rd kF afy nfy Xfy, .sl (some ⟨b, o, none⟩) [.slice afe nfe cfe, .slice afx nfx cfx, .slice afy nfy cfy]] := B.upd [1] rfl hU24
  clear hU24
  refine s_nil ?_
  refine W_seq ?_
  refine W_region (by kernel_rfl) ?_
  refine s_k rfl (k_bsliceO (k := kF) (n := 0) (cells := #[]) (X := []) T86.slt_24 (by decide) (by first | rfl | kernel_rfl) (rfl : Reps kF [] []) rfl (fun b25 w26 hN27 => ?_))
  replace B := B.new1 hN27
  clear hN27
  refine s_y (v := .pointer (some ⟨b, o, none⟩)) rfl (y_move rfl) ?_
  refine s_y (v := .pointer (some ⟨b, o, none⟩)) rfl (y_nil rfl) ?_
  refine s_y (v := .pointer (some ⟨b, o + 2, none⟩)) rfl (y_fld (o := o + 0) T86.fld_49_2_2 rfl) ?_
  refine s_y (v := .slice afy nfy cfy) rfl (y_load T86.one_24 rfl ((B.s 8 rfl).cell (j := 2) rfl)) ?_
  refine s_k rfl (k_appO (k := kF) T86.slt_24 rfl rfl rfl (B.o 0 rfl) (B.r 7 rfl) (by omega) (by unfold maxLen; omega) (fun a28 c29 w30 hU31 => ?_))
  replace B : Bu w no w30 [.ow kF a28 (0 + nfy) c29 56 (([] : List Nat) ++ Xfy), .blk b11 [.slice a7 (0 + nfe) c8, .slice a19 (0 + nfx) c20, .slice none 0 0] 49, .ow kF a19 (0 + nfx) c20 56 (([] : List Nat) ++ Xfx), .ow kF a7 (0 + nfe) c8 56 (([] : List Nat) ++ Xfe), .blk b1 [.slice none 0 0, .slice none 0 0, .slice none 0 0] 49, .rd kF afe nfe Xfe, .rd kF afx nfx Xfx, .rd kF afy nfy Xfy, .sl (some ⟨b, o, none⟩) [.slice afe nfe cfe, .slice afx nfx cfx, .slice afy nfy cfy]] := B.upd [0] rfl hU31
  clear hU31
  refine s_y (v := .pointer (some ⟨b11, 2, none⟩)) rfl (y_fld (o := 0) T86.fld_49_2_2 rfl) ?_
  refine s_k0 rfl (k_stB (v := .slice a28 (0 + nfy) c29) (n := 1) (cs' := [.slice a7 (0 + nfe) c8, .slice a19 (0 + nfx) c20, .slice a28 (0 + nfy) c29]) T86.sz_24_1 rfl rfl rfl (B.b 1 rfl) (by simp [Value.cells, Value.oneCell']) (Nat.le_of_ble_eq_true rfl) rfl (fun w32 hU33 => ?_))
  replace B : Bu w no w32 [.blk b11 [.slice a7 (0 + nfe) c8, .slice a19 (0 + nfx) c20, .slice a28 (0 + nfy) c29] 49, .ow kF a28 (0 + nfy) c29 56 (([] : List Nat) ++ Xfy), .ow kF a19 (0 + nfx) c20 56 (([] : List Nat) ++ Xfx), .ow kF a7 (0 + nfe) c8 56 (([] : List Nat) ++ Xfe), .blk b1 [.slice none 0 0, .slice none 0 0, .slice none 0 0] 49, .rd kF afe nfe Xfe, .rd kF afx nfx Xfx, .rd kF afy nfy Xfy, .sl (some ⟨b, o, none⟩) [.slice afe nfe cfe, .slice afx nfx cfx, .slice afy nfy cfy]] := B.upd [1] rfl hU33
  clear hU33
  refine s_nil ?_
  refine W_seq ?_
  refine W_region (by kernel_rfl) ?_
  refine s_y (v := .agg #[.slice a7 (0 + nfe) c8, .slice a19 (0 + nfx) c20, .slice a28 (0 + nfy) c29]) rfl (y_loadn (b := b11) (o := 0) (vs := [.slice a7 (0 + nfe) c8, .slice a19 (0 + nfx) c20, .slice a28 (0 + nfy) c29]) T86.agg_49_3 rfl rfl ((B.b 0 rfl).cells (o := 0) rfl)) ?_
  refine s_k0 rfl (k_stB (v := .agg #[.slice a7 (0 + nfe) c8, .slice a19 (0 + nfx) c20, .slice a28 (0 + nfy) c29]) (n := 3) (cs' := [.slice a7 (0 + nfe) c8, .slice a19 (0 + nfx) c20, .slice a28 (0 + nfy) c29]) T86.sz_49_3 rfl rfl rfl (B.b 4 rfl) (by simp [Value.cells, Value.oneCell']) (Nat.le_of_ble_eq_true rfl) rfl (fun w34 hU35 => ?_))
  replace B : Bu w no w34 [.blk b1 [.slice a7 (0 + nfe) c8, .slice a19 (0 + nfx) c20, .slice a28 (0 + nfy) c29] 49, .blk b11 [.slice a7 (0 + nfe) c8, .slice a19 (0 + nfx) c20, .slice a28 (0 + nfy) c29] 49, .ow kF a28 (0 + nfy) c29 56 (([] : List Nat) ++ Xfy), .ow kF a19 (0 + nfx) c20 56 (([] : List Nat) ++ Xfx), .ow kF a7 (0 + nfe) c8 56 (([] : List Nat) ++ Xfe), .rd kF afe nfe Xfe, .rd kF afx nfx Xfx, .rd kF afy nfy Xfy, .sl (some ⟨b, o, none⟩) [.slice afe nfe cfe, .slice afx nfx cfx, .slice afy nfy cfy]] := B.upd [4] rfl hU35
  clear hU35
  refine s_nil ?_
  refine W_ret ?_
  refine ret1 (v := .agg #[.slice a7 (0 + nfe) c8, .slice a19 (0 + nfx) c20, .slice a28 (0 + nfy) c29]) rfl rfl ⟨_, [.slice a7 (0 + nfe) c8, .slice a19 (0 + nfx) c20, .slice a28 (0 + nfy) c29], _, rfl, (B.b 0 rfl), T86.agg_49_3, rfl⟩ ⟨_, rfl, ?_⟩
  replace B : Bu w no w34 [.blk b1 [.slice a7 (0 + nfe) c8, .slice a19 (0 + nfx) c20, .slice a28 (0 + nfy) c29] 49, .blk b11 [.slice a7 (0 + nfe) c8, .slice a19 (0 + nfx) c20, .slice a28 (0 + nfy) c29] 49, .ow kF a28 (0 + nfy) c29 56 (([] : List Nat) ++ Xfy), .ow kF a19 (0 + nfx) c20 56 (([] : List Nat) ++ Xfx), .ow kF a7 nfe c8 56 Xfe, .rd kF afe nfe Xfe, .rd kF afx nfx Xfx, .rd kF afy nfy Xfy, .sl (some ⟨b, o, none⟩) [.slice afe nfe cfe, .slice afx nfx cfx, .slice afy nfy cfy]] := B.castX 4 rfl (by omega) rfl
  replace B : Bu w no w34 [.blk b1 [.slice a7 (0 + nfe) c8, .slice a19 (0 + nfx) c20, .slice a28 (0 + nfy) c29] 49, .blk b11 [.slice a7 (0 + nfe) c8, .slice a19 (0 + nfx) c20, .slice a28 (0 + nfy) c29] 49, .ow kF a28 (0 + nfy) c29 56 (([] : List Nat) ++ Xfy), .ow kF a19 nfx c20 56 Xfx, .ow kF a7 nfe c8 56 Xfe, .rd kF afe nfe Xfe, .rd kF afx nfx Xfx, .rd kF afy nfy Xfy, .sl (some ⟨b, o, none⟩) [.slice afe nfe cfe, .slice afx nfx cfx, .slice afy nfy cfy]] := B.castX 3 rfl (by omega) rfl
  replace B : Bu w no w34 [.blk b1 [.slice a7 (0 + nfe) c8, .slice a19 (0 + nfx) c20, .slice a28 (0 + nfy) c29] 49, .blk b11 [.slice a7 (0 + nfe) c8, .slice a19 (0 + nfx) c20, .slice a28 (0 + nfy) c29] 49, .ow kF a28 nfy c29 56 Xfy, .ow kF a19 nfx c20 56 Xfx, .ow kF a7 nfe c8 56 Xfe, .rd kF afe nfe Xfe, .rd kF afx nfx Xfx, .rd kF afy nfy Xfy, .sl (some ⟨b, o, none⟩) [.slice afe nfe cfe, .slice afx nfx cfx, .slice afy nfy cfy]] := B.castX 2 rfl (by omega) rfl
  exact ⟨_, _, _, _, _, _, (by rw [(show 0 + nfe = nfe from (by omega)), (show 0 + nfx = nfx from (by omega)), (show 0 + nfy = nfy from (by omega))]), B.give [4, 3, 2] rfl rfl rfl⟩
namespace T48
theorem mx : Try.prog.follows .mixedOrders = true := by kernel_rfl
theorem agg_49_3 : aggB Try.prog 49 3 = true := by kernel_rfl
theorem fld_26_0_0 : fldB Try.prog 26 0 0 = true := by kernel_rfl
theorem fld_49_0_0 : fldB Try.prog 49 0 0 = true := by kernel_rfl
theorem fn_68 : fnB Try.prog 68 = true := by kernel_rfl
theorem fn_69 : fnB Try.prog 69 = true := by kernel_rfl
theorem fn_76 : fnB Try.prog 76 = true := by kernel_rfl
theorem fn_85 : fnB Try.prog 85 = true := by kernel_rfl
theorem fn_86 : fnB Try.prog 86 = true := by kernel_rfl
theorem one_2 : oneB Try.prog 2 = true := by kernel_rfl
theorem one_24 : oneB Try.prog 24 = true := by kernel_rfl
theorem sl_24_56_1 : slB Try.prog 24 56 1 = true := by kernel_rfl
theorem sz_49_3 : szB Try.prog 49 3 = true := by kernel_rfl
theorem sz_56_1 : szB Try.prog 56 1 = true := by kernel_rfl
theorem zero_49 : zeroB Try.prog 49 (.agg #[.slice none 0 0, .slice none 0 0, .slice none 0 0]) := by unfold zeroB; kernel_rfl
end T48
set_option maxRecDepth 100000 in
set_option maxHeartbeats 4000000 in
theorem c_s_PutValue {wd : Int} {hi : Int} {wr : Bool} {asp : Option Addr} {nsp : Nat} {csp : Nat} {Xsp : List Nat} {als : Option Addr} {nls : Nat} {cls : Nat} {Xls : List Nat} {afe : Option Addr} {nfe : Nat} {cfe : Nat} {Xfe : List Nat} {afx : Option Addr} {nfx : Nat} {cfx : Nat} {Xfx : List Nat} {afy : Option Addr} {nfy : Nat} {cfy : Nat} {Xfy : List Nat} {x : Int} {y : Int} {v1 : Nat} {V : Nat} {w : World} (qsp : Rd w kF asp nsp Xsp) (qls : Rd w kF als nls Xls) (qfe : Rd w kF afe nfe Xfe) (qfx : Rd w kF afx nfx Xfx) (qfy : Rd w kF afy nfy Xfy) (hv1 : can .f32 v1 = V) (hbsp : nsp ≤ 9223372036854775806) (hbls : nls ≤ 9223372036854775806) (hbfe : nfe ≤ 9223372036854775806) (hbfx : nfx ≤ 9223372036854775806) (hbfy : nfy ≤ 9223372036854775806) :
    Calls Try.prog 48 #[.agg #[.int .i64 wd, .int .i64 hi, .bool wr, .slice asp nsp csp, .slice als nls cls], .agg #[.slice afe nfe cfe, .slice afx nfx cfx, .slice afy nfy cfy], .int .i64 x, .int .i64 y, .float .f32 v1] w (Rt fun v w' => (putB wd hi wr Xsp Xls Xfe Xfx Xfy x y V = true ∧ ∃ (a1 : Option Addr) (c1 : Nat) (a2 : Option Addr) (c2 : Nat) (a3 : Option Addr) (c3 : Nat), v = .tuple #[.agg #[.slice a1 nfe c1, .slice a2 nfx c2, .slice a3 nfy c3], .bool true] ∧ New w w' [.ow kF a1 nfe c1 56 (put Xfe (x + wd * y) V), .ow kF a2 nfx c2 56 Xfx, .ow kF a3 nfy c3 56 Xfy]) ∨ (putB wd hi wr Xsp Xls Xfe Xfx Xfy x y V = false ∧ v = .tuple #[.agg #[.slice none 0 0, .slice none 0 0, .slice none 0 0], .bool false] ∧ Ext0 w w')) := by
  have hlsp := qsp.len
  have hlls := qls.len
  have hlfe := qfe.len
  have hlfx := qfx.len
  have hlfy := qfy.len
  have B : Bu w no w [.rd kF asp nsp Xsp, .rd kF als nls Xls, .rd kF afe nfe Xfe, .rd kF afx nfx Xfx, .rd kF afy nfy Xfy] := Bu.ro (All.cons qsp (All.cons qls (All.cons qfe (All.cons qfx (All.cons qfy All.nil))))) rfl
  refine calls_W (n := 47) Try.func48 rfl rfl (Nat.le_of_ble_eq_true rfl) ?_
  refine W_seq ?_
  refine W_region (by kernel_rfl) ?_
  refine s_k rfl (k_boxN (v := .agg #[.int .i64 wd, .int .i64 hi, .bool wr, .slice asp nsp csp, .slice als nls cls]) (cs := [.int .i64 wd, .int .i64 hi, .bool wr, .slice asp nsp csp, .slice als nls cls]) rfl rfl (fun b1 w2 hN3 => ?_))
  replace B := B.new1 hN3
  clear hN3
  refine s_k rfl (k_boxN (v := .agg #[.slice afe nfe cfe, .slice afx nfx cfx, .slice afy nfy cfy]) (cs := [.slice afe nfe cfe, .slice afx nfx cfx, .slice afy nfy cfy]) rfl rfl (fun b4 w5 hN6 => ?_))
  replace B := B.new1 hN6
  clear hN6
  refine s_k rfl (k_allocN (z := (.agg #[.slice none 0 0, .slice none 0 0, .slice none 0 0])) (cs := [.slice none 0 0, .slice none 0 0, .slice none 0 0]) T48.zero_49 rfl (fun b7 w8 hN9 => ?_))
  replace B := B.new1 hN9
  clear hN9
  refine s_y (v := .bool false) rfl (y_assign rfl) ?_
  refine s_nil ?_
  refine W_seq ?_
  refine W_seq ?_
  refine W_region (by kernel_rfl) ?_
  refine s_k rfl (k_call T48.fn_68 (c_s_l02Is (B.r 3 rfl) (B.r 4 rfl) ((B.b 2 rfl).sl) (by omega) (by omega)) rfl ?_)
  rintro v12 w10 ⟨hv13, e11⟩
  replace B := B.ext0 e11
  clear e11
  by_cases c14 : validS wd hi Xsp Xls = true
  · have hb15 := validS_b c14
    obtain rfl : v12 = .bool true := hv13.trans (congrArg Value.bool c14)
    refine s_y (v := .bool false) rfl (y_not rfl rfl) ?_
    refine s_y (v := .bool false) rfl (y_move rfl) ?_
    refine s_k rfl (k_call T48.fn_76 (c_s_l02Fits ((B.b 2 rfl).sl) (B.r 5 rfl) (B.r 6 rfl) (B.r 7 rfl) ((B.b 1 rfl).sl) (by omega) (by omega) (by omega) (by omega) (by omega) (by omega) (by omega)) rfl ?_)
    rintro v18 w16 ⟨hv19, e17⟩
    replace B := B.ext0 e17
    clear e17
    by_cases c20 : fitsB wd hi wr Xfe Xfx Xfy = true
    · have hb21 := fitsB_b c20
      obtain rfl : v18 = .bool true := hv19.trans (congrArg Value.bool c20)
      refine s_y (v := .bool false) rfl (y_not rfl rfl) ?_
      refine s_y (v := .bool false) rfl (y_pick_f rfl rfl) ?_
      refine s_y (v := .bool false) rfl (y_move rfl) ?_
      refine s_y (v := .int .i64 x) rfl (y_move rfl) ?_
      refine s_y (v := .int .i64 y) rfl (y_move rfl) ?_
      refine s_k rfl (k_call T48.fn_69 (c_s_l02Cell ((B.b 2 rfl).sl) (by omega) (by omega) (by omega) (by omega)) rfl ?_)
      rintro v24 w22 ⟨hv25, e23⟩
      replace B := B.ext0 e23
      clear e23
      by_cases c26 : cellB wd hi x y = true
      · have hb27 := cellB_b c26
        obtain rfl : v24 = .bool true := hv25.trans (congrArg Value.bool c26)
        refine s_y (v := .bool false) rfl (y_not rfl rfl) ?_
        refine s_y (v := .bool false) rfl (y_pick_f rfl rfl) ?_
        refine s_y (v := .bool false) rfl (y_move rfl) ?_
        refine s_y (v := .int .i64 x) rfl (y_move rfl) ?_
        refine s_y (v := .int .i64 y) rfl (y_move rfl) ?_
        refine s_k rfl (k_call T48.fn_85 (c_s_l02Border ((B.b 2 rfl).sl) (by omega) (by omega) (by omega) (by omega)) rfl ?_)
        rintro v30 w28 ⟨hv31, e29⟩
        replace B := B.ext0 e29
        clear e29
        by_cases c32 : bordB wd hi wr x y = true
        · obtain rfl : v30 = .bool true := hv31.trans (congrArg Value.bool c32)
          refine s_y (v := .bool true) rfl (y_move rfl) ?_
          refine s_y (v := .float .f32 v1) rfl (y_move rfl) ?_
          by_cases c33 : fne .f32 V 0 = true
          · refine s_y (v := .bool true) rfl (y_fneq rfl rfl (fneC hv1 (show can .f32 0 = 0 by kernel_rfl) c33)) ?_
            refine s_y (v := .bool true) rfl (y_pick_t rfl rfl) ?_
            refine s_y (v := .bool true) rfl (y_pick_f rfl rfl) ?_
            refine s_nil ?_
            refine W_if_t (by decide) rfl ?_
            refine W_seq ?_
            refine W_region (by kernel_rfl) ?_
            refine s_y (v := .agg #[.slice none 0 0, .slice none 0 0, .slice none 0 0]) rfl (y_build (cells := #[.slice none 0 0, .slice none 0 0, .slice none 0 0]) (by kernel_rfl)) ?_
            refine s_k0 rfl (k_stB (v := .agg #[.slice none 0 0, .slice none 0 0, .slice none 0 0]) (n := 3) (cs' := [.slice none 0 0, .slice none 0 0, .slice none 0 0]) T48.sz_49_3 rfl rfl rfl (B.b 0 rfl) (by simp [Value.cells, Value.oneCell']) (Nat.le_of_ble_eq_true rfl) rfl (fun w34 hU35 => ?_))
            replace B : Bu w no w34 [.blk b7 [.slice none 0 0, .slice none 0 0, .slice none 0 0] 49, .blk b4 [.slice afe nfe cfe, .slice afx nfx cfx, .slice afy nfy cfy] 49, .blk b1 [.int .i64 wd, .int .i64 hi, .bool wr, .slice asp nsp csp, .slice als nls cls] 26, .rd kF asp nsp Xsp, .rd kF als nls Xls, .rd kF afe nfe Xfe, .rd kF afx nfx Xfx, .rd kF afy nfy Xfy] := B.upd [0] rfl hU35
            clear hU35
            refine s_y (v := .bool false) rfl (y_assign rfl) ?_
            refine s_nil ?_
            refine W_ret ?_
            refine ret2 (v1 := .agg #[.slice none 0 0, .slice none 0 0, .slice none 0 0]) (v2 := .bool false) rfl rfl rfl ⟨_, [.slice none 0 0, .slice none 0 0, .slice none 0 0], _, rfl, (B.b 0 rfl), T48.agg_49_3, rfl⟩ rfl ⟨_, rfl, ?_⟩
            exact .inr ⟨by simp only [putB, valB, fieldB, c14, c20, c26, c32, c33, Bool.and_true, Bool.true_and, Bool.and_false, Bool.false_and, Bool.not_true, Bool.not_false, Bool.or_true, Bool.true_or, Bool.or_false, Bool.false_or], rfl, B.ext⟩
          · refine s_y (v := .bool false) rfl (y_fneq rfl rfl (fneC hv1 (show can .f32 0 = 0 by kernel_rfl) (Bool.eq_false_iff.2 c33))) ?_
            refine s_y (v := .bool false) rfl (y_pick_t rfl rfl) ?_
            refine s_y (v := .bool false) rfl (y_pick_f rfl rfl) ?_
            refine s_nil ?_
            refine W_if_f (by decide) rfl ?_
            refine W_skip ?_
            refine W_seq ?_
            refine W_region (by kernel_rfl) ?_
            refine s_k rfl (k_call T48.fn_86 (c_s_l02Own (B.r 5 rfl) (B.r 6 rfl) (B.r 7 rfl) ((B.b 1 rfl).sl) (by omega) (by omega) (by omega)) rfl ?_)
            rintro _ w36 ⟨a37, c38, a39, c40, a41, c42, rfl, hN43⟩
            replace B := B.new3 hN43
            clear hN43
            refine s_k rfl (k_allocN (z := (.agg #[.slice none 0 0, .slice none 0 0, .slice none 0 0])) (cs := [.slice none 0 0, .slice none 0 0, .slice none 0 0]) T48.zero_49 rfl (fun b44 w45 hN46 => ?_))
            replace B := B.new1 hN46
            clear hN46
            refine s_k0 rfl (k_stB (v := .agg #[.slice a37 nfe c38, .slice a39 nfx c40, .slice a41 nfy c42]) (n := 3) (cs' := [.slice a37 nfe c38, .slice a39 nfx c40, .slice a41 nfy c42]) T48.sz_49_3 rfl rfl rfl (B.b 0 rfl) (by simp [Value.cells, Value.oneCell']) (Nat.le_of_ble_eq_true rfl) rfl (fun w47 hU48 => ?_))
            replace B : Bu w no w47 [.blk b44 [.slice a37 nfe c38, .slice a39 nfx c40, .slice a41 nfy c42] 49, .ow kF a37 nfe c38 56 Xfe, .ow kF a39 nfx c40 56 Xfx, .ow kF a41 nfy c42 56 Xfy, .blk b7 [.slice none 0 0, .slice none 0 0, .slice none 0 0] 49, .blk b4 [.slice afe nfe cfe, .slice afx nfx cfx, .slice afy nfy cfy] 49, .blk b1 [.int .i64 wd, .int .i64 hi, .bool wr, .slice asp nsp csp, .slice als nls cls] 26, .rd kF asp nsp Xsp, .rd kF als nls Xls, .rd kF afe nfe Xfe, .rd kF afx nfx Xfx, .rd kF afy nfy Xfy] := B.upd [0] rfl hU48
            clear hU48
            refine s_nil ?_
            refine W_seq ?_
            refine W_region (by kernel_rfl) ?_
            refine s_y (v := .pointer (some ⟨b44, 0, none⟩)) rfl (y_fld (o := 0) T48.fld_49_0_0 rfl) ?_
            refine s_y (v := .slice a37 nfe c38) rfl (y_load T48.one_24 rfl ((B.b 0 rfl).cell (j := 0) rfl)) ?_
            refine s_y (v := .int .i64 x) rfl (y_move rfl) ?_
            refine s_y (v := .pointer (some ⟨b1, 0, none⟩)) rfl (y_fld (o := 0) T48.fld_26_0_0 rfl) ?_
            refine s_y (v := .int .i64 wd) rfl (y_load T48.one_2 rfl ((B.b 6 rfl).cell (j := 0) rfl)) ?_
            refine s_y (v := .int .i64 y) rfl (y_move rfl) ?_
            have hm49 := mulb (a := wd) (b := y) (by omega) (by omega) (by omega) (by omega)
            refine s_y (v := .int .i64 (wd * y)) rfl (y_mul rfl rfl rfl (by omega)) ?_
            refine s_y (v := .int .i64 (x + (wd * y))) rfl (y_add rfl rfl rfl (by omega)) ?_
            refine s_y (v := .float .f32 v1) rfl (y_move rfl) ?_
            have hx50 := row_lt (wd := wd) (hi := hi) (a := x) (b := y) (by omega) (by omega) (by omega) (by omega)
            refine s_y (v := .pointer (some (sat a37 ((x + (wd * y)).toNat * 1)))) rfl (y_idx T48.sl_24_56_1 rfl rfl ((B.o 1 rfl).rd.addr (by omega)) (by omega) (by omega)) ?_
            refine s_k0 rfl (k_stO (k := kF) (i := x + (wd * y)) (j := 0) (x' := V) (new := [.float .f32 v1]) T48.sz_56_1 rfl rfl rfl rfl rfl (by simp [Value.oneCell']) (by decide) (B.o 1 rfl) (by omega) (by omega) (by decide) (by rintro q ⟨_, rfl, _⟩; exact ⟨_, rfl, hv1⟩) (fun w51 hU52 => ?_))
            replace B : Bu w no w51 [.ow kF a37 nfe c38 56 (put Xfe (x + (wd * y)) V), .blk b44 [.slice a37 nfe c38, .slice a39 nfx c40, .slice a41 nfy c42] 49, .ow kF a39 nfx c40 56 Xfx, .ow kF a41 nfy c42 56 Xfy, .blk b7 [.slice none 0 0, .slice none 0 0, .slice none 0 0] 49, .blk b4 [.slice afe nfe cfe, .slice afx nfx cfx, .slice afy nfy cfy] 49, .blk b1 [.int .i64 wd, .int .i64 hi, .bool wr, .slice asp nsp csp, .slice als nls cls] 26, .rd kF asp nsp Xsp, .rd kF als nls Xls, .rd kF afe nfe Xfe, .rd kF afx nfx Xfx, .rd kF afy nfy Xfy] := B.upd [1] rfl hU52
            clear hU52
            refine s_nil ?_
            refine W_seq ?_
            refine W_region (by kernel_rfl) ?_
            refine s_y (v := .agg #[.slice a37 nfe c38, .slice a39 nfx c40, .slice a41 nfy c42]) rfl (y_loadn (b := b44) (o := 0) (vs := [.slice a37 nfe c38, .slice a39 nfx c40, .slice a41 nfy c42]) T48.agg_49_3 rfl rfl ((B.b 1 rfl).cells (o := 0) rfl)) ?_
            refine s_k0 rfl (k_stB (v := .agg #[.slice a37 nfe c38, .slice a39 nfx c40, .slice a41 nfy c42]) (n := 3) (cs' := [.slice a37 nfe c38, .slice a39 nfx c40, .slice a41 nfy c42]) T48.sz_49_3 rfl rfl rfl (B.b 4 rfl) (by simp [Value.cells, Value.oneCell']) (Nat.le_of_ble_eq_true rfl) rfl (fun w53 hU54 => ?_))
            replace B : Bu w no w53 [.blk b7 [.slice a37 nfe c38, .slice a39 nfx c40, .slice a41 nfy c42] 49, .ow kF a37 nfe c38 56 (put Xfe (x + (wd * y)) V), .blk b44 [.slice a37 nfe c38, .slice a39 nfx c40, .slice a41 nfy c42] 49, .ow kF a39 nfx c40 56 Xfx, .ow kF a41 nfy c42 56 Xfy, .blk b4 [.slice afe nfe cfe, .slice afx nfx cfx, .slice afy nfy cfy] 49, .blk b1 [.int .i64 wd, .int .i64 hi, .bool wr, .slice asp nsp csp, .slice als nls cls] 26, .rd kF asp nsp Xsp, .rd kF als nls Xls, .rd kF afe nfe Xfe, .rd kF afx nfx Xfx, .rd kF afy nfy Xfy] := B.upd [4] rfl hU54
            clear hU54
            refine s_y (v := .bool true) rfl (y_assign rfl) ?_
            refine s_nil ?_
            refine W_ret ?_
            refine ret2 (v1 := .agg #[.slice a37 nfe c38, .slice a39 nfx c40, .slice a41 nfy c42]) (v2 := .bool true) rfl rfl rfl ⟨_, [.slice a37 nfe c38, .slice a39 nfx c40, .slice a41 nfy c42], _, rfl, (B.b 0 rfl), T48.agg_49_3, rfl⟩ rfl ⟨_, rfl, ?_⟩
            have hcond : putB wd hi wr Xsp Xls Xfe Xfx Xfy x y V = true := by simp only [putB, valB, fieldB, c14, c20, c26, c32, (Bool.eq_false_iff.2 c33), Bool.and_true, Bool.true_and, Bool.and_false, Bool.false_and, Bool.not_true, Bool.not_false, Bool.or_true, Bool.true_or, Bool.or_false, Bool.false_or]
            replace B : Bu w no w53 [.blk b7 [.slice a37 nfe c38, .slice a39 nfx c40, .slice a41 nfy c42] 49, .ow kF a37 nfe c38 56 (put Xfe (x + wd * y) V), .blk b44 [.slice a37 nfe c38, .slice a39 nfx c40, .slice a41 nfy c42] 49, .ow kF a39 nfx c40 56 Xfx, .ow kF a41 nfy c42 56 Xfy, .blk b4 [.slice afe nfe cfe, .slice afx nfx cfx, .slice afy nfy cfy] 49, .blk b1 [.int .i64 wd, .int .i64 hi, .bool wr, .slice asp nsp csp, .slice als nls cls] 26, .rd kF asp nsp Xsp, .rd kF als nls Xls, .rd kF afe nfe Xfe, .rd kF afx nfx Xfx, .rd kF afy nfy Xfy] := B.castX 1 rfl rfl rfl
            exact .inl ⟨hcond, ⟨_, _, _, _, _, _, rfl, B.give [1, 3, 4] rfl rfl rfl⟩⟩
        · obtain rfl : v30 = .bool false := hv31.trans (congrArg Value.bool (Bool.eq_false_iff.2 c32))
          refine s_y (v := .bool false) rfl (y_move rfl) ?_
          refine s_skip rfl ?_
          refine s_skip rfl ?_
          refine s_y (v := .bool false) rfl (y_pick_f rfl rfl) ?_
          refine s_y (v := .bool false) rfl (y_pick_f rfl rfl) ?_
          refine s_nil ?_
          refine W_if_f (by decide) rfl ?_
          refine W_skip ?_
          refine W_seq ?_
          refine W_region (by kernel_rfl) ?_
          refine s_k rfl (k_call T48.fn_86 (c_s_l02Own (B.r 5 rfl) (B.r 6 rfl) (B.r 7 rfl) ((B.b 1 rfl).sl) (by omega) (by omega) (by omega)) rfl ?_)
          rintro _ w55 ⟨a56, c57, a58, c59, a60, c61, rfl, hN62⟩
          replace B := B.new3 hN62
          clear hN62
          refine s_k rfl (k_allocN (z := (.agg #[.slice none 0 0, .slice none 0 0, .slice none 0 0])) (cs := [.slice none 0 0, .slice none 0 0, .slice none 0 0]) T48.zero_49 rfl (fun b63 w64 hN65 => ?_))
          replace B := B.new1 hN65
          clear hN65
          refine s_k0 rfl (k_stB (v := .agg #[.slice a56 nfe c57, .slice a58 nfx c59, .slice a60 nfy c61]) (n := 3) (cs' := [.slice a56 nfe c57, .slice a58 nfx c59, .slice a60 nfy c61]) T48.sz_49_3 rfl rfl rfl (B.b 0 rfl) (by simp [Value.cells, Value.oneCell']) (Nat.le_of_ble_eq_true rfl) rfl (fun w66 hU67 => ?_))
          replace B : Bu w no w66 [.blk b63 [.slice a56 nfe c57, .slice a58 nfx c59, .slice a60 nfy c61] 49, .ow kF a56 nfe c57 56 Xfe, .ow kF a58 nfx c59 56 Xfx, .ow kF a60 nfy c61 56 Xfy, .blk b7 [.slice none 0 0, .slice none 0 0, .slice none 0 0] 49, .blk b4 [.slice afe nfe cfe, .slice afx nfx cfx, .slice afy nfy cfy] 49, .blk b1 [.int .i64 wd, .int .i64 hi, .bool wr, .slice asp nsp csp, .slice als nls cls] 26, .rd kF asp nsp Xsp, .rd kF als nls Xls, .rd kF afe nfe Xfe, .rd kF afx nfx Xfx, .rd kF afy nfy Xfy] := B.upd [0] rfl hU67
          clear hU67
          refine s_nil ?_
          refine W_seq ?_
          refine W_region (by kernel_rfl) ?_
          refine s_y (v := .pointer (some ⟨b63, 0, none⟩)) rfl (y_fld (o := 0) T48.fld_49_0_0 rfl) ?_
          refine s_y (v := .slice a56 nfe c57) rfl (y_load T48.one_24 rfl ((B.b 0 rfl).cell (j := 0) rfl)) ?_
          refine s_y (v := .int .i64 x) rfl (y_move rfl) ?_
          refine s_y (v := .pointer (some ⟨b1, 0, none⟩)) rfl (y_fld (o := 0) T48.fld_26_0_0 rfl) ?_
          refine s_y (v := .int .i64 wd) rfl (y_load T48.one_2 rfl ((B.b 6 rfl).cell (j := 0) rfl)) ?_
          refine s_y (v := .int .i64 y) rfl (y_move rfl) ?_
          have hm68 := mulb (a := wd) (b := y) (by omega) (by omega) (by omega) (by omega)
          refine s_y (v := .int .i64 (wd * y)) rfl (y_mul rfl rfl rfl (by omega)) ?_
          refine s_y (v := .int .i64 (x + (wd * y))) rfl (y_add rfl rfl rfl (by omega)) ?_
          refine s_y (v := .float .f32 v1) rfl (y_move rfl) ?_
          have hx69 := row_lt (wd := wd) (hi := hi) (a := x) (b := y) (by omega) (by omega) (by omega) (by omega)
          refine s_y (v := .pointer (some (sat a56 ((x + (wd * y)).toNat * 1)))) rfl (y_idx T48.sl_24_56_1 rfl rfl ((B.o 1 rfl).rd.addr (by omega)) (by omega) (by omega)) ?_
          refine s_k0 rfl (k_stO (k := kF) (i := x + (wd * y)) (j := 0) (x' := V) (new := [.float .f32 v1]) T48.sz_56_1 rfl rfl rfl rfl rfl (by simp [Value.oneCell']) (by decide) (B.o 1 rfl) (by omega) (by omega) (by decide) (by rintro q ⟨_, rfl, _⟩; exact ⟨_, rfl, hv1⟩) (fun w70 hU71 => ?_))
          replace B : Bu w no w70 [.ow kF a56 nfe c57 56 (put Xfe (x + (wd * y)) V), .blk b63 [.slice a56 nfe c57, .slice a58 nfx c59, .slice a60 nfy c61] 49, .ow kF a58 nfx c59 56 Xfx, .ow kF a60 nfy c61 56 Xfy, .blk b7 [.slice none 0 0, .slice none 0 0, .slice none 0 0] 49, .blk b4 [.slice afe nfe cfe, .slice afx nfx cfx, .slice afy nfy cfy] 49, .blk b1 [.int .i64 wd, .int .i64 hi, .bool wr, .slice asp nsp csp, .slice als nls cls] 26, .rd kF asp nsp Xsp, .rd kF als nls Xls, .rd kF afe nfe Xfe, .rd kF afx nfx Xfx, .rd kF afy nfy Xfy] := B.upd [1] rfl hU71
          clear hU71
          refine s_nil ?_
          refine W_seq ?_
          refine W_region (by kernel_rfl) ?_
          refine s_y (v := .agg #[.slice a56 nfe c57, .slice a58 nfx c59, .slice a60 nfy c61]) rfl (y_loadn (b := b63) (o := 0) (vs := [.slice a56 nfe c57, .slice a58 nfx c59, .slice a60 nfy c61]) T48.agg_49_3 rfl rfl ((B.b 1 rfl).cells (o := 0) rfl)) ?_
          refine s_k0 rfl (k_stB (v := .agg #[.slice a56 nfe c57, .slice a58 nfx c59, .slice a60 nfy c61]) (n := 3) (cs' := [.slice a56 nfe c57, .slice a58 nfx c59, .slice a60 nfy c61]) T48.sz_49_3 rfl rfl rfl (B.b 4 rfl) (by simp [Value.cells, Value.oneCell']) (Nat.le_of_ble_eq_true rfl) rfl (fun w72 hU73 => ?_))
          replace B : Bu w no w72 [.blk b7 [.slice a56 nfe c57, .slice a58 nfx c59, .slice a60 nfy c61] 49, .ow kF a56 nfe c57 56 (put Xfe (x + (wd * y)) V), .blk b63 [.slice a56 nfe c57, .slice a58 nfx c59, .slice a60 nfy c61] 49, .ow kF a58 nfx c59 56 Xfx, .ow kF a60 nfy c61 56 Xfy, .blk b4 [.slice afe nfe cfe, .slice afx nfx cfx, .slice afy nfy cfy] 49, .blk b1 [.int .i64 wd, .int .i64 hi, .bool wr, .slice asp nsp csp, .slice als nls cls] 26, .rd kF asp nsp Xsp, .rd kF als nls Xls, .rd kF afe nfe Xfe, .rd kF afx nfx Xfx, .rd kF afy nfy Xfy] := B.upd [4] rfl hU73
          clear hU73
          refine s_y (v := .bool true) rfl (y_assign rfl) ?_
          refine s_nil ?_
          refine W_ret ?_
          refine ret2 (v1 := .agg #[.slice a56 nfe c57, .slice a58 nfx c59, .slice a60 nfy c61]) (v2 := .bool true) rfl rfl rfl ⟨_, [.slice a56 nfe c57, .slice a58 nfx c59, .slice a60 nfy c61], _, rfl, (B.b 0 rfl), T48.agg_49_3, rfl⟩ rfl ⟨_, rfl, ?_⟩
          have hcond : putB wd hi wr Xsp Xls Xfe Xfx Xfy x y V = true := by simp only [putB, valB, fieldB, c14, c20, c26, (Bool.eq_false_iff.2 c32), Bool.and_true, Bool.true_and, Bool.and_false, Bool.false_and, Bool.not_true, Bool.not_false, Bool.or_true, Bool.true_or, Bool.or_false, Bool.false_or]
          replace B : Bu w no w72 [.blk b7 [.slice a56 nfe c57, .slice a58 nfx c59, .slice a60 nfy c61] 49, .ow kF a56 nfe c57 56 (put Xfe (x + wd * y) V), .blk b63 [.slice a56 nfe c57, .slice a58 nfx c59, .slice a60 nfy c61] 49, .ow kF a58 nfx c59 56 Xfx, .ow kF a60 nfy c61 56 Xfy, .blk b4 [.slice afe nfe cfe, .slice afx nfx cfx, .slice afy nfy cfy] 49, .blk b1 [.int .i64 wd, .int .i64 hi, .bool wr, .slice asp nsp csp, .slice als nls cls] 26, .rd kF asp nsp Xsp, .rd kF als nls Xls, .rd kF afe nfe Xfe, .rd kF afx nfx Xfx, .rd kF afy nfy Xfy] := B.castX 1 rfl rfl rfl
          exact .inl ⟨hcond, ⟨_, _, _, _, _, _, rfl, B.give [1, 3, 4] rfl rfl rfl⟩⟩
      · obtain rfl : v24 = .bool false := hv25.trans (congrArg Value.bool (Bool.eq_false_iff.2 c26))
        refine s_y (v := .bool true) rfl (y_not rfl rfl) ?_
        refine s_y (v := .bool true) rfl (y_pick_f rfl rfl) ?_
        refine s_y (v := .bool true) rfl (y_move rfl) ?_
        refine s_skip rfl ?_
        refine s_skip rfl ?_
        refine s_skip rfl ?_
        refine s_skip rfl ?_
        refine s_skip rfl ?_
        refine s_skip rfl ?_
        refine s_skip rfl ?_
        refine s_y (v := .bool true) rfl (y_pick_t rfl rfl) ?_
        refine s_nil ?_
        refine W_if_t (by decide) rfl ?_
        refine W_seq ?_
        refine W_region (by kernel_rfl) ?_
        refine s_y (v := .agg #[.slice none 0 0, .slice none 0 0, .slice none 0 0]) rfl (y_build (cells := #[.slice none 0 0, .slice none 0 0, .slice none 0 0]) (by kernel_rfl)) ?_
        refine s_k0 rfl (k_stB (v := .agg #[.slice none 0 0, .slice none 0 0, .slice none 0 0]) (n := 3) (cs' := [.slice none 0 0, .slice none 0 0, .slice none 0 0]) T48.sz_49_3 rfl rfl rfl (B.b 0 rfl) (by simp [Value.cells, Value.oneCell']) (Nat.le_of_ble_eq_true rfl) rfl (fun w74 hU75 => ?_))
        replace B : Bu w no w74 [.blk b7 [.slice none 0 0, .slice none 0 0, .slice none 0 0] 49, .blk b4 [.slice afe nfe cfe, .slice afx nfx cfx, .slice afy nfy cfy] 49, .blk b1 [.int .i64 wd, .int .i64 hi, .bool wr, .slice asp nsp csp, .slice als nls cls] 26, .rd kF asp nsp Xsp, .rd kF als nls Xls, .rd kF afe nfe Xfe, .rd kF afx nfx Xfx, .rd kF afy nfy Xfy] := B.upd [0] rfl hU75
        clear hU75
        refine s_y (v := .bool false) rfl (y_assign rfl) ?_
        refine s_nil ?_
        refine W_ret ?_
        refine ret2 (v1 := .agg #[.slice none 0 0, .slice none 0 0, .slice none 0 0]) (v2 := .bool false) rfl rfl rfl ⟨_, [.slice none 0 0, .slice none 0 0, .slice none 0 0], _, rfl, (B.b 0 rfl), T48.agg_49_3, rfl⟩ rfl ⟨_, rfl, ?_⟩
        exact .inr ⟨by simp only [putB, valB, fieldB, c14, c20, (Bool.eq_false_iff.2 c26), Bool.and_true, Bool.true_and, Bool.and_false, Bool.false_and, Bool.not_true, Bool.not_false, Bool.or_true, Bool.true_or, Bool.or_false, Bool.false_or], rfl, B.ext⟩
    · obtain rfl : v18 = .bool false := hv19.trans (congrArg Value.bool (Bool.eq_false_iff.2 c20))
      refine s_y (v := .bool true) rfl (y_not rfl rfl) ?_
      refine s_y (v := .bool true) rfl (y_pick_f rfl rfl) ?_
      refine s_y (v := .bool true) rfl (y_move rfl) ?_
      refine s_skip rfl ?_
      refine s_skip rfl ?_
      refine s_skip rfl ?_
      refine s_skip rfl ?_
      refine s_y (v := .bool true) rfl (y_pick_t rfl rfl) ?_
      refine s_y (v := .bool true) rfl (y_move rfl) ?_
      refine s_skip rfl ?_
      refine s_skip rfl ?_
      refine s_skip rfl ?_
      refine s_skip rfl ?_
      refine s_skip rfl ?_
      refine s_skip rfl ?_
      refine s_skip rfl ?_
      refine s_y (v := .bool true) rfl (y_pick_t rfl rfl) ?_
      refine s_nil ?_
      refine W_if_t (by decide) rfl ?_
      refine W_seq ?_
      refine W_region (by kernel_rfl) ?_
      refine s_y (v := .agg #[.slice none 0 0, .slice none 0 0, .slice none 0 0]) rfl (y_build (cells := #[.slice none 0 0, .slice none 0 0, .slice none 0 0]) (by kernel_rfl)) ?_
      refine s_k0 rfl (k_stB (v := .agg #[.slice none 0 0, .slice none 0 0, .slice none 0 0]) (n := 3) (cs' := [.slice none 0 0, .slice none 0 0, .slice none 0 0]) T48.sz_49_3 rfl rfl rfl (B.b 0 rfl) (by simp [Value.cells, Value.oneCell']) (Nat.le_of_ble_eq_true rfl) rfl (fun w76 hU77 => ?_))
      replace B : Bu w no w76 [.blk b7 [.slice none 0 0, .slice none 0 0, .slice none 0 0] 49, .blk b4 [.slice afe nfe cfe, .slice afx nfx cfx, .slice afy nfy cfy] 49, .blk b1 [.int .i64 wd, .int .i64 hi, .bool wr, .slice asp nsp csp, .slice als nls cls] 26, .rd kF asp nsp Xsp, .rd kF als nls Xls, .rd kF afe nfe Xfe, .rd kF afx nfx Xfx, .rd kF afy nfy Xfy] := B.upd [0] rfl hU77
      clear hU77
      refine s_y (v := .bool false) rfl (y_assign rfl) ?_
      refine s_nil ?_
      refine W_ret ?_
      refine ret2 (v1 := .agg #[.slice none 0 0, .slice none 0 0, .slice none 0 0]) (v2 := .bool false) rfl rfl rfl ⟨_, [.slice none 0 0, .slice none 0 0, .slice none 0 0], _, rfl, (B.b 0 rfl), T48.agg_49_3, rfl⟩ rfl ⟨_, rfl, ?_⟩
      exact .inr ⟨by simp only [putB, valB, fieldB, c14, (Bool.eq_false_iff.2 c20), Bool.and_true, Bool.true_and, Bool.and_false, Bool.false_and, Bool.not_true, Bool.not_false, Bool.or_true, Bool.true_or, Bool.or_false, Bool.false_or], rfl, B.ext⟩
  · obtain rfl : v12 = .bool false := hv13.trans (congrArg Value.bool (Bool.eq_false_iff.2 c14))
    refine s_y (v := .bool true) rfl (y_not rfl rfl) ?_
    refine s_y (v := .bool true) rfl (y_move rfl) ?_
    refine s_skip rfl ?_
    refine s_skip rfl ?_
    refine s_y (v := .bool true) rfl (y_pick_t rfl rfl) ?_
    refine s_y (v := .bool true) rfl (y_move rfl) ?_
    refine s_skip rfl ?_
    refine s_skip rfl ?_
    refine s_skip rfl ?_
    refine s_skip rfl ?_
    refine s_y (v := .bool true) rfl (y_pick_t rfl rfl) ?_
    refine s_y (v := .bool true) rfl (y_move rfl) ?_
    refine s_skip rfl ?_
    refine s_skip rfl ?_
    refine s_skip rfl ?_
    refine s_skip rfl ?_
    refine s_skip rfl ?_
    refine s_skip rfl ?_
    refine s_skip rfl ?_
    refine s_y (v := .bool true) rfl (y_pick_t rfl rfl) ?_
    refine s_nil ?_
    refine W_if_t (by decide) rfl ?_
    refine W_seq ?_
    refine W_region (by kernel_rfl) ?_
    refine s_y (v := .agg #[.slice none 0 0, .slice none 0 0, .slice none 0 0]) rfl (y_build (cells := #[.slice none 0 0, .slice none 0 0, .slice none 0 0]) (by kernel_rfl)) ?_
    refine s_k0 rfl (k_stB (v := .agg #[.slice none 0 0, .slice none 0 0, .slice none 0 0]) (n := 3) (cs' := [.slice none 0 0, .slice none 0 0, .slice none 0 0]) T48.sz_49_3 rfl rfl rfl (B.b 0 rfl) (by simp [Value.cells, Value.oneCell']) (Nat.le_of_ble_eq_true rfl) rfl (fun w78 hU79 => ?_))
    replace B : Bu w no w78 [.blk b7 [.slice none 0 0, .slice none 0 0, .slice none 0 0] 49, .blk b4 [.slice afe nfe cfe, .slice afx nfx cfx, .slice afy nfy cfy] 49, .blk b1 [.int .i64 wd, .int .i64 hi, .bool wr, .slice asp nsp csp, .slice als nls cls] 26, .rd kF asp nsp Xsp, .rd kF als nls Xls, .rd kF afe nfe Xfe, .rd kF afx nfx Xfx, .rd kF afy nfy Xfy] := B.upd [0] rfl hU79
    clear hU79
    refine s_y (v := .bool false) rfl (y_assign rfl) ?_
    refine s_nil ?_
    refine W_ret ?_
    refine ret2 (v1 := .agg #[.slice none 0 0, .slice none 0 0, .slice none 0 0]) (v2 := .bool false) rfl rfl rfl ⟨_, [.slice none 0 0, .slice none 0 0, .slice none 0 0], _, rfl, (B.b 0 rfl), T48.agg_49_3, rfl⟩ rfl ⟨_, rfl, ?_⟩
    exact .inr ⟨by simp only [putB, valB, fieldB, (Bool.eq_false_iff.2 c14), Bool.and_true, Bool.true_and, Bool.and_false, Bool.false_and, Bool.not_true, Bool.not_false, Bool.or_true, Bool.true_or, Bool.or_false, Bool.false_or], rfl, B.ext⟩
namespace T75
theorem mx : Try.prog.follows .mixedOrders = true := by kernel_rfl
theorem slt_24 : SlT Try.prog 24 56 1 4 (.float .f32 0) := ⟨by kernel_rfl, by kernel_rfl, rfl, by decide⟩
end T75
set_option maxRecDepth 100000 in
set_option maxHeartbeats 4000000 in
theorem c_i_copyOf {a : Option Addr} {n : Nat} {c : Nat} {X : List Nat} {w : World} (q : Rd w kF a n X) (hb : n ≤ 1048576) :
    Calls Try.prog 75 #[.slice a n c] w (Rt fun v w' => ∃ (a1 : Option Addr) (c1 : Nat), v = .slice a1 n c1 ∧ New w w' [.ow kF a1 n c1 56 X]) := by
  have hl := q.len
  have B : Bu w no w [.rd kF a n X] := Bu.ro (All.cons q All.nil) rfl
  refine calls_W (n := 6) Try.func75 rfl rfl (Nat.le_of_ble_eq_true rfl) ?_
  refine W_seq ?_
  refine W_region (by kernel_rfl) ?_
  refine s_y (v := .slice none 0 0) rfl (y_assign rfl) ?_
  refine s_nil ?_
  refine W_seq ?_
  refine W_region (by kernel_rfl) ?_
  refine s_k rfl (k_bsliceO (k := kF) (n := 0) (cells := #[]) (X := []) T75.slt_24 (by decide) (by first | rfl | kernel_rfl) (rfl : Reps kF [] []) rfl (fun b1 w2 hN3 => ?_))
  replace B := B.new1 hN3
  clear hN3
  refine s_y (v := .slice a n c) rfl (y_move rfl) ?_
  refine s_k rfl (k_appO (k := kF) T75.slt_24 rfl rfl rfl (B.o 0 rfl) (B.r 1 rfl) (by omega) (by unfold maxLen; omega) (fun a4 c5 w6 hU7 => ?_))
  replace B : Bu w no w6 [.ow kF a4 (0 + n) c5 56 (([] : List Nat) ++ X), .rd kF a n X] := B.upd [0] rfl hU7
  clear hU7
  refine s_y (v := .slice a4 (0 + n) c5) rfl (y_assign rfl) ?_
  refine s_nil ?_
  refine W_ret ?_
  refine ret1 (v := .slice a4 (0 + n) c5) rfl rfl rfl ⟨_, rfl, ?_⟩
  replace B : Bu w no w6 [.ow kF a4 n c5 56 X, .rd kF a n X] := B.castX 0 rfl (by omega) rfl
  exact ⟨_, _, (by rw [(show 0 + n = n from (by omega))]), B.give [0] rfl rfl rfl⟩
namespace T87
theorem mx : Try.prog.follows .mixedOrders = true := by kernel_rfl
theorem agg_49_3 : aggB Try.prog 49 3 = true := by kernel_rfl
theorem fld_49_0_0 : fldB Try.prog 49 0 0 = true := by kernel_rfl
theorem fld_49_1_1 : fldB Try.prog 49 1 1 = true := by kernel_rfl
theorem fld_49_2_2 : fldB Try.prog 49 2 2 = true := by kernel_rfl
theorem fn_75 : fnB Try.prog 75 = true := by kernel_rfl
theorem one_24 : oneB Try.prog 24 = true := by kernel_rfl
theorem sz_49_3 : szB Try.prog 49 3 = true := by kernel_rfl
theorem zero_49 : zeroB Try.prog 49 (.agg #[.slice none 0 0, .slice none 0 0, .slice none 0 0]) := by unfold zeroB; kernel_rfl
end T87
set_option maxRecDepth 100000 in
set_option maxHeartbeats 4000000 in
theorem c_i_copyField {afe : Option Addr} {nfe : Nat} {cfe : Nat} {Xfe : List Nat} {afx : Option Addr} {nfx : Nat} {cfx : Nat} {Xfx : List Nat} {afy : Option Addr} {nfy : Nat} {cfy : Nat} {Xfy : List Nat} {w : World} (qfe : Rd w kF afe nfe Xfe) (qfx : Rd w kF afx nfx Xfx) (qfy : Rd w kF afy nfy Xfy) (b1 : nfe ≤ 1048576) (b2 : nfx ≤ 1048576) (b3 : nfy ≤ 1048576) :
    Calls Try.prog 87 #[.agg #[.slice afe nfe cfe, .slice afx nfx cfx, .slice afy nfy cfy]] w (Rt fun v w' => ∃ (a1 : Option Addr) (c1 : Nat) (a2 : Option Addr) (c2 : Nat) (a3 : Option Addr) (c3 : Nat), v = .agg #[.slice a1 nfe c1, .slice a2 nfx c2, .slice a3 nfy c3] ∧ New w w' [.ow kF a1 nfe c1 56 Xfe, .ow kF a2 nfx c2 56 Xfx, .ow kF a3 nfy c3 56 Xfy]) := by
  have hlfe := qfe.len
  have hlfx := qfx.len
  have hlfy := qfy.len
  have B : Bu w no w [.rd kF afe nfe Xfe, .rd kF afx nfx Xfx, .rd kF afy nfy Xfy] := Bu.ro (All.cons qfe (All.cons qfx (All.cons qfy All.nil))) rfl
  refine calls_W (n := 13) Try.func87 rfl rfl (Nat.le_of_ble_eq_true rfl) ?_
  refine W_seq ?_
  refine W_region (by kernel_rfl) ?_
  refine s_k rfl (k_boxN (v := .agg #[.slice afe nfe cfe, .slice afx nfx cfx, .slice afy nfy cfy]) (cs := [.slice afe nfe cfe, .slice afx nfx cfx, .slice afy nfy cfy]) rfl rfl (fun b1 w2 hN3 => ?_))
  replace B := B.new1 hN3
  clear hN3
  refine s_k rfl (k_allocN (z := (.agg #[.slice none 0 0, .slice none 0 0, .slice none 0 0])) (cs := [.slice none 0 0, .slice none 0 0, .slice none 0 0]) T87.zero_49 rfl (fun b4 w5 hN6 => ?_))
  replace B := B.new1 hN6
  clear hN6
  refine s_nil ?_
  refine W_seq ?_
  have B0_11 := B
  refine W_draw (no) T87.mx (by kernel_rfl) (fun w9 e10 => ?_)
  have R12 := Ext.refl (no) w5
  replace R12 := R12.trans (Ext0.any e10)
  replace B := B.ext0 e10
  clear e10
  refine m_y (v := .pointer (some ⟨b1, 0, none⟩)) 0 rfl (by kernel_rfl) rfl rfl (fun w' e' => y_fld (o := 0) T87.fld_49_0_0 rfl) ?_
  refine m_y (v := .slice afe nfe cfe) 1 rfl (by kernel_rfl) rfl rfl (fun w' e' => y_load T87.one_24 rfl (((B0_11.b 1 rfl).ext0 e').cell (j := 0) rfl)) ?_
  refine m_y (v := .pointer (some ⟨b1, 1, none⟩)) 3 rfl (by kernel_rfl) rfl rfl (fun w' e' => y_fld (o := 0) T87.fld_49_1_1 rfl) ?_
  refine m_y (v := .slice afx nfx cfx) 4 rfl (by kernel_rfl) rfl rfl (fun w' e' => y_load T87.one_24 rfl (((B0_11.b 1 rfl).ext0 e').cell (j := 1) rfl)) ?_
  refine m_y (v := .pointer (some ⟨b1, 2, none⟩)) 6 rfl (by kernel_rfl) rfl rfl (fun w' e' => y_fld (o := 0) T87.fld_49_2_2 rfl) ?_
  refine m_y (v := .slice afy nfy cfy) 7 rfl (by kernel_rfl) rfl rfl (fun w' e' => y_load T87.one_24 rfl (((B0_11.b 1 rfl).ext0 e').cell (j := 2) rfl)) ?_
  refine m_k 2 [5, 8, 9, 10] rfl (by kernel_rfl) rfl rfl (fun w13 e14 => ?_)
  replace R12 := R12.trans (Ext0.any e14)
  replace B := B.ext0 e14
  clear e14
  refine k_call T87.fn_75 (c_i_copyOf (B.r 2 rfl) (by omega)) rfl ?_
  rintro _ w15 ⟨a16, c17, rfl, hN18⟩
  replace R12 := R12.trans (Ext0.any hN18.ext)
  replace B := B.new1 hN18
  clear hN18
  refine ⟨fun _ => R12, ?_⟩
  refine m_k 5 [8, 9, 10] rfl (by kernel_rfl) rfl rfl (fun w19 e20 => ?_)
  replace R12 := R12.trans (Ext0.any e20)
  replace B := B.ext0 e20
  clear e20
  refine k_call T87.fn_75 (c_i_copyOf (B.r 4 rfl) (by omega)) rfl ?_
  rintro _ w21 ⟨a22, c23, rfl, hN24⟩
  replace R12 := R12.trans (Ext0.any hN24.ext)
  replace B := B.new1 hN24
  clear hN24
  refine ⟨fun _ => R12, ?_⟩
  refine m_k 8 [9, 10] rfl (by kernel_rfl) rfl rfl (fun w25 e26 => ?_)
  replace R12 := R12.trans (Ext0.any e26)
  replace B := B.ext0 e26
  clear e26
  refine k_call T87.fn_75 (c_i_copyOf (B.r 6 rfl) (by omega)) rfl ?_
  rintro _ w27 ⟨a28, c29, rfl, hN30⟩
  replace R12 := R12.trans (Ext0.any hN30.ext)
  replace B := B.new1 hN30
  clear hN30
  refine ⟨fun _ => R12, ?_⟩
  refine m_y (v := .agg #[.slice a16 nfe c17, .slice a22 nfx c23, .slice a28 nfy c29]) 9 rfl (by kernel_rfl) rfl rfl (fun w' e' => y_build (cells := #[.slice a16 nfe c17, .slice a22 nfx c23, .slice a28 nfy c29]) (by kernel_rfl)) ?_
  refine m_kt 10 [] rfl (by kernel_rfl) rfl rfl (by kernel_rfl) (fun w33 e34 => ?_)
  replace R12 := R12.trans (Ext0.any e34)
  replace B := B.ext0 e34
  clear e34
  refine k_stB (v := .agg #[.slice a16 nfe c17, .slice a22 nfx c23, .slice a28 nfy c29]) (n := 3) (cs' := [.slice a16 nfe c17, .slice a22 nfx c23, .slice a28 nfy c29]) T87.sz_49_3 rfl rfl rfl (B.b 3 rfl) (by simp [Value.cells, Value.oneCell']) (Nat.le_of_ble_eq_true rfl) rfl (fun w31 hU32 => ?_)
  clear R12
  replace B : Bu w no w31 [.blk b4 [.slice a16 nfe c17, .slice a22 nfx c23, .slice a28 nfy c29] 49, .ow kF a28 nfy c29 56 Xfy, .ow kF a22 nfx c23 56 Xfx, .ow kF a16 nfe c17 56 Xfe, .blk b1 [.slice afe nfe cfe, .slice afx nfx cfx, .slice afy nfy cfy] 49, .rd kF afe nfe Xfe, .rd kF afx nfx Xfx, .rd kF afy nfy Xfy] := B.upd [3] rfl hU32
  clear hU32
  refine m_done (by kernel_rfl) (fun w35 e36 => ?_)
  replace B := B.ext0 e36
  clear e36
  clear B0_11
  refine W_ret ?_
  refine ret1 (v := .agg #[.slice a16 nfe c17, .slice a22 nfx c23, .slice a28 nfy c29]) rfl rfl ⟨_, [.slice a16 nfe c17, .slice a22 nfx c23, .slice a28 nfy c29], _, rfl, (B.b 0 rfl), T87.agg_49_3, rfl⟩ ⟨_, rfl, ?_⟩
  exact ⟨_, _, _, _, _, _, rfl, B.give [3, 2, 1] rfl rfl rfl⟩
namespace T88
theorem mx : Try.prog.follows .mixedOrders = true := by kernel_rfl
theorem agg_26_5 : aggB Try.prog 26 5 = true := by kernel_rfl
theorem agg_49_3 : aggB Try.prog 49 3 = true := by kernel_rfl
theorem fn_74 : fnB Try.prog 74 = true := by kernel_rfl
theorem sz_49_3 : szB Try.prog 49 3 = true := by kernel_rfl
theorem zero_49 : zeroB Try.prog 49 (.agg #[.slice none 0 0, .slice none 0 0, .slice none 0 0]) := by unfold zeroB; kernel_rfl
end T88
set_option maxRecDepth 100000 in
set_option maxHeartbeats 4000000 in
theorem c_i_validField {wd : Int} {hi : Int} {wr : Bool} {asp : Option Addr} {nsp : Nat} {csp : Nat} {Xsp : List Nat} {als : Option Addr} {nls : Nat} {cls : Nat} {Xls : List Nat} {afe : Option Addr} {nfe : Nat} {cfe : Nat} {Xfe : List Nat} {afx : Option Addr} {nfx : Nat} {cfx : Nat} {Xfx : List Nat} {afy : Option Addr} {nfy : Nat} {cfy : Nat} {Xfy : List Nat} {w : World} (qsp : Rd w kF asp nsp Xsp) (qls : Rd w kF als nls Xls) (qfe : Rd w kF afe nfe Xfe) (qfx : Rd w kF afx nfx Xfx) (qfy : Rd w kF afy nfy Xfy) (hbsp : nsp ≤ 9223372036854775806) (hbls : nls ≤ 9223372036854775806) (hbfe : nfe ≤ 9223372036854775806) (hbfx : nfx ≤ 9223372036854775806) (hbfy : nfy ≤ 9223372036854775806) :
    Calls Try.prog 88 #[.agg #[.int .i64 wd, .int .i64 hi, .bool wr, .slice asp nsp csp, .slice als nls cls], .agg #[.slice afe nfe cfe, .slice afx nfx cfx, .slice afy nfy cfy]] w (Rt fun v w' => (fieldB wd hi wr Xsp Xls Xfe Xfx Xfy = true ∧ v = .tuple #[.agg #[.slice afe nfe cfe, .slice afx nfx cfx, .slice afy nfy cfy], .bool true] ∧ Ext0 w w') ∨ (fieldB wd hi wr Xsp Xls Xfe Xfx Xfy = false ∧ v = .tuple #[.agg #[.slice none 0 0, .slice none 0 0, .slice none 0 0], .bool false] ∧ Ext0 w w')) := by
  have hlsp := qsp.len
  have hlls := qls.len
  have hlfe := qfe.len
  have hlfx := qfx.len
  have hlfy := qfy.len
  have B : Bu w no w [.rd kF asp nsp Xsp, .rd kF als nls Xls, .rd kF afe nfe Xfe, .rd kF afx nfx Xfx, .rd kF afy nfy Xfy] := Bu.ro (All.cons qsp (All.cons qls (All.cons qfe (All.cons qfx (All.cons qfy All.nil))))) rfl
  refine calls_W (n := 12) Try.func88 rfl rfl (Nat.le_of_ble_eq_true rfl) ?_
  refine W_seq ?_
  refine W_region (by kernel_rfl) ?_
  refine s_k rfl (k_boxN (v := .agg #[.int .i64 wd, .int .i64 hi, .bool wr, .slice asp nsp csp, .slice als nls cls]) (cs := [.int .i64 wd, .int .i64 hi, .bool wr, .slice asp nsp csp, .slice als nls cls]) rfl rfl (fun b1 w2 hN3 => ?_))
  replace B := B.new1 hN3
  clear hN3
  refine s_k rfl (k_boxN (v := .agg #[.slice afe nfe cfe, .slice afx nfx cfx, .slice afy nfy cfy]) (cs := [.slice afe nfe cfe, .slice afx nfx cfx, .slice afy nfy cfy]) rfl rfl (fun b4 w5 hN6 => ?_))
  replace B := B.new1 hN6
  clear hN6
  refine s_k rfl (k_allocN (z := (.agg #[.slice none 0 0, .slice none 0 0, .slice none 0 0])) (cs := [.slice none 0 0, .slice none 0 0, .slice none 0 0]) T88.zero_49 rfl (fun b7 w8 hN9 => ?_))
  replace B := B.new1 hN9
  clear hN9
  refine s_y (v := .bool false) rfl (y_assign rfl) ?_
  refine s_nil ?_
  refine W_seq ?_
  refine W_seq ?_
  refine W_region (by kernel_rfl) ?_
  refine s_y (v := .agg #[.int .i64 wd, .int .i64 hi, .bool wr, .slice asp nsp csp, .slice als nls cls]) rfl (y_loadn (b := b1) (o := 0) (vs := [.int .i64 wd, .int .i64 hi, .bool wr, .slice asp nsp csp, .slice als nls cls]) T88.agg_26_5 rfl rfl ((B.b 2 rfl).cells (o := 0) rfl)) ?_
  refine s_y (v := .agg #[.slice afe nfe cfe, .slice afx nfx cfx, .slice afy nfy cfy]) rfl (y_loadn (b := b4) (o := 0) (vs := [.slice afe nfe cfe, .slice afx nfx cfx, .slice afy nfy cfy]) T88.agg_49_3 rfl rfl ((B.b 1 rfl).cells (o := 0) rfl)) ?_
  refine s_k rfl (k_call T88.fn_74 (c_i_IsField (B.r 3 rfl) (B.r 4 rfl) (B.r 5 rfl) (B.r 6 rfl) (B.r 7 rfl) (by omega) (by omega) (by omega) (by omega) (by omega)) rfl ?_)
  rintro v12 w10 ⟨hv13, e11⟩
  replace B := B.ext0 e11
  clear e11
  by_cases c14 : fieldB wd hi wr Xsp Xls Xfe Xfx Xfy = true
  · have hb15 := fieldB_b c14
    obtain rfl : v12 = .bool true := hv13.trans (congrArg Value.bool c14)
    refine s_y (v := .bool false) rfl (y_not rfl rfl) ?_
    refine s_nil ?_
    refine W_if_f (by decide) rfl ?_
    refine W_skip ?_
    refine W_seq ?_
    refine W_region (by kernel_rfl) ?_
    refine s_y (v := .agg #[.slice afe nfe cfe, .slice afx nfx cfx, .slice afy nfy cfy]) rfl (y_loadn (b := b4) (o := 0) (vs := [.slice afe nfe cfe, .slice afx nfx cfx, .slice afy nfy cfy]) T88.agg_49_3 rfl rfl ((B.b 1 rfl).cells (o := 0) rfl)) ?_
    refine s_k0 rfl (k_stB (v := .agg #[.slice afe nfe cfe, .slice afx nfx cfx, .slice afy nfy cfy]) (n := 3) (cs' := [.slice afe nfe cfe, .slice afx nfx cfx, .slice afy nfy cfy]) T88.sz_49_3 rfl rfl rfl (B.b 0 rfl) (by simp [Value.cells, Value.oneCell']) (Nat.le_of_ble_eq_true rfl) rfl (fun w16 hU17 => ?_))
    replace B : Bu w no w16 [.blk b7 [.slice afe nfe cfe, .slice afx nfx cfx, .slice afy nfy cfy] 49, .blk b4 [.slice afe nfe cfe, .slice afx nfx cfx, .slice afy nfy cfy] 49, .blk b1 [.int .i64 wd, .int .i64 hi, .bool wr, .slice asp nsp csp, .slice als nls cls] 26, .rd kF asp nsp Xsp, .rd kF als nls Xls, .rd kF afe nfe Xfe, .rd kF afx nfx Xfx, .rd kF afy nfy Xfy] := B.upd [0] rfl hU17
    clear hU17
    refine s_y (v := .bool true) rfl (y_assign rfl) ?_
    refine s_nil ?_
    refine W_ret ?_
    refine ret2 (v1 := .agg #[.slice afe nfe cfe, .slice afx nfx cfx, .slice afy nfy cfy]) (v2 := .bool true) rfl rfl rfl ⟨_, [.slice afe nfe cfe, .slice afx nfx cfx, .slice afy nfy cfy], _, rfl, (B.b 0 rfl), T88.agg_49_3, rfl⟩ rfl ⟨_, rfl, ?_⟩
    have hcond : fieldB wd hi wr Xsp Xls Xfe Xfx Xfy = true := by simp only [c14, Bool.and_true, Bool.true_and, Bool.and_false, Bool.false_and, Bool.not_true, Bool.not_false, Bool.or_true, Bool.true_or, Bool.or_false, Bool.false_or]
    exact .inl ⟨hcond, ⟨rfl, B.ext⟩⟩
  · obtain rfl : v12 = .bool false := hv13.trans (congrArg Value.bool (Bool.eq_false_iff.2 c14))
    refine s_y (v := .bool true) rfl (y_not rfl rfl) ?_
    refine s_nil ?_
    refine W_if_t (by decide) rfl ?_
    refine W_seq ?_
    refine W_region (by kernel_rfl) ?_
    refine s_y (v := .agg #[.slice none 0 0, .slice none 0 0, .slice none 0 0]) rfl (y_build (cells := #[.slice none 0 0, .slice none 0 0, .slice none 0 0]) (by kernel_rfl)) ?_
    refine s_k0 rfl (k_stB (v := .agg #[.slice none 0 0, .slice none 0 0, .slice none 0 0]) (n := 3) (cs' := [.slice none 0 0, .slice none 0 0, .slice none 0 0]) T88.sz_49_3 rfl rfl rfl (B.b 0 rfl) (by simp [Value.cells, Value.oneCell']) (Nat.le_of_ble_eq_true rfl) rfl (fun w18 hU19 => ?_))
    replace B : Bu w no w18 [.blk b7 [.slice none 0 0, .slice none 0 0, .slice none 0 0] 49, .blk b4 [.slice afe nfe cfe, .slice afx nfx cfx, .slice afy nfy cfy] 49, .blk b1 [.int .i64 wd, .int .i64 hi, .bool wr, .slice asp nsp csp, .slice als nls cls] 26, .rd kF asp nsp Xsp, .rd kF als nls Xls, .rd kF afe nfe Xfe, .rd kF afx nfx Xfx, .rd kF afy nfy Xfy] := B.upd [0] rfl hU19
    clear hU19
    refine s_y (v := .bool false) rfl (y_assign rfl) ?_
    refine s_nil ?_
    refine W_ret ?_
    refine ret2 (v1 := .agg #[.slice none 0 0, .slice none 0 0, .slice none 0 0]) (v2 := .bool false) rfl rfl rfl ⟨_, [.slice none 0 0, .slice none 0 0, .slice none 0 0], _, rfl, (B.b 0 rfl), T88.agg_49_3, rfl⟩ rfl ⟨_, rfl, ?_⟩
    exact .inr ⟨by simp only [(Bool.eq_false_iff.2 c14), Bool.and_true, Bool.true_and, Bool.and_false, Bool.false_and, Bool.not_true, Bool.not_false, Bool.or_true, Bool.true_or, Bool.or_false, Bool.false_or], rfl, B.ext⟩
namespace T49
theorem mx : Try.prog.follows .mixedOrders = true := by kernel_rfl
theorem agg_26_5 : aggB Try.prog 26 5 = true := by kernel_rfl
theorem agg_49_3 : aggB Try.prog 49 3 = true := by kernel_rfl
theorem fld_49_0_0 : fldB Try.prog 49 0 0 = true := by kernel_rfl
theorem fn_66 : fnB Try.prog 66 = true := by kernel_rfl
theorem fn_74 : fnB Try.prog 74 = true := by kernel_rfl
theorem fn_79 : fnB Try.prog 79 = true := by kernel_rfl
theorem fn_87 : fnB Try.prog 87 = true := by kernel_rfl
theorem fn_88 : fnB Try.prog 88 = true := by kernel_rfl
theorem one_24 : oneB Try.prog 24 = true := by kernel_rfl
theorem sl_24_56_1 : slB Try.prog 24 56 1 = true := by kernel_rfl
theorem sz_49_3 : szB Try.prog 49 3 = true := by kernel_rfl
theorem sz_56_1 : szB Try.prog 56 1 = true := by kernel_rfl
theorem zero_49 : zeroB Try.prog 49 (.agg #[.slice none 0 0, .slice none 0 0, .slice none 0 0]) := by unfold zeroB; kernel_rfl
end T49
set_option maxRecDepth 100000 in
set_option maxHeartbeats 4000000 in
theorem c_i_PutValue {wd : Int} {hi : Int} {wr : Bool} {asp : Option Addr} {nsp : Nat} {csp : Nat} {Xsp : List Nat} {als : Option Addr} {nls : Nat} {cls : Nat} {Xls : List Nat} {afe : Option Addr} {nfe : Nat} {cfe : Nat} {Xfe : List Nat} {afx : Option Addr} {nfx : Nat} {cfx : Nat} {Xfx : List Nat} {afy : Option Addr} {nfy : Nat} {cfy : Nat} {Xfy : List Nat} {x : Int} {y : Int} {v1 : Nat} {V : Nat} {w : World} (qsp : Rd w kF asp nsp Xsp) (qls : Rd w kF als nls Xls) (qfe : Rd w kF afe nfe Xfe) (qfx : Rd w kF afx nfx Xfx) (qfy : Rd w kF afy nfy Xfy) (hv1 : can .f32 v1 = V) (hbsp : nsp ≤ 9223372036854775806) (hbls : nls ≤ 9223372036854775806) (hbfe : nfe ≤ 9223372036854775806) (hbfx : nfx ≤ 9223372036854775806) (hbfy : nfy ≤ 9223372036854775806) :
    Calls Try.prog 49 #[.agg #[.int .i64 wd, .int .i64 hi, .bool wr, .slice asp nsp csp, .slice als nls cls], .agg #[.slice afe nfe cfe, .slice afx nfx cfx, .slice afy nfy cfy], .int .i64 x, .int .i64 y, .float .f32 v1] w (Rt fun v w' => (putB wd hi wr Xsp Xls Xfe Xfx Xfy x y V = true ∧ ∃ (a1 : Option Addr) (c1 : Nat) (a2 : Option Addr) (c2 : Nat) (a3 : Option Addr) (c3 : Nat), v = .tuple #[.agg #[.slice a1 nfe c1, .slice a2 nfx c2, .slice a3 nfy c3], .bool true] ∧ New w w' [.ow kF a1 nfe c1 56 (put Xfe (x + wd * y) V), .ow kF a2 nfx c2 56 Xfx, .ow kF a3 nfy c3 56 Xfy]) ∨ (putB wd hi wr Xsp Xls Xfe Xfx Xfy x y V = false ∧ v = .tuple #[.agg #[.slice none 0 0, .slice none 0 0, .slice none 0 0], .bool false] ∧ Ext0 w w')) := by
  have hlsp := qsp.len
  have hlls := qls.len
  have hlfe := qfe.len
  have hlfx := qfx.len
  have hlfy := qfy.len
  have B : Bu w no w [.rd kF asp nsp Xsp, .rd kF als nls Xls, .rd kF afe nfe Xfe, .rd kF afx nfx Xfx, .rd kF afy nfy Xfy] := Bu.ro (All.cons qsp (All.cons qls (All.cons qfe (All.cons qfx (All.cons qfy All.nil))))) rfl
  refine calls_W (n := 40) Try.func49 rfl rfl (Nat.le_of_ble_eq_true rfl) ?_
  refine W_seq ?_
  refine W_region (by kernel_rfl) ?_
  refine s_k rfl (k_boxN (v := .agg #[.int .i64 wd, .int .i64 hi, .bool wr, .slice asp nsp csp, .slice als nls cls]) (cs := [.int .i64 wd, .int .i64 hi, .bool wr, .slice asp nsp csp, .slice als nls cls]) rfl rfl (fun b1 w2 hN3 => ?_))
  replace B := B.new1 hN3
  clear hN3
  refine s_k rfl (k_boxN (v := .agg #[.slice afe nfe cfe, .slice afx nfx cfx, .slice afy nfy cfy]) (cs := [.slice afe nfe cfe, .slice afx nfx cfx, .slice afy nfy cfy]) rfl rfl (fun b4 w5 hN6 => ?_))
  replace B := B.new1 hN6
  clear hN6
  refine s_k rfl (k_allocN (z := (.agg #[.slice none 0 0, .slice none 0 0, .slice none 0 0])) (cs := [.slice none 0 0, .slice none 0 0, .slice none 0 0]) T49.zero_49 rfl (fun b7 w8 hN9 => ?_))
  replace B := B.new1 hN9
  clear hN9
  refine s_y (v := .bool false) rfl (y_assign rfl) ?_
  refine s_nil ?_
  refine W_seq ?_
  refine W_seq ?_
  refine W_region (by kernel_rfl) ?_
  refine s_y (v := .agg #[.int .i64 wd, .int .i64 hi, .bool wr, .slice asp nsp csp, .slice als nls cls]) rfl (y_loadn (b := b1) (o := 0) (vs := [.int .i64 wd, .int .i64 hi, .bool wr, .slice asp nsp csp, .slice als nls cls]) T49.agg_26_5 rfl rfl ((B.b 2 rfl).cells (o := 0) rfl)) ?_
  refine s_y (v := .agg #[.slice afe nfe cfe, .slice afx nfx cfx, .slice afy nfy cfy]) rfl (y_loadn (b := b4) (o := 0) (vs := [.slice afe nfe cfe, .slice afx nfx cfx, .slice afy nfy cfy]) T49.agg_49_3 rfl rfl ((B.b 1 rfl).cells (o := 0) rfl)) ?_
  refine s_k rfl (k_call T49.fn_74 (c_i_IsField (B.r 3 rfl) (B.r 4 rfl) (B.r 5 rfl) (B.r 6 rfl) (B.r 7 rfl) (by omega) (by omega) (by omega) (by omega) (by omega)) rfl ?_)
  rintro v12 w10 ⟨hv13, e11⟩
  replace B := B.ext0 e11
  clear e11
  by_cases c14 : fieldB wd hi wr Xsp Xls Xfe Xfx Xfy = true
  · have hb15 := fieldB_b c14
    obtain rfl : v12 = .bool true := hv13.trans (congrArg Value.bool c14)
    refine s_y (v := .bool false) rfl (y_not rfl rfl) ?_
    refine s_y (v := .bool false) rfl (y_move rfl) ?_
    refine s_y (v := .agg #[.int .i64 wd, .int .i64 hi, .bool wr, .slice asp nsp csp, .slice als nls cls]) rfl (y_loadn (b := b1) (o := 0) (vs := [.int .i64 wd, .int .i64 hi, .bool wr, .slice asp nsp csp, .slice als nls cls]) T49.agg_26_5 rfl rfl ((B.b 2 rfl).cells (o := 0) rfl)) ?_
    refine s_y (v := .int .i64 x) rfl (y_move rfl) ?_
    refine s_y (v := .int .i64 y) rfl (y_move rfl) ?_
    refine s_k rfl (k_call T49.fn_66 (c_i_isCell (by omega) (by omega) (by omega) (by omega)) rfl ?_)
    rintro v18 w16 ⟨hv19, e17⟩
    replace B := B.ext0 e17
    clear e17
    by_cases c20 : cellB wd hi x y = true
    · have hb21 := cellB_b c20
      obtain rfl : v18 = .bool true := hv19.trans (congrArg Value.bool c20)
      refine s_y (v := .bool false) rfl (y_not rfl rfl) ?_
      refine s_y (v := .bool false) rfl (y_pick_f rfl rfl) ?_
      refine s_nil ?_
      refine W_if_f (by decide) rfl ?_
      refine W_skip ?_
      refine W_seq ?_
      refine W_region (by kernel_rfl) ?_
      refine s_y (v := .agg #[.slice afe nfe cfe, .slice afx nfx cfx, .slice afy nfy cfy]) rfl (y_loadn (b := b4) (o := 0) (vs := [.slice afe nfe cfe, .slice afx nfx cfx, .slice afy nfy cfy]) T49.agg_49_3 rfl rfl ((B.b 1 rfl).cells (o := 0) rfl)) ?_
      refine s_k rfl (k_call T49.fn_87 (c_i_copyField (B.r 5 rfl) (B.r 6 rfl) (B.r 7 rfl) (by omega) (by omega) (by omega)) rfl ?_)
      rintro _ w22 ⟨a23, c24, a25, c26, a27, c28, rfl, hN29⟩
      replace B := B.new3 hN29
      clear hN29
      refine s_k rfl (k_allocN (z := (.agg #[.slice none 0 0, .slice none 0 0, .slice none 0 0])) (cs := [.slice none 0 0, .slice none 0 0, .slice none 0 0]) T49.zero_49 rfl (fun b30 w31 hN32 => ?_))
      replace B := B.new1 hN32
      clear hN32
      refine s_k0 rfl (k_stB (v := .agg #[.slice a23 nfe c24, .slice a25 nfx c26, .slice a27 nfy c28]) (n := 3) (cs' := [.slice a23 nfe c24, .slice a25 nfx c26, .slice a27 nfy c28]) T49.sz_49_3 rfl rfl rfl (B.b 0 rfl) (by simp [Value.cells, Value.oneCell']) (Nat.le_of_ble_eq_true rfl) rfl (fun w33 hU34 => ?_))
      replace B : Bu w no w33 [.blk b30 [.slice a23 nfe c24, .slice a25 nfx c26, .slice a27 nfy c28] 49, .ow kF a23 nfe c24 56 Xfe, .ow kF a25 nfx c26 56 Xfx, .ow kF a27 nfy c28 56 Xfy, .blk b7 [.slice none 0 0, .slice none 0 0, .slice none 0 0] 49, .blk b4 [.slice afe nfe cfe, .slice afx nfx cfx, .slice afy nfy cfy] 49, .blk b1 [.int .i64 wd, .int .i64 hi, .bool wr, .slice asp nsp csp, .slice als nls cls] 26, .rd kF asp nsp Xsp, .rd kF als nls Xls, .rd kF afe nfe Xfe, .rd kF afx nfx Xfx, .rd kF afy nfy Xfy] := B.upd [0] rfl hU34
      clear hU34
      refine s_nil ?_
      refine W_seq ?_
      have B0_39 := B
      refine W_draw (no) T49.mx (by kernel_rfl) (fun w37 e38 => ?_)
      have R40 := Ext.refl (no) w33
      replace R40 := R40.trans (Ext0.any e38)
      replace B := B.ext0 e38
      clear e38
      refine m_y (v := .pointer (some ⟨b30, 0, none⟩)) 0 rfl (by kernel_rfl) rfl rfl (fun w' e' => y_fld (o := 0) T49.fld_49_0_0 rfl) ?_
      refine m_y (v := .slice a23 nfe c24) 1 rfl (by kernel_rfl) rfl rfl (fun w' e' => y_load T49.one_24 rfl (((B0_39.b 0 rfl).ext0 e').cell (j := 0) rfl)) ?_
      refine m_y (v := .agg #[.int .i64 wd, .int .i64 hi, .bool wr, .slice asp nsp csp, .slice als nls cls]) 2 rfl (by kernel_rfl) rfl rfl (fun w' e' => y_loadn (b := b1) (o := 0) (vs := [.int .i64 wd, .int .i64 hi, .bool wr, .slice asp nsp csp, .slice als nls cls]) T49.agg_26_5 rfl rfl (((B0_39.b 6 rfl).ext0 e').cells (o := 0) rfl)) ?_
      refine m_y (v := .int .i64 x) 3 rfl (by kernel_rfl) rfl rfl (fun w' e' => y_move rfl) ?_
      refine m_y (v := .int .i64 y) 4 rfl (by kernel_rfl) rfl rfl (fun w' e' => y_move rfl) ?_
      refine m_y (v := .float .f32 v1) 6 rfl (by kernel_rfl) rfl rfl (fun w' e' => y_move rfl) ?_
      refine m_k 5 [7, 8] rfl (by kernel_rfl) rfl rfl (fun w41 e42 => ?_)
      replace R40 := R40.trans (Ext0.any e42)
      replace B := B.ext0 e42
      clear e42
      refine k_call T49.fn_79 (c_i_at (by omega) (by omega) (by omega) (by omega) (by omega) (by omega) (by omega) (by omega)) rfl ?_
      rintro _ w43 ⟨rfl, e44⟩
      replace R40 := R40.trans (Ext0.any e44)
      replace B := B.ext0 e44
      clear e44
      refine ⟨fun _ => R40, ?_⟩
      have hat45 := atI_b (wd := wd) (hi := hi) (x := x) (y := y) (by omega) (by omega)
      refine m_y (v := .pointer (some (sat a23 ((atI wd hi x y).toNat * 1)))) 7 rfl (by kernel_rfl) rfl rfl (fun w' e' => y_idx T49.sl_24_56_1 rfl rfl ((B.o 1 rfl).rd.addr (by omega)) (by omega) (by omega)) ?_
      refine m_kt 8 [] rfl (by kernel_rfl) rfl rfl (by kernel_rfl) (fun w48 e49 => ?_)
      replace R40 := R40.trans (Ext0.any e49)
      replace B := B.ext0 e49
      clear e49
      refine k_stO (k := kF) (i := atI wd hi x y) (j := 0) (x' := V) (new := [.float .f32 v1]) T49.sz_56_1 rfl rfl rfl rfl rfl (by simp [Value.oneCell']) (by decide) (B.o 1 rfl) (by omega) (by omega) (by decide) (by rintro q ⟨_, rfl, _⟩; exact ⟨_, rfl, hv1⟩) (fun w46 hU47 => ?_)
      clear R40
      replace B : Bu w no w46 [.ow kF a23 nfe c24 56 (put Xfe (atI wd hi x y) V), .blk b30 [.slice a23 nfe c24, .slice a25 nfx c26, .slice a27 nfy c28] 49, .ow kF a25 nfx c26 56 Xfx, .ow kF a27 nfy c28 56 Xfy, .blk b7 [.slice none 0 0, .slice none 0 0, .slice none 0 0] 49, .blk b4 [.slice afe nfe cfe, .slice afx nfx cfx, .slice afy nfy cfy] 49, .blk b1 [.int .i64 wd, .int .i64 hi, .bool wr, .slice asp nsp csp, .slice als nls cls] 26, .rd kF asp nsp Xsp, .rd kF als nls Xls, .rd kF afe nfe Xfe, .rd kF afx nfx Xfx, .rd kF afy nfy Xfy] := B.upd [1] rfl hU47
      clear hU47
      refine m_done (by kernel_rfl) (fun w50 e51 => ?_)
      replace B := B.ext0 e51
      clear e51
      clear B0_39
      refine W_seq ?_
      refine W_region (by kernel_rfl) ?_
      refine s_y (v := .agg #[.int .i64 wd, .int .i64 hi, .bool wr, .slice asp nsp csp, .slice als nls cls]) rfl (y_loadn (b := b1) (o := 0) (vs := [.int .i64 wd, .int .i64 hi, .bool wr, .slice asp nsp csp, .slice als nls cls]) T49.agg_26_5 rfl rfl ((B.b 6 rfl).cells (o := 0) rfl)) ?_
      refine s_y (v := .agg #[.slice a23 nfe c24, .slice a25 nfx c26, .slice a27 nfy c28]) rfl (y_loadn (b := b30) (o := 0) (vs := [.slice a23 nfe c24, .slice a25 nfx c26, .slice a27 nfy c28]) T49.agg_49_3 rfl rfl ((B.b 1 rfl).cells (o := 0) rfl)) ?_
      refine s_k rfl (k_call T49.fn_88 (c_i_validField (B.r 7 rfl) (B.r 8 rfl) ((B.o 0 rfl).rd) ((B.o 2 rfl).rd) ((B.o 3 rfl).rd) (by omega) (by omega) (by omega) (by omega) (by omega)) rfl ?_)
      rintro v54 w52 hx53
      by_cases c55 : fieldB wd hi wr Xsp Xls (put Xfe (atI wd hi x y) V) Xfx Xfy = true
      · have hb56 := fieldB_b c55
        obtain ⟨rfl, e57⟩ := (hx53.resolve_right (fun hz => by rw [c55] at hz; cases hz.1)).2
        clear hx53
        replace B := B.ext0 e57
        clear e57
        refine s_y (v := .agg #[.slice a23 nfe c24, .slice a25 nfx c26, .slice a27 nfy c28]) rfl (y_extract rfl rfl) ?_
        refine s_y (v := .bool true) rfl (y_extract rfl rfl) ?_
        refine s_k0 rfl (k_stB (v := .agg #[.slice a23 nfe c24, .slice a25 nfx c26, .slice a27 nfy c28]) (n := 3) (cs' := [.slice a23 nfe c24, .slice a25 nfx c26, .slice a27 nfy c28]) T49.sz_49_3 rfl rfl rfl (B.b 4 rfl) (by simp [Value.cells, Value.oneCell']) (Nat.le_of_ble_eq_true rfl) rfl (fun w58 hU59 => ?_))
        replace B : Bu w no w58 [.blk b7 [.slice a23 nfe c24, .slice a25 nfx c26, .slice a27 nfy c28] 49, .ow kF a23 nfe c24 56 (put Xfe (atI wd hi x y) V), .blk b30 [.slice a23 nfe c24, .slice a25 nfx c26, .slice a27 nfy c28] 49, .ow kF a25 nfx c26 56 Xfx, .ow kF a27 nfy c28 56 Xfy, .blk b4 [.slice afe nfe cfe, .slice afx nfx cfx, .slice afy nfy cfy] 49, .blk b1 [.int .i64 wd, .int .i64 hi, .bool wr, .slice asp nsp csp, .slice als nls cls] 26, .rd kF asp nsp Xsp, .rd kF als nls Xls, .rd kF afe nfe Xfe, .rd kF afx nfx Xfx, .rd kF afy nfy Xfy] := B.upd [4] rfl hU59
        clear hU59
        refine s_y (v := .bool true) rfl (y_assign rfl) ?_
        refine s_nil ?_
        refine W_ret ?_
        refine ret2 (v1 := .agg #[.slice a23 nfe c24, .slice a25 nfx c26, .slice a27 nfy c28]) (v2 := .bool true) rfl rfl rfl ⟨_, [.slice a23 nfe c24, .slice a25 nfx c26, .slice a27 nfy c28], _, rfl, (B.b 0 rfl), T49.agg_49_3, rfl⟩ rfl ⟨_, rfl, ?_⟩
        have hval : valB wd hi wr Xsp Xls Xfe Xfx Xfy x y = true := by simp only [valB, c14, c20, c55, Bool.and_true, Bool.true_and, Bool.and_false, Bool.false_and, Bool.not_true, Bool.not_false, Bool.or_true, Bool.true_or, Bool.or_false, Bool.false_or]
        have hat2 : atI wd hi x y = x + wd * y := atI_in (by omega) (by omega) (by omega) (by omega)
        have hcond : putB wd hi wr Xsp Xls Xfe Xfx Xfy x y V = true := (put_fits hval).symm.trans (by rw [← hat2]; exact c55)
        replace B : Bu w no w58 [.blk b7 [.slice a23 nfe c24, .slice a25 nfx c26, .slice a27 nfy c28] 49, .ow kF a23 nfe c24 56 (put Xfe (x + wd * y) V), .blk b30 [.slice a23 nfe c24, .slice a25 nfx c26, .slice a27 nfy c28] 49, .ow kF a25 nfx c26 56 Xfx, .ow kF a27 nfy c28 56 Xfy, .blk b4 [.slice afe nfe cfe, .slice afx nfx cfx, .slice afy nfy cfy] 49, .blk b1 [.int .i64 wd, .int .i64 hi, .bool wr, .slice asp nsp csp, .slice als nls cls] 26, .rd kF asp nsp Xsp, .rd kF als nls Xls, .rd kF afe nfe Xfe, .rd kF afx nfx Xfx, .rd kF afy nfy Xfy] := B.castX 1 rfl rfl (congrArg (fun q => put Xfe q V) (atI_in (by omega) (by omega) (by omega) (by omega)))
        exact .inl ⟨hcond, ⟨_, _, _, _, _, _, rfl, B.give [1, 3, 4] rfl rfl rfl⟩⟩
      · obtain ⟨_, rfl, e60⟩ := hx53.resolve_left (fun hz => c55 hz.1)
        clear hx53
        replace B := B.ext0 e60
        clear e60
        refine s_y (v := .agg #[.slice none 0 0, .slice none 0 0, .slice none 0 0]) rfl (y_extract rfl rfl) ?_
        refine s_y (v := .bool false) rfl (y_extract rfl rfl) ?_
        refine s_k0 rfl (k_stB (v := .agg #[.slice none 0 0, .slice none 0 0, .slice none 0 0]) (n := 3) (cs' := [.slice none 0 0, .slice none 0 0, .slice none 0 0]) T49.sz_49_3 rfl rfl rfl (B.b 4 rfl) (by simp [Value.cells, Value.oneCell']) (Nat.le_of_ble_eq_true rfl) rfl (fun w61 hU62 => ?_))
        replace B : Bu w no w61 [.blk b7 [.slice none 0 0, .slice none 0 0, .slice none 0 0] 49, .ow kF a23 nfe c24 56 (put Xfe (atI wd hi x y) V), .blk b30 [.slice a23 nfe c24, .slice a25 nfx c26, .slice a27 nfy c28] 49, .ow kF a25 nfx c26 56 Xfx, .ow kF a27 nfy c28 56 Xfy, .blk b4 [.slice afe nfe cfe, .slice afx nfx cfx, .slice afy nfy cfy] 49, .blk b1 [.int .i64 wd, .int .i64 hi, .bool wr, .slice asp nsp csp, .slice als nls cls] 26, .rd kF asp nsp Xsp, .rd kF als nls Xls, .rd kF afe nfe Xfe, .rd kF afx nfx Xfx, .rd kF afy nfy Xfy] := B.upd [4] rfl hU62
        clear hU62
        refine s_y (v := .bool false) rfl (y_assign rfl) ?_
        refine s_nil ?_
        refine W_ret ?_
        refine ret2 (v1 := .agg #[.slice none 0 0, .slice none 0 0, .slice none 0 0]) (v2 := .bool false) rfl rfl rfl ⟨_, [.slice none 0 0, .slice none 0 0, .slice none 0 0], _, rfl, (B.b 0 rfl), T49.agg_49_3, rfl⟩ rfl ⟨_, rfl, ?_⟩
        have hval : valB wd hi wr Xsp Xls Xfe Xfx Xfy x y = true := by simp only [valB, c14, c20, (Bool.eq_false_iff.2 c55), Bool.and_true, Bool.true_and, Bool.and_false, Bool.false_and, Bool.not_true, Bool.not_false, Bool.or_true, Bool.true_or, Bool.or_false, Bool.false_or]
        have hat2 : atI wd hi x y = x + wd * y := atI_in (by omega) (by omega) (by omega) (by omega)
        exact .inr ⟨(put_fits hval).symm.trans (by rw [← hat2]; exact (Bool.eq_false_iff.2 c55)), rfl, B.ext⟩
    · obtain rfl : v18 = .bool false := hv19.trans (congrArg Value.bool (Bool.eq_false_iff.2 c20))
      refine s_y (v := .bool true) rfl (y_not rfl rfl) ?_
      refine s_y (v := .bool true) rfl (y_pick_f rfl rfl) ?_
      refine s_nil ?_
      refine W_if_t (by decide) rfl ?_
      refine W_seq ?_
      refine W_region (by kernel_rfl) ?_
      refine s_y (v := .agg #[.slice none 0 0, .slice none 0 0, .slice none 0 0]) rfl (y_build (cells := #[.slice none 0 0, .slice none 0 0, .slice none 0 0]) (by kernel_rfl)) ?_
      refine s_k0 rfl (k_stB (v := .agg #[.slice none 0 0, .slice none 0 0, .slice none 0 0]) (n := 3) (cs' := [.slice none 0 0, .slice none 0 0, .slice none 0 0]) T49.sz_49_3 rfl rfl rfl (B.b 0 rfl) (by simp [Value.cells, Value.oneCell']) (Nat.le_of_ble_eq_true rfl) rfl (fun w63 hU64 => ?_))
      replace B : Bu w no w63 [.blk b7 [.slice none 0 0, .slice none 0 0, .slice none 0 0] 49, .blk b4 [.slice afe nfe cfe, .slice afx nfx cfx, .slice afy nfy cfy] 49, .blk b1 [.int .i64 wd, .int .i64 hi, .bool wr, .slice asp nsp csp, .slice als nls cls] 26, .rd kF asp nsp Xsp, .rd kF als nls Xls, .rd kF afe nfe Xfe, .rd kF afx nfx Xfx, .rd kF afy nfy Xfy] := B.upd [0] rfl hU64
      clear hU64
      refine s_y (v := .bool false) rfl (y_assign rfl) ?_
      refine s_nil ?_
      refine W_ret ?_
      refine ret2 (v1 := .agg #[.slice none 0 0, .slice none 0 0, .slice none 0 0]) (v2 := .bool false) rfl rfl rfl ⟨_, [.slice none 0 0, .slice none 0 0, .slice none 0 0], _, rfl, (B.b 0 rfl), T49.agg_49_3, rfl⟩ rfl ⟨_, rfl, ?_⟩
      exact .inr ⟨by simp only [putB, valB, c14, (Bool.eq_false_iff.2 c20), Bool.and_true, Bool.true_and, Bool.and_false, Bool.false_and, Bool.not_true, Bool.not_false, Bool.or_true, Bool.true_or, Bool.or_false, Bool.false_or], rfl, B.ext⟩
  · obtain rfl : v12 = .bool false := hv13.trans (congrArg Value.bool (Bool.eq_false_iff.2 c14))
    refine s_y (v := .bool true) rfl (y_not rfl rfl) ?_
    refine s_y (v := .bool true) rfl (y_move rfl) ?_
    refine s_skip rfl ?_
    refine s_skip rfl ?_
    refine s_skip rfl ?_
    refine s_skip rfl ?_
    refine s_skip rfl ?_
    refine s_y (v := .bool true) rfl (y_pick_t rfl rfl) ?_
    refine s_nil ?_
    refine W_if_t (by decide) rfl ?_
    refine W_seq ?_
    refine W_region (by kernel_rfl) ?_
    refine s_y (v := .agg #[.slice none 0 0, .slice none 0 0, .slice none 0 0]) rfl (y_build (cells := #[.slice none 0 0, .slice none 0 0, .slice none 0 0]) (by kernel_rfl)) ?_
    refine s_k0 rfl (k_stB (v := .agg #[.slice none 0 0, .slice none 0 0, .slice none 0 0]) (n := 3) (cs' := [.slice none 0 0, .slice none 0 0, .slice none 0 0]) T49.sz_49_3 rfl rfl rfl (B.b 0 rfl) (by simp [Value.cells, Value.oneCell']) (Nat.le_of_ble_eq_true rfl) rfl (fun w65 hU66 => ?_))
    replace B : Bu w no w65 [.blk b7 [.slice none 0 0, .slice none 0 0, .slice none 0 0] 49, .blk b4 [.slice afe nfe cfe, .slice afx nfx cfx, .slice afy nfy cfy] 49, .blk b1 [.int .i64 wd, .int .i64 hi, .bool wr, .slice asp nsp csp, .slice als nls cls] 26, .rd kF asp nsp Xsp, .rd kF als nls Xls, .rd kF afe nfe Xfe, .rd kF afx nfx Xfx, .rd kF afy nfy Xfy] := B.upd [0] rfl hU66
    clear hU66
    refine s_y (v := .bool false) rfl (y_assign rfl) ?_
    refine s_nil ?_
    refine W_ret ?_
    refine ret2 (v1 := .agg #[.slice none 0 0, .slice none 0 0, .slice none 0 0]) (v2 := .bool false) rfl rfl rfl ⟨_, [.slice none 0 0, .slice none 0 0, .slice none 0 0], _, rfl, (B.b 0 rfl), T49.agg_49_3, rfl⟩ rfl ⟨_, rfl, ?_⟩
    exact .inr ⟨by simp only [putB, valB, (Bool.eq_false_iff.2 c14), Bool.and_true, Bool.true_and, Bool.and_false, Bool.false_and, Bool.not_true, Bool.not_false, Bool.or_true, Bool.true_or, Bool.or_false, Bool.false_or], rfl, B.ext⟩
end Go.Proofs.Ytalkhbnlphefdaa
