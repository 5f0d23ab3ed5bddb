/- Walks: what the functions under FnExactAddFields do (part 1). Printed by a program of this claim's author. -/
import Derived.Test.YtalkhbnlphefdaaBw1
set_option linter.unusedSimpArgs false
set_option linter.unusedVariables false
open Go.Wv
namespace Go.Proofs.Ytalkhbnlphefdaa
open Go.Proofs
namespace T86
theorem mx : Try.prog.follows .mixedOrders = true := by kernel_rfl
theorem agg_49_3 : aggB Try.prog 49 3 = true := by kernel_rfl
theorem fld_49_0_0 : fldB Try.prog 49 0 0 = true := by kernel_rfl
theorem fld_49_1_1 : fldB Try.prog 49 1 1 = true := by kernel_rfl
theorem fld_49_2_2 : fldB Try.prog 49 2 2 = true := by kernel_rfl
theorem one_24 : oneB Try.prog 24 = true := by kernel_rfl
theorem slt_24 : SlT Try.prog 24 56 1 4 (.float .f32 0) := ⟨by kernel_rfl, by kernel_rfl, rfl, by decide⟩
theorem sz_24_1 : szB Try.prog 24 1 = true := by kernel_rfl
theorem sz_49_3 : szB Try.prog 49 3 = true := by kernel_rfl
theorem zero_49 : zeroB Try.prog 49 (.agg #[.slice none 0 0, .slice none 0 0, .slice none 0 0]) := by unfold zeroB; kernel_rfl
end T86
set_option maxRecDepth 100000 in
set_option maxHeartbeats 4000000 in
theorem c_s_l02Own {b : Nat} {o : Nat} {afe : Option Addr} {nfe : Nat} {cfe : Nat} {Xfe : List Nat} {afx : Option Addr} {nfx : Nat} {cfx : Nat} {Xfx : List Nat} {afy : Option Addr} {nfy : Nat} {cfy : Nat} {Xfy : List Nat} {w : World} (qfe : Rd w kF afe nfe Xfe) (qfx : Rd w kF afx nfx Xfx) (qfy : Rd w kF afy nfy Xfy) (Pb : Sl w (some ⟨b, o, none⟩) [.slice afe nfe cfe, .slice afx nfx cfx, .slice afy nfy cfy]) (b1 : nfe ≤ 1048576) (b2 : nfx ≤ 1048576) (b3 : nfy ≤ 1048576) :
    Calls Try.prog 86 #[.pointer (some ⟨b, o, none⟩)] w (Rt fun v w' => ∃ (a1 : Option Addr) (c1 : Nat) (a2 : Option Addr) (c2 : Nat) (a3 : Option Addr) (c3 : Nat), v = .agg #[.slice a1 nfe c1, .slice a2 nfx c2, .slice a3 nfy c3] ∧ New w w' [.ow kF a1 nfe c1 56 Xfe, .ow kF a2 nfx c2 56 Xfx, .ow kF a3 nfy c3 56 Xfy]) := by
  have hlfe := qfe.len
  have hlfx := qfx.len
  have hlfy := qfy.len
  have B : Bu w no w [.rd kF afe nfe Xfe, .rd kF afx nfx Xfx, .rd kF afy nfy Xfy, .sl (some ⟨b, o, none⟩) [.slice afe nfe cfe, .slice afx nfx cfx, .slice afy nfy cfy]] := Bu.ro (All.cons qfe (All.cons qfx (All.cons qfy (All.cons Pb All.nil)))) rfl
  refine calls_W (n := 26) Try.func86 rfl rfl (Nat.le_of_ble_eq_true rfl) ?_
  refine W_seq ?_
  refine W_region (by kernel_rfl) ?_
  refine s_k rfl (k_allocN (z := (.agg #[.slice none 0 0, .slice none 0 0, .slice none 0 0])) (cs := [.slice none 0 0, .slice none 0 0, .slice none 0 0]) T86.zero_49 rfl (fun b1 w2 hN3 => ?_))
  replace B := B.new1 hN3
  clear hN3
  refine s_nil ?_
  refine W_seq ?_
  refine W_region (by kernel_rfl) ?_
  refine s_k rfl (k_bsliceO (k := kF) (n := 0) (cells := #[]) (X := []) T86.slt_24 (by decide) (by first | rfl | kernel_rfl) (rfl : Reps kF [] []) rfl (fun b4 w5 hN6 => ?_))
  replace B := B.new1 hN6
  clear hN6
  refine s_y (v := .pointer (some ⟨b, o, none⟩)) rfl (y_move rfl) ?_
  refine s_y (v := .pointer (some ⟨b, o, none⟩)) rfl (y_nil rfl) ?_
  refine s_y (v := .pointer (some ⟨b, o, none⟩)) rfl (y_fld (o := o + 0) T86.fld_49_0_0 rfl) ?_
  refine s_y (v := .slice afe nfe cfe) rfl (y_load T86.one_24 rfl ((B.s 5 rfl).cell (j := 0) rfl)) ?_
  refine s_k rfl (k_appO (k := kF) T86.slt_24 rfl rfl rfl (B.o 0 rfl) (B.r 2 rfl) (by omega) (by unfold maxLen; omega) (fun a7 c8 w9 hU10 => ?_))
  replace B : Bu w no w9 [.ow kF a7 (0 + nfe) c8 56 (([] : List Nat) ++ Xfe), .blk b1 [.slice none 0 0, .slice none 0 0, .slice none 0 0] 49, .rd kF afe nfe Xfe, .rd kF afx nfx Xfx, .rd kF afy nfy Xfy, .sl (some ⟨b, o, none⟩) [.slice afe nfe cfe, .slice afx nfx cfx, .slice afy nfy cfy]] := B.upd [0] rfl hU10
  clear hU10
  refine s_y (v := .agg #[.slice a7 (0 + nfe) c8, .slice none 0 0, .slice none 0 0]) rfl (y_build (cells := #[.slice a7 (0 + nfe) c8, .slice none 0 0, .slice none 0 0]) (by kernel_rfl)) ?_
  refine s_k rfl (k_allocN (z := (.agg #[.slice none 0 0, .slice none 0 0, .slice none 0 0])) (cs := [.slice none 0 0, .slice none 0 0, .slice none 0 0]) T86.zero_49 rfl (fun b11 w12 hN13 => ?_))
  replace B := B.new1 hN13
  clear hN13
  refine s_k0 rfl (k_stB (v := .agg #[.slice a7 (0 + nfe) c8, .slice none 0 0, .slice none 0 0]) (n := 3) (cs' := [.slice a7 (0 + nfe) c8, .slice none 0 0, .slice none 0 0]) T86.sz_49_3 rfl rfl rfl (B.b 0 rfl) (by simp [Value.cells, Value.oneCell']) (Nat.le_of_ble_eq_true rfl) rfl (fun w14 hU15 => ?_))
  replace B : Bu w no w14 [.blk b11 [.slice a7 (0 + nfe) c8, .slice none 0 0, .slice none 0 0] 49, .ow kF a7 (0 + nfe) c8 56 (([] : List Nat) ++ Xfe), .blk b1 [.slice none 0 0, .slice none 0 0, .slice none 0 0] 49, .rd kF afe nfe Xfe, .rd kF afx nfx Xfx, .rd kF afy nfy Xfy, .sl (some ⟨b, o, none⟩) [.slice afe nfe cfe, .slice afx nfx cfx, .slice afy nfy cfy]] := B.upd [0] rfl hU15
  clear hU15
  refine s_nil ?_
  refine W_seq ?_
  refine W_region (by kernel_rfl) ?_
  refine s_k rfl (k_bsliceO (k := kF) (n := 0) (cells := #[]) (X := []) T86.slt_24 (by decide) (by first | rfl | kernel_rfl) (rfl : Reps kF [] []) rfl (fun b16 w17 hN18 => ?_))
  replace B := B.new1 hN18
  clear hN18
  refine s_y (v := .pointer (some ⟨b, o, none⟩)) rfl (y_move rfl) ?_
  refine s_y (v := .pointer (some ⟨b, o, none⟩)) rfl (y_nil rfl) ?_
  refine s_y (v := .pointer (some ⟨b, o + 1, none⟩)) rfl (y_fld (o := o + 0) T86.fld_49_1_1 rfl) ?_
  refine s_y (v := .slice afx nfx cfx) rfl (y_load T86.one_24 rfl ((B.s 7 rfl).cell (j := 1) rfl)) ?_
  refine s_k rfl (k_appO (k := kF) T86.slt_24 rfl rfl rfl (B.o 0 rfl) (B.r 5 rfl) (by omega) (by unfold maxLen; omega) (fun a19 c20 w21 hU22 => ?_))
  replace B : Bu w no w21 [.ow kF a19 (0 + nfx) c20 56 (([] : List Nat) ++ Xfx), .blk b11 [.slice a7 (0 + nfe) c8, .slice none 0 0, .slice none 0 0] 49, .ow kF a7 (0 + nfe) c8 56 (([] : List Nat) ++ Xfe), .blk b1 [.slice none 0 0, .slice none 0 0, .slice none 0 0] 49, .rd kF afe nfe Xfe, .rd kF afx nfx Xfx, .rd kF afy nfy Xfy, .sl (some ⟨b, o, none⟩) [.slice afe nfe cfe, .slice afx nfx cfx, .slice afy nfy cfy]] := B.upd [0] rfl hU22
  clear hU22
  refine s_y (v := .pointer (some ⟨b11, 1, none⟩)) rfl (y_fld (o := 0) T86.fld_49_1_1 rfl) ?_
  refine s_k0 rfl (k_stB (v := .slice a19 (0 + nfx) c20) (n := 1) (cs' := [.slice a7 (0 + nfe) c8, .slice a19 (0 + nfx) c20, .slice none 0 0]) T86.sz_24_1 rfl rfl rfl (B.b 1 rfl) (by simp [Value.cells, Value.oneCell']) (Nat.le_of_ble_eq_true rfl) rfl (fun w23 hU24 => ?_))
  replace B : Bu w no w23 [.blk b11 [.slice a7 (0 + nfe) c8, .slice a19 (0 + nfx) c20, .slice none 0 0] 49, .ow kF a19 (0 + nfx) c20 56 (([] : List Nat) ++ Xfx), .ow kF a7 (0 + nfe) c8 56 (([] : List Nat) ++ Xfe), .blk b1 [.slice none 0 0, .slice none 0 0, .slice none 0 0] 49, .rd kF afe nfe Xfe, .rd kF afx nfx Xfx, .rd kF afy nfy Xfy, .sl (some ⟨b, o, none⟩) [.slice afe nfe cfe, .slice afx nfx cfx, .slice afy nfy cfy]] := B.upd [1] rfl hU24
  clear hU24
  refine s_nil ?_
  refine W_seq ?_
  refine W_region (by kernel_rfl) ?_
  refine s_k rfl (k_bsliceO (k := kF) (n := 0) (cells := #[]) (X := []) T86.slt_24 (by decide) (by first | rfl | kernel_rfl) (rfl : Reps kF [] []) rfl (fun b25 w26 hN27 => ?_))
  replace B := B.new1 hN27
  clear hN27
  refine s_y (v := .pointer (some ⟨b, o, none⟩)) rfl (y_move rfl) ?_
  refine s_y (v := .pointer (some ⟨b, o, none⟩)) rfl (y_nil rfl) ?_
  refine s_y (v := .pointer (some ⟨b, o + 2, none⟩)) rfl (y_fld (o := o + 0) T86.fld_49_2_2 rfl) ?_
  refine s_y (v := .slice afy nfy cfy) rfl (y_load T86.one_24 rfl ((B.s 8 rfl).cell (j := 2) rfl)) ?_
  refine s_k rfl (k_appO (k := kF) T86.slt_24 rfl rfl rfl (B.o 0 rfl) (B.r 7 rfl) (by omega) (by unfold maxLen; omega) (fun a28 c29 w30 hU31 => ?_))
  replace B : Bu w no w30 [.ow kF a28 (0 + nfy) c29 56 (([] : List Nat) ++ Xfy), .blk b11 [.slice a7 (0 + nfe) c8, .slice a19 (0 + nfx) c20, .slice none 0 0] 49, .ow kF a19 (0 + nfx) c20 56 (([] : List Nat) ++ Xfx), .ow kF a7 (0 + nfe) c8 56 (([] : List Nat) ++ Xfe), .blk b1 [.slice none 0 0, .slice none 0 0, .slice none 0 0] 49, .rd kF afe nfe Xfe, .rd kF afx nfx Xfx, .rd kF afy nfy Xfy, .sl (some ⟨b, o, none⟩) [.slice afe nfe cfe, .slice afx nfx cfx, .slice afy nfy cfy]] := B.upd [0] rfl hU31
  clear hU31
  refine s_y (v := .pointer (some ⟨b11, 2, none⟩)) rfl (y_fld (o := 0) T86.fld_49_2_2 rfl) ?_
  refine s_k0 rfl (k_stB (v := .slice a28 (0 + nfy) c29) (n := 1) (cs' := [.slice a7 (0 + nfe) c8, .slice a19 (0 + nfx) c20, .slice a28 (0 + nfy) c29]) T86.sz_24_1 rfl rfl rfl (B.b 1 rfl) (by simp [Value.cells, Value.oneCell']) (Nat.le_of_ble_eq_true rfl) rfl (fun w32 hU33 => ?_))
  replace B : Bu w no w32 [.blk b11 [.slice a7 (0 + nfe) c8, .slice a19 (0 + nfx) c20, .slice a28 (0 + nfy) c29] 49, .ow kF a28 (0 + nfy) c29 56 (([] : List Nat) ++ Xfy), .ow kF a19 (0 + nfx) c20 56 (([] : List Nat) ++ Xfx), .ow kF a7 (0 + nfe) c8 56 (([] : List Nat) ++ Xfe), .blk b1 [.slice none 0 0, .slice none 0 0, .slice none 0 0] 49, .rd kF afe nfe Xfe, .rd kF afx nfx Xfx, .rd kF afy nfy Xfy, .sl (some ⟨b, o, none⟩) [.slice afe nfe cfe, .slice afx nfx cfx, .slice afy nfy cfy]] := B.upd [1] rfl hU33
  clear hU33
  refine s_nil ?_
  refine W_seq ?_
  refine W_region (by kernel_rfl) ?_
  refine s_y (v := .agg #[.slice a7 (0 + nfe) c8, .slice a19 (0 + nfx) c20, .slice a28 (0 + nfy) c29]) rfl (y_loadn (b := b11) (o := 0) (vs := [.slice a7 (0 + nfe) c8, .slice a19 (0 + nfx) c20, .slice a28 (0 + nfy) c29]) T86.agg_49_3 rfl rfl ((B.b 0 rfl).cells (o := 0) rfl)) ?_
  refine s_k0 rfl (k_stB (v := .agg #[.slice a7 (0 + nfe) c8, .slice a19 (0 + nfx) c20, .slice a28 (0 + nfy) c29]) (n := 3) (cs' := [.slice a7 (0 + nfe) c8, .slice a19 (0 + nfx) c20, .slice a28 (0 + nfy) c29]) T86.sz_49_3 rfl rfl rfl (B.b 4 rfl) (by simp [Value.cells, Value.oneCell']) (Nat.le_of_ble_eq_true rfl) rfl (fun w34 hU35 => ?_))
  replace B : Bu w no w34 [.blk b1 [.slice a7 (0 + nfe) c8, .slice a19 (0 + nfx) c20, .slice a28 (0 + nfy) c29] 49, .blk b11 [.slice a7 (0 + nfe) c8, .slice a19 (0 + nfx) c20, .slice a28 (0 + nfy) c29] 49, .ow kF a28 (0 + nfy) c29 56 (([] : List Nat) ++ Xfy), .ow kF a19 (0 + nfx) c20 56 (([] : List Nat) ++ Xfx), .ow kF a7 (0 + nfe) c8 56 (([] : List Nat) ++ Xfe), .rd kF afe nfe Xfe, .rd kF afx nfx Xfx, .rd kF afy nfy Xfy, .sl (some ⟨b, o, none⟩) [.slice afe nfe cfe, .slice afx nfx cfx, .slice afy nfy cfy]] := B.upd [4] rfl hU35
  clear hU35
  refine s_nil ?_
  refine W_ret ?_
  refine ret1 (v := .agg #[.slice a7 (0 + nfe) c8, .slice a19 (0 + nfx) c20, .slice a28 (0 + nfy) c29]) rfl rfl ⟨_, [.slice a7 (0 + nfe) c8, .slice a19 (0 + nfx) c20, .slice a28 (0 + nfy) c29], _, rfl, (B.b 0 rfl), T86.agg_49_3, rfl⟩ ⟨_, rfl, ?_⟩
  replace B : Bu w no w34 [.blk b1 [.slice a7 (0 + nfe) c8, .slice a19 (0 + nfx) c20, .slice a28 (0 + nfy) c29] 49, .blk b11 [.slice a7 (0 + nfe) c8, .slice a19 (0 + nfx) c20, .slice a28 (0 + nfy) c29] 49, .ow kF a28 (0 + nfy) c29 56 (([] : List Nat) ++ Xfy), .ow kF a19 (0 + nfx) c20 56 (([] : List Nat) ++ Xfx), .ow kF a7 nfe c8 56 Xfe, .rd kF afe nfe Xfe, .rd kF afx nfx Xfx, .rd kF afy nfy Xfy, .sl (some ⟨b, o, none⟩) [.slice afe nfe cfe, .slice afx nfx cfx, .slice afy nfy cfy]] := B.castX 4 rfl (by omega) rfl
  replace B : Bu w no w34 [.blk b1 [.slice a7 (0 + nfe) c8, .slice a19 (0 + nfx) c20, .slice a28 (0 + nfy) c29] 49, .blk b11 [.slice a7 (0 + nfe) c8, .slice a19 (0 + nfx) c20, .slice a28 (0 + nfy) c29] 49, .ow kF a28 (0 + nfy) c29 56 (([] : List Nat) ++ Xfy), .ow kF a19 nfx c20 56 Xfx, .ow kF a7 nfe c8 56 Xfe, .rd kF afe nfe Xfe, .rd kF afx nfx Xfx, .rd kF afy nfy Xfy, .sl (some ⟨b, o, none⟩) [.slice afe nfe cfe, .slice afx nfx cfx, .slice afy nfy cfy]] := B.castX 3 rfl (by omega) rfl
  replace B : Bu w no w34 [.blk b1 [.slice a7 (0 + nfe) c8, .slice a19 (0 + nfx) c20, .slice a28 (0 + nfy) c29] 49, .blk b11 [.slice a7 (0 + nfe) c8, .slice a19 (0 + nfx) c20, .slice a28 (0 + nfy) c29] 49, .ow kF a28 nfy c29 56 Xfy, .ow kF a19 nfx c20 56 Xfx, .ow kF a7 nfe c8 56 Xfe, .rd kF afe nfe Xfe, .rd kF afx nfx Xfx, .rd kF afy nfy Xfy, .sl (some ⟨b, o, none⟩) [.slice afe nfe cfe, .slice afx nfx cfx, .slice afy nfy cfy]] := B.castX 2 rfl (by omega) rfl
  exact ⟨_, _, _, _, _, _, (by rw [(show 0 + nfe = nfe from (by omega)), (show 0 + nfx = nfx from (by omega)), (show 0 + nfy = nfy from (by omega))]), B.give [4, 3, 2] rfl rfl rfl⟩
namespace T92
theorem mx : Try.prog.follows .mixedOrders = true := by kernel_rfl
theorem agg_49_3 : aggB Try.prog 49 3 = true := by kernel_rfl
theorem fld_49_0_0 : fldB Try.prog 49 0 0 = true := by kernel_rfl
theorem fld_49_1_1 : fldB Try.prog 49 1 1 = true := by kernel_rfl
theorem fld_49_2_2 : fldB Try.prog 49 2 2 = true := by kernel_rfl
theorem fn_86 : fnB Try.prog 86 = true := by kernel_rfl
theorem one_24 : oneB Try.prog 24 = true := by kernel_rfl
theorem one_56 : oneB Try.prog 56 = true := by kernel_rfl
theorem sl_24_56_1 : slB Try.prog 24 56 1 = true := by kernel_rfl
theorem sz_49_3 : szB Try.prog 49 3 = true := by kernel_rfl
theorem sz_56_1 : szB Try.prog 56 1 = true := by kernel_rfl
theorem zero_49 : zeroB Try.prog 49 (.agg #[.slice none 0 0, .slice none 0 0, .slice none 0 0]) := by unfold zeroB; kernel_rfl
end T92
set_option maxRecDepth 100000 in
set_option maxHeartbeats 4000000 in
theorem c_s_l02Sum {b : Nat} {o : Nat} {afe : Option Addr} {nfe : Nat} {cfe : Nat} {Xfe : List Nat} {afx : Option Addr} {nfx : Nat} {cfx : Nat} {Xfx : List Nat} {afy : Option Addr} {nfy : Nat} {cfy : Nat} {Xfy : List Nat} {b2 : Nat} {o2 : Nat} {afe2 : Option Addr} {nfe2 : Nat} {cfe2 : Nat} {Xfe2 : List Nat} {afx2 : Option Addr} {nfx2 : Nat} {cfx2 : Nat} {Xfx2 : List Nat} {afy2 : Option Addr} {nfy2 : Nat} {cfy2 : Nat} {Xfy2 : List Nat} {w : World} (qfe : Rd w kF afe nfe Xfe) (qfx : Rd w kF afx nfx Xfx) (qfy : Rd w kF afy nfy Xfy) (Pb : Sl w (some ⟨b, o, none⟩) [.slice afe nfe cfe, .slice afx nfx cfx, .slice afy nfy cfy]) (qfe2 : Rd w kF afe2 nfe2 Xfe2) (qfx2 : Rd w kF afx2 nfx2 Xfx2) (qfy2 : Rd w kF afy2 nfy2 Xfy2) (Pb2 : Sl w (some ⟨b2, o2, none⟩) [.slice afe2 nfe2 cfe2, .slice afx2 nfx2 cfx2, .slice afy2 nfy2 cfy2]) (g0 : nfx = nfe) (g1 : nfy = nfe) (g2 : nfe2 = nfe) (g3 : nfx2 = nfe) (g4 : nfy2 = nfe) (hb : nfe ≤ 1048576) :
    Calls Try.prog 92 #[.pointer (some ⟨b, o, none⟩), .pointer (some ⟨b2, o2, none⟩)] w (Rt fun v w' => ∃ (a1 : Option Addr) (c1 : Nat) (a2 : Option Addr) (c2 : Nat) (a3 : Option Addr) (c3 : Nat), v = .agg #[.slice a1 nfe c1, .slice a2 nfe c2, .slice a3 nfe c3] ∧ New w w' [.ow kF a1 nfe c1 56 (addL nfe Xfe Xfe2), .ow kF a2 nfe c2 56 (addL nfe Xfx Xfx2), .ow kF a3 nfe c3 56 (addL nfe Xfy Xfy2)]) := by
  have hlfe := qfe.len
  have hlfx := qfx.len
  have hlfy := qfy.len
  have hlfe2 := qfe2.len
  have hlfx2 := qfx2.len
  have hlfy2 := qfy2.len
  have B : Bu w no w [.rd kF afe nfe Xfe, .rd kF afx nfx Xfx, .rd kF afy nfy Xfy, .sl (some ⟨b, o, none⟩) [.slice afe nfe cfe, .slice afx nfx cfx, .slice afy nfy cfy], .rd kF afe2 nfe2 Xfe2, .rd kF afx2 nfx2 Xfx2, .rd kF afy2 nfy2 Xfy2, .sl (some ⟨b2, o2, none⟩) [.slice afe2 nfe2 cfe2, .slice afx2 nfx2 cfx2, .slice afy2 nfy2 cfy2]] := Bu.ro (All.cons qfe (All.cons qfx (All.cons qfy (All.cons Pb (All.cons qfe2 (All.cons qfx2 (All.cons qfy2 (All.cons Pb2 All.nil)))))))) rfl
  refine calls_W (n := 68) Try.func92 rfl rfl (Nat.le_of_ble_eq_true rfl) ?_
  refine W_seq ?_
  refine W_region (by kernel_rfl) ?_
  refine s_k rfl (k_allocN (z := (.agg #[.slice none 0 0, .slice none 0 0, .slice none 0 0])) (cs := [.slice none 0 0, .slice none 0 0, .slice none 0 0]) T92.zero_49 rfl (fun b1 w2 hN3 => ?_))
  replace B := B.new1 hN3
  clear hN3
  refine s_nil ?_
  refine W_seq ?_
  refine W_region (by kernel_rfl) ?_
  refine s_y (v := .pointer (some ⟨b, o, none⟩)) rfl (y_move rfl) ?_
  refine s_k rfl (k_call T92.fn_86 (c_s_l02Own (B.r 1 rfl) (B.r 2 rfl) (B.r 3 rfl) (B.s 4 rfl) (by omega) (by omega) (by omega)) rfl ?_)
  rintro _ w4 ⟨a5, c6, a7, c8, a9, c10, rfl, hN11⟩
  replace B := B.new3 hN11
  clear hN11
  refine s_k rfl (k_allocN (z := (.agg #[.slice none 0 0, .slice none 0 0, .slice none 0 0])) (cs := [.slice none 0 0, .slice none 0 0, .slice none 0 0]) T92.zero_49 rfl (fun b12 w13 hN14 => ?_))
  replace B := B.new1 hN14
  clear hN14
  refine s_k0 rfl (k_stB (v := .agg #[.slice a5 nfe c6, .slice a7 nfx c8, .slice a9 nfy c10]) (n := 3) (cs' := [.slice a5 nfe c6, .slice a7 nfx c8, .slice a9 nfy c10]) T92.sz_49_3 rfl rfl rfl (B.b 0 rfl) (by simp [Value.cells, Value.oneCell']) (Nat.le_of_ble_eq_true rfl) rfl (fun w15 hU16 => ?_))
  replace B : Bu w no w15 [.blk b12 [.slice a5 nfe c6, .slice a7 nfx c8, .slice a9 nfy c10] 49, .ow kF a5 nfe c6 56 Xfe, .ow kF a7 nfx c8 56 Xfx, .ow kF a9 nfy c10 56 Xfy, .blk b1 [.slice none 0 0, .slice none 0 0, .slice none 0 0] 49, .rd kF afe nfe Xfe, .rd kF afx nfx Xfx, .rd kF afy nfy Xfy, .sl (some ⟨b, o, none⟩) [.slice afe nfe cfe, .slice afx nfx cfx, .slice afy nfy cfy], .rd kF afe2 nfe2 Xfe2, .rd kF afx2 nfx2 Xfx2, .rd kF afy2 nfy2 Xfy2, .sl (some ⟨b2, o2, none⟩) [.slice afe2 nfe2 cfe2, .slice afx2 nfx2 cfx2, .slice afy2 nfy2 cfy2]] := B.upd [0] rfl hU16
  clear hU16
  refine s_nil ?_
  refine W_seq ?_
  refine W_seq ?_
  refine W_region (by kernel_rfl) ?_
  refine s_y (v := .int .i64 0) rfl (y_assign rfl) ?_
  refine s_nil ?_
  refine W_block ?_
  refine W_loop (fun ρ' w' => ∃ (ρ1 : Env) (k : Int), ρ' = updL ρ1 [(1, .pointer (some ⟨b2, o2, none⟩)), (4, .pointer (some ⟨b1, 0, none⟩)), (5, .pointer (some ⟨b12, 0, none⟩)), (6, .int .i64 k)] ∧ Bu w no w' [.ow kF a5 nfe c6 56 (mix (nfe : Int) k (fun i => fop .add .f32 (el Xfe i) (el Xfe2 i)) Xfe), .ow kF a7 nfx c8 56 (mix (nfe : Int) k (fun i => fop .add .f32 (el Xfx i) (el Xfx2 i)) Xfx), .ow kF a9 nfy c10 56 (mix (nfe : Int) k (fun i => fop .add .f32 (el Xfy i) (el Xfy2 i)) Xfy), .blk b12 [.slice a5 nfe c6, .slice a7 nfx c8, .slice a9 nfy c10] 49, .blk b1 [.slice none 0 0, .slice none 0 0, .slice none 0 0] 49, .rd kF afe nfe Xfe, .rd kF afx nfx Xfx, .rd kF afy nfy Xfy, .sl (some ⟨b, o, none⟩) [.slice afe nfe cfe, .slice afx nfx cfx, .slice afy nfy cfy], .rd kF afe2 nfe2 Xfe2, .rd kF afx2 nfx2 Xfx2, .rd kF afy2 nfy2 Xfy2, .sl (some ⟨b2, o2, none⟩) [.slice afe2 nfe2 cfe2, .slice afx2 nfx2 cfx2, .slice afy2 nfy2 cfy2]] ∧ (0 ≤ k) ∧ (k ≤ (nfe : Int))) (fun ρ' _ => ((nfe : Int) - iv (ρ' 6)).toNat) ?_ ?_
  · replace B : Bu w no w15 [.blk b12 [.slice a5 nfe c6, .slice a7 nfx c8, .slice a9 nfy c10] 49, .ow kF a5 nfe c6 56 (mix (nfe : Int) 0 (fun i => fop .add .f32 (el Xfe i) (el Xfe2 i)) Xfe), .ow kF a7 nfx c8 56 Xfx, .ow kF a9 nfy c10 56 Xfy, .blk b1 [.slice none 0 0, .slice none 0 0, .slice none 0 0] 49, .rd kF afe nfe Xfe, .rd kF afx nfx Xfx, .rd kF afy nfy Xfy, .sl (some ⟨b, o, none⟩) [.slice afe nfe cfe, .slice afx nfx cfx, .slice afy nfy cfy], .rd kF afe2 nfe2 Xfe2, .rd kF afx2 nfx2 Xfx2, .rd kF afy2 nfy2 Xfy2, .sl (some ⟨b2, o2, none⟩) [.slice afe2 nfe2 cfe2, .slice afx2 nfx2 cfx2, .slice afy2 nfy2 cfy2]] := B.castX 1 rfl rfl (mix_zero (by omega))
    replace B : Bu w no w15 [.blk b12 [.slice a5 nfe c6, .slice a7 nfx c8, .slice a9 nfy c10] 49, .ow kF a5 nfe c6 56 (mix (nfe : Int) 0 (fun i => fop .add .f32 (el Xfe i) (el Xfe2 i)) Xfe), .ow kF a7 nfx c8 56 (mix (nfe : Int) 0 (fun i => fop .add .f32 (el Xfx i) (el Xfx2 i)) Xfx), .ow kF a9 nfy c10 56 Xfy, .blk b1 [.slice none 0 0, .slice none 0 0, .slice none 0 0] 49, .rd kF afe nfe Xfe, .rd kF afx nfx Xfx, .rd kF afy nfy Xfy, .sl (some ⟨b, o, none⟩) [.slice afe nfe cfe, .slice afx nfx cfx, .slice afy nfy cfy], .rd kF afe2 nfe2 Xfe2, .rd kF afx2 nfx2 Xfx2, .rd kF afy2 nfy2 Xfy2, .sl (some ⟨b2, o2, none⟩) [.slice afe2 nfe2 cfe2, .slice afx2 nfx2 cfx2, .slice afy2 nfy2 cfy2]] := B.castX 2 rfl rfl (mix_zero (by omega))
    replace B : Bu w no w15 [.blk b12 [.slice a5 nfe c6, .slice a7 nfx c8, .slice a9 nfy c10] 49, .ow kF a5 nfe c6 56 (mix (nfe : Int) 0 (fun i => fop .add .f32 (el Xfe i) (el Xfe2 i)) Xfe), .ow kF a7 nfx c8 56 (mix (nfe : Int) 0 (fun i => fop .add .f32 (el Xfx i) (el Xfx2 i)) Xfx), .ow kF a9 nfy c10 56 (mix (nfe : Int) 0 (fun i => fop .add .f32 (el Xfy i) (el Xfy2 i)) Xfy), .blk b1 [.slice none 0 0, .slice none 0 0, .slice none 0 0] 49, .rd kF afe nfe Xfe, .rd kF afx nfx Xfx, .rd kF afy nfy Xfy, .sl (some ⟨b, o, none⟩) [.slice afe nfe cfe, .slice afx nfx cfx, .slice afy nfy cfy], .rd kF afe2 nfe2 Xfe2, .rd kF afx2 nfx2 Xfx2, .rd kF afy2 nfy2 Xfy2, .sl (some ⟨b2, o2, none⟩) [.slice afe2 nfe2 cfe2, .slice afx2 nfx2 cfx2, .slice afy2 nfy2 cfy2]] := B.castX 3 rfl rfl (mix_zero (by omega))
    exact ⟨_, 0, Fits.eq ⟨rfl, rfl, rfl, rfl, trivial⟩, (B.pick [1, 2, 3, 0, 4, 5, 6, 7, 8, 9, 10, 11, 12] rfl rfl), (Int.le_refl _), (by omega)⟩
  · clear B; rintro _ w17 ⟨ρ18, k, rfl, B, h0k, h1k⟩
    refine W_seq ?_
    refine W_seq ?_
    refine W_region (by kernel_rfl) ?_
    refine s_y (v := .int .i64 k) rfl (y_move rfl) ?_
    refine s_y (v := .pointer (some ⟨b12, 0, none⟩)) rfl (y_fld (o := 0) T92.fld_49_0_0 rfl) ?_
    refine s_y (v := .slice a5 nfe c6) rfl (y_load T92.one_24 rfl ((B.b 3 rfl).cell (j := 0) rfl)) ?_
    refine s_y (v := .int .i64 ((nfe : Nat) : Int)) rfl (y_len T92.sl_24_56_1 rfl rfl) ?_
    by_cases c19 : k < ((nfe : Nat) : Int)
    · refine s_y (v := .bool true) rfl (y_lss rfl rfl (decide_eq_true c19)) ?_
      refine s_nil ?_
      refine W_if_t (by decide) rfl ?_
      refine W_skip ?_
      refine W_seq ?_
      refine W_block ?_
      refine W_seq ?_
      have B0_24 := B
      refine W_draw (no) T92.mx (by kernel_rfl) (fun w22 e23 => ?_)
      have R25 := Ext.refl (no) w17
      replace R25 := R25.trans (Ext0.any e23)
      replace B := B.ext0 e23
      clear e23
      refine m_y (v := .pointer (some ⟨b12, 0, none⟩)) 0 rfl (by kernel_rfl) rfl rfl (fun w' e' => y_fld (o := 0) T92.fld_49_0_0 rfl) ?_
      refine m_y (v := .slice a5 nfe c6) 1 rfl (by kernel_rfl) rfl rfl (fun w' e' => y_load T92.one_24 rfl (((B0_24.b 3 rfl).ext0 e').cell (j := 0) rfl)) ?_
      refine m_y (v := .int .i64 k) 2 rfl (by kernel_rfl) rfl rfl (fun w' e' => y_move rfl) ?_
      refine m_y (v := .pointer (some ⟨b12, 0, none⟩)) 3 rfl (by kernel_rfl) rfl rfl (fun w' e' => y_fld (o := 0) T92.fld_49_0_0 rfl) ?_
      refine m_y (v := .slice a5 nfe c6) 4 rfl (by kernel_rfl) rfl rfl (fun w' e' => y_load T92.one_24 rfl (((B0_24.b 3 rfl).ext0 e').cell (j := 0) rfl)) ?_
      refine m_y (v := .int .i64 k) 5 rfl (by kernel_rfl) rfl rfl (fun w' e' => y_move rfl) ?_
      refine m_y (v := .pointer (some (sat a5 ((k).toNat * 1)))) 6 rfl (by kernel_rfl) rfl rfl (fun w' e' => y_idx T92.sl_24_56_1 rfl rfl ((B.o 0 rfl).rd.addr (by omega)) (by omega) (by omega)) ?_
      obtain ⟨r27, hr28, hR26⟩ := Rd.atF (B0_24.o 0 rfl).rd k (by omega) (by omega)
      refine m_y (v := .float .f32 r27) 7 rfl (by kernel_rfl) rfl rfl (fun w' e' => y_load T92.one_56 rfl ((hR26.ext0 e').cell (i := 0) rfl)) ?_
      refine m_y (v := .pointer (some ⟨b2, o2, none⟩)) 8 rfl (by kernel_rfl) rfl rfl (fun w' e' => y_move rfl) ?_
      refine m_y (v := .pointer (some ⟨b2, o2, none⟩)) 9 rfl (by kernel_rfl) rfl rfl (fun w' e' => y_nil rfl) ?_
      refine m_y (v := .pointer (some ⟨b2, o2, none⟩)) 10 rfl (by kernel_rfl) rfl rfl (fun w' e' => y_fld (o := o2 + 0) T92.fld_49_0_0 rfl) ?_
      refine m_y (v := .slice afe2 nfe2 cfe2) 11 rfl (by kernel_rfl) rfl rfl (fun w' e' => y_load T92.one_24 rfl (((B0_24.s 12 rfl).ext0 e').cell (j := 0) rfl)) ?_
      refine m_y (v := .int .i64 k) 12 rfl (by kernel_rfl) rfl rfl (fun w' e' => y_move rfl) ?_
      refine m_y (v := .pointer (some (sat afe2 ((k).toNat * 1)))) 13 rfl (by kernel_rfl) rfl rfl (fun w' e' => y_idx T92.sl_24_56_1 rfl rfl ((B.r 9 rfl).addr (by omega)) (by omega) (by omega)) ?_
      obtain ⟨r30, hr31, hR29⟩ := Rd.atF (B0_24.r 9 rfl) k (by omega) (by omega)
      refine m_y (v := .float .f32 r30) 14 rfl (by kernel_rfl) rfl rfl (fun w' e' => y_load T92.one_56 rfl ((hR29.ext0 e').cell (i := 0) rfl)) ?_
      refine m_n 15 [16, 17] rfl (by kernel_rfl) rfl rfl (fun w' e' => n_arith (by decide) rfl rfl) ?_
      rintro _ ⟨r33, rfl, hr34⟩
      have hc37 := fopC hr34 hr28 hr31
      refine m_y (v := .pointer (some (sat a5 ((k).toNat * 1)))) 16 rfl (by kernel_rfl) rfl rfl (fun w' e' => y_idx T92.sl_24_56_1 rfl rfl ((B.o 0 rfl).rd.addr (by omega)) (by omega) (by omega)) ?_
      refine m_kt 17 [] rfl (by kernel_rfl) rfl rfl (by kernel_rfl) (fun w40 e41 => ?_)
      replace R25 := R25.trans (Ext0.any e41)
      replace B := B.ext0 e41
      clear e41
      refine k_stO (k := kF) (i := k) (j := 0) (x' := fop .add .f32 (el (mix (nfe : Int) k (fun i => fop .add .f32 (el Xfe i) (el Xfe2 i)) Xfe) k) (el Xfe2 k)) (new := [.float .f32 r33]) T92.sz_56_1 rfl rfl rfl rfl rfl (by simp [Value.oneCell']) (by decide) (B.o 0 rfl) (by omega) (by omega) (by decide) (by rintro q ⟨_, rfl, _⟩; exact ⟨_, rfl, hc37⟩) (fun w38 hU39 => ?_)
      clear R25
      replace B : Bu w no w38 [.ow kF a5 nfe c6 56 (put (mix (nfe : Int) k (fun i => fop .add .f32 (el Xfe i) (el Xfe2 i)) Xfe) k (fop .add .f32 (el (mix (nfe : Int) k (fun i => fop .add .f32 (el Xfe i) (el Xfe2 i)) Xfe) k) (el Xfe2 k))), .ow kF a7 nfx c8 56 (mix (nfe : Int) k (fun i => fop .add .f32 (el Xfx i) (el Xfx2 i)) Xfx), .ow kF a9 nfy c10 56 (mix (nfe : Int) k (fun i => fop .add .f32 (el Xfy i) (el Xfy2 i)) Xfy), .blk b12 [.slice a5 nfe c6, .slice a7 nfx c8, .slice a9 nfy c10] 49, .blk b1 [.slice none 0 0, .slice none 0 0, .slice none 0 0] 49, .rd kF afe nfe Xfe, .rd kF afx nfx Xfx, .rd kF afy nfy Xfy, .sl (some ⟨b, o, none⟩) [.slice afe nfe cfe, .slice afx nfx cfx, .slice afy nfy cfy], .rd kF afe2 nfe2 Xfe2, .rd kF afx2 nfx2 Xfx2, .rd kF afy2 nfy2 Xfy2, .sl (some ⟨b2, o2, none⟩) [.slice afe2 nfe2 cfe2, .slice afx2 nfx2 cfx2, .slice afy2 nfy2 cfy2]] := B.upd [0] rfl hU39
      clear hU39
      refine m_done (by kernel_rfl) (fun w42 e43 => ?_)
      replace B := B.ext0 e43
      clear e43
      clear B0_24
      refine W_seq ?_
      have B0_48 := B
      refine W_draw (no) T92.mx (by kernel_rfl) (fun w46 e47 => ?_)
      have R49 := Ext.refl (no) w42
      replace R49 := R49.trans (Ext0.any e47)
      replace B := B.ext0 e47
      clear e47
      refine m_y (v := .pointer (some ⟨b12, 1, none⟩)) 0 rfl (by kernel_rfl) rfl rfl (fun w' e' => y_fld (o := 0) T92.fld_49_1_1 rfl) ?_
      refine m_y (v := .slice a7 nfx c8) 1 rfl (by kernel_rfl) rfl rfl (fun w' e' => y_load T92.one_24 rfl (((B0_48.b 3 rfl).ext0 e').cell (j := 1) rfl)) ?_
      refine m_y (v := .int .i64 k) 2 rfl (by kernel_rfl) rfl rfl (fun w' e' => y_move rfl) ?_
      refine m_y (v := .pointer (some ⟨b12, 1, none⟩)) 3 rfl (by kernel_rfl) rfl rfl (fun w' e' => y_fld (o := 0) T92.fld_49_1_1 rfl) ?_
      refine m_y (v := .slice a7 nfx c8) 4 rfl (by kernel_rfl) rfl rfl (fun w' e' => y_load T92.one_24 rfl (((B0_48.b 3 rfl).ext0 e').cell (j := 1) rfl)) ?_
      refine m_y (v := .int .i64 k) 5 rfl (by kernel_rfl) rfl rfl (fun w' e' => y_move rfl) ?_
      refine m_y (v := .pointer (some (sat a7 ((k).toNat * 1)))) 6 rfl (by kernel_rfl) rfl rfl (fun w' e' => y_idx T92.sl_24_56_1 rfl rfl ((B.o 1 rfl).rd.addr (by omega)) (by omega) (by omega)) ?_
      obtain ⟨r51, hr52, hR50⟩ := Rd.atF (B0_48.o 1 rfl).rd k (by omega) (by omega)
      refine m_y (v := .float .f32 r51) 7 rfl (by kernel_rfl) rfl rfl (fun w' e' => y_load T92.one_56 rfl ((hR50.ext0 e').cell (i := 0) rfl)) ?_
      refine m_y (v := .pointer (some ⟨b2, o2, none⟩)) 8 rfl (by kernel_rfl) rfl rfl (fun w' e' => y_move rfl) ?_
      refine m_y (v := .pointer (some ⟨b2, o2, none⟩)) 9 rfl (by kernel_rfl) rfl rfl (fun w' e' => y_nil rfl) ?_
      refine m_y (v := .pointer (some ⟨b2, o2 + 1, none⟩)) 10 rfl (by kernel_rfl) rfl rfl (fun w' e' => y_fld (o := o2 + 0) T92.fld_49_1_1 rfl) ?_
      refine m_y (v := .slice afx2 nfx2 cfx2) 11 rfl (by kernel_rfl) rfl rfl (fun w' e' => y_load T92.one_24 rfl (((B0_48.s 12 rfl).ext0 e').cell (j := 1) rfl)) ?_
      refine m_y (v := .int .i64 k) 12 rfl (by kernel_rfl) rfl rfl (fun w' e' => y_move rfl) ?_
      refine m_y (v := .pointer (some (sat afx2 ((k).toNat * 1)))) 13 rfl (by kernel_rfl) rfl rfl (fun w' e' => y_idx T92.sl_24_56_1 rfl rfl ((B.r 10 rfl).addr (by omega)) (by omega) (by omega)) ?_
      obtain ⟨r54, hr55, hR53⟩ := Rd.atF (B0_48.r 10 rfl) k (by omega) (by omega)
      refine m_y (v := .float .f32 r54) 14 rfl (by kernel_rfl) rfl rfl (fun w' e' => y_load T92.one_56 rfl ((hR53.ext0 e').cell (i := 0) rfl)) ?_
      refine m_n 15 [16, 17] rfl (by kernel_rfl) rfl rfl (fun w' e' => n_arith (by decide) rfl rfl) ?_
      rintro _ ⟨r57, rfl, hr58⟩
      have hc61 := fopC hr58 hr52 hr55
      refine m_y (v := .pointer (some (sat a7 ((k).toNat * 1)))) 16 rfl (by kernel_rfl) rfl rfl (fun w' e' => y_idx T92.sl_24_56_1 rfl rfl ((B.o 1 rfl).rd.addr (by omega)) (by omega) (by omega)) ?_
      refine m_kt 17 [] rfl (by kernel_rfl) rfl rfl (by kernel_rfl) (fun w64 e65 => ?_)
      replace R49 := R49.trans (Ext0.any e65)
      replace B := B.ext0 e65
      clear e65
      refine k_stO (k := kF) (i := k) (j := 0) (x' := fop .add .f32 (el (mix (nfe : Int) k (fun i => fop .add .f32 (el Xfx i) (el Xfx2 i)) Xfx) k) (el Xfx2 k)) (new := [.float .f32 r57]) T92.sz_56_1 rfl rfl rfl rfl rfl (by simp [Value.oneCell']) (by decide) (B.o 1 rfl) (by omega) (by omega) (by decide) (by rintro q ⟨_, rfl, _⟩; exact ⟨_, rfl, hc61⟩) (fun w62 hU63 => ?_)
      clear R49
      replace B : Bu w no w62 [.ow kF a7 nfx c8 56 (put (mix (nfe : Int) k (fun i => fop .add .f32 (el Xfx i) (el Xfx2 i)) Xfx) k (fop .add .f32 (el (mix (nfe : Int) k (fun i => fop .add .f32 (el Xfx i) (el Xfx2 i)) Xfx) k) (el Xfx2 k))), .ow kF a5 nfe c6 56 (put (mix (nfe : Int) k (fun i => fop .add .f32 (el Xfe i) (el Xfe2 i)) Xfe) k (fop .add .f32 (el (mix (nfe : Int) k (fun i => fop .add .f32 (el Xfe i) (el Xfe2 i)) Xfe) k) (el Xfe2 k))), .ow kF a9 nfy c10 56 (mix (nfe : Int) k (fun i => fop .add .f32 (el Xfy i) (el Xfy2 i)) Xfy), .blk b12 [.slice a5 nfe c6, .slice a7 nfx c8, .slice a9 nfy c10] 49, .blk b1 [.slice none 0 0, .slice none 0 0, .slice none 0 0] 49, .rd kF afe nfe Xfe, .rd kF afx nfx Xfx, .rd kF afy nfy Xfy, .sl (some ⟨b, o, none⟩) [.slice afe nfe cfe, .slice afx nfx cfx, .slice afy nfy cfy], .rd kF afe2 nfe2 Xfe2, .rd kF afx2 nfx2 Xfx2, .rd kF afy2 nfy2 Xfy2, .sl (some ⟨b2, o2, none⟩) [.slice afe2 nfe2 cfe2, .slice afx2 nfx2 cfx2, .slice afy2 nfy2 cfy2]] := B.upd [1] rfl hU63
      clear hU63
      refine m_done (by kernel_rfl) (fun w66 e67 => ?_)
      replace B := B.ext0 e67
      clear e67
      clear B0_48
      have B0_72 := B
      refine W_draw (no) T92.mx (by kernel_rfl) (fun w70 e71 => ?_)
      have R73 := Ext.refl (no) w66
      replace R73 := R73.trans (Ext0.any e71)
      replace B := B.ext0 e71
      clear e71
      refine m_y (v := .pointer (some ⟨b12, 2, none⟩)) 0 rfl (by kernel_rfl) rfl rfl (fun w' e' => y_fld (o := 0) T92.fld_49_2_2 rfl) ?_
      refine m_y (v := .slice a9 nfy c10) 1 rfl (by kernel_rfl) rfl rfl (fun w' e' => y_load T92.one_24 rfl (((B0_72.b 3 rfl).ext0 e').cell (j := 2) rfl)) ?_
      refine m_y (v := .int .i64 k) 2 rfl (by kernel_rfl) rfl rfl (fun w' e' => y_move rfl) ?_
      refine m_y (v := .pointer (some ⟨b12, 2, none⟩)) 3 rfl (by kernel_rfl) rfl rfl (fun w' e' => y_fld (o := 0) T92.fld_49_2_2 rfl) ?_
      refine m_y (v := .slice a9 nfy c10) 4 rfl (by kernel_rfl) rfl rfl (fun w' e' => y_load T92.one_24 rfl (((B0_72.b 3 rfl).ext0 e').cell (j := 2) rfl)) ?_
      refine m_y (v := .int .i64 k) 5 rfl (by kernel_rfl) rfl rfl (fun w' e' => y_move rfl) ?_
      refine m_y (v := .pointer (some (sat a9 ((k).toNat * 1)))) 6 rfl (by kernel_rfl) rfl rfl (fun w' e' => y_idx T92.sl_24_56_1 rfl rfl ((B.o 2 rfl).rd.addr (by omega)) (by omega) (by omega)) ?_
      obtain ⟨r75, hr76, hR74⟩ := Rd.atF (B0_72.o 2 rfl).rd k (by omega) (by omega)
      refine m_y (v := .float .f32 r75) 7 rfl (by kernel_rfl) rfl rfl (fun w' e' => y_load T92.one_56 rfl ((hR74.ext0 e').cell (i := 0) rfl)) ?_
      refine m_y (v := .pointer (some ⟨b2, o2, none⟩)) 8 rfl (by kernel_rfl) rfl rfl (fun w' e' => y_move rfl) ?_
      refine m_y (v := .pointer (some ⟨b2, o2, none⟩)) 9 rfl (by kernel_rfl) rfl rfl (fun w' e' => y_nil rfl) ?_
      refine m_y (v := .pointer (some ⟨b2, o2 + 2, none⟩)) 10 rfl (by kernel_rfl) rfl rfl (fun w' e' => y_fld (o := o2 + 0) T92.fld_49_2_2 rfl) ?_
      refine m_y (v := .slice afy2 nfy2 cfy2) 11 rfl (by kernel_rfl) rfl rfl (fun w' e' => y_load T92.one_24 rfl (((B0_72.s 12 rfl).ext0 e').cell (j := 2) rfl)) ?_
      refine m_y (v := .int .i64 k) 12 rfl (by kernel_rfl) rfl rfl (fun w' e' => y_move rfl) ?_
      refine m_y (v := .pointer (some (sat afy2 ((k).toNat * 1)))) 13 rfl (by kernel_rfl) rfl rfl (fun w' e' => y_idx T92.sl_24_56_1 rfl rfl ((B.r 11 rfl).addr (by omega)) (by omega) (by omega)) ?_
      obtain ⟨r78, hr79, hR77⟩ := Rd.atF (B0_72.r 11 rfl) k (by omega) (by omega)
      refine m_y (v := .float .f32 r78) 14 rfl (by kernel_rfl) rfl rfl (fun w' e' => y_load T92.one_56 rfl ((hR77.ext0 e').cell (i := 0) rfl)) ?_
      refine m_n 15 [16, 17] rfl (by kernel_rfl) rfl rfl (fun w' e' => n_arith (by decide) rfl rfl) ?_
      rintro _ ⟨r81, rfl, hr82⟩
      have hc85 := fopC hr82 hr76 hr79
      refine m_y (v := .pointer (some (sat a9 ((k).toNat * 1)))) 16 rfl (by kernel_rfl) rfl rfl (fun w' e' => y_idx T92.sl_24_56_1 rfl rfl ((B.o 2 rfl).rd.addr (by omega)) (by omega) (by omega)) ?_
      refine m_kt 17 [] rfl (by kernel_rfl) rfl rfl (by kernel_rfl) (fun w88 e89 => ?_)
      replace R73 := R73.trans (Ext0.any e89)
      replace B := B.ext0 e89
      clear e89
      refine k_stO (k := kF) (i := k) (j := 0) (x' := fop .add .f32 (el (mix (nfe : Int) k (fun i => fop .add .f32 (el Xfy i) (el Xfy2 i)) Xfy) k) (el Xfy2 k)) (new := [.float .f32 r81]) T92.sz_56_1 rfl rfl rfl rfl rfl (by simp [Value.oneCell']) (by decide) (B.o 2 rfl) (by omega) (by omega) (by decide) (by rintro q ⟨_, rfl, _⟩; exact ⟨_, rfl, hc85⟩) (fun w86 hU87 => ?_)
      clear R73
      replace B : Bu w no w86 [.ow kF a9 nfy c10 56 (put (mix (nfe : Int) k (fun i => fop .add .f32 (el Xfy i) (el Xfy2 i)) Xfy) k (fop .add .f32 (el (mix (nfe : Int) k (fun i => fop .add .f32 (el Xfy i) (el Xfy2 i)) Xfy) k) (el Xfy2 k))), .ow kF a7 nfx c8 56 (put (mix (nfe : Int) k (fun i => fop .add .f32 (el Xfx i) (el Xfx2 i)) Xfx) k (fop .add .f32 (el (mix (nfe : Int) k (fun i => fop .add .f32 (el Xfx i) (el Xfx2 i)) Xfx) k) (el Xfx2 k))), .ow kF a5 nfe c6 56 (put (mix (nfe : Int) k (fun i => fop .add .f32 (el Xfe i) (el Xfe2 i)) Xfe) k (fop .add .f32 (el (mix (nfe : Int) k (fun i => fop .add .f32 (el Xfe i) (el Xfe2 i)) Xfe) k) (el Xfe2 k))), .blk b12 [.slice a5 nfe c6, .slice a7 nfx c8, .slice a9 nfy c10] 49, .blk b1 [.slice none 0 0, .slice none 0 0, .slice none 0 0] 49, .rd kF afe nfe Xfe, .rd kF afx nfx Xfx, .rd kF afy nfy Xfy, .sl (some ⟨b, o, none⟩) [.slice afe nfe cfe, .slice afx nfx cfx, .slice afy nfy cfy], .rd kF afe2 nfe2 Xfe2, .rd kF afx2 nfx2 Xfx2, .rd kF afy2 nfy2 Xfy2, .sl (some ⟨b2, o2, none⟩) [.slice afe2 nfe2 cfe2, .slice afx2 nfx2 cfx2, .slice afy2 nfy2 cfy2]] := B.upd [2] rfl hU87
      clear hU87
      refine m_done (by kernel_rfl) (fun w90 e91 => ?_)
      replace B := B.ext0 e91
      clear e91
      clear B0_72
      refine W_region (by kernel_rfl) ?_
      refine s_y (v := .int .i64 k) rfl (y_move rfl) ?_
      refine s_y (v := .int .i64 (k + 1)) rfl (y_add rfl rfl rfl (by omega)) ?_
      refine s_y (v := .int .i64 (k + 1)) rfl (y_assign rfl) ?_
      refine s_nil ?_
      replace B : Bu w no w90 [.ow kF a9 nfy c10 56 (put (mix (nfe : Int) k (fun i => fop .add .f32 (el Xfy i) (el Xfy2 i)) Xfy) k (fop .add .f32 (el (mix (nfe : Int) k (fun i => fop .add .f32 (el Xfy i) (el Xfy2 i)) Xfy) k) (el Xfy2 k))), .ow kF a7 nfx c8 56 (put (mix (nfe : Int) k (fun i => fop .add .f32 (el Xfx i) (el Xfx2 i)) Xfx) k (fop .add .f32 (el (mix (nfe : Int) k (fun i => fop .add .f32 (el Xfx i) (el Xfx2 i)) Xfx) k) (el Xfx2 k))), .ow kF a5 nfe c6 56 (mix (nfe : Int) (k + 1) (fun i => fop .add .f32 (el Xfe i) (el Xfe2 i)) Xfe), .blk b12 [.slice a5 nfe c6, .slice a7 nfx c8, .slice a9 nfy c10] 49, .blk b1 [.slice none 0 0, .slice none 0 0, .slice none 0 0] 49, .rd kF afe nfe Xfe, .rd kF afx nfx Xfx, .rd kF afy nfy Xfy, .sl (some ⟨b, o, none⟩) [.slice afe nfe cfe, .slice afx nfx cfx, .slice afy nfy cfy], .rd kF afe2 nfe2 Xfe2, .rd kF afx2 nfx2 Xfx2, .rd kF afy2 nfy2 Xfy2, .sl (some ⟨b2, o2, none⟩) [.slice afe2 nfe2 cfe2, .slice afx2 nfx2 cfx2, .slice afy2 nfy2 cfy2]] := B.castX 2 rfl rfl (mix_put (by omega) (by omega) (by rw [el_mix (by omega) (by omega) (Int.le_refl _)]))
      replace B : Bu w no w90 [.ow kF a9 nfy c10 56 (put (mix (nfe : Int) k (fun i => fop .add .f32 (el Xfy i) (el Xfy2 i)) Xfy) k (fop .add .f32 (el (mix (nfe : Int) k (fun i => fop .add .f32 (el Xfy i) (el Xfy2 i)) Xfy) k) (el Xfy2 k))), .ow kF a7 nfx c8 56 (mix (nfe : Int) (k + 1) (fun i => fop .add .f32 (el Xfx i) (el Xfx2 i)) Xfx), .ow kF a5 nfe c6 56 (mix (nfe : Int) (k + 1) (fun i => fop .add .f32 (el Xfe i) (el Xfe2 i)) Xfe), .blk b12 [.slice a5 nfe c6, .slice a7 nfx c8, .slice a9 nfy c10] 49, .blk b1 [.slice none 0 0, .slice none 0 0, .slice none 0 0] 49, .rd kF afe nfe Xfe, .rd kF afx nfx Xfx, .rd kF afy nfy Xfy, .sl (some ⟨b, o, none⟩) [.slice afe nfe cfe, .slice afx nfx cfx, .slice afy nfy cfy], .rd kF afe2 nfe2 Xfe2, .rd kF afx2 nfx2 Xfx2, .rd kF afy2 nfy2 Xfy2, .sl (some ⟨b2, o2, none⟩) [.slice afe2 nfe2 cfe2, .slice afx2 nfx2 cfx2, .slice afy2 nfy2 cfy2]] := B.castX 1 rfl rfl (mix_put (by omega) (by omega) (by rw [el_mix (by omega) (by omega) (Int.le_refl _)]))
      replace B : Bu w no w90 [.ow kF a9 nfy c10 56 (mix (nfe : Int) (k + 1) (fun i => fop .add .f32 (el Xfy i) (el Xfy2 i)) Xfy), .ow kF a7 nfx c8 56 (mix (nfe : Int) (k + 1) (fun i => fop .add .f32 (el Xfx i) (el Xfx2 i)) Xfx), .ow kF a5 nfe c6 56 (mix (nfe : Int) (k + 1) (fun i => fop .add .f32 (el Xfe i) (el Xfe2 i)) Xfe), .blk b12 [.slice a5 nfe c6, .slice a7 nfx c8, .slice a9 nfy c10] 49, .blk b1 [.slice none 0 0, .slice none 0 0, .slice none 0 0] 49, .rd kF afe nfe Xfe, .rd kF afx nfx Xfx, .rd kF afy nfy Xfy, .sl (some ⟨b, o, none⟩) [.slice afe nfe cfe, .slice afx nfx cfx, .slice afy nfy cfy], .rd kF afe2 nfe2 Xfe2, .rd kF afx2 nfx2 Xfx2, .rd kF afy2 nfy2 Xfy2, .sl (some ⟨b2, o2, none⟩) [.slice afe2 nfe2 cfe2, .slice afx2 nfx2 cfx2, .slice afy2 nfy2 cfy2]] := B.castX 0 rfl rfl (mix_put (by omega) (by omega) (by rw [el_mix (by omega) (by omega) (Int.le_refl _)]))
      refine ⟨⟨_, k + 1, Fits.eq ⟨rfl, rfl, rfl, rfl, trivial⟩, (B.pick [2, 1, 0, 3, 4, 5, 6, 7, 8, 9, 10, 11, 12] rfl rfl), (by omega), (by omega)⟩, ?_⟩
      show ((nfe : Int) - (k + 1)).toNat < ((nfe : Int) - k).toNat
      omega
    · refine s_y (v := .bool false) rfl (y_lss rfl rfl (decide_eq_false c19)) ?_
      refine s_nil ?_
      refine W_if_f (by decide) rfl ?_
      refine W_exit ?_
      obtain rfl : k = (nfe : Int) := by omega
      replace B : Bu w no w17 [.ow kF a5 nfe c6 56 (addL (nfe : Int) Xfe Xfe2), .ow kF a7 nfx c8 56 (mix (nfe : Int) (nfe : Int) (fun i => fop .add .f32 (el Xfx i) (el Xfx2 i)) Xfx), .ow kF a9 nfy c10 56 (mix (nfe : Int) (nfe : Int) (fun i => fop .add .f32 (el Xfy i) (el Xfy2 i)) Xfy), .blk b12 [.slice a5 nfe c6, .slice a7 nfx c8, .slice a9 nfy c10] 49, .blk b1 [.slice none 0 0, .slice none 0 0, .slice none 0 0] 49, .rd kF afe nfe Xfe, .rd kF afx nfx Xfx, .rd kF afy nfy Xfy, .sl (some ⟨b, o, none⟩) [.slice afe nfe cfe, .slice afx nfx cfx, .slice afy nfy cfy], .rd kF afe2 nfe2 Xfe2, .rd kF afx2 nfx2 Xfx2, .rd kF afy2 nfy2 Xfy2, .sl (some ⟨b2, o2, none⟩) [.slice afe2 nfe2 cfe2, .slice afx2 nfx2 cfx2, .slice afy2 nfy2 cfy2]] := B.castX 0 rfl rfl mix_all
      replace B : Bu w no w17 [.ow kF a5 nfe c6 56 (addL (nfe : Int) Xfe Xfe2), .ow kF a7 nfx c8 56 (addL (nfe : Int) Xfx Xfx2), .ow kF a9 nfy c10 56 (mix (nfe : Int) (nfe : Int) (fun i => fop .add .f32 (el Xfy i) (el Xfy2 i)) Xfy), .blk b12 [.slice a5 nfe c6, .slice a7 nfx c8, .slice a9 nfy c10] 49, .blk b1 [.slice none 0 0, .slice none 0 0, .slice none 0 0] 49, .rd kF afe nfe Xfe, .rd kF afx nfx Xfx, .rd kF afy nfy Xfy, .sl (some ⟨b, o, none⟩) [.slice afe nfe cfe, .slice afx nfx cfx, .slice afy nfy cfy], .rd kF afe2 nfe2 Xfe2, .rd kF afx2 nfx2 Xfx2, .rd kF afy2 nfy2 Xfy2, .sl (some ⟨b2, o2, none⟩) [.slice afe2 nfe2 cfe2, .slice afx2 nfx2 cfx2, .slice afy2 nfy2 cfy2]] := B.castX 1 rfl rfl mix_all
      replace B : Bu w no w17 [.ow kF a5 nfe c6 56 (addL (nfe : Int) Xfe Xfe2), .ow kF a7 nfx c8 56 (addL (nfe : Int) Xfx Xfx2), .ow kF a9 nfy c10 56 (addL (nfe : Int) Xfy Xfy2), .blk b12 [.slice a5 nfe c6, .slice a7 nfx c8, .slice a9 nfy c10] 49, .blk b1 [.slice none 0 0, .slice none 0 0, .slice none 0 0] 49, .rd kF afe nfe Xfe, .rd kF afx nfx Xfx, .rd kF afy nfy Xfy, .sl (some ⟨b, o, none⟩) [.slice afe nfe cfe, .slice afx nfx cfx, .slice afy nfy cfy], .rd kF afe2 nfe2 Xfe2, .rd kF afx2 nfx2 Xfx2, .rd kF afy2 nfy2 Xfy2, .sl (some ⟨b2, o2, none⟩) [.slice afe2 nfe2 cfe2, .slice afx2 nfx2 cfx2, .slice afy2 nfy2 cfy2]] := B.castX 2 rfl rfl mix_all
      refine W_seq ?_
      refine W_region (by kernel_rfl) ?_
      refine s_y (v := .agg #[.slice a5 nfe c6, .slice a7 nfx c8, .slice a9 nfy c10]) rfl (y_loadn (b := b12) (o := 0) (vs := [.slice a5 nfe c6, .slice a7 nfx c8, .slice a9 nfy c10]) T92.agg_49_3 rfl rfl ((B.b 3 rfl).cells (o := 0) rfl)) ?_
      refine s_k0 rfl (k_stB (v := .agg #[.slice a5 nfe c6, .slice a7 nfx c8, .slice a9 nfy c10]) (n := 3) (cs' := [.slice a5 nfe c6, .slice a7 nfx c8, .slice a9 nfy c10]) T92.sz_49_3 rfl rfl rfl (B.b 4 rfl) (by simp [Value.cells, Value.oneCell']) (Nat.le_of_ble_eq_true rfl) rfl (fun w92 hU93 => ?_))
      replace B : Bu w no w92 [.blk b1 [.slice a5 nfe c6, .slice a7 nfx c8, .slice a9 nfy c10] 49, .ow kF a5 nfe c6 56 (addL (nfe : Int) Xfe Xfe2), .ow kF a7 nfx c8 56 (addL (nfe : Int) Xfx Xfx2), .ow kF a9 nfy c10 56 (addL (nfe : Int) Xfy Xfy2), .blk b12 [.slice a5 nfe c6, .slice a7 nfx c8, .slice a9 nfy c10] 49, .rd kF afe nfe Xfe, .rd kF afx nfx Xfx, .rd kF afy nfy Xfy, .sl (some ⟨b, o, none⟩) [.slice afe nfe cfe, .slice afx nfx cfx, .slice afy nfy cfy], .rd kF afe2 nfe2 Xfe2, .rd kF afx2 nfx2 Xfx2, .rd kF afy2 nfy2 Xfy2, .sl (some ⟨b2, o2, none⟩) [.slice afe2 nfe2 cfe2, .slice afx2 nfx2 cfx2, .slice afy2 nfy2 cfy2]] := B.upd [4] rfl hU93
      clear hU93
      refine s_nil ?_
      refine W_ret ?_
      refine ret1 (v := .agg #[.slice a5 nfe c6, .slice a7 nfx c8, .slice a9 nfy c10]) rfl rfl ⟨_, [.slice a5 nfe c6, .slice a7 nfx c8, .slice a9 nfy c10], _, rfl, (B.b 0 rfl), T92.agg_49_3, rfl⟩ ⟨_, rfl, ?_⟩
      replace B : Bu w no w92 [.blk b1 [.slice a5 nfe c6, .slice a7 nfx c8, .slice a9 nfy c10] 49, .ow kF a5 nfe c6 56 (addL nfe Xfe Xfe2), .ow kF a7 nfx c8 56 (addL (nfe : Int) Xfx Xfx2), .ow kF a9 nfy c10 56 (addL (nfe : Int) Xfy Xfy2), .blk b12 [.slice a5 nfe c6, .slice a7 nfx c8, .slice a9 nfy c10] 49, .rd kF afe nfe Xfe, .rd kF afx nfx Xfx, .rd kF afy nfy Xfy, .sl (some ⟨b, o, none⟩) [.slice afe nfe cfe, .slice afx nfx cfx, .slice afy nfy cfy], .rd kF afe2 nfe2 Xfe2, .rd kF afx2 nfx2 Xfx2, .rd kF afy2 nfy2 Xfy2, .sl (some ⟨b2, o2, none⟩) [.slice afe2 nfe2 cfe2, .slice afx2 nfx2 cfx2, .slice afy2 nfy2 cfy2]] := B.castX 1 rfl (by omega) rfl
      replace B : Bu w no w92 [.blk b1 [.slice a5 nfe c6, .slice a7 nfx c8, .slice a9 nfy c10] 49, .ow kF a5 nfe c6 56 (addL nfe Xfe Xfe2), .ow kF a7 nfe c8 56 (addL nfe Xfx Xfx2), .ow kF a9 nfy c10 56 (addL (nfe : Int) Xfy Xfy2), .blk b12 [.slice a5 nfe c6, .slice a7 nfx c8, .slice a9 nfy c10] 49, .rd kF afe nfe Xfe, .rd kF afx nfx Xfx, .rd kF afy nfy Xfy, .sl (some ⟨b, o, none⟩) [.slice afe nfe cfe, .slice afx nfx cfx, .slice afy nfy cfy], .rd kF afe2 nfe2 Xfe2, .rd kF afx2 nfx2 Xfx2, .rd kF afy2 nfy2 Xfy2, .sl (some ⟨b2, o2, none⟩) [.slice afe2 nfe2 cfe2, .slice afx2 nfx2 cfx2, .slice afy2 nfy2 cfy2]] := B.castX 2 rfl (by omega) rfl
      replace B : Bu w no w92 [.blk b1 [.slice a5 nfe c6, .slice a7 nfx c8, .slice a9 nfy c10] 49, .ow kF a5 nfe c6 56 (addL nfe Xfe Xfe2), .ow kF a7 nfe c8 56 (addL nfe Xfx Xfx2), .ow kF a9 nfe c10 56 (addL nfe Xfy Xfy2), .blk b12 [.slice a5 nfe c6, .slice a7 nfx c8, .slice a9 nfy c10] 49, .rd kF afe nfe Xfe, .rd kF afx nfx Xfx, .rd kF afy nfy Xfy, .sl (some ⟨b, o, none⟩) [.slice afe nfe cfe, .slice afx nfx cfx, .slice afy nfy cfy], .rd kF afe2 nfe2 Xfe2, .rd kF afx2 nfx2 Xfx2, .rd kF afy2 nfy2 Xfy2, .sl (some ⟨b2, o2, none⟩) [.slice afe2 nfe2 cfe2, .slice afx2 nfx2 cfx2, .slice afy2 nfy2 cfy2]] := B.castX 3 rfl (by omega) rfl
      exact ⟨_, _, _, _, _, _, (by rw [(show nfx = nfe from (by omega)), (show nfy = nfe from (by omega))]), B.give [1, 2, 3] rfl rfl rfl⟩
namespace T89
theorem mx : Try.prog.follows .mixedOrders = true := by kernel_rfl
theorem agg_49_3 : aggB Try.prog 49 3 = true := by kernel_rfl
theorem fn_76 : fnB Try.prog 76 = true := by kernel_rfl
theorem sz_49_3 : szB Try.prog 49 3 = true := by kernel_rfl
theorem zero_49 : zeroB Try.prog 49 (.agg #[.slice none 0 0, .slice none 0 0, .slice none 0 0]) := by unfold zeroB; kernel_rfl
end T89
set_option maxRecDepth 100000 in
set_option maxHeartbeats 4000000 in
theorem c_s_l02Give {b : Nat} {o : Nat} {wd : Int} {hi : Int} {wr : Bool} {asp : Option Addr} {nsp : Nat} {csp : Nat} {als : Option Addr} {nls : Nat} {cls : Nat} {afe : Option Addr} {nfe : Nat} {cfe : Nat} {Xfe : List Nat} {afx : Option Addr} {nfx : Nat} {cfx : Nat} {Xfx : List Nat} {afy : Option Addr} {nfy : Nat} {cfy : Nat} {Xfy : List Nat} {w : World} (Pb : Sl w (some ⟨b, o, none⟩) [.int .i64 wd, .int .i64 hi, .bool wr, .slice asp nsp csp, .slice als nls cls]) (qfe : Rd w kF afe nfe Xfe) (qfx : Rd w kF afx nfx Xfx) (qfy : Rd w kF afy nfy Xfy) (h1 : 3 ≤ wd) (h2 : wd ≤ 16) (h3 : 3 ≤ hi) (h4 : hi ≤ 16) (hbfe : nfe ≤ 9223372036854775806) (hbfx : nfx ≤ 9223372036854775806) (hbfy : nfy ≤ 9223372036854775806) :
    Calls Try.prog 89 #[.pointer (some ⟨b, o, none⟩), .agg #[.slice afe nfe cfe, .slice afx nfx cfx, .slice afy nfy cfy]] w (Rt fun v w' => (fitsB wd hi wr Xfe Xfx Xfy = true ∧ v = .tuple #[.agg #[.slice afe nfe cfe, .slice afx nfx cfx, .slice afy nfy cfy], .bool true] ∧ Ext0 w w') ∨ (fitsB wd hi wr Xfe Xfx Xfy = false ∧ v = .tuple #[.agg #[.slice none 0 0, .slice none 0 0, .slice none 0 0], .bool false] ∧ Ext0 w w')) := by
  have hlfe := qfe.len
  have hlfx := qfx.len
  have hlfy := qfy.len
  have B : Bu w no w [.sl (some ⟨b, o, none⟩) [.int .i64 wd, .int .i64 hi, .bool wr, .slice asp nsp csp, .slice als nls cls], .rd kF afe nfe Xfe, .rd kF afx nfx Xfx, .rd kF afy nfy Xfy] := Bu.ro (All.cons Pb (All.cons qfe (All.cons qfx (All.cons qfy All.nil)))) rfl
  refine calls_W (n := 11) Try.func89 rfl rfl (Nat.le_of_ble_eq_true rfl) ?_
  refine W_seq ?_
  refine W_region (by kernel_rfl) ?_
  refine s_k rfl (k_boxN (v := .agg #[.slice afe nfe cfe, .slice afx nfx cfx, .slice afy nfy cfy]) (cs := [.slice afe nfe cfe, .slice afx nfx cfx, .slice afy nfy cfy]) rfl rfl (fun b1 w2 hN3 => ?_))
  replace B := B.new1 hN3
  clear hN3
  refine s_k rfl (k_allocN (z := (.agg #[.slice none 0 0, .slice none 0 0, .slice none 0 0])) (cs := [.slice none 0 0, .slice none 0 0, .slice none 0 0]) T89.zero_49 rfl (fun b4 w5 hN6 => ?_))
  replace B := B.new1 hN6
  clear hN6
  refine s_y (v := .bool false) rfl (y_assign rfl) ?_
  refine s_nil ?_
  refine W_seq ?_
  refine W_seq ?_
  refine W_region (by kernel_rfl) ?_
  refine s_y (v := .pointer (some ⟨b, o, none⟩)) rfl (y_move rfl) ?_
  refine s_k rfl (k_call T89.fn_76 (c_s_l02Fits (B.s 2 rfl) (B.r 3 rfl) (B.r 4 rfl) (B.r 5 rfl) ((B.b 1 rfl).sl) (by omega) (by omega) (by omega) (by omega) (by omega) (by omega) (by omega)) rfl ?_)
  rintro v9 w7 ⟨hv10, e8⟩
  replace B := B.ext0 e8
  clear e8
  by_cases c11 : fitsB wd hi wr Xfe Xfx Xfy = true
  · have hb12 := fitsB_b c11
    obtain rfl : v9 = .bool true := hv10.trans (congrArg Value.bool c11)
    refine s_y (v := .bool false) rfl (y_not rfl rfl) ?_
    refine s_nil ?_
    refine W_if_f (by decide) rfl ?_
    refine W_skip ?_
    refine W_seq ?_
    refine W_region (by kernel_rfl) ?_
    refine s_y (v := .agg #[.slice afe nfe cfe, .slice afx nfx cfx, .slice afy nfy cfy]) rfl (y_loadn (b := b1) (o := 0) (vs := [.slice afe nfe cfe, .slice afx nfx cfx, .slice afy nfy cfy]) T89.agg_49_3 rfl rfl ((B.b 1 rfl).cells (o := 0) rfl)) ?_
    refine s_k0 rfl (k_stB (v := .agg #[.slice afe nfe cfe, .slice afx nfx cfx, .slice afy nfy cfy]) (n := 3) (cs' := [.slice afe nfe cfe, .slice afx nfx cfx, .slice afy nfy cfy]) T89.sz_49_3 rfl rfl rfl (B.b 0 rfl) (by simp [Value.cells, Value.oneCell']) (Nat.le_of_ble_eq_true rfl) rfl (fun w13 hU14 => ?_))
    replace B : Bu w no w13 [.blk b4 [.slice afe nfe cfe, .slice afx nfx cfx, .slice afy nfy cfy] 49, .blk b1 [.slice afe nfe cfe, .slice afx nfx cfx, .slice afy nfy cfy] 49, .sl (some ⟨b, o, none⟩) [.int .i64 wd, .int .i64 hi, .bool wr, .slice asp nsp csp, .slice als nls cls], .rd kF afe nfe Xfe, .rd kF afx nfx Xfx, .rd kF afy nfy Xfy] := B.upd [0] rfl hU14
    clear hU14
    refine s_y (v := .bool true) rfl (y_assign rfl) ?_
    refine s_nil ?_
    refine W_ret ?_
    refine ret2 (v1 := .agg #[.slice afe nfe cfe, .slice afx nfx cfx, .slice afy nfy cfy]) (v2 := .bool true) rfl rfl rfl ⟨_, [.slice afe nfe cfe, .slice afx nfx cfx, .slice afy nfy cfy], _, rfl, (B.b 0 rfl), T89.agg_49_3, rfl⟩ rfl ⟨_, rfl, ?_⟩
    have hcond : fitsB wd hi wr Xfe Xfx Xfy = true := by simp only [c11, Bool.and_true, Bool.true_and, Bool.and_false, Bool.false_and, Bool.not_true, Bool.not_false, Bool.or_true, Bool.true_or, Bool.or_false, Bool.false_or]
    exact .inl ⟨hcond, ⟨rfl, B.ext⟩⟩
  · obtain rfl : v9 = .bool false := hv10.trans (congrArg Value.bool (Bool.eq_false_iff.2 c11))
    refine s_y (v := .bool true) rfl (y_not rfl rfl) ?_
    refine s_nil ?_
    refine W_if_t (by decide) rfl ?_
    refine W_seq ?_
    refine W_region (by kernel_rfl) ?_
    refine s_y (v := .agg #[.slice none 0 0, .slice none 0 0, .slice none 0 0]) rfl (y_build (cells := #[.slice none 0 0, .slice none 0 0, .slice none 0 0]) (by kernel_rfl)) ?_
    refine s_k0 rfl (k_stB (v := .agg #[.slice none 0 0, .slice none 0 0, .slice none 0 0]) (n := 3) (cs' := [.slice none 0 0, .slice none 0 0, .slice none 0 0]) T89.sz_49_3 rfl rfl rfl (B.b 0 rfl) (by simp [Value.cells, Value.oneCell']) (Nat.le_of_ble_eq_true rfl) rfl (fun w15 hU16 => ?_))
    replace B : Bu w no w15 [.blk b4 [.slice none 0 0, .slice none 0 0, .slice none 0 0] 49, .blk b1 [.slice afe nfe cfe, .slice afx nfx cfx, .slice afy nfy cfy] 49, .sl (some ⟨b, o, none⟩) [.int .i64 wd, .int .i64 hi, .bool wr, .slice asp nsp csp, .slice als nls cls], .rd kF afe nfe Xfe, .rd kF afx nfx Xfx, .rd kF afy nfy Xfy] := B.upd [0] rfl hU16
    clear hU16
    refine s_y (v := .bool false) rfl (y_assign rfl) ?_
    refine s_nil ?_
    refine W_ret ?_
    refine ret2 (v1 := .agg #[.slice none 0 0, .slice none 0 0, .slice none 0 0]) (v2 := .bool false) rfl rfl rfl ⟨_, [.slice none 0 0, .slice none 0 0, .slice none 0 0], _, rfl, (B.b 0 rfl), T89.agg_49_3, rfl⟩ rfl ⟨_, rfl, ?_⟩
    exact .inr ⟨by simp only [(Bool.eq_false_iff.2 c11), Bool.and_true, Bool.true_and, Bool.and_false, Bool.false_and, Bool.not_true, Bool.not_false, Bool.or_true, Bool.true_or, Bool.or_false, Bool.false_or], rfl, B.ext⟩
namespace T53
theorem mx : Try.prog.follows .mixedOrders = true := by kernel_rfl
theorem agg_49_3 : aggB Try.prog 49 3 = true := by kernel_rfl
theorem fn_68 : fnB Try.prog 68 = true := by kernel_rfl
theorem fn_76 : fnB Try.prog 76 = true := by kernel_rfl
theorem fn_89 : fnB Try.prog 89 = true := by kernel_rfl
theorem fn_92 : fnB Try.prog 92 = true := by kernel_rfl
theorem sz_49_3 : szB Try.prog 49 3 = true := by kernel_rfl
theorem zero_49 : zeroB Try.prog 49 (.agg #[.slice none 0 0, .slice none 0 0, .slice none 0 0]) := by unfold zeroB; kernel_rfl
end T53
set_option maxRecDepth 100000 in
set_option maxHeartbeats 4000000 in
theorem c_s_AddFields {wd : Int} {hi : Int} {wr : Bool} {asp : Option Addr} {nsp : Nat} {csp : Nat} {Xsp : List Nat} {als : Option Addr} {nls : Nat} {cls : Nat} {Xls : List Nat} {afe : Option Addr} {nfe : Nat} {cfe : Nat} {Xfe : List Nat} {afx : Option Addr} {nfx : Nat} {cfx : Nat} {Xfx : List Nat} {afy : Option Addr} {nfy : Nat} {cfy : Nat} {Xfy : List Nat} {afe2 : Option Addr} {nfe2 : Nat} {cfe2 : Nat} {Xfe2 : List Nat} {afx2 : Option Addr} {nfx2 : Nat} {cfx2 : Nat} {Xfx2 : List Nat} {afy2 : Option Addr} {nfy2 : Nat} {cfy2 : Nat} {Xfy2 : List Nat} {w : World} (qsp : Rd w kF asp nsp Xsp) (qls : Rd w kF als nls Xls) (qfe : Rd w kF afe nfe Xfe) (qfx : Rd w kF afx nfx Xfx) (qfy : Rd w kF afy nfy Xfy) (qfe2 : Rd w kF afe2 nfe2 Xfe2) (qfx2 : Rd w kF afx2 nfx2 Xfx2) (qfy2 : Rd w kF afy2 nfy2 Xfy2) (hbsp : nsp ≤ 9223372036854775806) (hbls : nls ≤ 9223372036854775806) (hbfe : nfe ≤ 9223372036854775806) (hbfx : nfx ≤ 9223372036854775806) (hbfy : nfy ≤ 9223372036854775806) (hbfe2 : nfe2 ≤ 9223372036854775806) (hbfx2 : nfx2 ≤ 9223372036854775806) (hbfy2 : nfy2 ≤ 9223372036854775806) :
    Calls Try.prog 53 #[.agg #[.int .i64 wd, .int .i64 hi, .bool wr, .slice asp nsp csp, .slice als nls cls], .agg #[.slice afe nfe cfe, .slice afx nfx cfx, .slice afy nfy cfy], .agg #[.slice afe2 nfe2 cfe2, .slice afx2 nfx2 cfx2, .slice afy2 nfy2 cfy2]] w (Rt fun v w' => (addB wd hi wr Xsp Xls Xfe Xfx Xfy Xfe2 Xfx2 Xfy2 = true ∧ ∃ (a1 : Option Addr) (c1 : Nat) (a2 : Option Addr) (c2 : Nat) (a3 : Option Addr) (c3 : Nat), v = .tuple #[.agg #[.slice a1 ((wd * hi).toNat) c1, .slice a2 ((wd * hi).toNat) c2, .slice a3 ((wd * hi).toNat) c3], .bool true] ∧ New w w' [.ow kF a1 ((wd * hi).toNat) c1 56 (addL (wd * hi) Xfe Xfe2), .ow kF a2 ((wd * hi).toNat) c2 56 (addL (wd * hi) Xfx Xfx2), .ow kF a3 ((wd * hi).toNat) c3 56 (addL (wd * hi) Xfy Xfy2)]) ∨ (addB wd hi wr Xsp Xls Xfe Xfx Xfy Xfe2 Xfx2 Xfy2 = false ∧ v = .tuple #[.agg #[.slice none 0 0, .slice none 0 0, .slice none 0 0], .bool false] ∧ Ext0 w w')) := by
  have hlsp := qsp.len
  have hlls := qls.len
  have hlfe := qfe.len
  have hlfx := qfx.len
  have hlfy := qfy.len
  have hlfe2 := qfe2.len
  have hlfx2 := qfx2.len
  have hlfy2 := qfy2.len
  have B : Bu w no w [.rd kF asp nsp Xsp, .rd kF als nls Xls, .rd kF afe nfe Xfe, .rd kF afx nfx Xfx, .rd kF afy nfy Xfy, .rd kF afe2 nfe2 Xfe2, .rd kF afx2 nfx2 Xfx2, .rd kF afy2 nfy2 Xfy2] := Bu.ro (All.cons qsp (All.cons qls (All.cons qfe (All.cons qfx (All.cons qfy (All.cons qfe2 (All.cons qfx2 (All.cons qfy2 All.nil)))))))) rfl
  refine calls_W (n := 23) Try.func53 rfl rfl (Nat.le_of_ble_eq_true rfl) ?_
  refine W_seq ?_
  refine W_region (by kernel_rfl) ?_
  refine s_k rfl (k_boxN (v := .agg #[.int .i64 wd, .int .i64 hi, .bool wr, .slice asp nsp csp, .slice als nls cls]) (cs := [.int .i64 wd, .int .i64 hi, .bool wr, .slice asp nsp csp, .slice als nls cls]) rfl rfl (fun b1 w2 hN3 => ?_))
  replace B := B.new1 hN3
  clear hN3
  refine s_k rfl (k_boxN (v := .agg #[.slice afe nfe cfe, .slice afx nfx cfx, .slice afy nfy cfy]) (cs := [.slice afe nfe cfe, .slice afx nfx cfx, .slice afy nfy cfy]) rfl rfl (fun b4 w5 hN6 => ?_))
  replace B := B.new1 hN6
  clear hN6
  refine s_k rfl (k_boxN (v := .agg #[.slice afe2 nfe2 cfe2, .slice afx2 nfx2 cfx2, .slice afy2 nfy2 cfy2]) (cs := [.slice afe2 nfe2 cfe2, .slice afx2 nfx2 cfx2, .slice afy2 nfy2 cfy2]) rfl rfl (fun b7 w8 hN9 => ?_))
  replace B := B.new1 hN9
  clear hN9
  refine s_k rfl (k_allocN (z := (.agg #[.slice none 0 0, .slice none 0 0, .slice none 0 0])) (cs := [.slice none 0 0, .slice none 0 0, .slice none 0 0]) T53.zero_49 rfl (fun b10 w11 hN12 => ?_))
  replace B := B.new1 hN12
  clear hN12
  refine s_y (v := .bool false) rfl (y_assign rfl) ?_
  refine s_nil ?_
  refine W_seq ?_
  refine W_seq ?_
  refine W_region (by kernel_rfl) ?_
  refine s_k rfl (k_call T53.fn_68 (c_s_l02Is (B.r 4 rfl) (B.r 5 rfl) ((B.b 3 rfl).sl) (by omega) (by omega)) rfl ?_)
  rintro v15 w13 ⟨hv16, e14⟩
  replace B := B.ext0 e14
  clear e14
  by_cases c17 : validS wd hi Xsp Xls = true
  · have hb18 := validS_b c17
    obtain rfl : v15 = .bool true := hv16.trans (congrArg Value.bool c17)
    refine s_y (v := .bool false) rfl (y_not rfl rfl) ?_
    refine s_y (v := .bool false) rfl (y_move rfl) ?_
    refine s_k rfl (k_call T53.fn_76 (c_s_l02Fits ((B.b 3 rfl).sl) (B.r 6 rfl) (B.r 7 rfl) (B.r 8 rfl) ((B.b 2 rfl).sl) (by omega) (by omega) (by omega) (by omega) (by omega) (by omega) (by omega)) rfl ?_)
    rintro v21 w19 ⟨hv22, e20⟩
    replace B := B.ext0 e20
    clear e20
    by_cases c23 : fitsB wd hi wr Xfe Xfx Xfy = true
    · have hb24 := fitsB_b c23
      obtain rfl : v21 = .bool true := hv22.trans (congrArg Value.bool c23)
      refine s_y (v := .bool false) rfl (y_not rfl rfl) ?_
      refine s_y (v := .bool false) rfl (y_pick_f rfl rfl) ?_
      refine s_y (v := .bool false) rfl (y_move rfl) ?_
      refine s_k rfl (k_call T53.fn_76 (c_s_l02Fits ((B.b 3 rfl).sl) (B.r 9 rfl) (B.r 10 rfl) (B.r 11 rfl) ((B.b 1 rfl).sl) (by omega) (by omega) (by omega) (by omega) (by omega) (by omega) (by omega)) rfl ?_)
      rintro v27 w25 ⟨hv28, e26⟩
      replace B := B.ext0 e26
      clear e26
      by_cases c29 : fitsB wd hi wr Xfe2 Xfx2 Xfy2 = true
      · have hb30 := fitsB_b c29
        obtain rfl : v27 = .bool true := hv28.trans (congrArg Value.bool c29)
        refine s_y (v := .bool false) rfl (y_not rfl rfl) ?_
        refine s_y (v := .bool false) rfl (y_pick_f rfl rfl) ?_
        refine s_nil ?_
        refine W_if_f (by decide) rfl ?_
        refine W_skip ?_
        refine W_seq ?_
        refine W_region (by kernel_rfl) ?_
        refine s_k rfl (k_call T53.fn_92 (c_s_l02Sum (B.r 6 rfl) (B.r 7 rfl) (B.r 8 rfl) ((B.b 2 rfl).sl) (B.r 9 rfl) (B.r 10 rfl) (B.r 11 rfl) ((B.b 1 rfl).sl) (by omega) (by omega) (by omega) (by omega) (by omega) (by omega)) rfl ?_)
        rintro _ w31 ⟨a32, c33, a34, c35, a36, c37, rfl, hN38⟩
        replace B := B.new3 hN38
        clear hN38
        refine s_k rfl (k_call T53.fn_89 (c_s_l02Give ((B.b 6 rfl).sl) ((B.o 0 rfl).rd) ((B.o 1 rfl).rd) ((B.o 2 rfl).rd) (by omega) (by omega) (by omega) (by omega) (by omega) (by omega) (by omega)) rfl ?_)
        rintro v41 w39 hx40
        by_cases c42 : fitsB wd hi wr (addL nfe Xfe Xfe2) (addL nfe Xfx Xfx2) (addL nfe Xfy Xfy2) = true
        · have hb43 := fitsB_b c42
          obtain ⟨rfl, e44⟩ := (hx40.resolve_right (fun hz => by rw [c42] at hz; cases hz.1)).2
          clear hx40
          replace B := B.ext0 e44
          clear e44
          refine s_y (v := .agg #[.slice a32 nfe c33, .slice a34 nfe c35, .slice a36 nfe c37]) rfl (y_extract rfl rfl) ?_
          refine s_y (v := .bool true) rfl (y_extract rfl rfl) ?_
          refine s_k0 rfl (k_stB (v := .agg #[.slice a32 nfe c33, .slice a34 nfe c35, .slice a36 nfe c37]) (n := 3) (cs' := [.slice a32 nfe c33, .slice a34 nfe c35, .slice a36 nfe c37]) T53.sz_49_3 rfl rfl rfl (B.b 3 rfl) (by simp [Value.cells, Value.oneCell']) (Nat.le_of_ble_eq_true rfl) rfl (fun w45 hU46 => ?_))
          replace B : Bu w no w45 [.blk b10 [.slice a32 nfe c33, .slice a34 nfe c35, .slice a36 nfe c37] 49, .ow kF a32 nfe c33 56 (addL nfe Xfe Xfe2), .ow kF a34 nfe c35 56 (addL nfe Xfx Xfx2), .ow kF a36 nfe c37 56 (addL nfe Xfy Xfy2), .blk b7 [.slice afe2 nfe2 cfe2, .slice afx2 nfx2 cfx2, .slice afy2 nfy2 cfy2] 49, .blk b4 [.slice afe nfe cfe, .slice afx nfx cfx, .slice afy nfy cfy] 49, .blk b1 [.int .i64 wd, .int .i64 hi, .bool wr, .slice asp nsp csp, .slice als nls cls] 26, .rd kF asp nsp Xsp, .rd kF als nls Xls, .rd kF afe nfe Xfe, .rd kF afx nfx Xfx, .rd kF afy nfy Xfy, .rd kF afe2 nfe2 Xfe2, .rd kF afx2 nfx2 Xfx2, .rd kF afy2 nfy2 Xfy2] := B.upd [3] rfl hU46
          clear hU46
          refine s_y (v := .bool true) rfl (y_assign rfl) ?_
          refine s_nil ?_
          refine W_ret ?_
          refine ret2 (v1 := .agg #[.slice a32 nfe c33, .slice a34 nfe c35, .slice a36 nfe c37]) (v2 := .bool true) rfl rfl rfl ⟨_, [.slice a32 nfe c33, .slice a34 nfe c35, .slice a36 nfe c37], _, rfl, (B.b 0 rfl), T53.agg_49_3, rfl⟩ rfl ⟨_, rfl, ?_⟩
          have hlast := (addF_i (by omega) (by omega) (by omega)).trans c42
          have hcond : addB wd hi wr Xsp Xls Xfe Xfx Xfy Xfe2 Xfx2 Xfy2 = true := by simp only [addB, fieldB, hlast, c17, c23, c29, c42, Bool.and_true, Bool.true_and, Bool.and_false, Bool.false_and, Bool.not_true, Bool.not_false, Bool.or_true, Bool.true_or, Bool.or_false, Bool.false_or]
          replace B : Bu w no w45 [.blk b10 [.slice a32 nfe c33, .slice a34 nfe c35, .slice a36 nfe c37] 49, .ow kF a32 ((wd * hi).toNat) c33 56 (addL (wd * hi) Xfe Xfe2), .ow kF a34 nfe c35 56 (addL nfe Xfx Xfx2), .ow kF a36 nfe c37 56 (addL nfe Xfy Xfy2), .blk b7 [.slice afe2 nfe2 cfe2, .slice afx2 nfx2 cfx2, .slice afy2 nfy2 cfy2] 49, .blk b4 [.slice afe nfe cfe, .slice afx nfx cfx, .slice afy nfy cfy] 49, .blk b1 [.int .i64 wd, .int .i64 hi, .bool wr, .slice asp nsp csp, .slice als nls cls] 26, .rd kF asp nsp Xsp, .rd kF als nls Xls, .rd kF afe nfe Xfe, .rd kF afx nfx Xfx, .rd kF afy nfy Xfy, .rd kF afe2 nfe2 Xfe2, .rd kF afx2 nfx2 Xfx2, .rd kF afy2 nfy2 Xfy2] := B.castX 1 rfl (by omega) (congrArg (fun q => addL q _ _) (by omega))
          replace B : Bu w no w45 [.blk b10 [.slice a32 nfe c33, .slice a34 nfe c35, .slice a36 nfe c37] 49, .ow kF a32 ((wd * hi).toNat) c33 56 (addL (wd * hi) Xfe Xfe2), .ow kF a34 ((wd * hi).toNat) c35 56 (addL (wd * hi) Xfx Xfx2), .ow kF a36 nfe c37 56 (addL nfe Xfy Xfy2), .blk b7 [.slice afe2 nfe2 cfe2, .slice afx2 nfx2 cfx2, .slice afy2 nfy2 cfy2] 49, .blk b4 [.slice afe nfe cfe, .slice afx nfx cfx, .slice afy nfy cfy] 49, .blk b1 [.int .i64 wd, .int .i64 hi, .bool wr, .slice asp nsp csp, .slice als nls cls] 26, .rd kF asp nsp Xsp, .rd kF als nls Xls, .rd kF afe nfe Xfe, .rd kF afx nfx Xfx, .rd kF afy nfy Xfy, .rd kF afe2 nfe2 Xfe2, .rd kF afx2 nfx2 Xfx2, .rd kF afy2 nfy2 Xfy2] := B.castX 2 rfl (by omega) (congrArg (fun q => addL q _ _) (by omega))
          replace B : Bu w no w45 [.blk b10 [.slice a32 nfe c33, .slice a34 nfe c35, .slice a36 nfe c37] 49, .ow kF a32 ((wd * hi).toNat) c33 56 (addL (wd * hi) Xfe Xfe2), .ow kF a34 ((wd * hi).toNat) c35 56 (addL (wd * hi) Xfx Xfx2), .ow kF a36 ((wd * hi).toNat) c37 56 (addL (wd * hi) Xfy Xfy2), .blk b7 [.slice afe2 nfe2 cfe2, .slice afx2 nfx2 cfx2, .slice afy2 nfy2 cfy2] 49, .blk b4 [.slice afe nfe cfe, .slice afx nfx cfx, .slice afy nfy cfy] 49, .blk b1 [.int .i64 wd, .int .i64 hi, .bool wr, .slice asp nsp csp, .slice als nls cls] 26, .rd kF asp nsp Xsp, .rd kF als nls Xls, .rd kF afe nfe Xfe, .rd kF afx nfx Xfx, .rd kF afy nfy Xfy, .rd kF afe2 nfe2 Xfe2, .rd kF afx2 nfx2 Xfx2, .rd kF afy2 nfy2 Xfy2] := B.castX 3 rfl (by omega) (congrArg (fun q => addL q _ _) (by omega))
          exact .inl ⟨hcond, ⟨_, _, _, _, _, _, (by rw [(show nfe = (wd * hi).toNat from (by omega))]), B.give [1, 2, 3] rfl rfl rfl⟩⟩
        · obtain ⟨_, rfl, e47⟩ := hx40.resolve_left (fun hz => c42 hz.1)
          clear hx40
          replace B := B.ext0 e47
          clear e47
          refine s_y (v := .agg #[.slice none 0 0, .slice none 0 0, .slice none 0 0]) rfl (y_extract rfl rfl) ?_
          refine s_y (v := .bool false) rfl (y_extract rfl rfl) ?_
          refine s_k0 rfl (k_stB (v := .agg #[.slice none 0 0, .slice none 0 0, .slice none 0 0]) (n := 3) (cs' := [.slice none 0 0, .slice none 0 0, .slice none 0 0]) T53.sz_49_3 rfl rfl rfl (B.b 3 rfl) (by simp [Value.cells, Value.oneCell']) (Nat.le_of_ble_eq_true rfl) rfl (fun w48 hU49 => ?_))
          replace B : Bu w no w48 [.blk b10 [.slice none 0 0, .slice none 0 0, .slice none 0 0] 49, .ow kF a32 nfe c33 56 (addL nfe Xfe Xfe2), .ow kF a34 nfe c35 56 (addL nfe Xfx Xfx2), .ow kF a36 nfe c37 56 (addL nfe Xfy Xfy2), .blk b7 [.slice afe2 nfe2 cfe2, .slice afx2 nfx2 cfx2, .slice afy2 nfy2 cfy2] 49, .blk b4 [.slice afe nfe cfe, .slice afx nfx cfx, .slice afy nfy cfy] 49, .blk b1 [.int .i64 wd, .int .i64 hi, .bool wr, .slice asp nsp csp, .slice als nls cls] 26, .rd kF asp nsp Xsp, .rd kF als nls Xls, .rd kF afe nfe Xfe, .rd kF afx nfx Xfx, .rd kF afy nfy Xfy, .rd kF afe2 nfe2 Xfe2, .rd kF afx2 nfx2 Xfx2, .rd kF afy2 nfy2 Xfy2] := B.upd [3] rfl hU49
          clear hU49
          refine s_y (v := .bool false) rfl (y_assign rfl) ?_
          refine s_nil ?_
          refine W_ret ?_
          refine ret2 (v1 := .agg #[.slice none 0 0, .slice none 0 0, .slice none 0 0]) (v2 := .bool false) rfl rfl rfl ⟨_, [.slice none 0 0, .slice none 0 0, .slice none 0 0], _, rfl, (B.b 0 rfl), T53.agg_49_3, rfl⟩ rfl ⟨_, rfl, ?_⟩
          have hlast := (addF_i (by omega) (by omega) (by omega)).trans (Bool.eq_false_iff.2 c42)
          exact .inr ⟨by simp only [addB, fieldB, hlast, c17, c23, c29, (Bool.eq_false_iff.2 c42), Bool.and_true, Bool.true_and, Bool.and_false, Bool.false_and, Bool.not_true, Bool.not_false, Bool.or_true, Bool.true_or, Bool.or_false, Bool.false_or], rfl, B.ext⟩
      · obtain rfl : v27 = .bool false := hv28.trans (congrArg Value.bool (Bool.eq_false_iff.2 c29))
        refine s_y (v := .bool true) rfl (y_not rfl rfl) ?_
        refine s_y (v := .bool true) rfl (y_pick_f rfl rfl) ?_
        refine s_nil ?_
        refine W_if_t (by decide) rfl ?_
        refine W_seq ?_
        refine W_region (by kernel_rfl) ?_
        refine s_y (v := .agg #[.slice none 0 0, .slice none 0 0, .slice none 0 0]) rfl (y_build (cells := #[.slice none 0 0, .slice none 0 0, .slice none 0 0]) (by kernel_rfl)) ?_
        refine s_k0 rfl (k_stB (v := .agg #[.slice none 0 0, .slice none 0 0, .slice none 0 0]) (n := 3) (cs' := [.slice none 0 0, .slice none 0 0, .slice none 0 0]) T53.sz_49_3 rfl rfl rfl (B.b 0 rfl) (by simp [Value.cells, Value.oneCell']) (Nat.le_of_ble_eq_true rfl) rfl (fun w50 hU51 => ?_))
        replace B : Bu w no w50 [.blk b10 [.slice none 0 0, .slice none 0 0, .slice none 0 0] 49, .blk b7 [.slice afe2 nfe2 cfe2, .slice afx2 nfx2 cfx2, .slice afy2 nfy2 cfy2] 49, .blk b4 [.slice afe nfe cfe, .slice afx nfx cfx, .slice afy nfy cfy] 49, .blk b1 [.int .i64 wd, .int .i64 hi, .bool wr, .slice asp nsp csp, .slice als nls cls] 26, .rd kF asp nsp Xsp, .rd kF als nls Xls, .rd kF afe nfe Xfe, .rd kF afx nfx Xfx, .rd kF afy nfy Xfy, .rd kF afe2 nfe2 Xfe2, .rd kF afx2 nfx2 Xfx2, .rd kF afy2 nfy2 Xfy2] := B.upd [0] rfl hU51
        clear hU51
        refine s_y (v := .bool false) rfl (y_assign rfl) ?_
        refine s_nil ?_
        refine W_ret ?_
        refine ret2 (v1 := .agg #[.slice none 0 0, .slice none 0 0, .slice none 0 0]) (v2 := .bool false) rfl rfl rfl ⟨_, [.slice none 0 0, .slice none 0 0, .slice none 0 0], _, rfl, (B.b 0 rfl), T53.agg_49_3, rfl⟩ rfl ⟨_, rfl, ?_⟩
        exact .inr ⟨by simp only [addB, fieldB, c17, c23, (Bool.eq_false_iff.2 c29), Bool.and_true, Bool.true_and, Bool.and_false, Bool.false_and, Bool.not_true, Bool.not_false, Bool.or_true, Bool.true_or, Bool.or_false, Bool.false_or], rfl, B.ext⟩
    · obtain rfl : v21 = .bool false := hv22.trans (congrArg Value.bool (Bool.eq_false_iff.2 c23))
      refine s_y (v := .bool true) rfl (y_not rfl rfl) ?_
      refine s_y (v := .bool true) rfl (y_pick_f rfl rfl) ?_
      refine s_y (v := .bool true) rfl (y_move rfl) ?_
      refine s_skip rfl ?_
      refine s_skip rfl ?_
      refine s_y (v := .bool true) rfl (y_pick_t rfl rfl) ?_
      refine s_nil ?_
      refine W_if_t (by decide) rfl ?_
      refine W_seq ?_
      refine W_region (by kernel_rfl) ?_
      refine s_y (v := .agg #[.slice none 0 0, .slice none 0 0, .slice none 0 0]) rfl (y_build (cells := #[.slice none 0 0, .slice none 0 0, .slice none 0 0]) (by kernel_rfl)) ?_
      refine s_k0 rfl (k_stB (v := .agg #[.slice none 0 0, .slice none 0 0, .slice none 0 0]) (n := 3) (cs' := [.slice none 0 0, .slice none 0 0, .slice none 0 0]) T53.sz_49_3 rfl rfl rfl (B.b 0 rfl) (by simp [Value.cells, Value.oneCell']) (Nat.le_of_ble_eq_true rfl) rfl (fun w52 hU53 => ?_))
      replace B : Bu w no w52 [.blk b10 [.slice none 0 0, .slice none 0 0, .slice none 0 0] 49, .blk b7 [.slice afe2 nfe2 cfe2, .slice afx2 nfx2 cfx2, .slice afy2 nfy2 cfy2] 49, .blk b4 [.slice afe nfe cfe, .slice afx nfx cfx, .slice afy nfy cfy] 49, .blk b1 [.int .i64 wd, .int .i64 hi, .bool wr, .slice asp nsp csp, .slice als nls cls] 26, .rd kF asp nsp Xsp, .rd kF als nls Xls, .rd kF afe nfe Xfe, .rd kF afx nfx Xfx, .rd kF afy nfy Xfy, .rd kF afe2 nfe2 Xfe2, .rd kF afx2 nfx2 Xfx2, .rd kF afy2 nfy2 Xfy2] := B.upd [0] rfl hU53
      clear hU53
      refine s_y (v := .bool false) rfl (y_assign rfl) ?_
      refine s_nil ?_
      refine W_ret ?_
      refine ret2 (v1 := .agg #[.slice none 0 0, .slice none 0 0, .slice none 0 0]) (v2 := .bool false) rfl rfl rfl ⟨_, [.slice none 0 0, .slice none 0 0, .slice none 0 0], _, rfl, (B.b 0 rfl), T53.agg_49_3, rfl⟩ rfl ⟨_, rfl, ?_⟩
      exact .inr ⟨by simp only [addB, fieldB, c17, (Bool.eq_false_iff.2 c23), Bool.and_true, Bool.true_and, Bool.and_false, Bool.false_and, Bool.not_true, Bool.not_false, Bool.or_true, Bool.true_or, Bool.or_false, Bool.false_or], rfl, B.ext⟩
  · obtain rfl : v15 = .bool false := hv16.trans (congrArg Value.bool (Bool.eq_false_iff.2 c17))
    refine s_y (v := .bool true) rfl (y_not rfl rfl) ?_
    refine s_y (v := .bool true) rfl (y_move rfl) ?_
    refine s_skip rfl ?_
    refine s_skip rfl ?_
    refine s_y (v := .bool true) rfl (y_pick_t rfl rfl) ?_
    refine s_y (v := .bool true) rfl (y_move rfl) ?_
    refine s_skip rfl ?_
    refine s_skip rfl ?_
    refine s_y (v := .bool true) rfl (y_pick_t rfl rfl) ?_
    refine s_nil ?_
    refine W_if_t (by decide) rfl ?_
    refine W_seq ?_
    refine W_region (by kernel_rfl) ?_
    refine s_y (v := .agg #[.slice none 0 0, .slice none 0 0, .slice none 0 0]) rfl (y_build (cells := #[.slice none 0 0, .slice none 0 0, .slice none 0 0]) (by kernel_rfl)) ?_
    refine s_k0 rfl (k_stB (v := .agg #[.slice none 0 0, .slice none 0 0, .slice none 0 0]) (n := 3) (cs' := [.slice none 0 0, .slice none 0 0, .slice none 0 0]) T53.sz_49_3 rfl rfl rfl (B.b 0 rfl) (by simp [Value.cells, Value.oneCell']) (Nat.le_of_ble_eq_true rfl) rfl (fun w54 hU55 => ?_))
    replace B : Bu w no w54 [.blk b10 [.slice none 0 0, .slice none 0 0, .slice none 0 0] 49, .blk b7 [.slice afe2 nfe2 cfe2, .slice afx2 nfx2 cfx2, .slice afy2 nfy2 cfy2] 49, .blk b4 [.slice afe nfe cfe, .slice afx nfx cfx, .slice afy nfy cfy] 49, .blk b1 [.int .i64 wd, .int .i64 hi, .bool wr, .slice asp nsp csp, .slice als nls cls] 26, .rd kF asp nsp Xsp, .rd kF als nls Xls, .rd kF afe nfe Xfe, .rd kF afx nfx Xfx, .rd kF afy nfy Xfy, .rd kF afe2 nfe2 Xfe2, .rd kF afx2 nfx2 Xfx2, .rd kF afy2 nfy2 Xfy2] := B.upd [0] rfl hU55
    clear hU55
    refine s_y (v := .bool false) rfl (y_assign rfl) ?_
    refine s_nil ?_
    refine W_ret ?_
    refine ret2 (v1 := .agg #[.slice none 0 0, .slice none 0 0, .slice none 0 0]) (v2 := .bool false) rfl rfl rfl ⟨_, [.slice none 0 0, .slice none 0 0, .slice none 0 0], _, rfl, (B.b 0 rfl), T53.agg_49_3, rfl⟩ rfl ⟨_, rfl, ?_⟩
    exact .inr ⟨by simp only [addB, fieldB, (Bool.eq_false_iff.2 c17), Bool.and_true, Bool.true_and, Bool.and_false, Bool.false_and, Bool.not_true, Bool.not_false, Bool.or_true, Bool.true_or, Bool.or_false, Bool.false_or], rfl, B.ext⟩
namespace T93
theorem mx : Try.prog.follows .mixedOrders = true := by kernel_rfl
end T93
set_option maxRecDepth 100000 in
set_option maxHeartbeats 4000000 in
theorem c_i_AddFields_1 {r : Nat} {R : Nat} {r2 : Nat} {R2 : Nat} {w : World} (h1 : can .f32 r = R) (h2 : can .f32 r2 = R2) :
    Calls Try.prog 93 #[.float .f32 r, .float .f32 r2] w (Rt fun v w' => (∃ r, v = .float .f32 r ∧ can .f32 r = fop .add .f32 R R2) ∧ Ext0 w w') := by
  have B : Bu w no w [] := Bu.ro All.nil rfl
  refine calls_W (n := 8) Try.func93 rfl rfl (Nat.le_of_ble_eq_true rfl) ?_
  refine W_seq ?_
  refine W_region (by kernel_rfl) ?_
  refine s_y (v := .float .f32 0) rfl (y_assign rfl) ?_
  refine s_nil ?_
  refine W_seq ?_
  refine W_region (by kernel_rfl) ?_
  refine s_y (v := .float .f32 r) rfl (y_move rfl) ?_
  refine s_y (v := .float .f32 r2) rfl (y_move rfl) ?_
  refine s_n rfl (n_arith (by decide) rfl rfl) ?_
  rintro _ w4 e5 ⟨r2, rfl, hr3⟩
  replace B := B.ext0 e5
  clear e5
  have hc6 := fopC hr3 h1 h2
  refine s_y (v := .float .f32 r2) rfl (y_assign rfl) ?_
  refine s_nil ?_
  refine W_ret ?_
  refine ret1 (v := .float .f32 r2) rfl rfl rfl ⟨_, rfl, ?_⟩
  exact ⟨⟨_, rfl, hc6⟩, B.ext⟩
namespace T91
theorem mx : Try.prog.follows .mixedOrders = true := by kernel_rfl
theorem one_56 : oneB Try.prog 56 = true := by kernel_rfl
theorem sl_24_56_1 : slB Try.prog 24 56 1 = true := by kernel_rfl
theorem slt_24 : SlT Try.prog 24 56 1 4 (.float .f32 0) := ⟨by kernel_rfl, by kernel_rfl, rfl, by decide⟩
end T91
set_option maxRecDepth 100000 in
set_option maxHeartbeats 4000000 in
theorem c_i_both {aa : Option Addr} {na : Nat} {ca : Nat} {Xa : List Nat} {ab : Option Addr} {nb : Nat} {cb : Nat} {Xb : List Nat} {f : Nat} {us xs : List Value} {FM : Nat → Nat → Nat} {w : World} (qa : Rd w kF aa na Xa) (qb : Rd w kF ab nb Xb) (hfB : fnB Try.prog f = true) (hF : ∀ r R r2 R2 {w1}, Ext0 w w1 → can .f32 r = R → can .f32 r2 = R2 → Calls Try.prog f (us ++ ([.float .f32 r, .float .f32 r2] : List Value) ++ xs).toArray w1 (Rt fun v w2 => (∃ q, v = .float .f32 q ∧ can .f32 q = FM R R2) ∧ Ext0 w1 w2)) (hab : nb = na) (hb : na ≤ 1048576) :
    Calls Try.prog 91 #[.slice aa na ca, .slice ab nb cb, .func (.func f) us.toArray xs.toArray] w (Rt fun v w' => ∃ (a1 : Option Addr) (c1 : Nat), v = .slice a1 na c1 ∧ New w w' [.ow kF a1 na c1 56 (zipL na FM Xa Xb)]) := by
  have hla := qa.len
  have hlb := qb.len
  have B : Bu w no w [.rd kF aa na Xa, .rd kF ab nb Xb] := Bu.ro (All.cons qa (All.cons qb All.nil)) rfl
  refine calls_W (n := 30) Try.func91 rfl rfl (Nat.le_of_ble_eq_true rfl) ?_
  refine W_seq ?_
  refine W_region (by kernel_rfl) ?_
  refine s_y (v := .slice none 0 0) rfl (y_assign rfl) ?_
  refine s_nil ?_
  refine W_seq ?_
  refine W_region (by kernel_rfl) ?_
  refine s_k rfl (k_bsliceO (k := kF) (n := 0) (cells := #[]) (X := []) T91.slt_24 (by decide) (by first | rfl | kernel_rfl) (rfl : Reps kF [] []) rfl (fun b1 w2 hN3 => ?_))
  replace B := B.new1 hN3
  clear hN3
  refine s_y (v := .slice (some ⟨b1, 0, none⟩) 0 0) rfl (y_assign rfl) ?_
  refine s_nil ?_
  refine W_seq ?_
  refine W_seq ?_
  refine W_region (by kernel_rfl) ?_
  refine s_y (v := .slice aa na ca) rfl (y_move rfl) ?_
  refine s_y (v := .int .i64 ((na : Nat) : Int)) rfl (y_len T91.sl_24_56_1 rfl rfl) ?_
  refine s_y (v := .int .i64 0) rfl (y_move rfl) ?_
  refine s_nil ?_
  refine W_block ?_
  refine W_loop (fun ρ' w' => ∃ (ρ1 : Env) (k : Int) (a0 : Option Addr) (cc0 : Nat) (nn0 : Nat), ρ' = updL ρ1 [(1, .slice ab nb cb), (2, .func (.func f) us.toArray xs.toArray), (6, .slice none 0 0), (7, .slice a0 nn0 cc0), (11, .slice aa na ca), (12, .int .i64 ((na : Nat) : Int)), (13, .int .i64 k)] ∧ Bu w no w' [.ow kF a0 nn0 cc0 56 (tab k (fun i => FM (el Xa i) (el Xb i))), .rd kF aa na Xa, .rd kF ab nb Xb] ∧ (0 ≤ k) ∧ (k ≤ (na : Int))) (fun ρ' _ => ((na : Int) - iv (ρ' 13)).toNat) ?_ ?_
  · replace B : Bu w no w2 [.ow kF (some ⟨b1, 0, none⟩) 0 0 56 (tab 0 (fun i => FM (el Xa i) (el Xb i))), .rd kF aa na Xa, .rd kF ab nb Xb] := B.castX 0 rfl rfl rfl
    exact ⟨_, 0, (some ⟨b1, 0, none⟩), 0, 0, Fits.eq ⟨rfl, rfl, rfl, rfl, rfl, rfl, rfl, trivial⟩, B, (Int.le_refl _), (by omega)⟩
  · clear B; rintro _ w4 ⟨ρ5, k, a0, cc0, nn0, rfl, B, h0k, h1k⟩
    have hnn0 := (B.o 0 rfl).len
    rw [tab_length] at hnn0
    refine W_seq ?_
    refine W_region (by kernel_rfl) ?_
    by_cases c6 : k < ((na : Nat) : Int)
    · refine s_y (v := .bool true) rfl (y_lss rfl rfl (decide_eq_true c6)) ?_
      refine s_nil ?_
      refine W_seq ?_
      refine W_if_t (by decide) rfl ?_
      refine W_skip ?_
      refine W_seq ?_
      refine W_block ?_
      refine W_seq ?_
      refine W_region (by kernel_rfl) ?_
      refine s_y (v := .int .i64 k) rfl (y_move rfl) ?_
      refine s_y (v := .pointer (some (sat aa ((k).toNat * 1)))) rfl (y_idx T91.sl_24_56_1 rfl rfl ((B.r 1 rfl).addr (by omega)) (by omega) (by omega)) ?_
      obtain ⟨r8, hr9, hR7⟩ := Rd.atF (B.r 1 rfl) k (by omega) (by omega)
      refine s_y (v := .float .f32 r8) rfl (y_load T91.one_56 rfl (hR7.cell (i := 0) rfl)) ?_
      refine s_y (v := .int .i64 k) rfl (y_assign rfl) ?_
      refine s_y (v := .float .f32 r8) rfl (y_assign rfl) ?_
      refine s_nil ?_
      refine W_region (by kernel_rfl) ?_
      refine s_y (v := .slice a0 nn0 cc0) rfl (y_move rfl) ?_
      refine s_y (v := .func (.func f) us.toArray xs.toArray) rfl (y_move rfl) ?_
      refine s_y (v := .float .f32 r8) rfl (y_move rfl) ?_
      refine s_y (v := .slice ab nb cb) rfl (y_move rfl) ?_
      refine s_y (v := .int .i64 k) rfl (y_move rfl) ?_
      refine s_y (v := .pointer (some (sat ab ((k).toNat * 1)))) rfl (y_idx T91.sl_24_56_1 rfl rfl ((B.r 2 rfl).addr (by omega)) (by omega) (by omega)) ?_
      obtain ⟨r11, hr12, hR10⟩ := Rd.atF (B.r 2 rfl) k (by omega) (by omega)
      refine s_y (v := .float .f32 r11) rfl (y_load T91.one_56 rfl (hR10.cell (i := 0) rfl)) ?_
      refine s_k rfl (k_callv hfB rfl (hF r8 (el Xa k) r11 (el Xb k) B.ext hr9 hr12) rfl ?_)
      rintro _ w13 ⟨⟨r15, rfl, hr16⟩, e14⟩
      replace B := B.ext0 e14
      clear e14
      refine s_k rfl (k_bsliceO (k := kF) (n := 1) (cells := #[.float .f32 r15]) (X := [FM (el Xa k) (el Xb k)]) T91.slt_24 (by decide) (by first | rfl | kernel_rfl) (reps_cons (c := [.float .f32 r15]) ⟨_, rfl, hr16⟩ (rfl : Reps kF [] [])) rfl (fun b17 w18 hN19 => ?_))
      replace B := B.new1 hN19
      clear hN19
      refine s_k rfl (k_appO (k := kF) T91.slt_24 rfl rfl rfl (B.o 1 rfl) (B.o 0 rfl).rd (by omega) (by unfold maxLen; omega) (fun a20 c21 w22 hU23 => ?_))
      replace B : Bu w no w22 [.ow kF a20 (nn0 + 1) c21 56 ((tab k (fun i => FM (el Xa i) (el Xb i))) ++ ([FM (el Xa k) (el Xb k)])), .ow kF (some ⟨b17, 0, none⟩) 1 1 56 ([FM (el Xa k) (el Xb k)]), .rd kF aa na Xa, .rd kF ab nb Xb] := B.upd [1] rfl hU23
      clear hU23
      refine s_y (v := .slice a20 (nn0 + 1) c21) rfl (y_assign rfl) ?_
      refine s_nil ?_
      refine W_region (by kernel_rfl) ?_
      refine s_y (v := .int .i64 (k + 1)) rfl (y_add rfl rfl rfl (by omega)) ?_
      refine s_y (v := .int .i64 (k + 1)) rfl (y_move rfl) ?_
      refine s_nil ?_
      replace B : Bu w no w22 [.ow kF a20 (nn0 + 1) c21 56 (tab (k + 1) (fun i => FM (el Xa i) (el Xb i))), .ow kF (some ⟨b17, 0, none⟩) 1 1 56 ([FM (el Xa k) (el Xb k)]), .rd kF aa na Xa, .rd kF ab nb Xb] := B.castX 0 rfl rfl (tab_snoc (g := fun i => FM (el Xa i) (el Xb i)) (by omega) rfl)
      refine ⟨⟨_, k + 1, a20, c21, nn0 + 1, Fits.eq ⟨rfl, rfl, rfl, rfl, rfl, rfl, rfl, trivial⟩, (B.pick [0, 2, 3] rfl rfl), (by omega), (by omega)⟩, ?_⟩
      show ((na : Int) - (k + 1)).toNat < ((na : Int) - k).toNat
      omega
    · refine s_y (v := .bool false) rfl (y_lss rfl rfl (decide_eq_false c6)) ?_
      refine s_nil ?_
      refine W_seq ?_
      refine W_if_f (by decide) rfl ?_
      refine W_exit ?_
      refine W_seq ?_
      refine W_region (by kernel_rfl) ?_
      refine s_y (v := .slice a0 nn0 cc0) rfl (y_move rfl) ?_
      refine s_y (v := .slice a0 nn0 cc0) rfl (y_assign rfl) ?_
      refine s_nil ?_
      refine W_ret ?_
      refine ret1 (v := .slice a0 nn0 cc0) rfl rfl rfl ⟨_, rfl, ?_⟩
      obtain rfl : k = (na : Int) := by omega
      replace B : Bu w no w4 [.ow kF a0 na cc0 56 (zipL na FM Xa Xb), .rd kF aa na Xa, .rd kF ab nb Xb] := B.castX 0 rfl (by omega) rfl
      exact ⟨_, _, (by rw [(show nn0 = na from (by omega))]), B.give [0] rfl rfl rfl⟩
namespace T88
theorem mx : Try.prog.follows .mixedOrders = true := by kernel_rfl
theorem agg_26_5 : aggB Try.prog 26 5 = true := by kernel_rfl
theorem agg_49_3 : aggB Try.prog 49 3 = true := by kernel_rfl
theorem fn_74 : fnB Try.prog 74 = true := by kernel_rfl
theorem sz_49_3 : szB Try.prog 49 3 = true := by kernel_rfl
theorem zero_49 : zeroB Try.prog 49 (.agg #[.slice none 0 0, .slice none 0 0, .slice none 0 0]) := by unfold zeroB; kernel_rfl
end T88
set_option maxRecDepth 100000 in
set_option maxHeartbeats 4000000 in
theorem c_i_validField {wd : Int} {hi : Int} {wr : Bool} {asp : Option Addr} {nsp : Nat} {csp : Nat} {Xsp : List Nat} {als : Option Addr} {nls : Nat} {cls : Nat} {Xls : List Nat} {afe : Option Addr} {nfe : Nat} {cfe : Nat} {Xfe : List Nat} {afx : Option Addr} {nfx : Nat} {cfx : Nat} {Xfx : List Nat} {afy : Option Addr} {nfy : Nat} {cfy : Nat} {Xfy : List Nat} {w : World} (qsp : Rd w kF asp nsp Xsp) (qls : Rd w kF als nls Xls) (qfe : Rd w kF afe nfe Xfe) (qfx : Rd w kF afx nfx Xfx) (qfy : Rd w kF afy nfy Xfy) (hbsp : nsp ≤ 9223372036854775806) (hbls : nls ≤ 9223372036854775806) (hbfe : nfe ≤ 9223372036854775806) (hbfx : nfx ≤ 9223372036854775806) (hbfy : nfy ≤ 9223372036854775806) :
    Calls Try.prog 88 #[.agg #[.int .i64 wd, .int .i64 hi, .bool wr, .slice asp nsp csp, .slice als nls cls], .agg #[.slice afe nfe cfe, .slice afx nfx cfx, .slice afy nfy cfy]] w (Rt fun v w' => (fieldB wd hi wr Xsp Xls Xfe Xfx Xfy = true ∧ v = .tuple #[.agg #[.slice afe nfe cfe, .slice afx nfx cfx, .slice afy nfy cfy], .bool true] ∧ Ext0 w w') ∨ (fieldB wd hi wr Xsp Xls Xfe Xfx Xfy = false ∧ v = .tuple #[.agg #[.slice none 0 0, .slice none 0 0, .slice none 0 0], .bool false] ∧ Ext0 w w')) := by
  have hlsp := qsp.len
  have hlls := qls.len
  have hlfe := qfe.len
  have hlfx := qfx.len
  have hlfy := qfy.len
  have B : Bu w no w [.rd kF asp nsp Xsp, .rd kF als nls Xls, .rd kF afe nfe Xfe, .rd kF afx nfx Xfx, .rd kF afy nfy Xfy] := Bu.ro (All.cons qsp (All.cons qls (All.cons qfe (All.cons qfx (All.cons qfy All.nil))))) rfl
  refine calls_W (n := 12) Try.func88 rfl rfl (Nat.le_of_ble_eq_true rfl) ?_
  refine W_seq ?_
  refine W_region (by kernel_rfl) ?_
  refine s_k rfl (k_boxN (v := .agg #[.int .i64 wd, .int .i64 hi, .bool wr, .slice asp nsp csp, .slice als nls cls]) (cs := [.int .i64 wd, .int .i64 hi, .bool wr, .slice asp nsp csp, .slice als nls cls]) rfl rfl (fun b1 w2 hN3 => ?_))
  replace B := B.new1 hN3
  clear hN3
  refine s_k rfl (k_boxN (v := .agg #[.slice afe nfe cfe, .slice afx nfx cfx, .slice afy nfy cfy]) (cs := [.slice afe nfe cfe, .slice afx nfx cfx, .slice afy nfy cfy]) rfl rfl (fun b4 w5 hN6 => ?_))
  replace B := B.new1 hN6
  clear hN6
  refine s_k rfl (k_allocN (z := (.agg #[.slice none 0 0, .slice none 0 0, .slice none 0 0])) (cs := [.slice none 0 0, .slice none 0 0, .slice none 0 0]) T88.zero_49 rfl (fun b7 w8 hN9 => ?_))
  replace B := B.new1 hN9
  clear hN9
  refine s_y (v := .bool false) rfl (y_assign rfl) ?_
  refine s_nil ?_
  refine W_seq ?_
  refine W_seq ?_
  refine W_region (by kernel_rfl) ?_
  refine s_y (v := .agg #[.int .i64 wd, .int .i64 hi, .bool wr, .slice asp nsp csp, .slice als nls cls]) rfl (y_loadn (b := b1) (o := 0) (vs := [.int .i64 wd, .int .i64 hi, .bool wr, .slice asp nsp csp, .slice als nls cls]) T88.agg_26_5 rfl rfl ((B.b 2 rfl).cells (o := 0) rfl)) ?_
  refine s_y (v := .agg #[.slice afe nfe cfe, .slice afx nfx cfx, .slice afy nfy cfy]) rfl (y_loadn (b := b4) (o := 0) (vs := [.slice afe nfe cfe, .slice afx nfx cfx, .slice afy nfy cfy]) T88.agg_49_3 rfl rfl ((B.b 1 rfl).cells (o := 0) rfl)) ?_
  refine s_k rfl (k_call T88.fn_74 (c_i_IsField (B.r 3 rfl) (B.r 4 rfl) (B.r 5 rfl) (B.r 6 rfl) (B.r 7 rfl) (by omega) (by omega) (by omega) (by omega) (by omega)) rfl ?_)
  rintro v12 w10 ⟨hv13, e11⟩
  replace B := B.ext0 e11
  clear e11
  by_cases c14 : fieldB wd hi wr Xsp Xls Xfe Xfx Xfy = true
  · have hb15 := fieldB_b c14
    obtain rfl : v12 = .bool true := hv13.trans (congrArg Value.bool c14)
    refine s_y (v := .bool false) rfl (y_not rfl rfl) ?_
    refine s_nil ?_
    refine W_if_f (by decide) rfl ?_
    refine W_skip ?_
    refine W_seq ?_
    refine W_region (by kernel_rfl) ?_
    refine s_y (v := .agg #[.slice afe nfe cfe, .slice afx nfx cfx, .slice afy nfy cfy]) rfl (y_loadn (b := b4) (o := 0) (vs := [.slice afe nfe cfe, .slice afx nfx cfx, .slice afy nfy cfy]) T88.agg_49_3 rfl rfl ((B.b 1 rfl).cells (o := 0) rfl)) ?_
    refine s_k0 rfl (k_stB (v := .agg #[.slice afe nfe cfe, .slice afx nfx cfx, .slice afy nfy cfy]) (n := 3) (cs' := [.slice afe nfe cfe, .slice afx nfx cfx, .slice afy nfy cfy]) T88.sz_49_3 rfl rfl rfl (B.b 0 rfl) (by simp [Value.cells, Value.oneCell']) (Nat.le_of_ble_eq_true rfl) rfl (fun w16 hU17 => ?_))
    replace B : Bu w no w16 [.blk b7 [.slice afe nfe cfe, .slice afx nfx cfx, .slice afy nfy cfy] 49, .blk b4 [.slice afe nfe cfe, .slice afx nfx cfx, .slice afy nfy cfy] 49, .blk b1 [.int .i64 wd, .int .i64 hi, .bool wr, .slice asp nsp csp, .slice als nls cls] 26, .rd kF asp nsp Xsp, .rd kF als nls Xls, .rd kF afe nfe Xfe, .rd kF afx nfx Xfx, .rd kF afy nfy Xfy] := B.upd [0] rfl hU17
    clear hU17
    refine s_y (v := .bool true) rfl (y_assign rfl) ?_
    refine s_nil ?_
    refine W_ret ?_
    refine ret2 (v1 := .agg #[.slice afe nfe cfe, .slice afx nfx cfx, .slice afy nfy cfy]) (v2 := .bool true) rfl rfl rfl ⟨_, [.slice afe nfe cfe, .slice afx nfx cfx, .slice afy nfy cfy], _, rfl, (B.b 0 rfl), T88.agg_49_3, rfl⟩ rfl ⟨_, rfl, ?_⟩
    have hcond : fieldB wd hi wr Xsp Xls Xfe Xfx Xfy = true := by simp only [c14, Bool.and_true, Bool.true_and, Bool.and_false, Bool.false_and, Bool.not_true, Bool.not_false, Bool.or_true, Bool.true_or, Bool.or_false, Bool.false_or]
    exact .inl ⟨hcond, ⟨rfl, B.ext⟩⟩
  · obtain rfl : v12 = .bool false := hv13.trans (congrArg Value.bool (Bool.eq_false_iff.2 c14))
    refine s_y (v := .bool true) rfl (y_not rfl rfl) ?_
    refine s_nil ?_
    refine W_if_t (by decide) rfl ?_
    refine W_seq ?_
    refine W_region (by kernel_rfl) ?_
    refine s_y (v := .agg #[.slice none 0 0, .slice none 0 0, .slice none 0 0]) rfl (y_build (cells := #[.slice none 0 0, .slice none 0 0, .slice none 0 0]) (by kernel_rfl)) ?_
    refine s_k0 rfl (k_stB (v := .agg #[.slice none 0 0, .slice none 0 0, .slice none 0 0]) (n := 3) (cs' := [.slice none 0 0, .slice none 0 0, .slice none 0 0]) T88.sz_49_3 rfl rfl rfl (B.b 0 rfl) (by simp [Value.cells, Value.oneCell']) (Nat.le_of_ble_eq_true rfl) rfl (fun w18 hU19 => ?_))
    replace B : Bu w no w18 [.blk b7 [.slice none 0 0, .slice none 0 0, .slice none 0 0] 49, .blk b4 [.slice afe nfe cfe, .slice afx nfx cfx, .slice afy nfy cfy] 49, .blk b1 [.int .i64 wd, .int .i64 hi, .bool wr, .slice asp nsp csp, .slice als nls cls] 26, .rd kF asp nsp Xsp, .rd kF als nls Xls, .rd kF afe nfe Xfe, .rd kF afx nfx Xfx, .rd kF afy nfy Xfy] := B.upd [0] rfl hU19
    clear hU19
    refine s_y (v := .bool false) rfl (y_assign rfl) ?_
    refine s_nil ?_
    refine W_ret ?_
    refine ret2 (v1 := .agg #[.slice none 0 0, .slice none 0 0, .slice none 0 0]) (v2 := .bool false) rfl rfl rfl ⟨_, [.slice none 0 0, .slice none 0 0, .slice none 0 0], _, rfl, (B.b 0 rfl), T88.agg_49_3, rfl⟩ rfl ⟨_, rfl, ?_⟩
    exact .inr ⟨by simp only [(Bool.eq_false_iff.2 c14), Bool.and_true, Bool.true_and, Bool.and_false, Bool.false_and, Bool.not_true, Bool.not_false, Bool.or_true, Bool.true_or, Bool.or_false, Bool.false_or], rfl, B.ext⟩
namespace T54
theorem mx : Try.prog.follows .mixedOrders = true := by kernel_rfl
theorem agg_26_5 : aggB Try.prog 26 5 = true := by kernel_rfl
theorem agg_49_3 : aggB Try.prog 49 3 = true := by kernel_rfl
theorem fld_49_0_0 : fldB Try.prog 49 0 0 = true := by kernel_rfl
theorem fld_49_1_1 : fldB Try.prog 49 1 1 = true := by kernel_rfl
theorem fld_49_2_2 : fldB Try.prog 49 2 2 = true := by kernel_rfl
theorem fn_74 : fnB Try.prog 74 = true := by kernel_rfl
theorem fn_88 : fnB Try.prog 88 = true := by kernel_rfl
theorem fn_91 : fnB Try.prog 91 = true := by kernel_rfl
theorem fn_93 : fnB Try.prog 93 = true := by kernel_rfl
theorem one_24 : oneB Try.prog 24 = true := by kernel_rfl
theorem sz_49_3 : szB Try.prog 49 3 = true := by kernel_rfl
theorem zero_49 : zeroB Try.prog 49 (.agg #[.slice none 0 0, .slice none 0 0, .slice none 0 0]) := by unfold zeroB; kernel_rfl
end T54
set_option maxRecDepth 100000 in
set_option maxHeartbeats 4000000 in
theorem c_i_AddFields {wd : Int} {hi : Int} {wr : Bool} {asp : Option Addr} {nsp : Nat} {csp : Nat} {Xsp : List Nat} {als : Option Addr} {nls : Nat} {cls : Nat} {Xls : List Nat} {afe : Option Addr} {nfe : Nat} {cfe : Nat} {Xfe : List Nat} {afx : Option Addr} {nfx : Nat} {cfx : Nat} {Xfx : List Nat} {afy : Option Addr} {nfy : Nat} {cfy : Nat} {Xfy : List Nat} {afe2 : Option Addr} {nfe2 : Nat} {cfe2 : Nat} {Xfe2 : List Nat} {afx2 : Option Addr} {nfx2 : Nat} {cfx2 : Nat} {Xfx2 : List Nat} {afy2 : Option Addr} {nfy2 : Nat} {cfy2 : Nat} {Xfy2 : List Nat} {w : World} (qsp : Rd w kF asp nsp Xsp) (qls : Rd w kF als nls Xls) (qfe : Rd w kF afe nfe Xfe) (qfx : Rd w kF afx nfx Xfx) (qfy : Rd w kF afy nfy Xfy) (qfe2 : Rd w kF afe2 nfe2 Xfe2) (qfx2 : Rd w kF afx2 nfx2 Xfx2) (qfy2 : Rd w kF afy2 nfy2 Xfy2) (hbsp : nsp ≤ 9223372036854775806) (hbls : nls ≤ 9223372036854775806) (hbfe : nfe ≤ 9223372036854775806) (hbfx : nfx ≤ 9223372036854775806) (hbfy : nfy ≤ 9223372036854775806) (hbfe2 : nfe2 ≤ 9223372036854775806) (hbfx2 : nfx2 ≤ 9223372036854775806) (hbfy2 : nfy2 ≤ 9223372036854775806) :
    Calls Try.prog 54 #[.agg #[.int .i64 wd, .int .i64 hi, .bool wr, .slice asp nsp csp, .slice als nls cls], .agg #[.slice afe nfe cfe, .slice afx nfx cfx, .slice afy nfy cfy], .agg #[.slice afe2 nfe2 cfe2, .slice afx2 nfx2 cfx2, .slice afy2 nfy2 cfy2]] w (Rt fun v w' => (addB wd hi wr Xsp Xls Xfe Xfx Xfy Xfe2 Xfx2 Xfy2 = true ∧ ∃ (a1 : Option Addr) (c1 : Nat) (a2 : Option Addr) (c2 : Nat) (a3 : Option Addr) (c3 : Nat), v = .tuple #[.agg #[.slice a1 ((wd * hi).toNat) c1, .slice a2 ((wd * hi).toNat) c2, .slice a3 ((wd * hi).toNat) c3], .bool true] ∧ New w w' [.ow kF a1 ((wd * hi).toNat) c1 56 (addL (wd * hi) Xfe Xfe2), .ow kF a2 ((wd * hi).toNat) c2 56 (addL (wd * hi) Xfx Xfx2), .ow kF a3 ((wd * hi).toNat) c3 56 (addL (wd * hi) Xfy Xfy2)]) ∨ (addB wd hi wr Xsp Xls Xfe Xfx Xfy Xfe2 Xfx2 Xfy2 = false ∧ v = .tuple #[.agg #[.slice none 0 0, .slice none 0 0, .slice none 0 0], .bool false] ∧ Ext0 w w')) := by
  have hlsp := qsp.len
  have hlls := qls.len
  have hlfe := qfe.len
  have hlfx := qfx.len
  have hlfy := qfy.len
  have hlfe2 := qfe2.len
  have hlfx2 := qfx2.len
  have hlfy2 := qfy2.len
  have B : Bu w no w [.rd kF asp nsp Xsp, .rd kF als nls Xls, .rd kF afe nfe Xfe, .rd kF afx nfx Xfx, .rd kF afy nfy Xfy, .rd kF afe2 nfe2 Xfe2, .rd kF afx2 nfx2 Xfx2, .rd kF afy2 nfy2 Xfy2] := Bu.ro (All.cons qsp (All.cons qls (All.cons qfe (All.cons qfx (All.cons qfy (All.cons qfe2 (All.cons qfx2 (All.cons qfy2 All.nil)))))))) rfl
  refine calls_W (n := 43) Try.func54 rfl rfl (Nat.le_of_ble_eq_true rfl) ?_
  refine W_seq ?_
  refine W_region (by kernel_rfl) ?_
  refine s_k rfl (k_boxN (v := .agg #[.int .i64 wd, .int .i64 hi, .bool wr, .slice asp nsp csp, .slice als nls cls]) (cs := [.int .i64 wd, .int .i64 hi, .bool wr, .slice asp nsp csp, .slice als nls cls]) rfl rfl (fun b1 w2 hN3 => ?_))
  replace B := B.new1 hN3
  clear hN3
  refine s_k rfl (k_boxN (v := .agg #[.slice afe nfe cfe, .slice afx nfx cfx, .slice afy nfy cfy]) (cs := [.slice afe nfe cfe, .slice afx nfx cfx, .slice afy nfy cfy]) rfl rfl (fun b4 w5 hN6 => ?_))
  replace B := B.new1 hN6
  clear hN6
  refine s_k rfl (k_boxN (v := .agg #[.slice afe2 nfe2 cfe2, .slice afx2 nfx2 cfx2, .slice afy2 nfy2 cfy2]) (cs := [.slice afe2 nfe2 cfe2, .slice afx2 nfx2 cfx2, .slice afy2 nfy2 cfy2]) rfl rfl (fun b7 w8 hN9 => ?_))
  replace B := B.new1 hN9
  clear hN9
  refine s_k rfl (k_allocN (z := (.agg #[.slice none 0 0, .slice none 0 0, .slice none 0 0])) (cs := [.slice none 0 0, .slice none 0 0, .slice none 0 0]) T54.zero_49 rfl (fun b10 w11 hN12 => ?_))
  replace B := B.new1 hN12
  clear hN12
  refine s_y (v := .bool false) rfl (y_assign rfl) ?_
  refine s_nil ?_
  refine W_seq ?_
  refine W_seq ?_
  refine W_region (by kernel_rfl) ?_
  refine s_y (v := .agg #[.int .i64 wd, .int .i64 hi, .bool wr, .slice asp nsp csp, .slice als nls cls]) rfl (y_loadn (b := b1) (o := 0) (vs := [.int .i64 wd, .int .i64 hi, .bool wr, .slice asp nsp csp, .slice als nls cls]) T54.agg_26_5 rfl rfl ((B.b 3 rfl).cells (o := 0) rfl)) ?_
  refine s_y (v := .agg #[.slice afe nfe cfe, .slice afx nfx cfx, .slice afy nfy cfy]) rfl (y_loadn (b := b4) (o := 0) (vs := [.slice afe nfe cfe, .slice afx nfx cfx, .slice afy nfy cfy]) T54.agg_49_3 rfl rfl ((B.b 2 rfl).cells (o := 0) rfl)) ?_
  refine s_k rfl (k_call T54.fn_74 (c_i_IsField (B.r 4 rfl) (B.r 5 rfl) (B.r 6 rfl) (B.r 7 rfl) (B.r 8 rfl) (by omega) (by omega) (by omega) (by omega) (by omega)) rfl ?_)
  rintro v15 w13 ⟨hv16, e14⟩
  replace B := B.ext0 e14
  clear e14
  by_cases c17 : fieldB wd hi wr Xsp Xls Xfe Xfx Xfy = true
  · have hb18 := fieldB_b c17
    obtain rfl : v15 = .bool true := hv16.trans (congrArg Value.bool c17)
    refine s_y (v := .bool false) rfl (y_not rfl rfl) ?_
    refine s_y (v := .bool false) rfl (y_move rfl) ?_
    refine s_y (v := .agg #[.int .i64 wd, .int .i64 hi, .bool wr, .slice asp nsp csp, .slice als nls cls]) rfl (y_loadn (b := b1) (o := 0) (vs := [.int .i64 wd, .int .i64 hi, .bool wr, .slice asp nsp csp, .slice als nls cls]) T54.agg_26_5 rfl rfl ((B.b 3 rfl).cells (o := 0) rfl)) ?_
    refine s_y (v := .agg #[.slice afe2 nfe2 cfe2, .slice afx2 nfx2 cfx2, .slice afy2 nfy2 cfy2]) rfl (y_loadn (b := b7) (o := 0) (vs := [.slice afe2 nfe2 cfe2, .slice afx2 nfx2 cfx2, .slice afy2 nfy2 cfy2]) T54.agg_49_3 rfl rfl ((B.b 1 rfl).cells (o := 0) rfl)) ?_
    refine s_k rfl (k_call T54.fn_74 (c_i_IsField (B.r 4 rfl) (B.r 5 rfl) (B.r 9 rfl) (B.r 10 rfl) (B.r 11 rfl) (by omega) (by omega) (by omega) (by omega) (by omega)) rfl ?_)
    rintro v21 w19 ⟨hv22, e20⟩
    replace B := B.ext0 e20
    clear e20
    by_cases c23 : fieldB wd hi wr Xsp Xls Xfe2 Xfx2 Xfy2 = true
    · have hb24 := fieldB_b c23
      obtain rfl : v21 = .bool true := hv22.trans (congrArg Value.bool c23)
      refine s_y (v := .bool false) rfl (y_not rfl rfl) ?_
      refine s_y (v := .bool false) rfl (y_pick_f rfl rfl) ?_
      refine s_nil ?_
      refine W_if_f (by decide) rfl ?_
      refine W_skip ?_
      refine W_seq ?_
      refine W_region (by kernel_rfl) ?_
      refine s_y (v := .func (.func 93) #[] #[]) rfl (y_assign rfl) ?_
      refine s_nil ?_
      refine W_seq ?_
      have B0_29 := B
      refine W_draw (at1 b10) T54.mx (by kernel_rfl) (fun w27 e28 => ?_)
      have R30 := Ext.refl (at1 b10) w19
      replace R30 := R30.trans (Ext0.any e28)
      replace B := B.ext0 e28
      clear e28
      refine m_y (v := .agg #[.int .i64 wd, .int .i64 hi, .bool wr, .slice asp nsp csp, .slice als nls cls]) 0 rfl (by kernel_rfl) rfl rfl (fun w' e' => y_loadn (b := b1) (o := 0) (vs := [.int .i64 wd, .int .i64 hi, .bool wr, .slice asp nsp csp, .slice als nls cls]) T54.agg_26_5 rfl rfl ((B0_29.bx 3 0 rfl rfl rfl rfl e' (fun _ h => h)).cells (o := 0) rfl)) ?_
      refine m_y (v := .pointer (some ⟨b4, 0, none⟩)) 1 rfl (by kernel_rfl) rfl rfl (fun w' e' => y_fld (o := 0) T54.fld_49_0_0 rfl) ?_
      refine m_y (v := .slice afe nfe cfe) 2 rfl (by kernel_rfl) rfl rfl (fun w' e' => y_load T54.one_24 rfl ((B0_29.bx 2 0 rfl rfl rfl rfl e' (fun _ h => h)).cell (j := 0) rfl)) ?_
      refine m_y (v := .pointer (some ⟨b7, 0, none⟩)) 3 rfl (by kernel_rfl) rfl rfl (fun w' e' => y_fld (o := 0) T54.fld_49_0_0 rfl) ?_
      refine m_y (v := .slice afe2 nfe2 cfe2) 4 rfl (by kernel_rfl) rfl rfl (fun w' e' => y_load T54.one_24 rfl ((B0_29.bx 1 0 rfl rfl rfl rfl e' (fun _ h => h)).cell (j := 0) rfl)) ?_
      refine m_y (v := .func (.func 93) #[] #[]) 5 rfl (by kernel_rfl) rfl rfl (fun w' e' => y_move rfl) ?_
      refine m_y (v := .pointer (some ⟨b4, 1, none⟩)) 7 rfl (by kernel_rfl) rfl rfl (fun w' e' => y_fld (o := 0) T54.fld_49_1_1 rfl) ?_
      refine m_y (v := .slice afx nfx cfx) 8 rfl (by kernel_rfl) rfl rfl (fun w' e' => y_load T54.one_24 rfl ((B0_29.bx 2 0 rfl rfl rfl rfl e' (fun _ h => h)).cell (j := 1) rfl)) ?_
      refine m_y (v := .pointer (some ⟨b7, 1, none⟩)) 9 rfl (by kernel_rfl) rfl rfl (fun w' e' => y_fld (o := 0) T54.fld_49_1_1 rfl) ?_
      refine m_y (v := .slice afx2 nfx2 cfx2) 10 rfl (by kernel_rfl) rfl rfl (fun w' e' => y_load T54.one_24 rfl ((B0_29.bx 1 0 rfl rfl rfl rfl e' (fun _ h => h)).cell (j := 1) rfl)) ?_
      refine m_y (v := .func (.func 93) #[] #[]) 11 rfl (by kernel_rfl) rfl rfl (fun w' e' => y_move rfl) ?_
      refine m_y (v := .pointer (some ⟨b4, 2, none⟩)) 13 rfl (by kernel_rfl) rfl rfl (fun w' e' => y_fld (o := 0) T54.fld_49_2_2 rfl) ?_
      refine m_y (v := .slice afy nfy cfy) 14 rfl (by kernel_rfl) rfl rfl (fun w' e' => y_load T54.one_24 rfl ((B0_29.bx 2 0 rfl rfl rfl rfl e' (fun _ h => h)).cell (j := 2) rfl)) ?_
      refine m_y (v := .pointer (some ⟨b7, 2, none⟩)) 15 rfl (by kernel_rfl) rfl rfl (fun w' e' => y_fld (o := 0) T54.fld_49_2_2 rfl) ?_
      refine m_y (v := .slice afy2 nfy2 cfy2) 16 rfl (by kernel_rfl) rfl rfl (fun w' e' => y_load T54.one_24 rfl ((B0_29.bx 1 0 rfl rfl rfl rfl e' (fun _ h => h)).cell (j := 2) rfl)) ?_
      refine m_y (v := .func (.func 93) #[] #[]) 17 rfl (by kernel_rfl) rfl rfl (fun w' e' => y_move rfl) ?_
      refine m_k 6 [12, 18, 19, 20, 21, 22, 23, 24] rfl (by kernel_rfl) rfl rfl (fun w31 e32 => ?_)
      replace R30 := R30.trans (Ext0.any e32)
      replace B := B.ext0 e32
      clear e32
      refine k_call T54.fn_91 (c_i_both (f := 93) (us := []) (xs := []) (FM := (fun a b => fop .add .f32 a b)) (B.r 6 rfl) (B.r 9 rfl) T54.fn_93 (fun r R r2 R2 w1 he h1 h2 => (c_i_AddFields_1 h1 h2)) (by omega) (by omega)) rfl ?_
      rintro _ w33 ⟨a34, c35, rfl, hN36⟩
      replace R30 := R30.trans (Ext0.any hN36.ext)
      replace B := B.new1 hN36
      clear hN36
      refine ⟨fun _ => R30, ?_⟩
      refine m_k 12 [18, 19, 20, 21, 22, 23, 24] rfl (by kernel_rfl) rfl rfl (fun w37 e38 => ?_)
      replace R30 := R30.trans (Ext0.any e38)
      replace B := B.ext0 e38
      clear e38
      refine k_call T54.fn_91 (c_i_both (f := 93) (us := []) (xs := []) (FM := (fun a b => fop .add .f32 a b)) (B.r 8 rfl) (B.r 11 rfl) T54.fn_93 (fun r R r2 R2 w1 he h1 h2 => (c_i_AddFields_1 h1 h2)) (by omega) (by omega)) rfl ?_
      rintro _ w39 ⟨a40, c41, rfl, hN42⟩
      replace R30 := R30.trans (Ext0.any hN42.ext)
      replace B := B.new1 hN42
      clear hN42
      refine ⟨fun _ => R30, ?_⟩
      refine m_k 18 [19, 20, 21, 22, 23, 24] rfl (by kernel_rfl) rfl rfl (fun w43 e44 => ?_)
      replace R30 := R30.trans (Ext0.any e44)
      replace B := B.ext0 e44
      clear e44
      refine k_call T54.fn_91 (c_i_both (f := 93) (us := []) (xs := []) (FM := (fun a b => fop .add .f32 a b)) (B.r 10 rfl) (B.r 13 rfl) T54.fn_93 (fun r R r2 R2 w1 he h1 h2 => (c_i_AddFields_1 h1 h2)) (by omega) (by omega)) rfl ?_
      rintro _ w45 ⟨a46, c47, rfl, hN48⟩
      replace R30 := R30.trans (Ext0.any hN48.ext)
      replace B := B.new1 hN48
      clear hN48
      refine ⟨fun _ => R30, ?_⟩
      refine m_y (v := .agg #[.slice a34 nfe c35, .slice a40 nfx c41, .slice a46 nfy c47]) 19 rfl (by kernel_rfl) rfl rfl (fun w' e' => y_build (cells := #[.slice a34 nfe c35, .slice a40 nfx c41, .slice a46 nfy c47]) (by kernel_rfl)) ?_
      refine m_k 20 [21, 22, 23, 24] rfl (by kernel_rfl) rfl rfl (fun w49 e50 => ?_)
      replace R30 := R30.trans (Ext0.any e50)
      replace B := B.ext0 e50
      clear e50
      refine k_call T54.fn_88 (c_i_validField (B.r 7 rfl) (B.r 8 rfl) ((B.o 2 rfl).rd) ((B.o 1 rfl).rd) ((B.o 0 rfl).rd) (by omega) (by omega) (by omega) (by omega) (by omega)) rfl ?_
      rintro v53 w51 hx52
      by_cases c54 : fieldB wd hi wr Xsp Xls (zipL nfe (fun a b => fop .add .f32 a b) Xfe Xfe2) (zipL nfx (fun a b => fop .add .f32 a b) Xfx Xfx2) (zipL nfy (fun a b => fop .add .f32 a b) Xfy Xfy2) = true
      · have hb55 := fieldB_b c54
        obtain ⟨rfl, e56⟩ := (hx52.resolve_right (fun hz => by rw [c54] at hz; cases hz.1)).2
        clear hx52
        replace R30 := R30.trans (Ext0.any e56)
        replace B := B.ext0 e56
        clear e56
        refine ⟨fun _ => R30, ?_⟩
        refine m_y (v := .agg #[.slice a34 nfe c35, .slice a40 nfx c41, .slice a46 nfy c47]) 21 rfl (by kernel_rfl) rfl rfl (fun w' e' => y_extract rfl rfl) ?_
        refine m_y (v := .bool true) 22 rfl (by kernel_rfl) rfl rfl (fun w' e' => y_extract rfl rfl) ?_
        refine m_k 23 [24] rfl (by kernel_rfl) rfl rfl (fun w59 e60 => ?_)
        replace R30 := R30.trans (Ext0.any e60)
        replace B := B.ext0 e60
        clear e60
        refine k_stB (v := .agg #[.slice a34 nfe c35, .slice a40 nfx c41, .slice a46 nfy c47]) (n := 3) (cs' := [.slice a34 nfe c35, .slice a40 nfx c41, .slice a46 nfy c47]) T54.sz_49_3 rfl rfl rfl (B.b 3 rfl) (by simp [Value.cells, Value.oneCell']) (Nat.le_of_ble_eq_true rfl) rfl (fun w57 hU58 => ?_)
        replace R30 := R30.trans hU58.at1
        replace B : Bu w no w57 [.blk b10 [.slice a34 nfe c35, .slice a40 nfx c41, .slice a46 nfy c47] 49, .ow kF a46 nfy c47 56 (zipL nfy (fun a b => fop .add .f32 a b) Xfy Xfy2), .ow kF a40 nfx c41 56 (zipL nfx (fun a b => fop .add .f32 a b) Xfx Xfx2), .ow kF a34 nfe c35 56 (zipL nfe (fun a b => fop .add .f32 a b) Xfe Xfe2), .blk b7 [.slice afe2 nfe2 cfe2, .slice afx2 nfx2 cfx2, .slice afy2 nfy2 cfy2] 49, .blk b4 [.slice afe nfe cfe, .slice afx nfx cfx, .slice afy nfy cfy] 49, .blk b1 [.int .i64 wd, .int .i64 hi, .bool wr, .slice asp nsp csp, .slice als nls cls] 26, .rd kF asp nsp Xsp, .rd kF als nls Xls, .rd kF afe nfe Xfe, .rd kF afx nfx Xfx, .rd kF afy nfy Xfy, .rd kF afe2 nfe2 Xfe2, .rd kF afx2 nfx2 Xfx2, .rd kF afy2 nfy2 Xfy2] := B.upd [3] rfl hU58
        clear hU58
        refine ⟨fun _ => R30, ?_⟩
        refine m_y (v := .bool true) 24 rfl (by kernel_rfl) rfl rfl (fun w' e' => y_assign rfl) ?_
        refine m_done (by kernel_rfl) (fun w61 e62 => ?_)
        replace B := B.ext0 e62
        clear e62
        clear B0_29 R30
        refine W_ret ?_
        refine ret2 (v1 := .agg #[.slice a34 nfe c35, .slice a40 nfx c41, .slice a46 nfy c47]) (v2 := .bool true) rfl rfl rfl ⟨_, [.slice a34 nfe c35, .slice a40 nfx c41, .slice a46 nfy c47], _, rfl, (B.b 0 rfl), T54.agg_49_3, rfl⟩ rfl ⟨_, rfl, ?_⟩
        have hlast := (addB_i (by omega) (by omega) (by omega)).trans c54
        have hcond : addB wd hi wr Xsp Xls Xfe Xfx Xfy Xfe2 Xfx2 Xfy2 = true := by simp only [addB, hlast, c17, c23, c54, Bool.and_true, Bool.true_and, Bool.and_false, Bool.false_and, Bool.not_true, Bool.not_false, Bool.or_true, Bool.true_or, Bool.or_false, Bool.false_or]
        replace B : Bu w no w61 [.blk b10 [.slice a34 nfe c35, .slice a40 nfx c41, .slice a46 nfy c47] 49, .ow kF a46 nfy c47 56 (zipL nfy (fun a b => fop .add .f32 a b) Xfy Xfy2), .ow kF a40 nfx c41 56 (zipL nfx (fun a b => fop .add .f32 a b) Xfx Xfx2), .ow kF a34 ((wd * hi).toNat) c35 56 (addL (wd * hi) Xfe Xfe2), .blk b7 [.slice afe2 nfe2 cfe2, .slice afx2 nfx2 cfx2, .slice afy2 nfy2 cfy2] 49, .blk b4 [.slice afe nfe cfe, .slice afx nfx cfx, .slice afy nfy cfy] 49, .blk b1 [.int .i64 wd, .int .i64 hi, .bool wr, .slice asp nsp csp, .slice als nls cls] 26, .rd kF asp nsp Xsp, .rd kF als nls Xls, .rd kF afe nfe Xfe, .rd kF afx nfx Xfx, .rd kF afy nfy Xfy, .rd kF afe2 nfe2 Xfe2, .rd kF afx2 nfx2 Xfx2, .rd kF afy2 nfy2 Xfy2] := B.castX 3 rfl (by omega) (congrArg (fun q => addL q _ _) (by omega))
        replace B : Bu w no w61 [.blk b10 [.slice a34 nfe c35, .slice a40 nfx c41, .slice a46 nfy c47] 49, .ow kF a46 nfy c47 56 (zipL nfy (fun a b => fop .add .f32 a b) Xfy Xfy2), .ow kF a40 ((wd * hi).toNat) c41 56 (addL (wd * hi) Xfx Xfx2), .ow kF a34 ((wd * hi).toNat) c35 56 (addL (wd * hi) Xfe Xfe2), .blk b7 [.slice afe2 nfe2 cfe2, .slice afx2 nfx2 cfx2, .slice afy2 nfy2 cfy2] 49, .blk b4 [.slice afe nfe cfe, .slice afx nfx cfx, .slice afy nfy cfy] 49, .blk b1 [.int .i64 wd, .int .i64 hi, .bool wr, .slice asp nsp csp, .slice als nls cls] 26, .rd kF asp nsp Xsp, .rd kF als nls Xls, .rd kF afe nfe Xfe, .rd kF afx nfx Xfx, .rd kF afy nfy Xfy, .rd kF afe2 nfe2 Xfe2, .rd kF afx2 nfx2 Xfx2, .rd kF afy2 nfy2 Xfy2] := B.castX 2 rfl (by omega) (congrArg (fun q => addL q _ _) (by omega))
        replace B : Bu w no w61 [.blk b10 [.slice a34 nfe c35, .slice a40 nfx c41, .slice a46 nfy c47] 49, .ow kF a46 ((wd * hi).toNat) c47 56 (addL (wd * hi) Xfy Xfy2), .ow kF a40 ((wd * hi).toNat) c41 56 (addL (wd * hi) Xfx Xfx2), .ow kF a34 ((wd * hi).toNat) c35 56 (addL (wd * hi) Xfe Xfe2), .blk b7 [.slice afe2 nfe2 cfe2, .slice afx2 nfx2 cfx2, .slice afy2 nfy2 cfy2] 49, .blk b4 [.slice afe nfe cfe, .slice afx nfx cfx, .slice afy nfy cfy] 49, .blk b1 [.int .i64 wd, .int .i64 hi, .bool wr, .slice asp nsp csp, .slice als nls cls] 26, .rd kF asp nsp Xsp, .rd kF als nls Xls, .rd kF afe nfe Xfe, .rd kF afx nfx Xfx, .rd kF afy nfy Xfy, .rd kF afe2 nfe2 Xfe2, .rd kF afx2 nfx2 Xfx2, .rd kF afy2 nfy2 Xfy2] := B.castX 1 rfl (by omega) (congrArg (fun q => addL q _ _) (by omega))
        exact .inl ⟨hcond, ⟨_, _, _, _, _, _, (by rw [(show nfe = (wd * hi).toNat from (by omega)), (show nfx = (wd * hi).toNat from (by omega)), (show nfy = (wd * hi).toNat from (by omega))]), B.give [3, 2, 1] rfl rfl rfl⟩⟩
      · obtain ⟨_, rfl, e63⟩ := hx52.resolve_left (fun hz => c54 hz.1)
        clear hx52
        replace R30 := R30.trans (Ext0.any e63)
        replace B := B.ext0 e63
        clear e63
        refine ⟨fun _ => R30, ?_⟩
        refine m_y (v := .agg #[.slice none 0 0, .slice none 0 0, .slice none 0 0]) 21 rfl (by kernel_rfl) rfl rfl (fun w' e' => y_extract rfl rfl) ?_
        refine m_y (v := .bool false) 22 rfl (by kernel_rfl) rfl rfl (fun w' e' => y_extract rfl rfl) ?_
        refine m_k 23 [24] rfl (by kernel_rfl) rfl rfl (fun w66 e67 => ?_)
        replace R30 := R30.trans (Ext0.any e67)
        replace B := B.ext0 e67
        clear e67
        refine k_stB (v := .agg #[.slice none 0 0, .slice none 0 0, .slice none 0 0]) (n := 3) (cs' := [.slice none 0 0, .slice none 0 0, .slice none 0 0]) T54.sz_49_3 rfl rfl rfl (B.b 3 rfl) (by simp [Value.cells, Value.oneCell']) (Nat.le_of_ble_eq_true rfl) rfl (fun w64 hU65 => ?_)
        replace R30 := R30.trans hU65.at1
        replace B : Bu w no w64 [.blk b10 [.slice none 0 0, .slice none 0 0, .slice none 0 0] 49, .ow kF a46 nfy c47 56 (zipL nfy (fun a b => fop .add .f32 a b) Xfy Xfy2), .ow kF a40 nfx c41 56 (zipL nfx (fun a b => fop .add .f32 a b) Xfx Xfx2), .ow kF a34 nfe c35 56 (zipL nfe (fun a b => fop .add .f32 a b) Xfe Xfe2), .blk b7 [.slice afe2 nfe2 cfe2, .slice afx2 nfx2 cfx2, .slice afy2 nfy2 cfy2] 49, .blk b4 [.slice afe nfe cfe, .slice afx nfx cfx, .slice afy nfy cfy] 49, .blk b1 [.int .i64 wd, .int .i64 hi, .bool wr, .slice asp nsp csp, .slice als nls cls] 26, .rd kF asp nsp Xsp, .rd kF als nls Xls, .rd kF afe nfe Xfe, .rd kF afx nfx Xfx, .rd kF afy nfy Xfy, .rd kF afe2 nfe2 Xfe2, .rd kF afx2 nfx2 Xfx2, .rd kF afy2 nfy2 Xfy2] := B.upd [3] rfl hU65
        clear hU65
        refine ⟨fun _ => R30, ?_⟩
        refine m_y (v := .bool false) 24 rfl (by kernel_rfl) rfl rfl (fun w' e' => y_assign rfl) ?_
        refine m_done (by kernel_rfl) (fun w68 e69 => ?_)
        replace B := B.ext0 e69
        clear e69
        clear B0_29 R30
        refine W_ret ?_
        refine ret2 (v1 := .agg #[.slice none 0 0, .slice none 0 0, .slice none 0 0]) (v2 := .bool false) rfl rfl rfl ⟨_, [.slice none 0 0, .slice none 0 0, .slice none 0 0], _, rfl, (B.b 0 rfl), T54.agg_49_3, rfl⟩ rfl ⟨_, rfl, ?_⟩
        have hlast := (addB_i (by omega) (by omega) (by omega)).trans (Bool.eq_false_iff.2 c54)
        exact .inr ⟨by simp only [addB, hlast, c17, c23, (Bool.eq_false_iff.2 c54), Bool.and_true, Bool.true_and, Bool.and_false, Bool.false_and, Bool.not_true, Bool.not_false, Bool.or_true, Bool.true_or, Bool.or_false, Bool.false_or], rfl, B.ext⟩
    · obtain rfl : v21 = .bool false := hv22.trans (congrArg Value.bool (Bool.eq_false_iff.2 c23))
      refine s_y (v := .bool true) rfl (y_not rfl rfl) ?_
      refine s_y (v := .bool true) rfl (y_pick_f rfl rfl) ?_
      refine s_nil ?_
      refine W_if_t (by decide) rfl ?_
      refine W_seq ?_
      refine W_region (by kernel_rfl) ?_
      refine s_y (v := .agg #[.slice none 0 0, .slice none 0 0, .slice none 0 0]) rfl (y_build (cells := #[.slice none 0 0, .slice none 0 0, .slice none 0 0]) (by kernel_rfl)) ?_
      refine s_k0 rfl (k_stB (v := .agg #[.slice none 0 0, .slice none 0 0, .slice none 0 0]) (n := 3) (cs' := [.slice none 0 0, .slice none 0 0, .slice none 0 0]) T54.sz_49_3 rfl rfl rfl (B.b 0 rfl) (by simp [Value.cells, Value.oneCell']) (Nat.le_of_ble_eq_true rfl) rfl (fun w70 hU71 => ?_))
      replace B : Bu w no w70 [.blk b10 [.slice none 0 0, .slice none 0 0, .slice none 0 0] 49, .blk b7 [.slice afe2 nfe2 cfe2, .slice afx2 nfx2 cfx2, .slice afy2 nfy2 cfy2] 49, .blk b4 [.slice afe nfe cfe, .slice afx nfx cfx, .slice afy nfy cfy] 49, .blk b1 [.int .i64 wd, .int .i64 hi, .bool wr, .slice asp nsp csp, .slice als nls cls] 26, .rd kF asp nsp Xsp, .rd kF als nls Xls, .rd kF afe nfe Xfe, .rd kF afx nfx Xfx, .rd kF afy nfy Xfy, .rd kF afe2 nfe2 Xfe2, .rd kF afx2 nfx2 Xfx2, .rd kF afy2 nfy2 Xfy2] := B.upd [0] rfl hU71
      clear hU71
      refine s_y (v := .bool false) rfl (y_assign rfl) ?_
      refine s_nil ?_
      refine W_ret ?_
      refine ret2 (v1 := .agg #[.slice none 0 0, .slice none 0 0, .slice none 0 0]) (v2 := .bool false) rfl rfl rfl ⟨_, [.slice none 0 0, .slice none 0 0, .slice none 0 0], _, rfl, (B.b 0 rfl), T54.agg_49_3, rfl⟩ rfl ⟨_, rfl, ?_⟩
      exact .inr ⟨by simp only [addB, c17, (Bool.eq_false_iff.2 c23), Bool.and_true, Bool.true_and, Bool.and_false, Bool.false_and, Bool.not_true, Bool.not_false, Bool.or_true, Bool.true_or, Bool.or_false, Bool.false_or], rfl, B.ext⟩
  · obtain rfl : v15 = .bool false := hv16.trans (congrArg Value.bool (Bool.eq_false_iff.2 c17))
    refine s_y (v := .bool true) rfl (y_not rfl rfl) ?_
    refine s_y (v := .bool true) rfl (y_move rfl) ?_
    refine s_skip rfl ?_
    refine s_skip rfl ?_
    refine s_skip rfl ?_
    refine s_skip rfl ?_
    refine s_y (v := .bool true) rfl (y_pick_t rfl rfl) ?_
    refine s_nil ?_
    refine W_if_t (by decide) rfl ?_
    refine W_seq ?_
    refine W_region (by kernel_rfl) ?_
    refine s_y (v := .agg #[.slice none 0 0, .slice none 0 0, .slice none 0 0]) rfl (y_build (cells := #[.slice none 0 0, .slice none 0 0, .slice none 0 0]) (by kernel_rfl)) ?_
    refine s_k0 rfl (k_stB (v := .agg #[.slice none 0 0, .slice none 0 0, .slice none 0 0]) (n := 3) (cs' := [.slice none 0 0, .slice none 0 0, .slice none 0 0]) T54.sz_49_3 rfl rfl rfl (B.b 0 rfl) (by simp [Value.cells, Value.oneCell']) (Nat.le_of_ble_eq_true rfl) rfl (fun w72 hU73 => ?_))
    replace B : Bu w no w72 [.blk b10 [.slice none 0 0, .slice none 0 0, .slice none 0 0] 49, .blk b7 [.slice afe2 nfe2 cfe2, .slice afx2 nfx2 cfx2, .slice afy2 nfy2 cfy2] 49, .blk b4 [.slice afe nfe cfe, .slice afx nfx cfx, .slice afy nfy cfy] 49, .blk b1 [.int .i64 wd, .int .i64 hi, .bool wr, .slice asp nsp csp, .slice als nls cls] 26, .rd kF asp nsp Xsp, .rd kF als nls Xls, .rd kF afe nfe Xfe, .rd kF afx nfx Xfx, .rd kF afy nfy Xfy, .rd kF afe2 nfe2 Xfe2, .rd kF afx2 nfx2 Xfx2, .rd kF afy2 nfy2 Xfy2] := B.upd [0] rfl hU73
    clear hU73
    refine s_y (v := .bool false) rfl (y_assign rfl) ?_
    refine s_nil ?_
    refine W_ret ?_
    refine ret2 (v1 := .agg #[.slice none 0 0, .slice none 0 0, .slice none 0 0]) (v2 := .bool false) rfl rfl rfl ⟨_, [.slice none 0 0, .slice none 0 0, .slice none 0 0], _, rfl, (B.b 0 rfl), T54.agg_49_3, rfl⟩ rfl ⟨_, rfl, ?_⟩
    exact .inr ⟨by simp only [addB, (Bool.eq_false_iff.2 c17), Bool.and_true, Bool.true_and, Bool.and_false, Bool.false_and, Bool.not_true, Bool.not_false, Bool.or_true, Bool.true_or, Bool.or_false, Bool.false_or], rfl, B.ext⟩
end Go.Proofs.Ytalkhbnlphefdaa
