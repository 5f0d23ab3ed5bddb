/- Walks: what the functions do that many laws of this seat reach (part 1). Printed by a program of this claim's author. -/
import Derived.Test.YtalkhbnlphefdaaN4
import Derived.Test.YtalkhbnlphefdaaModel
import Derived.Test.YtalkhbnlphefdaaM2
import Derived.Test.YtalkhbnlphefdaaM3
import Derived.Test.YtalkhbnlphefdaaM4
import Derived.Test.YtalkhbnlphefdaaM5
import Derived.Test.YtalkhbnlphefdaaM6
import Derived.Test.YtalkhbnlphefdaaM7
import Derived.Test.YtalkhbnlphefdaaM8
import Derived.Test.YtalkhbnlphefdaaM9
import Derived.Test.YtalkhbnlphefdaaM10
import Derived.Test.YtalkhbnlphefdaaM11
import Derived.Test.YtalkhbnlphefdaaM12
import Derived.Test.YtalkhbnlphefdaaProg
set_option linter.unusedSimpArgs false
set_option linter.unusedVariables false
open Go.Wv
namespace Go.Proofs.Ytalkhbnlphefdaa
open Go.Proofs
namespace T71
theorem mx : Try.prog.follows .mixedOrders = true := by kernel_rfl
theorem one_56 : oneB Try.prog 56 = true := by kernel_rfl
theorem sl_24_56_1 : slB Try.prog 24 56 1 = true := by kernel_rfl
theorem slt_24 : SlT Try.prog 24 56 1 4 (.float .f32 0) := ⟨by kernel_rfl, by kernel_rfl, rfl, by decide⟩
theorem sz_56_1 : szB Try.prog 56 1 = true := by kernel_rfl
end T71
set_option maxRecDepth 100000 in
set_option maxHeartbeats 4000000 in
theorem c_l_toFloat32S {a : Option Addr} {n : Nat} {c : Nat} {X : List Nat} {w : World} (q : Rd w kF a n X) (hb : n ≤ 1048576) :
    Calls Try.prog 71 #[.slice a n c] w (Rt fun v w' => ∃ (a1 : Option Addr) (c1 : Nat), v = .slice a1 n c1 ∧ New w w' [.ow kF a1 n c1 56 X]) := by
  have hl := q.len
  have B : Bu w no w [.rd kF a n X] := Bu.ro (All.cons q All.nil) rfl
  refine calls_W (n := 22) Try.func71 rfl rfl (Nat.le_of_ble_eq_true rfl) ?_
  refine W_seq ?_
  refine W_region (by kernel_rfl) ?_
  refine s_y (v := .slice none 0 0) rfl (y_assign rfl) ?_
  refine s_nil ?_
  refine W_seq ?_
  refine W_region (by kernel_rfl) ?_
  refine s_y (v := .slice a n c) rfl (y_move rfl) ?_
  refine s_y (v := .int .i64 ((n : Nat) : Int)) rfl (y_len T71.sl_24_56_1 rfl rfl) ?_
  refine s_k rfl (k_mkO (k := kF) (z0 := 0) T71.slt_24 ⟨0, rfl, can_zero⟩ rfl rfl (by omega) (by omega) (by omega) (fun b1 w2 hN3 => ?_))
  replace B := B.new1 hN3
  clear hN3
  refine s_y (v := .slice (some ⟨b1, 0, none⟩) ((((n : Nat) : Int)).toNat) ((((n : Nat) : Int)).toNat)) rfl (y_assign rfl) ?_
  refine s_nil ?_
  refine W_seq ?_
  refine W_seq ?_
  refine W_region (by kernel_rfl) ?_
  refine s_y (v := .int .i64 0) rfl (y_assign rfl) ?_
  refine s_nil ?_
  refine W_block ?_
  refine W_loop (fun ρ' w' => ∃ (ρ1 : Env) (k : Int) (zs : List Nat), ρ' = updL ρ1 [(0, .slice a n c), (2, .slice none 0 0), (3, .slice (some ⟨b1, 0, none⟩) ((((n : Nat) : Int)).toNat) ((((n : Nat) : Int)).toNat)), (4, .int .i64 k)] ∧ Bu w no w' [.ow kF (some ⟨b1, 0, none⟩) n n 56 zs, .rd kF a n X] ∧ (0 ≤ k) ∧ (k ≤ (n : Int)) ∧ (zs.length = n) ∧ (∀ i, 0 ≤ i → i < k → el zs i = el X i)) (fun ρ' _ => ((n : Int) - iv (ρ' 4)).toNat) ?_ ?_
  · exact ⟨_, 0, _, Fits.eq ⟨rfl, rfl, rfl, rfl, trivial⟩, B, (Int.le_refl _), (by omega), (by simp), (by intro i h0 h1; omega)⟩
  · clear B; rintro _ w4 ⟨ρ5, k, zs, rfl, B, h0k, h1k, hz, hq⟩
    refine W_seq ?_
    refine W_seq ?_
    refine W_region (by kernel_rfl) ?_
    refine s_y (v := .int .i64 k) rfl (y_move rfl) ?_
    refine s_y (v := .slice a n c) rfl (y_move rfl) ?_
    refine s_y (v := .int .i64 ((n : Nat) : Int)) rfl (y_len T71.sl_24_56_1 rfl rfl) ?_
    by_cases c6 : k < ((n : Nat) : Int)
    · refine s_y (v := .bool true) rfl (y_lss rfl rfl (decide_eq_true c6)) ?_
      refine s_nil ?_
      refine W_if_t (by decide) rfl ?_
      refine W_skip ?_
      refine W_seq ?_
      refine W_block ?_
      refine W_region (by kernel_rfl) ?_
      refine s_y (v := .slice (some ⟨b1, 0, none⟩) ((((n : Nat) : Int)).toNat) ((((n : Nat) : Int)).toNat)) rfl (y_move rfl) ?_
      refine s_y (v := .int .i64 k) rfl (y_move rfl) ?_
      refine s_y (v := .slice a n c) rfl (y_move rfl) ?_
      refine s_y (v := .int .i64 k) rfl (y_move rfl) ?_
      refine s_y (v := .pointer (some (sat a ((k).toNat * 1)))) rfl (y_idx T71.sl_24_56_1 rfl rfl ((B.r 1 rfl).addr (by omega)) (by omega) (by omega)) ?_
      obtain ⟨r8, hr9, hR7⟩ := Rd.atF (B.r 1 rfl) k (by omega) (by omega)
      refine s_y (v := .float .f32 r8) rfl (y_load T71.one_56 rfl (hR7.cell (i := 0) rfl)) ?_
      refine s_y (v := .pointer (some (sat (some ⟨b1, 0, none⟩) ((k).toNat * 1)))) rfl (y_idx T71.sl_24_56_1 rfl rfl ((B.o 0 rfl).rd.addr (by omega)) (by omega) (by omega)) ?_
      refine s_k0 rfl (k_stO (k := kF) (i := k) (j := 0) (x' := el X k) (new := [.float .f32 r8]) T71.sz_56_1 rfl rfl rfl rfl rfl (by simp [Value.oneCell']) (by decide) (B.o 0 rfl) (by omega) (by omega) (by decide) (by rintro q ⟨_, rfl, _⟩; exact ⟨_, rfl, hr9⟩) (fun w10 hU11 => ?_))
      replace B : Bu w no w10 [.ow kF (some ⟨b1, 0, none⟩) n n 56 (put zs k (el X k)), .rd kF a n X] := B.upd [0] rfl hU11
      clear hU11
      refine s_nil ?_
      refine W_region (by kernel_rfl) ?_
      refine s_y (v := .int .i64 k) rfl (y_move rfl) ?_
      refine s_y (v := .int .i64 (k + 1)) rfl (y_add rfl rfl rfl (by omega)) ?_
      refine s_y (v := .int .i64 (k + 1)) rfl (y_assign rfl) ?_
      refine s_nil ?_
      refine ⟨⟨_, k + 1, _, Fits.eq ⟨rfl, rfl, rfl, rfl, trivial⟩, B, (by omega), (by omega), ((put_length ..).trans hz), (el_same (by omega) (by omega) (by omega) hq)⟩, ?_⟩
      show ((n : Int) - (k + 1)).toNat < ((n : Int) - k).toNat
      omega
    · refine s_y (v := .bool false) rfl (y_lss rfl rfl (decide_eq_false c6)) ?_
      refine s_nil ?_
      refine W_if_f (by decide) rfl ?_
      refine W_exit ?_
      refine W_seq ?_
      refine W_region (by kernel_rfl) ?_
      refine s_y (v := .slice (some ⟨b1, 0, none⟩) ((((n : Nat) : Int)).toNat) ((((n : Nat) : Int)).toNat)) rfl (y_move rfl) ?_
      refine s_y (v := .slice (some ⟨b1, 0, none⟩) ((((n : Nat) : Int)).toNat) ((((n : Nat) : Int)).toNat)) rfl (y_assign rfl) ?_
      refine s_nil ?_
      refine W_ret ?_
      refine ret1 (v := .slice (some ⟨b1, 0, none⟩) ((((n : Nat) : Int)).toNat) ((((n : Nat) : Int)).toNat)) rfl rfl rfl ⟨_, rfl, ?_⟩
      obtain rfl : zs = X := ext_el (by omega) (fun i h0 h1 => hq i h0 (by omega))
      exact ⟨_, _, rfl, B.give [0] rfl rfl rfl⟩
namespace T23
theorem mx : Try.prog.follows .mixedOrders = true := by kernel_rfl
theorem agg_26_5 : aggB Try.prog 26 5 = true := by kernel_rfl
theorem fld_26_0_0 : fldB Try.prog 26 0 0 = true := by kernel_rfl
theorem fld_26_1_1 : fldB Try.prog 26 1 1 = true := by kernel_rfl
theorem fld_26_2_2 : fldB Try.prog 26 2 2 = true := by kernel_rfl
theorem fld_26_3_3 : fldB Try.prog 26 3 3 = true := by kernel_rfl
theorem fld_26_4_4 : fldB Try.prog 26 4 4 = true := by kernel_rfl
theorem fld_36_0_0 : fldB Try.prog 36 0 0 = true := by kernel_rfl
theorem fld_36_1_1 : fldB Try.prog 36 1 1 = true := by kernel_rfl
theorem fld_36_2_2 : fldB Try.prog 36 2 2 = true := by kernel_rfl
theorem fld_36_3_3 : fldB Try.prog 36 3 3 = true := by kernel_rfl
theorem fld_36_4_4 : fldB Try.prog 36 4 4 = true := by kernel_rfl
theorem fn_71 : fnB Try.prog 71 = true := by kernel_rfl
theorem one_2 : oneB Try.prog 2 = true := by kernel_rfl
theorem one_24 : oneB Try.prog 24 = true := by kernel_rfl
theorem one_4 : oneB Try.prog 4 = true := by kernel_rfl
theorem sz_2_1 : szB Try.prog 2 1 = true := by kernel_rfl
theorem sz_24_1 : szB Try.prog 24 1 = true := by kernel_rfl
theorem sz_26_5 : szB Try.prog 26 5 = true := by kernel_rfl
theorem sz_4_1 : szB Try.prog 4 1 = true := by kernel_rfl
theorem zero_26 : zeroB Try.prog 26 (.agg #[.int .i64 0, .int .i64 0, .bool false, .slice none 0 0, .slice none 0 0]) := by unfold zeroB; kernel_rfl
end T23
set_option maxRecDepth 100000 in
set_option maxHeartbeats 4000000 in
theorem c_l_toSheet {wd : Int} {hi : Int} {wr : Bool} {asp : Option Addr} {nsp : Nat} {csp : Nat} {Xsp : List Nat} {als : Option Addr} {nls : Nat} {cls : Nat} {Xls : List Nat} {w : World} (qsp : Rd w kF asp nsp Xsp) (qls : Rd w kF als nls Xls) (b1 : nsp ≤ 1048576) (b2 : nls ≤ 1048576) :
    Calls Try.prog 23 #[.agg #[.int .i64 wd, .int .i64 hi, .bool wr, .slice asp nsp csp, .slice als nls cls]] w (Rt fun v w' => ∃ (a1 : Option Addr) (c1 : Nat) (a2 : Option Addr) (c2 : Nat), v = .agg #[.int .i64 wd, .int .i64 hi, .bool wr, .slice a1 nsp c1, .slice a2 nls c2] ∧ New w w' [.ow kF a1 nsp c1 56 Xsp, .ow kF a2 nls c2 56 Xls]) := by
  have hlsp := qsp.len
  have hlls := qls.len
  have B : Bu w no w [.rd kF asp nsp Xsp, .rd kF als nls Xls] := Bu.ro (All.cons qsp (All.cons qls All.nil)) rfl
  refine calls_W (n := 22) Try.func23 rfl rfl (Nat.le_of_ble_eq_true rfl) ?_
  refine W_seq ?_
  refine W_region (by kernel_rfl) ?_
  refine s_k rfl (k_boxN (v := .agg #[.int .i64 wd, .int .i64 hi, .bool wr, .slice asp nsp csp, .slice als nls cls]) (cs := [.int .i64 wd, .int .i64 hi, .bool wr, .slice asp nsp csp, .slice als nls cls]) rfl rfl (fun b1 w2 hN3 => ?_))
  replace B := B.new1 hN3
  clear hN3
  refine s_k rfl (k_allocN (z := (.agg #[.int .i64 0, .int .i64 0, .bool false, .slice none 0 0, .slice none 0 0])) (cs := [.int .i64 0, .int .i64 0, .bool false, .slice none 0 0, .slice none 0 0]) T23.zero_26 rfl (fun b4 w5 hN6 => ?_))
  replace B := B.new1 hN6
  clear hN6
  refine s_nil ?_
  refine W_seq ?_
  refine W_region (by kernel_rfl) ?_
  refine s_k rfl (k_allocN (z := (.agg #[.int .i64 0, .int .i64 0, .bool false, .slice none 0 0, .slice none 0 0])) (cs := [.int .i64 0, .int .i64 0, .bool false, .slice none 0 0, .slice none 0 0]) T23.zero_26 rfl (fun b7 w8 hN9 => ?_))
  replace B := B.new1 hN9
  clear hN9
  refine s_nil ?_
  refine W_seq ?_
  refine W_region (by kernel_rfl) ?_
  refine s_y (v := .pointer (some ⟨b1, 0, none⟩)) rfl (y_fld (o := 0) T23.fld_36_0_0 rfl) ?_
  refine s_y (v := .int .i64 wd) rfl (y_load T23.one_2 rfl ((B.b 2 rfl).cell (j := 0) rfl)) ?_
  refine s_y (v := .pointer (some ⟨b7, 0, none⟩)) rfl (y_fld (o := 0) T23.fld_26_0_0 rfl) ?_
  refine s_k0 rfl (k_stB (v := .int .i64 wd) (n := 1) (cs' := [.int .i64 wd, .int .i64 0, .bool false, .slice none 0 0, .slice none 0 0]) T23.sz_2_1 rfl rfl rfl (B.b 0 rfl) (by simp [Value.cells, Value.oneCell']) (Nat.le_of_ble_eq_true rfl) rfl (fun w10 hU11 => ?_))
  replace B : Bu w no w10 [.blk b7 [.int .i64 wd, .int .i64 0, .bool false, .slice none 0 0, .slice none 0 0] 26, .blk b4 [.int .i64 0, .int .i64 0, .bool false, .slice none 0 0, .slice none 0 0] 26, .blk b1 [.int .i64 wd, .int .i64 hi, .bool wr, .slice asp nsp csp, .slice als nls cls] 36, .rd kF asp nsp Xsp, .rd kF als nls Xls] := B.upd [0] rfl hU11
  clear hU11
  refine s_nil ?_
  refine W_seq ?_
  refine W_region (by kernel_rfl) ?_
  refine s_y (v := .pointer (some ⟨b1, 1, none⟩)) rfl (y_fld (o := 0) T23.fld_36_1_1 rfl) ?_
  refine s_y (v := .int .i64 hi) rfl (y_load T23.one_2 rfl ((B.b 2 rfl).cell (j := 1) rfl)) ?_
  refine s_y (v := .pointer (some ⟨b7, 1, none⟩)) rfl (y_fld (o := 0) T23.fld_26_1_1 rfl) ?_
  refine s_k0 rfl (k_stB (v := .int .i64 hi) (n := 1) (cs' := [.int .i64 wd, .int .i64 hi, .bool false, .slice none 0 0, .slice none 0 0]) T23.sz_2_1 rfl rfl rfl (B.b 0 rfl) (by simp [Value.cells, Value.oneCell']) (Nat.le_of_ble_eq_true rfl) rfl (fun w12 hU13 => ?_))
  replace B : Bu w no w12 [.blk b7 [.int .i64 wd, .int .i64 hi, .bool false, .slice none 0 0, .slice none 0 0] 26, .blk b4 [.int .i64 0, .int .i64 0, .bool false, .slice none 0 0, .slice none 0 0] 26, .blk b1 [.int .i64 wd, .int .i64 hi, .bool wr, .slice asp nsp csp, .slice als nls cls] 36, .rd kF asp nsp Xsp, .rd kF als nls Xls] := B.upd [0] rfl hU13
  clear hU13
  refine s_nil ?_
  refine W_seq ?_
  refine W_region (by kernel_rfl) ?_
  refine s_y (v := .pointer (some ⟨b1, 2, none⟩)) rfl (y_fld (o := 0) T23.fld_36_2_2 rfl) ?_
  refine s_y (v := .bool wr) rfl (y_load T23.one_4 rfl ((B.b 2 rfl).cell (j := 2) rfl)) ?_
  refine s_y (v := .pointer (some ⟨b7, 2, none⟩)) rfl (y_fld (o := 0) T23.fld_26_2_2 rfl) ?_
  refine s_k0 rfl (k_stB (v := .bool wr) (n := 1) (cs' := [.int .i64 wd, .int .i64 hi, .bool wr, .slice none 0 0, .slice none 0 0]) T23.sz_4_1 rfl rfl rfl (B.b 0 rfl) (by simp [Value.cells, Value.oneCell']) (Nat.le_of_ble_eq_true rfl) rfl (fun w14 hU15 => ?_))
  replace B : Bu w no w14 [.blk b7 [.int .i64 wd, .int .i64 hi, .bool wr, .slice none 0 0, .slice none 0 0] 26, .blk b4 [.int .i64 0, .int .i64 0, .bool false, .slice none 0 0, .slice none 0 0] 26, .blk b1 [.int .i64 wd, .int .i64 hi, .bool wr, .slice asp nsp csp, .slice als nls cls] 36, .rd kF asp nsp Xsp, .rd kF als nls Xls] := B.upd [0] rfl hU15
  clear hU15
  refine s_nil ?_
  refine W_seq ?_
  refine W_region (by kernel_rfl) ?_
  refine s_y (v := .pointer (some ⟨b1, 3, none⟩)) rfl (y_fld (o := 0) T23.fld_36_3_3 rfl) ?_
  refine s_y (v := .slice asp nsp csp) rfl (y_load T23.one_24 rfl ((B.b 2 rfl).cell (j := 3) rfl)) ?_
  refine s_k rfl (k_call T23.fn_71 (c_l_toFloat32S (B.r 3 rfl) (by omega)) rfl ?_)
  rintro _ w16 ⟨a17, c18, rfl, hN19⟩
  replace B := B.new1 hN19
  clear hN19
  refine s_y (v := .pointer (some ⟨b7, 3, none⟩)) rfl (y_fld (o := 0) T23.fld_26_3_3 rfl) ?_
  refine s_k0 rfl (k_stB (v := .slice a17 nsp c18) (n := 1) (cs' := [.int .i64 wd, .int .i64 hi, .bool wr, .slice a17 nsp c18, .slice none 0 0]) T23.sz_24_1 rfl rfl rfl (B.b 1 rfl) (by simp [Value.cells, Value.oneCell']) (Nat.le_of_ble_eq_true rfl) rfl (fun w20 hU21 => ?_))
  replace B : Bu w no w20 [.blk b7 [.int .i64 wd, .int .i64 hi, .bool wr, .slice a17 nsp c18, .slice none 0 0] 26, .ow kF a17 nsp c18 56 Xsp, .blk b4 [.int .i64 0, .int .i64 0, .bool false, .slice none 0 0, .slice none 0 0] 26, .blk b1 [.int .i64 wd, .int .i64 hi, .bool wr, .slice asp nsp csp, .slice als nls cls] 36, .rd kF asp nsp Xsp, .rd kF als nls Xls] := B.upd [1] rfl hU21
  clear hU21
  refine s_nil ?_
  refine W_seq ?_
  refine W_region (by kernel_rfl) ?_
  refine s_y (v := .pointer (some ⟨b1, 4, none⟩)) rfl (y_fld (o := 0) T23.fld_36_4_4 rfl) ?_
  refine s_y (v := .slice als nls cls) rfl (y_load T23.one_24 rfl ((B.b 3 rfl).cell (j := 4) rfl)) ?_
  refine s_k rfl (k_call T23.fn_71 (c_l_toFloat32S (B.r 5 rfl) (by omega)) rfl ?_)
  rintro _ w22 ⟨a23, c24, rfl, hN25⟩
  replace B := B.new1 hN25
  clear hN25
  refine s_y (v := .pointer (some ⟨b7, 4, none⟩)) rfl (y_fld (o := 0) T23.fld_26_4_4 rfl) ?_
  refine s_k0 rfl (k_stB (v := .slice a23 nls c24) (n := 1) (cs' := [.int .i64 wd, .int .i64 hi, .bool wr, .slice a17 nsp c18, .slice a23 nls c24]) T23.sz_24_1 rfl rfl rfl (B.b 1 rfl) (by simp [Value.cells, Value.oneCell']) (Nat.le_of_ble_eq_true rfl) rfl (fun w26 hU27 => ?_))
  replace B : Bu w no w26 [.blk b7 [.int .i64 wd, .int .i64 hi, .bool wr, .slice a17 nsp c18, .slice a23 nls c24] 26, .ow kF a23 nls c24 56 Xls, .ow kF a17 nsp c18 56 Xsp, .blk b4 [.int .i64 0, .int .i64 0, .bool false, .slice none 0 0, .slice none 0 0] 26, .blk b1 [.int .i64 wd, .int .i64 hi, .bool wr, .slice asp nsp csp, .slice als nls cls] 36, .rd kF asp nsp Xsp, .rd kF als nls Xls] := B.upd [1] rfl hU27
  clear hU27
  refine s_nil ?_
  refine W_seq ?_
  refine W_region (by kernel_rfl) ?_
  refine s_y (v := .agg #[.int .i64 wd, .int .i64 hi, .bool wr, .slice a17 nsp c18, .slice a23 nls c24]) rfl (y_loadn (b := b7) (o := 0) (vs := [.int .i64 wd, .int .i64 hi, .bool wr, .slice a17 nsp c18, .slice a23 nls c24]) T23.agg_26_5 rfl rfl ((B.b 0 rfl).cells (o := 0) rfl)) ?_
  refine s_k0 rfl (k_stB (v := .agg #[.int .i64 wd, .int .i64 hi, .bool wr, .slice a17 nsp c18, .slice a23 nls c24]) (n := 5) (cs' := [.int .i64 wd, .int .i64 hi, .bool wr, .slice a17 nsp c18, .slice a23 nls c24]) T23.sz_26_5 rfl rfl rfl (B.b 3 rfl) (by simp [Value.cells, Value.oneCell']) (Nat.le_of_ble_eq_true rfl) rfl (fun w28 hU29 => ?_))
  replace B : Bu w no w28 [.blk b4 [.int .i64 wd, .int .i64 hi, .bool wr, .slice a17 nsp c18, .slice a23 nls c24] 26, .blk b7 [.int .i64 wd, .int .i64 hi, .bool wr, .slice a17 nsp c18, .slice a23 nls c24] 26, .ow kF a23 nls c24 56 Xls, .ow kF a17 nsp c18 56 Xsp, .blk b1 [.int .i64 wd, .int .i64 hi, .bool wr, .slice asp nsp csp, .slice als nls cls] 36, .rd kF asp nsp Xsp, .rd kF als nls Xls] := B.upd [3] rfl hU29
  clear hU29
  refine s_nil ?_
  refine W_ret ?_
  refine ret1 (v := .agg #[.int .i64 wd, .int .i64 hi, .bool wr, .slice a17 nsp c18, .slice a23 nls c24]) rfl rfl ⟨_, [.int .i64 wd, .int .i64 hi, .bool wr, .slice a17 nsp c18, .slice a23 nls c24], _, rfl, (B.b 0 rfl), T23.agg_26_5, rfl⟩ ⟨_, rfl, ?_⟩
  exact ⟨_, _, _, _, rfl, B.give [3, 2] rfl rfl rfl⟩
namespace T31
theorem mx : Try.prog.follows .mixedOrders = true := by kernel_rfl
theorem agg_49_3 : aggB Try.prog 49 3 = true := by kernel_rfl
theorem fld_45_0_0 : fldB Try.prog 45 0 0 = true := by kernel_rfl
theorem fld_45_1_1 : fldB Try.prog 45 1 1 = true := by kernel_rfl
theorem fld_45_2_2 : fldB Try.prog 45 2 2 = true := by kernel_rfl
theorem fld_49_0_0 : fldB Try.prog 49 0 0 = true := by kernel_rfl
theorem fld_49_1_1 : fldB Try.prog 49 1 1 = true := by kernel_rfl
theorem fld_49_2_2 : fldB Try.prog 49 2 2 = true := by kernel_rfl
theorem fn_71 : fnB Try.prog 71 = true := by kernel_rfl
theorem one_24 : oneB Try.prog 24 = true := by kernel_rfl
theorem sz_24_1 : szB Try.prog 24 1 = true := by kernel_rfl
theorem sz_49_3 : szB Try.prog 49 3 = true := by kernel_rfl
theorem zero_49 : zeroB Try.prog 49 (.agg #[.slice none 0 0, .slice none 0 0, .slice none 0 0]) := by unfold zeroB; kernel_rfl
end T31
set_option maxRecDepth 100000 in
set_option maxHeartbeats 4000000 in
theorem c_l_toField {afe : Option Addr} {nfe : Nat} {cfe : Nat} {Xfe : List Nat} {afx : Option Addr} {nfx : Nat} {cfx : Nat} {Xfx : List Nat} {afy : Option Addr} {nfy : Nat} {cfy : Nat} {Xfy : List Nat} {w : World} (qfe : Rd w kF afe nfe Xfe) (qfx : Rd w kF afx nfx Xfx) (qfy : Rd w kF afy nfy Xfy) (b1 : nfe ≤ 1048576) (b2 : nfx ≤ 1048576) (b3 : nfy ≤ 1048576) :
    Calls Try.prog 31 #[.agg #[.slice afe nfe cfe, .slice afx nfx cfx, .slice afy nfy cfy]] w (Rt fun v w' => ∃ (a1 : Option Addr) (c1 : Nat) (a2 : Option Addr) (c2 : Nat) (a3 : Option Addr) (c3 : Nat), v = .agg #[.slice a1 nfe c1, .slice a2 nfx c2, .slice a3 nfy c3] ∧ New w w' [.ow kF a1 nfe c1 56 Xfe, .ow kF a2 nfx c2 56 Xfx, .ow kF a3 nfy c3 56 Xfy]) := by
  have hlfe := qfe.len
  have hlfx := qfx.len
  have hlfy := qfy.len
  have B : Bu w no w [.rd kF afe nfe Xfe, .rd kF afx nfx Xfx, .rd kF afy nfy Xfy] := Bu.ro (All.cons qfe (All.cons qfx (All.cons qfy All.nil))) rfl
  refine calls_W (n := 17) Try.func31 rfl rfl (Nat.le_of_ble_eq_true rfl) ?_
  refine W_seq ?_
  refine W_region (by kernel_rfl) ?_
  refine s_k rfl (k_boxN (v := .agg #[.slice afe nfe cfe, .slice afx nfx cfx, .slice afy nfy cfy]) (cs := [.slice afe nfe cfe, .slice afx nfx cfx, .slice afy nfy cfy]) rfl rfl (fun b1 w2 hN3 => ?_))
  replace B := B.new1 hN3
  clear hN3
  refine s_k rfl (k_allocN (z := (.agg #[.slice none 0 0, .slice none 0 0, .slice none 0 0])) (cs := [.slice none 0 0, .slice none 0 0, .slice none 0 0]) T31.zero_49 rfl (fun b4 w5 hN6 => ?_))
  replace B := B.new1 hN6
  clear hN6
  refine s_nil ?_
  refine W_seq ?_
  refine W_region (by kernel_rfl) ?_
  refine s_k rfl (k_allocN (z := (.agg #[.slice none 0 0, .slice none 0 0, .slice none 0 0])) (cs := [.slice none 0 0, .slice none 0 0, .slice none 0 0]) T31.zero_49 rfl (fun b7 w8 hN9 => ?_))
  replace B := B.new1 hN9
  clear hN9
  refine s_nil ?_
  refine W_seq ?_
  refine W_region (by kernel_rfl) ?_
  refine s_y (v := .pointer (some ⟨b1, 0, none⟩)) rfl (y_fld (o := 0) T31.fld_45_0_0 rfl) ?_
  refine s_y (v := .slice afe nfe cfe) rfl (y_load T31.one_24 rfl ((B.b 2 rfl).cell (j := 0) rfl)) ?_
  refine s_k rfl (k_call T31.fn_71 (c_l_toFloat32S (B.r 3 rfl) (by omega)) rfl ?_)
  rintro _ w10 ⟨a11, c12, rfl, hN13⟩
  replace B := B.new1 hN13
  clear hN13
  refine s_y (v := .pointer (some ⟨b7, 0, none⟩)) rfl (y_fld (o := 0) T31.fld_49_0_0 rfl) ?_
  refine s_k0 rfl (k_stB (v := .slice a11 nfe c12) (n := 1) (cs' := [.slice a11 nfe c12, .slice none 0 0, .slice none 0 0]) T31.sz_24_1 rfl rfl rfl (B.b 1 rfl) (by simp [Value.cells, Value.oneCell']) (Nat.le_of_ble_eq_true rfl) rfl (fun w14 hU15 => ?_))
  replace B : Bu w no w14 [.blk b7 [.slice a11 nfe c12, .slice none 0 0, .slice none 0 0] 49, .ow kF a11 nfe c12 56 Xfe, .blk b4 [.slice none 0 0, .slice none 0 0, .slice none 0 0] 49, .blk b1 [.slice afe nfe cfe, .slice afx nfx cfx, .slice afy nfy cfy] 45, .rd kF afe nfe Xfe, .rd kF afx nfx Xfx, .rd kF afy nfy Xfy] := B.upd [1] rfl hU15
  clear hU15
  refine s_nil ?_
  refine W_seq ?_
  refine W_region (by kernel_rfl) ?_
  refine s_y (v := .pointer (some ⟨b1, 1, none⟩)) rfl (y_fld (o := 0) T31.fld_45_1_1 rfl) ?_
  refine s_y (v := .slice afx nfx cfx) rfl (y_load T31.one_24 rfl ((B.b 3 rfl).cell (j := 1) rfl)) ?_
  refine s_k rfl (k_call T31.fn_71 (c_l_toFloat32S (B.r 5 rfl) (by omega)) rfl ?_)
  rintro _ w16 ⟨a17, c18, rfl, hN19⟩
  replace B := B.new1 hN19
  clear hN19
  refine s_y (v := .pointer (some ⟨b7, 1, none⟩)) rfl (y_fld (o := 0) T31.fld_49_1_1 rfl) ?_
  refine s_k0 rfl (k_stB (v := .slice a17 nfx c18) (n := 1) (cs' := [.slice a11 nfe c12, .slice a17 nfx c18, .slice none 0 0]) T31.sz_24_1 rfl rfl rfl (B.b 1 rfl) (by simp [Value.cells, Value.oneCell']) (Nat.le_of_ble_eq_true rfl) rfl (fun w20 hU21 => ?_))
  replace B : Bu w no w20 [.blk b7 [.slice a11 nfe c12, .slice a17 nfx c18, .slice none 0 0] 49, .ow kF a17 nfx c18 56 Xfx, .ow kF a11 nfe c12 56 Xfe, .blk b4 [.slice none 0 0, .slice none 0 0, .slice none 0 0] 49, .blk b1 [.slice afe nfe cfe, .slice afx nfx cfx, .slice afy nfy cfy] 45, .rd kF afe nfe Xfe, .rd kF afx nfx Xfx, .rd kF afy nfy Xfy] := B.upd [1] rfl hU21
  clear hU21
  refine s_nil ?_
  refine W_seq ?_
  refine W_region (by kernel_rfl) ?_
  refine s_y (v := .pointer (some ⟨b1, 2, none⟩)) rfl (y_fld (o := 0) T31.fld_45_2_2 rfl) ?_
  refine s_y (v := .slice afy nfy cfy) rfl (y_load T31.one_24 rfl ((B.b 4 rfl).cell (j := 2) rfl)) ?_
  refine s_k rfl (k_call T31.fn_71 (c_l_toFloat32S (B.r 7 rfl) (by omega)) rfl ?_)
  rintro _ w22 ⟨a23, c24, rfl, hN25⟩
  replace B := B.new1 hN25
  clear hN25
  refine s_y (v := .pointer (some ⟨b7, 2, none⟩)) rfl (y_fld (o := 0) T31.fld_49_2_2 rfl) ?_
  refine s_k0 rfl (k_stB (v := .slice a23 nfy c24) (n := 1) (cs' := [.slice a11 nfe c12, .slice a17 nfx c18, .slice a23 nfy c24]) T31.sz_24_1 rfl rfl rfl (B.b 1 rfl) (by simp [Value.cells, Value.oneCell']) (Nat.le_of_ble_eq_true rfl) rfl (fun w26 hU27 => ?_))
  replace B : Bu w no w26 [.blk b7 [.slice a11 nfe c12, .slice a17 nfx c18, .slice a23 nfy c24] 49, .ow kF a23 nfy c24 56 Xfy, .ow kF a17 nfx c18 56 Xfx, .ow kF a11 nfe c12 56 Xfe, .blk b4 [.slice none 0 0, .slice none 0 0, .slice none 0 0] 49, .blk b1 [.slice afe nfe cfe, .slice afx nfx cfx, .slice afy nfy cfy] 45, .rd kF afe nfe Xfe, .rd kF afx nfx Xfx, .rd kF afy nfy Xfy] := B.upd [1] rfl hU27
  clear hU27
  refine s_nil ?_
  refine W_seq ?_
  refine W_region (by kernel_rfl) ?_
  refine s_y (v := .agg #[.slice a11 nfe c12, .slice a17 nfx c18, .slice a23 nfy c24]) rfl (y_loadn (b := b7) (o := 0) (vs := [.slice a11 nfe c12, .slice a17 nfx c18, .slice a23 nfy c24]) T31.agg_49_3 rfl rfl ((B.b 0 rfl).cells (o := 0) rfl)) ?_
  refine s_k0 rfl (k_stB (v := .agg #[.slice a11 nfe c12, .slice a17 nfx c18, .slice a23 nfy c24]) (n := 3) (cs' := [.slice a11 nfe c12, .slice a17 nfx c18, .slice a23 nfy c24]) T31.sz_49_3 rfl rfl rfl (B.b 4 rfl) (by simp [Value.cells, Value.oneCell']) (Nat.le_of_ble_eq_true rfl) rfl (fun w28 hU29 => ?_))
  replace B : Bu w no w28 [.blk b4 [.slice a11 nfe c12, .slice a17 nfx c18, .slice a23 nfy c24] 49, .blk b7 [.slice a11 nfe c12, .slice a17 nfx c18, .slice a23 nfy c24] 49, .ow kF a23 nfy c24 56 Xfy, .ow kF a17 nfx c18 56 Xfx, .ow kF a11 nfe c12 56 Xfe, .blk b1 [.slice afe nfe cfe, .slice afx nfx cfx, .slice afy nfy cfy] 45, .rd kF afe nfe Xfe, .rd kF afx nfx Xfx, .rd kF afy nfy Xfy] := B.upd [4] rfl hU29
  clear hU29
  refine s_nil ?_
  refine W_ret ?_
  refine ret1 (v := .agg #[.slice a11 nfe c12, .slice a17 nfx c18, .slice a23 nfy c24]) rfl rfl ⟨_, [.slice a11 nfe c12, .slice a17 nfx c18, .slice a23 nfy c24], _, rfl, (B.b 0 rfl), T31.agg_49_3, rfl⟩ ⟨_, rfl, ?_⟩
  exact ⟨_, _, _, _, _, _, rfl, B.give [4, 3, 2] rfl rfl rfl⟩
namespace T40
theorem mx : Try.prog.follows .mixedOrders = true := by kernel_rfl
theorem bool_4 : Try.prog.underlying 4 = some .bool := by kernel_rfl
end T40
set_option maxRecDepth 100000 in
set_option maxHeartbeats 4000000 in
theorem c_l_sameFloat {a : Nat} {A : Nat} {b : Nat} {w : World} (ha : can .f64 a = A) (hb : can .f64 b = A) :
    Calls Try.prog 40 #[.float .f64 a, .float .f64 b] w (Rt fun v w' => v = .bool true ∧ Ext0 w w') := by
  have B : Bu w no w [] := Bu.ro All.nil rfl
  refine calls_W (n := 37) Try.func40 rfl rfl (Nat.le_of_ble_eq_true rfl) ?_
  refine W_seq ?_
  refine W_region (by kernel_rfl) ?_
  refine s_y (v := .bool false) rfl (y_assign rfl) ?_
  refine s_nil ?_
  refine W_seq ?_
  refine W_seq ?_
  refine W_region (by kernel_rfl) ?_
  refine s_y (v := .float .f64 a) rfl (y_move rfl) ?_
  refine s_y (v := .float .f64 a) rfl (y_move rfl) ?_
  by_cases c1 : fne .f64 A A = true
  · refine s_y (v := .bool true) rfl (y_fneq rfl rfl (fneC ha ha c1)) ?_
    refine s_y (v := .bool true) rfl (y_move rfl) ?_
    refine s_skip rfl ?_
    refine s_skip rfl ?_
    refine s_skip rfl ?_
    refine s_y (v := .bool true) rfl (y_pick_t rfl rfl) ?_
    refine s_nil ?_
    refine W_if_t (by decide) rfl ?_
    refine W_seq ?_
    refine W_region (by kernel_rfl) ?_
    refine s_y (v := .float .f64 a) rfl (y_move rfl) ?_
    refine s_y (v := .float .f64 a) rfl (y_move rfl) ?_
    refine s_y (v := .bool true) rfl (y_fneq rfl rfl (fneC ha ha c1)) ?_
    refine s_y (v := .bool true) rfl (y_move rfl) ?_
    refine s_y (v := .float .f64 b) rfl (y_move rfl) ?_
    refine s_y (v := .float .f64 b) rfl (y_move rfl) ?_
    refine s_y (v := .bool true) rfl (y_fneq rfl rfl (fneC hb hb c1)) ?_
    refine s_y (v := .bool true) rfl (y_pick_t rfl rfl) ?_
    refine s_y (v := .bool true) rfl (y_assign rfl) ?_
    refine s_nil ?_
    refine W_ret ?_
    refine ret1 (v := .bool true) rfl rfl rfl ⟨_, rfl, ?_⟩
    exact ⟨rfl, B.ext⟩
  · refine s_y (v := .bool false) rfl (y_fneq rfl rfl (fneC ha ha (Bool.eq_false_iff.2 c1))) ?_
    refine s_y (v := .bool false) rfl (y_move rfl) ?_
    refine s_y (v := .float .f64 b) rfl (y_move rfl) ?_
    refine s_y (v := .float .f64 b) rfl (y_move rfl) ?_
    refine s_y (v := .bool false) rfl (y_fneq rfl rfl (fneC hb hb (Bool.eq_false_iff.2 c1))) ?_
    refine s_y (v := .bool false) rfl (y_pick_f rfl rfl) ?_
    refine s_nil ?_
    refine W_if_f (by decide) rfl ?_
    refine W_skip ?_
    refine W_seq ?_
    refine W_seq ?_
    refine W_region (by kernel_rfl) ?_
    refine s_y (v := .float .f64 a) rfl (y_move rfl) ?_
    by_cases c2 : feq .f64 A 0 = true
    · refine s_y (v := .bool true) rfl (y_feql rfl rfl (feqC ha (show can .f64 0 = 0 by kernel_rfl) c2)) ?_
      refine s_y (v := .bool true) rfl (y_move rfl) ?_
      refine s_y (v := .float .f64 b) rfl (y_move rfl) ?_
      refine s_y (v := .bool true) rfl (y_feql rfl rfl (feqC hb (show can .f64 0 = 0 by kernel_rfl) c2)) ?_
      refine s_y (v := .bool true) rfl (y_pick_t rfl rfl) ?_
      refine s_nil ?_
      refine W_if_t (by decide) rfl ?_
      refine W_seq ?_
      refine W_region (by kernel_rfl) ?_
      refine s_y (v := .float .f64 a) rfl (y_move rfl) ?_
      refine s_n rfl (n_arith (by decide) rfl rfl) ?_
      rintro _ w6 e7 ⟨r4, rfl, hr5⟩
      replace B := B.ext0 e7
      clear e7
      have hc8 := fopC hr5 (show can .f64 4607182418800017408 = 4607182418800017408 by kernel_rfl) ha
      by_cases c9 : fgt .f64 (fop .quo .f64 4607182418800017408 A) 0 = true
      · refine s_y (v := .bool true) rfl (y_fgtr rfl rfl (fgtC hc8 (show can .f64 0 = 0 by kernel_rfl) c9)) ?_
        refine s_y (v := .float .f64 b) rfl (y_move rfl) ?_
        refine s_n rfl (n_arith (by decide) rfl rfl) ?_
        rintro _ w13 e14 ⟨r11, rfl, hr12⟩
        replace B := B.ext0 e14
        clear e14
        have hc15 := fopC hr12 (show can .f64 4607182418800017408 = 4607182418800017408 by kernel_rfl) hb
        refine s_y (v := .bool true) rfl (y_fgtr rfl rfl (fgtC hc15 (show can .f64 0 = 0 by kernel_rfl) c9)) ?_
        refine s_y (v := .bool true) rfl (y_beql T40.bool_4 rfl rfl rfl) ?_
        refine s_y (v := .bool true) rfl (y_assign rfl) ?_
        refine s_nil ?_
        refine W_ret ?_
        refine ret1 (v := .bool true) rfl rfl rfl ⟨_, rfl, ?_⟩
        exact ⟨rfl, B.ext⟩
      · refine s_y (v := .bool false) rfl (y_fgtr rfl rfl (fgtC hc8 (show can .f64 0 = 0 by kernel_rfl) (Bool.eq_false_iff.2 c9))) ?_
        refine s_y (v := .float .f64 b) rfl (y_move rfl) ?_
        refine s_n rfl (n_arith (by decide) rfl rfl) ?_
        rintro _ w19 e20 ⟨r17, rfl, hr18⟩
        replace B := B.ext0 e20
        clear e20
        have hc21 := fopC hr18 (show can .f64 4607182418800017408 = 4607182418800017408 by kernel_rfl) hb
        refine s_y (v := .bool false) rfl (y_fgtr rfl rfl (fgtC hc21 (show can .f64 0 = 0 by kernel_rfl) (Bool.eq_false_iff.2 c9))) ?_
        refine s_y (v := .bool true) rfl (y_beql T40.bool_4 rfl rfl rfl) ?_
        refine s_y (v := .bool true) rfl (y_assign rfl) ?_
        refine s_nil ?_
        refine W_ret ?_
        refine ret1 (v := .bool true) rfl rfl rfl ⟨_, rfl, ?_⟩
        exact ⟨rfl, B.ext⟩
    · refine s_y (v := .bool false) rfl (y_feql rfl rfl (feqC ha (show can .f64 0 = 0 by kernel_rfl) (Bool.eq_false_iff.2 c2))) ?_
      refine s_y (v := .bool false) rfl (y_move rfl) ?_
      refine s_skip rfl ?_
      refine s_skip rfl ?_
      refine s_y (v := .bool false) rfl (y_pick_f rfl rfl) ?_
      refine s_nil ?_
      refine W_if_f (by decide) rfl ?_
      refine W_skip ?_
      refine W_seq ?_
      refine W_region (by kernel_rfl) ?_
      refine s_y (v := .float .f64 a) rfl (y_move rfl) ?_
      refine s_y (v := .float .f64 b) rfl (y_move rfl) ?_
      by_cases c22 : feq .f64 A A = true
      · refine s_y (v := .bool true) rfl (y_feql rfl rfl (feqC ha hb c22)) ?_
        refine s_y (v := .bool true) rfl (y_assign rfl) ?_
        refine s_nil ?_
        refine W_ret ?_
        refine ret1 (v := .bool true) rfl rfl rfl ⟨_, rfl, ?_⟩
        exact ⟨rfl, B.ext⟩
      · refine s_y (v := .bool false) rfl (y_feql rfl rfl (feqC ha hb (Bool.eq_false_iff.2 c22))) ?_
        refine s_y (v := .bool false) rfl (y_assign rfl) ?_
        refine s_nil ?_
        refine W_ret ?_
        refine ret1 (v := .bool false) rfl rfl rfl ⟨_, rfl, ?_⟩
        exfalso; simp_all [fne, feq]
namespace T33
theorem mx : Try.prog.follows .mixedOrders = true := by kernel_rfl
theorem flt_60_f64 : Try.prog.underlying 60 = some (.float .f64) := by kernel_rfl
theorem fn_40 : fnB Try.prog 40 = true := by kernel_rfl
theorem one_56 : oneB Try.prog 56 = true := by kernel_rfl
theorem sl_24_56_1 : slB Try.prog 24 56 1 = true := by kernel_rfl
theorem und_56 : (Try.prog.underlying 56).isSome = true := by kernel_rfl
end T33
set_option maxRecDepth 100000 in
set_option maxHeartbeats 4000000 in
theorem c_l_eqFloat32S {a : Option Addr} {n : Nat} {c : Nat} {X : List Nat} {a2 : Option Addr} {n2 : Nat} {c2 : Nat} {w : World} (q : Rd w kF a n X) (q2 : Rd w kF a2 n2 X) (hb : n ≤ 9223372036854775806) :
    Calls Try.prog 33 #[.slice a n c, .slice a2 n2 c2] w (Rt fun v w' => v = .bool true ∧ Ext0 w w') := by
  have hl := q.len
  have hl2 := q2.len
  have B : Bu w no w [.rd kF a n X, .rd kF a2 n2 X] := Bu.ro (All.cons q (All.cons q2 All.nil)) rfl
  refine calls_W (n := 29) Try.func33 rfl rfl (Nat.le_of_ble_eq_true rfl) ?_
  refine W_seq ?_
  refine W_region (by kernel_rfl) ?_
  refine s_y (v := .bool false) rfl (y_assign rfl) ?_
  refine s_nil ?_
  refine W_seq ?_
  refine W_seq ?_
  refine W_region (by kernel_rfl) ?_
  refine s_y (v := .slice a n c) rfl (y_move rfl) ?_
  refine s_y (v := .int .i64 ((n : Nat) : Int)) rfl (y_len T33.sl_24_56_1 rfl rfl) ?_
  refine s_y (v := .slice a2 n2 c2) rfl (y_move rfl) ?_
  refine s_y (v := .int .i64 ((n2 : Nat) : Int)) rfl (y_len T33.sl_24_56_1 rfl rfl) ?_
  by_cases c1 : ((n : Nat) : Int) ≠ ((n2 : Nat) : Int)
  · refine s_y (v := .bool true) rfl (y_neq rfl rfl (decide_eq_true c1)) ?_
    refine s_nil ?_
    refine W_if_t (by decide) rfl ?_
    refine W_seq ?_
    refine W_region (by kernel_rfl) ?_
    refine s_y (v := .bool false) rfl (y_assign rfl) ?_
    refine s_nil ?_
    refine W_ret ?_
    refine ret1 (v := .bool false) rfl rfl rfl ⟨_, rfl, ?_⟩
    exfalso; omega
  · refine s_y (v := .bool false) rfl (y_neq rfl rfl (decide_eq_false c1)) ?_
    refine s_nil ?_
    refine W_if_f (by decide) rfl ?_
    refine W_skip ?_
    refine W_seq ?_
    refine W_seq ?_
    refine W_region (by kernel_rfl) ?_
    refine s_y (v := .int .i64 0) rfl (y_assign rfl) ?_
    refine s_nil ?_
    refine W_block ?_
    refine W_loop (fun ρ' w' => ∃ (ρ1 : Env) (k : Int), ρ' = updL ρ1 [(0, .slice a n c), (1, .slice a2 n2 c2), (5, .int .i64 k)] ∧ Bu w no w' [.rd kF a n X, .rd kF a2 n2 X] ∧ (0 ≤ k) ∧ (k ≤ (n : Int))) (fun ρ' _ => ((n : Int) - iv (ρ' 5)).toNat) ?_ ?_
    · exact ⟨_, 0, Fits.eq ⟨rfl, rfl, rfl, trivial⟩, B, (Int.le_refl _), (by omega)⟩
    · clear B; rintro _ w2 ⟨ρ3, k, rfl, B, h0k, h1k⟩
      refine W_seq ?_
      refine W_seq ?_
      refine W_region (by kernel_rfl) ?_
      refine s_y (v := .int .i64 k) rfl (y_move rfl) ?_
      refine s_y (v := .slice a n c) rfl (y_move rfl) ?_
      refine s_y (v := .int .i64 ((n : Nat) : Int)) rfl (y_len T33.sl_24_56_1 rfl rfl) ?_
      by_cases c4 : k < ((n : Nat) : Int)
      · refine s_y (v := .bool true) rfl (y_lss rfl rfl (decide_eq_true c4)) ?_
        refine s_nil ?_
        refine W_if_t (by decide) rfl ?_
        refine W_skip ?_
        refine W_seq ?_
        refine W_block ?_
        refine W_seq ?_
        have B0_9 := B
        refine W_draw (no) T33.mx (by kernel_rfl) (fun w7 e8 => ?_)
        have R10 := Ext.refl (no) w2
        replace R10 := R10.trans (Ext0.any e8)
        replace B := B.ext0 e8
        clear e8
        refine m_y (v := .slice a n c) 0 rfl (by kernel_rfl) rfl rfl (fun w' e' => y_move rfl) ?_
        refine m_y (v := .int .i64 k) 1 rfl (by kernel_rfl) rfl rfl (fun w' e' => y_move rfl) ?_
        refine m_y (v := .pointer (some (sat a ((k).toNat * 1)))) 2 rfl (by kernel_rfl) rfl rfl (fun w' e' => y_idx T33.sl_24_56_1 rfl rfl ((B.r 0 rfl).addr (by omega)) (by omega) (by omega)) ?_
        obtain ⟨r12, hr13, hR11⟩ := Rd.atF (B0_9.r 0 rfl) k (by omega) (by omega)
        refine m_y (v := .float .f32 r12) 3 rfl (by kernel_rfl) rfl rfl (fun w' e' => y_load T33.one_56 rfl ((hR11.ext0 e').cell (i := 0) rfl)) ?_
        refine m_y (v := .slice a2 n2 c2) 5 rfl (by kernel_rfl) rfl rfl (fun w' e' => y_move rfl) ?_
        refine m_y (v := .int .i64 k) 6 rfl (by kernel_rfl) rfl rfl (fun w' e' => y_move rfl) ?_
        refine m_y (v := .pointer (some (sat a2 ((k).toNat * 1)))) 7 rfl (by kernel_rfl) rfl rfl (fun w' e' => y_idx T33.sl_24_56_1 rfl rfl ((B.r 1 rfl).addr (by omega)) (by omega) (by omega)) ?_
        obtain ⟨r15, hr16, hR14⟩ := Rd.atF (B0_9.r 1 rfl) k (by omega) (by omega)
        refine m_y (v := .float .f32 r15) 8 rfl (by kernel_rfl) rfl rfl (fun w' e' => y_load T33.one_56 rfl ((hR14.ext0 e').cell (i := 0) rfl)) ?_
        refine m_n 4 [10, 11] rfl (by kernel_rfl) rfl rfl (fun w' e' => n_wide T33.und_56 T33.flt_60_f64 rfl) ?_
        rintro _ ⟨r17, rfl, hr18⟩
        have hc21 := wideC hr18 hr13
        refine m_n 9 [10, 11] rfl (by kernel_rfl) rfl rfl (fun w' e' => n_wide T33.und_56 T33.flt_60_f64 rfl) ?_
        rintro _ ⟨r22, rfl, hr23⟩
        have hc26 := wideC hr23 hr16
        refine m_k 10 [11] rfl (by kernel_rfl) rfl rfl (fun w27 e28 => ?_)
        replace R10 := R10.trans (Ext0.any e28)
        replace B := B.ext0 e28
        clear e28
        refine k_call T33.fn_40 (c_l_sameFloat hc21 hc26) rfl ?_
        rintro _ w29 ⟨rfl, e30⟩
        replace R10 := R10.trans (Ext0.any e30)
        replace B := B.ext0 e30
        clear e30
        refine ⟨fun _ => R10, ?_⟩
        refine m_y (v := .bool false) 11 rfl (by kernel_rfl) rfl rfl (fun w' e' => y_not rfl rfl) ?_
        refine m_done (by kernel_rfl) (fun w31 e32 => ?_)
        replace B := B.ext0 e32
        clear e32
        clear B0_9 R10
        refine W_if_f (by decide) rfl ?_
        refine W_skip ?_
        refine W_region (by kernel_rfl) ?_
        refine s_y (v := .int .i64 k) rfl (y_move rfl) ?_
        refine s_y (v := .int .i64 (k + 1)) rfl (y_add rfl rfl rfl (by omega)) ?_
        refine s_y (v := .int .i64 (k + 1)) rfl (y_assign rfl) ?_
        refine s_nil ?_
        refine ⟨⟨_, k + 1, Fits.eq ⟨rfl, rfl, rfl, trivial⟩, B, (by omega), (by omega)⟩, ?_⟩
        show ((n : Int) - (k + 1)).toNat < ((n : Int) - k).toNat
        omega
      · refine s_y (v := .bool false) rfl (y_lss rfl rfl (decide_eq_false c4)) ?_
        refine s_nil ?_
        refine W_if_f (by decide) rfl ?_
        refine W_exit ?_
        refine W_seq ?_
        refine W_region (by kernel_rfl) ?_
        refine s_y (v := .bool true) rfl (y_assign rfl) ?_
        refine s_nil ?_
        refine W_ret ?_
        refine ret1 (v := .bool true) rfl rfl rfl ⟨_, rfl, ?_⟩
        exact ⟨rfl, B.ext⟩
namespace T25
theorem mx : Try.prog.follows .mixedOrders = true := by kernel_rfl
theorem bool_4 : Try.prog.underlying 4 = some .bool := by kernel_rfl
theorem fld_26_0_0 : fldB Try.prog 26 0 0 = true := by kernel_rfl
theorem fld_26_1_1 : fldB Try.prog 26 1 1 = true := by kernel_rfl
theorem fld_26_2_2 : fldB Try.prog 26 2 2 = true := by kernel_rfl
theorem fld_26_3_3 : fldB Try.prog 26 3 3 = true := by kernel_rfl
theorem fld_26_4_4 : fldB Try.prog 26 4 4 = true := by kernel_rfl
theorem fn_33 : fnB Try.prog 33 = true := by kernel_rfl
theorem one_2 : oneB Try.prog 2 = true := by kernel_rfl
theorem one_24 : oneB Try.prog 24 = true := by kernel_rfl
theorem one_4 : oneB Try.prog 4 = true := by kernel_rfl
end T25
set_option maxRecDepth 100000 in
set_option maxHeartbeats 4000000 in
theorem c_l_eqSheet {wd : Int} {hi : Int} {wr : Bool} {asp : Option Addr} {nsp : Nat} {csp : Nat} {Xsp : List Nat} {als : Option Addr} {nls : Nat} {cls : Nat} {Xls : List Nat} {asp2 : Option Addr} {nsp2 : Nat} {csp2 : Nat} {als2 : Option Addr} {nls2 : Nat} {cls2 : Nat} {w : World} (qsp : Rd w kF asp nsp Xsp) (qls : Rd w kF als nls Xls) (qsp2 : Rd w kF asp2 nsp2 Xsp) (qls2 : Rd w kF als2 nls2 Xls) (hbnsp : nsp ≤ 9223372036854775806) (hbnls : nls ≤ 9223372036854775806) :
    Calls Try.prog 25 #[.agg #[.int .i64 wd, .int .i64 hi, .bool wr, .slice asp nsp csp, .slice als nls cls], .agg #[.int .i64 wd, .int .i64 hi, .bool wr, .slice asp2 nsp2 csp2, .slice als2 nls2 cls2]] w (Rt fun v w' => v = .bool true ∧ Ext0 w w') := by
  have hlsp := qsp.len
  have hlls := qls.len
  have hlsp2 := qsp2.len
  have hlls2 := qls2.len
  have B : Bu w no w [.rd kF asp nsp Xsp, .rd kF als nls Xls, .rd kF asp2 nsp2 Xsp, .rd kF als2 nls2 Xls] := Bu.ro (All.cons qsp (All.cons qls (All.cons qsp2 (All.cons qls2 All.nil)))) rfl
  refine calls_W (n := 32) Try.func25 rfl rfl (Nat.le_of_ble_eq_true rfl) ?_
  refine W_seq ?_
  refine W_region (by kernel_rfl) ?_
  refine s_k rfl (k_boxN (v := .agg #[.int .i64 wd, .int .i64 hi, .bool wr, .slice asp nsp csp, .slice als nls cls]) (cs := [.int .i64 wd, .int .i64 hi, .bool wr, .slice asp nsp csp, .slice als nls cls]) rfl rfl (fun b1 w2 hN3 => ?_))
  replace B := B.new1 hN3
  clear hN3
  refine s_k rfl (k_boxN (v := .agg #[.int .i64 wd, .int .i64 hi, .bool wr, .slice asp2 nsp2 csp2, .slice als2 nls2 cls2]) (cs := [.int .i64 wd, .int .i64 hi, .bool wr, .slice asp2 nsp2 csp2, .slice als2 nls2 cls2]) rfl rfl (fun b4 w5 hN6 => ?_))
  replace B := B.new1 hN6
  clear hN6
  refine s_y (v := .bool false) rfl (y_assign rfl) ?_
  refine s_nil ?_
  refine W_seq ?_
  refine W_seq ?_
  refine W_region (by kernel_rfl) ?_
  refine s_y (v := .pointer (some ⟨b1, 0, none⟩)) rfl (y_fld (o := 0) T25.fld_26_0_0 rfl) ?_
  refine s_y (v := .int .i64 wd) rfl (y_load T25.one_2 rfl ((B.b 1 rfl).cell (j := 0) rfl)) ?_
  refine s_y (v := .pointer (some ⟨b4, 0, none⟩)) rfl (y_fld (o := 0) T25.fld_26_0_0 rfl) ?_
  refine s_y (v := .int .i64 wd) rfl (y_load T25.one_2 rfl ((B.b 0 rfl).cell (j := 0) rfl)) ?_
  refine s_y (v := .bool false) rfl (y_neq rfl rfl (decide_eq_false (fun hq => hq rfl))) ?_
  refine s_nil ?_
  refine W_if_f (by decide) rfl ?_
  refine W_skip ?_
  refine W_seq ?_
  refine W_seq ?_
  refine W_region (by kernel_rfl) ?_
  refine s_y (v := .pointer (some ⟨b1, 1, none⟩)) rfl (y_fld (o := 0) T25.fld_26_1_1 rfl) ?_
  refine s_y (v := .int .i64 hi) rfl (y_load T25.one_2 rfl ((B.b 1 rfl).cell (j := 1) rfl)) ?_
  refine s_y (v := .pointer (some ⟨b4, 1, none⟩)) rfl (y_fld (o := 0) T25.fld_26_1_1 rfl) ?_
  refine s_y (v := .int .i64 hi) rfl (y_load T25.one_2 rfl ((B.b 0 rfl).cell (j := 1) rfl)) ?_
  refine s_y (v := .bool false) rfl (y_neq rfl rfl (decide_eq_false (fun hq => hq rfl))) ?_
  refine s_nil ?_
  refine W_if_f (by decide) rfl ?_
  refine W_skip ?_
  refine W_seq ?_
  refine W_seq ?_
  refine W_region (by kernel_rfl) ?_
  refine s_y (v := .pointer (some ⟨b1, 2, none⟩)) rfl (y_fld (o := 0) T25.fld_26_2_2 rfl) ?_
  refine s_y (v := .bool wr) rfl (y_load T25.one_4 rfl ((B.b 1 rfl).cell (j := 2) rfl)) ?_
  refine s_y (v := .pointer (some ⟨b4, 2, none⟩)) rfl (y_fld (o := 0) T25.fld_26_2_2 rfl) ?_
  refine s_y (v := .bool wr) rfl (y_load T25.one_4 rfl ((B.b 0 rfl).cell (j := 2) rfl)) ?_
  refine s_y (v := .bool false) rfl (y_bneq T25.bool_4 rfl rfl (by simp)) ?_
  refine s_nil ?_
  refine W_if_f (by decide) rfl ?_
  refine W_skip ?_
  refine W_seq ?_
  refine W_seq ?_
  refine W_region (by kernel_rfl) ?_
  refine s_y (v := .pointer (some ⟨b1, 3, none⟩)) rfl (y_fld (o := 0) T25.fld_26_3_3 rfl) ?_
  refine s_y (v := .slice asp nsp csp) rfl (y_load T25.one_24 rfl ((B.b 1 rfl).cell (j := 3) rfl)) ?_
  refine s_y (v := .pointer (some ⟨b4, 3, none⟩)) rfl (y_fld (o := 0) T25.fld_26_3_3 rfl) ?_
  refine s_y (v := .slice asp2 nsp2 csp2) rfl (y_load T25.one_24 rfl ((B.b 0 rfl).cell (j := 3) rfl)) ?_
  refine s_k rfl (k_call T25.fn_33 (c_l_eqFloat32S (B.r 2 rfl) (B.r 4 rfl) (by omega)) rfl ?_)
  rintro _ w7 ⟨rfl, e8⟩
  replace B := B.ext0 e8
  clear e8
  refine s_y (v := .bool false) rfl (y_not rfl rfl) ?_
  refine s_nil ?_
  refine W_if_f (by decide) rfl ?_
  refine W_skip ?_
  refine W_seq ?_
  refine W_seq ?_
  refine W_region (by kernel_rfl) ?_
  refine s_y (v := .pointer (some ⟨b1, 4, none⟩)) rfl (y_fld (o := 0) T25.fld_26_4_4 rfl) ?_
  refine s_y (v := .slice als nls cls) rfl (y_load T25.one_24 rfl ((B.b 1 rfl).cell (j := 4) rfl)) ?_
  refine s_y (v := .pointer (some ⟨b4, 4, none⟩)) rfl (y_fld (o := 0) T25.fld_26_4_4 rfl) ?_
  refine s_y (v := .slice als2 nls2 cls2) rfl (y_load T25.one_24 rfl ((B.b 0 rfl).cell (j := 4) rfl)) ?_
  refine s_k rfl (k_call T25.fn_33 (c_l_eqFloat32S (B.r 3 rfl) (B.r 5 rfl) (by omega)) rfl ?_)
  rintro _ w9 ⟨rfl, e10⟩
  replace B := B.ext0 e10
  clear e10
  refine s_y (v := .bool false) rfl (y_not rfl rfl) ?_
  refine s_nil ?_
  refine W_if_f (by decide) rfl ?_
  refine W_skip ?_
  refine W_seq ?_
  refine W_region (by kernel_rfl) ?_
  refine s_y (v := .bool true) rfl (y_assign rfl) ?_
  refine s_nil ?_
  refine W_ret ?_
  refine ret1 (v := .bool true) rfl rfl rfl ⟨_, rfl, ?_⟩
  exact ⟨rfl, B.ext⟩
namespace T34
theorem mx : Try.prog.follows .mixedOrders = true := by kernel_rfl
theorem fld_49_0_0 : fldB Try.prog 49 0 0 = true := by kernel_rfl
theorem fld_49_1_1 : fldB Try.prog 49 1 1 = true := by kernel_rfl
theorem fld_49_2_2 : fldB Try.prog 49 2 2 = true := by kernel_rfl
theorem fn_33 : fnB Try.prog 33 = true := by kernel_rfl
theorem one_24 : oneB Try.prog 24 = true := by kernel_rfl
end T34
set_option maxRecDepth 100000 in
set_option maxHeartbeats 4000000 in
theorem c_l_eqField {afe : Option Addr} {nfe : Nat} {cfe : Nat} {Xfe : List Nat} {afx : Option Addr} {nfx : Nat} {cfx : Nat} {Xfx : List Nat} {afy : Option Addr} {nfy : Nat} {cfy : Nat} {Xfy : List Nat} {afe2 : Option Addr} {nfe2 : Nat} {cfe2 : Nat} {afx2 : Option Addr} {nfx2 : Nat} {cfx2 : Nat} {afy2 : Option Addr} {nfy2 : Nat} {cfy2 : Nat} {w : World} (qfe : Rd w kF afe nfe Xfe) (qfx : Rd w kF afx nfx Xfx) (qfy : Rd w kF afy nfy Xfy) (qfe2 : Rd w kF afe2 nfe2 Xfe) (qfx2 : Rd w kF afx2 nfx2 Xfx) (qfy2 : Rd w kF afy2 nfy2 Xfy) (hbnfe : nfe ≤ 9223372036854775806) (hbnfx : nfx ≤ 9223372036854775806) (hbnfy : nfy ≤ 9223372036854775806) :
    Calls Try.prog 34 #[.agg #[.slice afe nfe cfe, .slice afx nfx cfx, .slice afy nfy cfy], .agg #[.slice afe2 nfe2 cfe2, .slice afx2 nfx2 cfx2, .slice afy2 nfy2 cfy2]] w (Rt fun v w' => v = .bool true ∧ Ext0 w w') := by
  have hlfe := qfe.len
  have hlfx := qfx.len
  have hlfy := qfy.len
  have hlfe2 := qfe2.len
  have hlfx2 := qfx2.len
  have hlfy2 := qfy2.len
  have B : Bu w no w [.rd kF afe nfe Xfe, .rd kF afx nfx Xfx, .rd kF afy nfy Xfy, .rd kF afe2 nfe2 Xfe, .rd kF afx2 nfx2 Xfx, .rd kF afy2 nfy2 Xfy] := Bu.ro (All.cons qfe (All.cons qfx (All.cons qfy (All.cons qfe2 (All.cons qfx2 (All.cons qfy2 All.nil)))))) rfl
  refine calls_W (n := 23) Try.func34 rfl rfl (Nat.le_of_ble_eq_true rfl) ?_
  refine W_seq ?_
  refine W_region (by kernel_rfl) ?_
  refine s_k rfl (k_boxN (v := .agg #[.slice afe nfe cfe, .slice afx nfx cfx, .slice afy nfy cfy]) (cs := [.slice afe nfe cfe, .slice afx nfx cfx, .slice afy nfy cfy]) rfl rfl (fun b1 w2 hN3 => ?_))
  replace B := B.new1 hN3
  clear hN3
  refine s_k rfl (k_boxN (v := .agg #[.slice afe2 nfe2 cfe2, .slice afx2 nfx2 cfx2, .slice afy2 nfy2 cfy2]) (cs := [.slice afe2 nfe2 cfe2, .slice afx2 nfx2 cfx2, .slice afy2 nfy2 cfy2]) rfl rfl (fun b4 w5 hN6 => ?_))
  replace B := B.new1 hN6
  clear hN6
  refine s_y (v := .bool false) rfl (y_assign rfl) ?_
  refine s_nil ?_
  refine W_seq ?_
  refine W_seq ?_
  refine W_region (by kernel_rfl) ?_
  refine s_y (v := .pointer (some ⟨b1, 0, none⟩)) rfl (y_fld (o := 0) T34.fld_49_0_0 rfl) ?_
  refine s_y (v := .slice afe nfe cfe) rfl (y_load T34.one_24 rfl ((B.b 1 rfl).cell (j := 0) rfl)) ?_
  refine s_y (v := .pointer (some ⟨b4, 0, none⟩)) rfl (y_fld (o := 0) T34.fld_49_0_0 rfl) ?_
  refine s_y (v := .slice afe2 nfe2 cfe2) rfl (y_load T34.one_24 rfl ((B.b 0 rfl).cell (j := 0) rfl)) ?_
  refine s_k rfl (k_call T34.fn_33 (c_l_eqFloat32S (B.r 2 rfl) (B.r 5 rfl) (by omega)) rfl ?_)
  rintro _ w7 ⟨rfl, e8⟩
  replace B := B.ext0 e8
  clear e8
  refine s_y (v := .bool false) rfl (y_not rfl rfl) ?_
  refine s_nil ?_
  refine W_if_f (by decide) rfl ?_
  refine W_skip ?_
  refine W_seq ?_
  refine W_seq ?_
  refine W_region (by kernel_rfl) ?_
  refine s_y (v := .pointer (some ⟨b1, 1, none⟩)) rfl (y_fld (o := 0) T34.fld_49_1_1 rfl) ?_
  refine s_y (v := .slice afx nfx cfx) rfl (y_load T34.one_24 rfl ((B.b 1 rfl).cell (j := 1) rfl)) ?_
  refine s_y (v := .pointer (some ⟨b4, 1, none⟩)) rfl (y_fld (o := 0) T34.fld_49_1_1 rfl) ?_
  refine s_y (v := .slice afx2 nfx2 cfx2) rfl (y_load T34.one_24 rfl ((B.b 0 rfl).cell (j := 1) rfl)) ?_
  refine s_k rfl (k_call T34.fn_33 (c_l_eqFloat32S (B.r 3 rfl) (B.r 6 rfl) (by omega)) rfl ?_)
  rintro _ w9 ⟨rfl, e10⟩
  replace B := B.ext0 e10
  clear e10
  refine s_y (v := .bool false) rfl (y_not rfl rfl) ?_
  refine s_nil ?_
  refine W_if_f (by decide) rfl ?_
  refine W_skip ?_
  refine W_seq ?_
  refine W_seq ?_
  refine W_region (by kernel_rfl) ?_
  refine s_y (v := .pointer (some ⟨b1, 2, none⟩)) rfl (y_fld (o := 0) T34.fld_49_2_2 rfl) ?_
  refine s_y (v := .slice afy nfy cfy) rfl (y_load T34.one_24 rfl ((B.b 1 rfl).cell (j := 2) rfl)) ?_
  refine s_y (v := .pointer (some ⟨b4, 2, none⟩)) rfl (y_fld (o := 0) T34.fld_49_2_2 rfl) ?_
  refine s_y (v := .slice afy2 nfy2 cfy2) rfl (y_load T34.one_24 rfl ((B.b 0 rfl).cell (j := 2) rfl)) ?_
  refine s_k rfl (k_call T34.fn_33 (c_l_eqFloat32S (B.r 4 rfl) (B.r 7 rfl) (by omega)) rfl ?_)
  rintro _ w11 ⟨rfl, e12⟩
  replace B := B.ext0 e12
  clear e12
  refine s_y (v := .bool false) rfl (y_not rfl rfl) ?_
  refine s_nil ?_
  refine W_if_f (by decide) rfl ?_
  refine W_skip ?_
  refine W_seq ?_
  refine W_region (by kernel_rfl) ?_
  refine s_y (v := .bool true) rfl (y_assign rfl) ?_
  refine s_nil ?_
  refine W_ret ?_
  refine ret1 (v := .bool true) rfl rfl rfl ⟨_, rfl, ?_⟩
  exact ⟨rfl, B.ext⟩
namespace T67
theorem mx : Try.prog.follows .mixedOrders = true := by kernel_rfl
theorem sl_24_56_1 : slB Try.prog 24 56 1 = true := by kernel_rfl
end T67
set_option maxRecDepth 100000 in
set_option maxHeartbeats 4000000 in
theorem c_l_szFloat32S {a : Option Addr} {n : Nat} {c : Nat} {left : Int} {w : World} (h0 : 0 ≤ left) (h1 : left ≤ 1048576) (hn : n ≤ 9223372036854775807) :
    Calls Try.prog 67 #[.slice a n c, .int .i64 left] w (Rt fun v w' => v = .int .i64 (if ((n : Nat) : Int) ≤ left then left - ((n : Nat) : Int) else -1) ∧ Ext0 w w') := by
  have B : Bu w no w [] := Bu.ro All.nil rfl
  refine calls_W (n := 12) Try.func67 rfl rfl (Nat.le_of_ble_eq_true rfl) ?_
  refine W_seq ?_
  refine W_region (by kernel_rfl) ?_
  refine s_y (v := .int .i64 0) rfl (y_assign rfl) ?_
  refine s_nil ?_
  refine W_seq ?_
  refine W_region (by kernel_rfl) ?_
  refine s_y (v := .int .i64 left) rfl (y_move rfl) ?_
  refine s_y (v := .slice a n c) rfl (y_move rfl) ?_
  refine s_y (v := .int .i64 ((n : Nat) : Int)) rfl (y_len T67.sl_24_56_1 rfl rfl) ?_
  refine s_y (v := .int .i64 (left - ((n : Nat) : Int))) rfl (y_sub rfl rfl rfl (by omega)) ?_
  refine s_y (v := .int .i64 (left - ((n : Nat) : Int))) rfl (y_assign rfl) ?_
  refine s_nil ?_
  refine W_seq ?_
  refine W_seq ?_
  refine W_region (by kernel_rfl) ?_
  refine s_y (v := .int .i64 (left - ((n : Nat) : Int))) rfl (y_move rfl) ?_
  by_cases c1 : (left - ((n : Nat) : Int)) < 0
  · refine s_y (v := .bool true) rfl (y_lss rfl rfl (decide_eq_true c1)) ?_
    refine s_nil ?_
    refine W_if_t (by decide) rfl ?_
    refine W_seq ?_
    refine W_region (by kernel_rfl) ?_
    refine s_y (v := .int .i64 (-1)) rfl (y_assign rfl) ?_
    refine s_nil ?_
    refine W_ret ?_
    refine ret1 (v := .int .i64 (-1)) rfl rfl rfl ⟨_, rfl, ?_⟩
    exact ⟨congrArg (Value.int .i64) (if_neg (by omega)).symm, B.ext⟩
  · refine s_y (v := .bool false) rfl (y_lss rfl rfl (decide_eq_false c1)) ?_
    refine s_nil ?_
    refine W_if_f (by decide) rfl ?_
    refine W_skip ?_
    refine W_seq ?_
    refine W_region (by kernel_rfl) ?_
    refine s_y (v := .int .i64 (left - ((n : Nat) : Int))) rfl (y_move rfl) ?_
    refine s_y (v := .int .i64 (left - ((n : Nat) : Int))) rfl (y_assign rfl) ?_
    refine s_nil ?_
    refine W_ret ?_
    refine ret1 (v := .int .i64 (left - ((n : Nat) : Int))) rfl rfl rfl ⟨_, rfl, ?_⟩
    exact ⟨congrArg (Value.int .i64) (if_pos (by omega)).symm, B.ext⟩
namespace T21
theorem mx : Try.prog.follows .mixedOrders = true := by kernel_rfl
theorem fld_36_3_3 : fldB Try.prog 36 3 3 = true := by kernel_rfl
theorem fld_36_4_4 : fldB Try.prog 36 4 4 = true := by kernel_rfl
theorem fn_67 : fnB Try.prog 67 = true := by kernel_rfl
theorem one_24 : oneB Try.prog 24 = true := by kernel_rfl
end T21
set_option maxRecDepth 100000 in
set_option maxHeartbeats 4000000 in
theorem c_l_szSheet {wd : Int} {hi : Int} {wr : Bool} {asp : Option Addr} {nsp : Nat} {csp : Nat} {als : Option Addr} {nls : Nat} {cls : Nat} {left : Int} {w : World} (h0 : 0 ≤ left) (h1 : left ≤ 1048576) (hnsp : nsp ≤ 9223372036854775807) (hnls : nls ≤ 9223372036854775807) :
    Calls Try.prog 21 #[.agg #[.int .i64 wd, .int .i64 hi, .bool wr, .slice asp nsp csp, .slice als nls cls], .int .i64 left] w (Rt fun v w' => v = .int .i64 (if ((nsp : Nat) : Int) + ((nls : Nat) : Int) ≤ left then left - ((nsp : Nat) : Int) - ((nls : Nat) : Int) else -1) ∧ Ext0 w w') := by
  have B : Bu w no w [] := Bu.ro All.nil rfl
  refine calls_W (n := 18) Try.func21 rfl rfl (Nat.le_of_ble_eq_true rfl) ?_
  refine W_seq ?_
  refine W_region (by kernel_rfl) ?_
  refine s_k rfl (k_boxN (v := .agg #[.int .i64 wd, .int .i64 hi, .bool wr, .slice asp nsp csp, .slice als nls cls]) (cs := [.int .i64 wd, .int .i64 hi, .bool wr, .slice asp nsp csp, .slice als nls cls]) rfl rfl (fun b1 w2 hN3 => ?_))
  replace B := B.new1 hN3
  clear hN3
  refine s_y (v := .int .i64 0) rfl (y_assign rfl) ?_
  refine s_nil ?_
  refine W_seq ?_
  refine W_region (by kernel_rfl) ?_
  refine s_y (v := .pointer (some ⟨b1, 3, none⟩)) rfl (y_fld (o := 0) T21.fld_36_3_3 rfl) ?_
  refine s_y (v := .slice asp nsp csp) rfl (y_load T21.one_24 rfl ((B.b 0 rfl).cell (j := 3) rfl)) ?_
  refine s_y (v := .int .i64 left) rfl (y_move rfl) ?_
  refine s_k rfl (k_call T21.fn_67 (c_l_szFloat32S (by omega) (by omega) (by omega)) rfl ?_)
  rintro v6 w4 ⟨hv7, e5⟩
  replace B := B.ext0 e5
  clear e5
  by_cases c8 : ((nsp : Nat) : Int) ≤ left
  · obtain rfl : v6 = .int .i64 (left - ((nsp : Nat) : Int)) := hv7.trans (congrArg _ (if_pos c8))
    have hk9 : ¬ (left - ((nsp : Nat) : Int)) < 0 := by omega
    refine s_y (v := .int .i64 (left - ((nsp : Nat) : Int))) rfl (y_assign rfl) ?_
    refine s_nil ?_
    refine W_seq ?_
    refine W_seq ?_
    refine W_region (by kernel_rfl) ?_
    refine s_y (v := .int .i64 (left - ((nsp : Nat) : Int))) rfl (y_move rfl) ?_
    refine s_y (v := .bool false) rfl (y_lss rfl rfl (decide_eq_false hk9)) ?_
    refine s_nil ?_
    refine W_if_f (by decide) rfl ?_
    refine W_skip ?_
    refine W_seq ?_
    refine W_region (by kernel_rfl) ?_
    refine s_y (v := .pointer (some ⟨b1, 4, none⟩)) rfl (y_fld (o := 0) T21.fld_36_4_4 rfl) ?_
    refine s_y (v := .slice als nls cls) rfl (y_load T21.one_24 rfl ((B.b 0 rfl).cell (j := 4) rfl)) ?_
    refine s_y (v := .int .i64 (left - ((nsp : Nat) : Int))) rfl (y_move rfl) ?_
    refine s_k rfl (k_call T21.fn_67 (c_l_szFloat32S (by omega) (by omega) (by omega)) rfl ?_)
    rintro v12 w10 ⟨hv13, e11⟩
    replace B := B.ext0 e11
    clear e11
    by_cases c14 : ((nls : Nat) : Int) ≤ (left - ((nsp : Nat) : Int))
    · obtain rfl : v12 = .int .i64 ((left - ((nsp : Nat) : Int)) - ((nls : Nat) : Int)) := hv13.trans (congrArg _ (if_pos c14))
      have hk15 : ¬ ((left - ((nsp : Nat) : Int)) - ((nls : Nat) : Int)) < 0 := by omega
      refine s_y (v := .int .i64 ((left - ((nsp : Nat) : Int)) - ((nls : Nat) : Int))) rfl (y_assign rfl) ?_
      refine s_nil ?_
      refine W_seq ?_
      refine W_seq ?_
      refine W_region (by kernel_rfl) ?_
      refine s_y (v := .int .i64 ((left - ((nsp : Nat) : Int)) - ((nls : Nat) : Int))) rfl (y_move rfl) ?_
      refine s_y (v := .bool false) rfl (y_lss rfl rfl (decide_eq_false hk15)) ?_
      refine s_nil ?_
      refine W_if_f (by decide) rfl ?_
      refine W_skip ?_
      refine W_seq ?_
      refine W_region (by kernel_rfl) ?_
      refine s_y (v := .int .i64 ((left - ((nsp : Nat) : Int)) - ((nls : Nat) : Int))) rfl (y_move rfl) ?_
      refine s_y (v := .int .i64 ((left - ((nsp : Nat) : Int)) - ((nls : Nat) : Int))) rfl (y_assign rfl) ?_
      refine s_nil ?_
      refine W_ret ?_
      refine ret1 (v := .int .i64 ((left - ((nsp : Nat) : Int)) - ((nls : Nat) : Int))) rfl rfl rfl ⟨_, rfl, ?_⟩
      exact ⟨congrArg (Value.int .i64) (if_pos (by omega)).symm, B.ext⟩
    · obtain rfl : v12 = .int .i64 (-1) := hv13.trans (congrArg _ (if_neg c14))
      refine s_y (v := .int .i64 (-1)) rfl (y_assign rfl) ?_
      refine s_nil ?_
      refine W_seq ?_
      refine W_seq ?_
      refine W_region (by kernel_rfl) ?_
      refine s_y (v := .int .i64 (-1)) rfl (y_move rfl) ?_
      have hk16 : (-1 : Int) < 0 := (by decide)
      refine s_y (v := .bool true) rfl (y_lss rfl rfl (decide_eq_true hk16)) ?_
      refine s_nil ?_
      refine W_if_t (by decide) rfl ?_
      refine W_seq ?_
      refine W_region (by kernel_rfl) ?_
      refine s_y (v := .int .i64 (-1)) rfl (y_assign rfl) ?_
      refine s_nil ?_
      refine W_ret ?_
      refine ret1 (v := .int .i64 (-1)) rfl rfl rfl ⟨_, rfl, ?_⟩
      exact ⟨congrArg (Value.int .i64) (if_neg (by omega)).symm, B.ext⟩
  · obtain rfl : v6 = .int .i64 (-1) := hv7.trans (congrArg _ (if_neg c8))
    refine s_y (v := .int .i64 (-1)) rfl (y_assign rfl) ?_
    refine s_nil ?_
    refine W_seq ?_
    refine W_seq ?_
    refine W_region (by kernel_rfl) ?_
    refine s_y (v := .int .i64 (-1)) rfl (y_move rfl) ?_
    have hk17 : (-1 : Int) < 0 := (by decide)
    refine s_y (v := .bool true) rfl (y_lss rfl rfl (decide_eq_true hk17)) ?_
    refine s_nil ?_
    refine W_if_t (by decide) rfl ?_
    refine W_seq ?_
    refine W_region (by kernel_rfl) ?_
    refine s_y (v := .int .i64 (-1)) rfl (y_assign rfl) ?_
    refine s_nil ?_
    refine W_ret ?_
    refine ret1 (v := .int .i64 (-1)) rfl rfl rfl ⟨_, rfl, ?_⟩
    exact ⟨congrArg (Value.int .i64) (if_neg (by omega)).symm, B.ext⟩
namespace T29
theorem mx : Try.prog.follows .mixedOrders = true := by kernel_rfl
theorem fld_45_0_0 : fldB Try.prog 45 0 0 = true := by kernel_rfl
theorem fld_45_1_1 : fldB Try.prog 45 1 1 = true := by kernel_rfl
theorem fld_45_2_2 : fldB Try.prog 45 2 2 = true := by kernel_rfl
theorem fn_67 : fnB Try.prog 67 = true := by kernel_rfl
theorem one_24 : oneB Try.prog 24 = true := by kernel_rfl
end T29
set_option maxRecDepth 100000 in
set_option maxHeartbeats 4000000 in
theorem c_l_szField {afe : Option Addr} {nfe : Nat} {cfe : Nat} {afx : Option Addr} {nfx : Nat} {cfx : Nat} {afy : Option Addr} {nfy : Nat} {cfy : Nat} {left : Int} {w : World} (h0 : 0 ≤ left) (h1 : left ≤ 1048576) (hnfe : nfe ≤ 9223372036854775807) (hnfx : nfx ≤ 9223372036854775807) (hnfy : nfy ≤ 9223372036854775807) :
    Calls Try.prog 29 #[.agg #[.slice afe nfe cfe, .slice afx nfx cfx, .slice afy nfy cfy], .int .i64 left] w (Rt fun v w' => v = .int .i64 (if ((nfe : Nat) : Int) + ((nfx : Nat) : Int) + ((nfy : Nat) : Int) ≤ left then left - ((nfe : Nat) : Int) - ((nfx : Nat) : Int) - ((nfy : Nat) : Int) else -1) ∧ Ext0 w w') := by
  have B : Bu w no w [] := Bu.ro All.nil rfl
  refine calls_W (n := 24) Try.func29 rfl rfl (Nat.le_of_ble_eq_true rfl) ?_
  refine W_seq ?_
  refine W_region (by kernel_rfl) ?_
  refine s_k rfl (k_boxN (v := .agg #[.slice afe nfe cfe, .slice afx nfx cfx, .slice afy nfy cfy]) (cs := [.slice afe nfe cfe, .slice afx nfx cfx, .slice afy nfy cfy]) rfl rfl (fun b1 w2 hN3 => ?_))
  replace B := B.new1 hN3
  clear hN3
  refine s_y (v := .int .i64 0) rfl (y_assign rfl) ?_
  refine s_nil ?_
  refine W_seq ?_
  refine W_region (by kernel_rfl) ?_
  refine s_y (v := .pointer (some ⟨b1, 0, none⟩)) rfl (y_fld (o := 0) T29.fld_45_0_0 rfl) ?_
  refine s_y (v := .slice afe nfe cfe) rfl (y_load T29.one_24 rfl ((B.b 0 rfl).cell (j := 0) rfl)) ?_
  refine s_y (v := .int .i64 left) rfl (y_move rfl) ?_
  refine s_k rfl (k_call T29.fn_67 (c_l_szFloat32S (by omega) (by omega) (by omega)) rfl ?_)
  rintro v6 w4 ⟨hv7, e5⟩
  replace B := B.ext0 e5
  clear e5
  by_cases c8 : ((nfe : Nat) : Int) ≤ left
  · obtain rfl : v6 = .int .i64 (left - ((nfe : Nat) : Int)) := hv7.trans (congrArg _ (if_pos c8))
    have hk9 : ¬ (left - ((nfe : Nat) : Int)) < 0 := by omega
    refine s_y (v := .int .i64 (left - ((nfe : Nat) : Int))) rfl (y_assign rfl) ?_
    refine s_nil ?_
    refine W_seq ?_
    refine W_seq ?_
    refine W_region (by kernel_rfl) ?_
    refine s_y (v := .int .i64 (left - ((nfe : Nat) : Int))) rfl (y_move rfl) ?_
    refine s_y (v := .bool false) rfl (y_lss rfl rfl (decide_eq_false hk9)) ?_
    refine s_nil ?_
    refine W_if_f (by decide) rfl ?_
    refine W_skip ?_
    refine W_seq ?_
    refine W_region (by kernel_rfl) ?_
    refine s_y (v := .pointer (some ⟨b1, 1, none⟩)) rfl (y_fld (o := 0) T29.fld_45_1_1 rfl) ?_
    refine s_y (v := .slice afx nfx cfx) rfl (y_load T29.one_24 rfl ((B.b 0 rfl).cell (j := 1) rfl)) ?_
    refine s_y (v := .int .i64 (left - ((nfe : Nat) : Int))) rfl (y_move rfl) ?_
    refine s_k rfl (k_call T29.fn_67 (c_l_szFloat32S (by omega) (by omega) (by omega)) rfl ?_)
    rintro v12 w10 ⟨hv13, e11⟩
    replace B := B.ext0 e11
    clear e11
    by_cases c14 : ((nfx : Nat) : Int) ≤ (left - ((nfe : Nat) : Int))
    · obtain rfl : v12 = .int .i64 ((left - ((nfe : Nat) : Int)) - ((nfx : Nat) : Int)) := hv13.trans (congrArg _ (if_pos c14))
      have hk15 : ¬ ((left - ((nfe : Nat) : Int)) - ((nfx : Nat) : Int)) < 0 := by omega
      refine s_y (v := .int .i64 ((left - ((nfe : Nat) : Int)) - ((nfx : Nat) : Int))) rfl (y_assign rfl) ?_
      refine s_nil ?_
      refine W_seq ?_
      refine W_seq ?_
      refine W_region (by kernel_rfl) ?_
      refine s_y (v := .int .i64 ((left - ((nfe : Nat) : Int)) - ((nfx : Nat) : Int))) rfl (y_move rfl) ?_
      refine s_y (v := .bool false) rfl (y_lss rfl rfl (decide_eq_false hk15)) ?_
      refine s_nil ?_
      refine W_if_f (by decide) rfl ?_
      refine W_skip ?_
      refine W_seq ?_
      refine W_region (by kernel_rfl) ?_
      refine s_y (v := .pointer (some ⟨b1, 2, none⟩)) rfl (y_fld (o := 0) T29.fld_45_2_2 rfl) ?_
      refine s_y (v := .slice afy nfy cfy) rfl (y_load T29.one_24 rfl ((B.b 0 rfl).cell (j := 2) rfl)) ?_
      refine s_y (v := .int .i64 ((left - ((nfe : Nat) : Int)) - ((nfx : Nat) : Int))) rfl (y_move rfl) ?_
      refine s_k rfl (k_call T29.fn_67 (c_l_szFloat32S (by omega) (by omega) (by omega)) rfl ?_)
      rintro v18 w16 ⟨hv19, e17⟩
      replace B := B.ext0 e17
      clear e17
      by_cases c20 : ((nfy : Nat) : Int) ≤ ((left - ((nfe : Nat) : Int)) - ((nfx : Nat) : Int))
      · obtain rfl : v18 = .int .i64 (((left - ((nfe : Nat) : Int)) - ((nfx : Nat) : Int)) - ((nfy : Nat) : Int)) := hv19.trans (congrArg _ (if_pos c20))
        have hk21 : ¬ (((left - ((nfe : Nat) : Int)) - ((nfx : Nat) : Int)) - ((nfy : Nat) : Int)) < 0 := by omega
        refine s_y (v := .int .i64 (((left - ((nfe : Nat) : Int)) - ((nfx : Nat) : Int)) - ((nfy : Nat) : Int))) rfl (y_assign rfl) ?_
        refine s_nil ?_
        refine W_seq ?_
        refine W_seq ?_
        refine W_region (by kernel_rfl) ?_
        refine s_y (v := .int .i64 (((left - ((nfe : Nat) : Int)) - ((nfx : Nat) : Int)) - ((nfy : Nat) : Int))) rfl (y_move rfl) ?_
        refine s_y (v := .bool false) rfl (y_lss rfl rfl (decide_eq_false hk21)) ?_
        refine s_nil ?_
        refine W_if_f (by decide) rfl ?_
        refine W_skip ?_
        refine W_seq ?_
        refine W_region (by kernel_rfl) ?_
        refine s_y (v := .int .i64 (((left - ((nfe : Nat) : Int)) - ((nfx : Nat) : Int)) - ((nfy : Nat) : Int))) rfl (y_move rfl) ?_
        refine s_y (v := .int .i64 (((left - ((nfe : Nat) : Int)) - ((nfx : Nat) : Int)) - ((nfy : Nat) : Int))) rfl (y_assign rfl) ?_
        refine s_nil ?_
        refine W_ret ?_
        refine ret1 (v := .int .i64 (((left - ((nfe : Nat) : Int)) - ((nfx : Nat) : Int)) - ((nfy : Nat) : Int))) rfl rfl rfl ⟨_, rfl, ?_⟩
        exact ⟨congrArg (Value.int .i64) (if_pos (by omega)).symm, B.ext⟩
      · obtain rfl : v18 = .int .i64 (-1) := hv19.trans (congrArg _ (if_neg c20))
        refine s_y (v := .int .i64 (-1)) rfl (y_assign rfl) ?_
        refine s_nil ?_
        refine W_seq ?_
        refine W_seq ?_
        refine W_region (by kernel_rfl) ?_
        refine s_y (v := .int .i64 (-1)) rfl (y_move rfl) ?_
        have hk22 : (-1 : Int) < 0 := (by decide)
        refine s_y (v := .bool true) rfl (y_lss rfl rfl (decide_eq_true hk22)) ?_
        refine s_nil ?_
        refine W_if_t (by decide) rfl ?_
        refine W_seq ?_
        refine W_region (by kernel_rfl) ?_
        refine s_y (v := .int .i64 (-1)) rfl (y_assign rfl) ?_
        refine s_nil ?_
        refine W_ret ?_
        refine ret1 (v := .int .i64 (-1)) rfl rfl rfl ⟨_, rfl, ?_⟩
        exact ⟨congrArg (Value.int .i64) (if_neg (by omega)).symm, B.ext⟩
    · obtain rfl : v12 = .int .i64 (-1) := hv13.trans (congrArg _ (if_neg c14))
      refine s_y (v := .int .i64 (-1)) rfl (y_assign rfl) ?_
      refine s_nil ?_
      refine W_seq ?_
      refine W_seq ?_
      refine W_region (by kernel_rfl) ?_
      refine s_y (v := .int .i64 (-1)) rfl (y_move rfl) ?_
      have hk23 : (-1 : Int) < 0 := (by decide)
      refine s_y (v := .bool true) rfl (y_lss rfl rfl (decide_eq_true hk23)) ?_
      refine s_nil ?_
      refine W_if_t (by decide) rfl ?_
      refine W_seq ?_
      refine W_region (by kernel_rfl) ?_
      refine s_y (v := .int .i64 (-1)) rfl (y_assign rfl) ?_
      refine s_nil ?_
      refine W_ret ?_
      refine ret1 (v := .int .i64 (-1)) rfl rfl rfl ⟨_, rfl, ?_⟩
      exact ⟨congrArg (Value.int .i64) (if_neg (by omega)).symm, B.ext⟩
  · obtain rfl : v6 = .int .i64 (-1) := hv7.trans (congrArg _ (if_neg c8))
    refine s_y (v := .int .i64 (-1)) rfl (y_assign rfl) ?_
    refine s_nil ?_
    refine W_seq ?_
    refine W_seq ?_
    refine W_region (by kernel_rfl) ?_
    refine s_y (v := .int .i64 (-1)) rfl (y_move rfl) ?_
    have hk24 : (-1 : Int) < 0 := (by decide)
    refine s_y (v := .bool true) rfl (y_lss rfl rfl (decide_eq_true hk24)) ?_
    refine s_nil ?_
    refine W_if_t (by decide) rfl ?_
    refine W_seq ?_
    refine W_region (by kernel_rfl) ?_
    refine s_y (v := .int .i64 (-1)) rfl (y_assign rfl) ?_
    refine s_nil ?_
    refine W_ret ?_
    refine ret1 (v := .int .i64 (-1)) rfl rfl rfl ⟨_, rfl, ?_⟩
    exact ⟨congrArg (Value.int .i64) (if_neg (by omega)).symm, B.ext⟩
namespace T36
theorem mx : Try.prog.follows .mixedOrders = true := by kernel_rfl
theorem flt_56_f32 : Try.prog.underlying 56 = some (.float .f32) := by kernel_rfl
theorem sl_24_56_1 : slB Try.prog 24 56 1 = true := by kernel_rfl
theorem sz_56_1 : szB Try.prog 56 1 = true := by kernel_rfl
theorem und_3 : (Try.prog.underlying 3).isSome = true := by kernel_rfl
end T36
set_option maxRecDepth 100000 in
set_option maxHeartbeats 4000000 in
theorem c_l_markFloat32S {a : Option Addr} {n : Nat} {c : Nat} {k : Int} {X : List Nat} {w : World} (hbn : n ≤ 1048576) (hk0 : 0 ≤ k) (hk1 : k ≤ 4294967296) (HA : All w [.ow kF a n c 56 X]) (HP : Pw [.ow kF a n c 56 X]) :
    Calls Try.prog 36 #[.slice a n c, .int .i64 k] w (Rt fun v w' => v = .int .i64 (k + ((n : Nat) : Int)) ∧ Upd w w' [.ow kF a n c 56 X] [.ow kF a n c 56 (marks k n)]) := by
  have B : Bu w (hasW [.ow kF a n c 56 X]) w [.ow kF a n c 56 X] := Bu.initW (W := [.ow kF a n c 56 X]) (R := []) HA HP rfl
  have hl := (B.o 0 rfl).len
  refine calls_W (n := 20) Try.func36 rfl rfl (Nat.le_of_ble_eq_true rfl) ?_
  refine W_seq ?_
  refine W_region (by kernel_rfl) ?_
  refine s_y (v := .int .i64 0) rfl (y_assign rfl) ?_
  refine s_nil ?_
  refine W_seq ?_
  refine W_seq ?_
  refine W_region (by kernel_rfl) ?_
  refine s_y (v := .int .i64 0) rfl (y_assign rfl) ?_
  refine s_nil ?_
  refine W_block ?_
  refine W_loop (fun ρ' w' => ∃ (ρ1 : Env) (j : Int) (zs : List Nat), ρ' = updL ρ1 [(0, .slice a n c), (1, .int .i64 (k + j)), (4, .int .i64 0), (5, .int .i64 j)] ∧ Bu w (hasW [.ow kF a n c 56 X]) w' [.ow kF a n c 56 zs] ∧ (0 ≤ j) ∧ (j ≤ (n : Int)) ∧ (zs.length = n) ∧ (∀ i, 0 ≤ i → i < j → el zs i = FloatKind.nearest .f32 (k + i))) (fun ρ' _ => ((n : Int) - iv (ρ' 5)).toNat) ?_ ?_
  · exact ⟨_, 0, _, Fits.eq ⟨rfl, (by first | rfl | exact congrArg (Value.int .i64) (by omega)), rfl, rfl, trivial⟩, B, (Int.le_refl _), (by omega), hl, (by intro i h0 h1; omega)⟩
  · clear B; rintro _ w1 ⟨ρ2, j, zs, rfl, B, h0j, h1j, hz, hq⟩
    refine W_seq ?_
    refine W_seq ?_
    refine W_region (by kernel_rfl) ?_
    refine s_y (v := .int .i64 j) rfl (y_move rfl) ?_
    refine s_y (v := .slice a n c) rfl (y_move rfl) ?_
    refine s_y (v := .int .i64 ((n : Nat) : Int)) rfl (y_len T36.sl_24_56_1 rfl rfl) ?_
    by_cases c3 : j < ((n : Nat) : Int)
    · refine s_y (v := .bool true) rfl (y_lss rfl rfl (decide_eq_true c3)) ?_
      refine s_nil ?_
      refine W_if_t (by decide) rfl ?_
      refine W_skip ?_
      refine W_seq ?_
      refine W_block ?_
      refine W_seq ?_
      refine W_region (by kernel_rfl) ?_
      refine s_y (v := .slice a n c) rfl (y_move rfl) ?_
      refine s_y (v := .int .i64 j) rfl (y_move rfl) ?_
      refine s_y (v := .int .i64 (k + j)) rfl (y_move rfl) ?_
      refine s_y (v := .float .f32 (FloatKind.nearest .f32 (k + j))) rfl (y_if T36.und_3 T36.flt_56_f32 rfl) ?_
      refine s_y (v := .pointer (some (sat a ((j).toNat * 1)))) rfl (y_idx T36.sl_24_56_1 rfl rfl ((B.o 0 rfl).rd.addr (by omega)) (by omega) (by omega)) ?_
      refine s_k0 rfl (k_stO (k := kF) (i := j) (j := 0) (x' := FloatKind.nearest .f32 (k + j)) (new := [.float .f32 (FloatKind.nearest .f32 (k + j))]) T36.sz_56_1 rfl rfl rfl rfl rfl (by simp [Value.oneCell']) (by decide) (B.o 0 rfl) (by omega) (by omega) (by decide) (by rintro q ⟨_, rfl, _⟩; exact ⟨_, rfl, (can_nearest .f32 (k + j))⟩) (fun w4 hU5 => ?_))
      replace B : Bu w (hasW [.ow kF a n c 56 X]) w4 [.ow kF a n c 56 (put zs j (FloatKind.nearest .f32 (k + j)))] := B.upd [0] rfl hU5
      clear hU5
      refine s_nil ?_
      refine W_region (by kernel_rfl) ?_
      refine s_y (v := .int .i64 (k + j)) rfl (y_move rfl) ?_
      refine s_y (v := .int .i64 ((k + j) + 1)) rfl (y_add rfl rfl rfl (by omega)) ?_
      refine s_y (v := .int .i64 ((k + j) + 1)) rfl (y_assign rfl) ?_
      refine s_nil ?_
      refine W_region (by kernel_rfl) ?_
      refine s_y (v := .int .i64 j) rfl (y_move rfl) ?_
      refine s_y (v := .int .i64 (j + 1)) rfl (y_add rfl rfl rfl (by omega)) ?_
      refine s_y (v := .int .i64 (j + 1)) rfl (y_assign rfl) ?_
      refine s_nil ?_
      refine ⟨⟨_, j + 1, _, Fits.eq ⟨rfl, (by first | rfl | exact congrArg (Value.int .i64) (by omega)), rfl, rfl, trivial⟩, B, (by omega), (by omega), (by simp only [put_length, pl_length]; exact hz), (el_mark (by omega) (by omega) (by omega) hq)⟩, ?_⟩
      show ((n : Int) - (j + 1)).toNat < ((n : Int) - j).toNat
      omega
    · refine s_y (v := .bool false) rfl (y_lss rfl rfl (decide_eq_false c3)) ?_
      refine s_nil ?_
      refine W_if_f (by decide) rfl ?_
      refine W_exit ?_
      refine W_seq ?_
      refine W_region (by kernel_rfl) ?_
      refine s_y (v := .int .i64 (k + j)) rfl (y_move rfl) ?_
      refine s_y (v := .int .i64 (k + j)) rfl (y_assign rfl) ?_
      refine s_nil ?_
      refine W_ret ?_
      refine ret1 (v := .int .i64 (k + j)) rfl rfl rfl ⟨_, rfl, ?_⟩
      obtain rfl : zs = marks k n := marks_done (by omega) (fun i h0 h1 => hq i h0 (by omega))
      exact ⟨congrArg (Value.int .i64) (by omega), B.wrote [0] rfl rfl rfl⟩
namespace T26
theorem mx : Try.prog.follows .mixedOrders = true := by kernel_rfl
theorem fld_26_3_3 : fldB Try.prog 26 3 3 = true := by kernel_rfl
theorem fld_26_4_4 : fldB Try.prog 26 4 4 = true := by kernel_rfl
theorem fn_36 : fnB Try.prog 36 = true := by kernel_rfl
theorem one_24 : oneB Try.prog 24 = true := by kernel_rfl
end T26
set_option maxRecDepth 100000 in
set_option maxHeartbeats 4000000 in
theorem c_l_markSheet {wd : Int} {hi : Int} {wr : Bool} {asp : Option Addr} {nsp : Nat} {csp : Nat} {als : Option Addr} {nls : Nat} {cls : Nat} {k : Int} {Xsp : List Nat} {Xls : List Nat} {w : World} (hbnsp : nsp ≤ 1048576) (hbnls : nls ≤ 1048576) (hk0 : 0 ≤ k) (hk1 : k ≤ 4200000000) (HA : All w [.ow kF asp nsp csp 56 Xsp, .ow kF als nls cls 56 Xls]) (HP : Pw [.ow kF asp nsp csp 56 Xsp, .ow kF als nls cls 56 Xls]) :
    Calls Try.prog 26 #[.agg #[.int .i64 wd, .int .i64 hi, .bool wr, .slice asp nsp csp, .slice als nls cls], .int .i64 k] w (Rt fun v w' => v = .int .i64 (k + ((nsp : Nat) : Int) + ((nls : Nat) : Int)) ∧ Upd w w' [.ow kF asp nsp csp 56 Xsp, .ow kF als nls cls 56 Xls] [.ow kF asp nsp csp 56 (marks k nsp), .ow kF als nls cls 56 (marks (k + ((nsp : Nat) : Int)) nls)]) := by
  have B : Bu w (hasW [.ow kF asp nsp csp 56 Xsp, .ow kF als nls cls 56 Xls]) w [.ow kF asp nsp csp 56 Xsp, .ow kF als nls cls 56 Xls] := Bu.initW (W := [.ow kF asp nsp csp 56 Xsp, .ow kF als nls cls 56 Xls]) (R := []) HA HP rfl
  have hlsp := (B.o 0 rfl).len
  have hlls := (B.o 1 rfl).len
  refine calls_W (n := 14) Try.func26 rfl rfl (Nat.le_of_ble_eq_true rfl) ?_
  refine W_seq ?_
  refine W_region (by kernel_rfl) ?_
  refine s_k rfl (k_boxN (v := .agg #[.int .i64 wd, .int .i64 hi, .bool wr, .slice asp nsp csp, .slice als nls cls]) (cs := [.int .i64 wd, .int .i64 hi, .bool wr, .slice asp nsp csp, .slice als nls cls]) rfl rfl (fun b1 w2 hN3 => ?_))
  replace B := B.new1 hN3
  clear hN3
  refine s_y (v := .int .i64 0) rfl (y_assign rfl) ?_
  refine s_nil ?_
  refine W_seq ?_
  refine W_region (by kernel_rfl) ?_
  refine s_y (v := .pointer (some ⟨b1, 3, none⟩)) rfl (y_fld (o := 0) T26.fld_26_3_3 rfl) ?_
  refine s_y (v := .slice asp nsp csp) rfl (y_load T26.one_24 rfl ((B.b 0 rfl).cell (j := 3) rfl)) ?_
  refine s_y (v := .int .i64 k) rfl (y_move rfl) ?_
  refine s_k rfl (k_call T26.fn_36 (c_l_markFloat32S (by omega) (by omega) (by omega) (B.all.pick [1] rfl) (B.pw.pick [1] rfl rfl)) rfl ?_)
  rintro _ w4 ⟨rfl, hU5⟩
  replace B : Bu w (hasW [.ow kF asp nsp csp 56 Xsp, .ow kF als nls cls 56 Xls]) w4 [.ow kF asp nsp csp 56 (marks k nsp), .blk b1 [.int .i64 wd, .int .i64 hi, .bool wr, .slice asp nsp csp, .slice als nls cls] 26, .ow kF als nls cls 56 Xls] := B.upd [1] rfl hU5
  clear hU5
  refine s_y (v := .int .i64 (k + ((nsp : Nat) : Int))) rfl (y_assign rfl) ?_
  refine s_nil ?_
  refine W_seq ?_
  refine W_region (by kernel_rfl) ?_
  refine s_y (v := .pointer (some ⟨b1, 4, none⟩)) rfl (y_fld (o := 0) T26.fld_26_4_4 rfl) ?_
  refine s_y (v := .slice als nls cls) rfl (y_load T26.one_24 rfl ((B.b 1 rfl).cell (j := 4) rfl)) ?_
  refine s_y (v := .int .i64 (k + ((nsp : Nat) : Int))) rfl (y_move rfl) ?_
  refine s_k rfl (k_call T26.fn_36 (c_l_markFloat32S (by omega) (by omega) (by omega) (B.all.pick [2] rfl) (B.pw.pick [2] rfl rfl)) rfl ?_)
  rintro _ w6 ⟨rfl, hU7⟩
  replace B : Bu w (hasW [.ow kF asp nsp csp 56 Xsp, .ow kF als nls cls 56 Xls]) w6 [.ow kF als nls cls 56 (marks (k + ((nsp : Nat) : Int)) nls), .ow kF asp nsp csp 56 (marks k nsp), .blk b1 [.int .i64 wd, .int .i64 hi, .bool wr, .slice asp nsp csp, .slice als nls cls] 26] := B.upd [2] rfl hU7
  clear hU7
  refine s_y (v := .int .i64 ((k + ((nsp : Nat) : Int)) + ((nls : Nat) : Int))) rfl (y_assign rfl) ?_
  refine s_nil ?_
  refine W_seq ?_
  refine W_region (by kernel_rfl) ?_
  refine s_y (v := .int .i64 ((k + ((nsp : Nat) : Int)) + ((nls : Nat) : Int))) rfl (y_move rfl) ?_
  refine s_y (v := .int .i64 ((k + ((nsp : Nat) : Int)) + ((nls : Nat) : Int))) rfl (y_assign rfl) ?_
  refine s_nil ?_
  refine W_ret ?_
  refine ret1 (v := .int .i64 ((k + ((nsp : Nat) : Int)) + ((nls : Nat) : Int))) rfl rfl rfl ⟨_, rfl, ?_⟩
  exact ⟨rfl, B.wrote [1, 0] rfl rfl rfl⟩
namespace T35
theorem mx : Try.prog.follows .mixedOrders = true := by kernel_rfl
theorem fld_49_0_0 : fldB Try.prog 49 0 0 = true := by kernel_rfl
theorem fld_49_1_1 : fldB Try.prog 49 1 1 = true := by kernel_rfl
theorem fld_49_2_2 : fldB Try.prog 49 2 2 = true := by kernel_rfl
theorem fn_36 : fnB Try.prog 36 = true := by kernel_rfl
theorem one_24 : oneB Try.prog 24 = true := by kernel_rfl
end T35
set_option maxRecDepth 100000 in
set_option maxHeartbeats 4000000 in
theorem c_l_markField {afe : Option Addr} {nfe : Nat} {cfe : Nat} {afx : Option Addr} {nfx : Nat} {cfx : Nat} {afy : Option Addr} {nfy : Nat} {cfy : Nat} {k : Int} {Xfe : List Nat} {Xfx : List Nat} {Xfy : List Nat} {w : World} (hbnfe : nfe ≤ 1048576) (hbnfx : nfx ≤ 1048576) (hbnfy : nfy ≤ 1048576) (hk0 : 0 ≤ k) (hk1 : k ≤ 4200000000) (HA : All w [.ow kF afe nfe cfe 56 Xfe, .ow kF afx nfx cfx 56 Xfx, .ow kF afy nfy cfy 56 Xfy]) (HP : Pw [.ow kF afe nfe cfe 56 Xfe, .ow kF afx nfx cfx 56 Xfx, .ow kF afy nfy cfy 56 Xfy]) :
    Calls Try.prog 35 #[.agg #[.slice afe nfe cfe, .slice afx nfx cfx, .slice afy nfy cfy], .int .i64 k] w (Rt fun v w' => v = .int .i64 (k + ((nfe : Nat) : Int) + ((nfx : Nat) : Int) + ((nfy : Nat) : Int)) ∧ Upd w w' [.ow kF afe nfe cfe 56 Xfe, .ow kF afx nfx cfx 56 Xfx, .ow kF afy nfy cfy 56 Xfy] [.ow kF afe nfe cfe 56 (marks k nfe), .ow kF afx nfx cfx 56 (marks (k + ((nfe : Nat) : Int)) nfx), .ow kF afy nfy cfy 56 (marks (k + ((nfe : Nat) : Int) + ((nfx : Nat) : Int)) nfy)]) := by
  have B : Bu w (hasW [.ow kF afe nfe cfe 56 Xfe, .ow kF afx nfx cfx 56 Xfx, .ow kF afy nfy cfy 56 Xfy]) w [.ow kF afe nfe cfe 56 Xfe, .ow kF afx nfx cfx 56 Xfx, .ow kF afy nfy cfy 56 Xfy] := Bu.initW (W := [.ow kF afe nfe cfe 56 Xfe, .ow kF afx nfx cfx 56 Xfx, .ow kF afy nfy cfy 56 Xfy]) (R := []) HA HP rfl
  have hlfe := (B.o 0 rfl).len
  have hlfx := (B.o 1 rfl).len
  have hlfy := (B.o 2 rfl).len
  refine calls_W (n := 18) Try.func35 rfl rfl (Nat.le_of_ble_eq_true rfl) ?_
  refine W_seq ?_
  refine W_region (by kernel_rfl) ?_
  refine s_k rfl (k_boxN (v := .agg #[.slice afe nfe cfe, .slice afx nfx cfx, .slice afy nfy cfy]) (cs := [.slice afe nfe cfe, .slice afx nfx cfx, .slice afy nfy cfy]) rfl rfl (fun b1 w2 hN3 => ?_))
  replace B := B.new1 hN3
  clear hN3
  refine s_y (v := .int .i64 0) rfl (y_assign rfl) ?_
  refine s_nil ?_
  refine W_seq ?_
  refine W_region (by kernel_rfl) ?_
  refine s_y (v := .pointer (some ⟨b1, 0, none⟩)) rfl (y_fld (o := 0) T35.fld_49_0_0 rfl) ?_
  refine s_y (v := .slice afe nfe cfe) rfl (y_load T35.one_24 rfl ((B.b 0 rfl).cell (j := 0) rfl)) ?_
  refine s_y (v := .int .i64 k) rfl (y_move rfl) ?_
  refine s_k rfl (k_call T35.fn_36 (c_l_markFloat32S (by omega) (by omega) (by omega) (B.all.pick [1] rfl) (B.pw.pick [1] rfl rfl)) rfl ?_)
  rintro _ w4 ⟨rfl, hU5⟩
  replace B : Bu w (hasW [.ow kF afe nfe cfe 56 Xfe, .ow kF afx nfx cfx 56 Xfx, .ow kF afy nfy cfy 56 Xfy]) w4 [.ow kF afe nfe cfe 56 (marks k nfe), .blk b1 [.slice afe nfe cfe, .slice afx nfx cfx, .slice afy nfy cfy] 49, .ow kF afx nfx cfx 56 Xfx, .ow kF afy nfy cfy 56 Xfy] := B.upd [1] rfl hU5
  clear hU5
  refine s_y (v := .int .i64 (k + ((nfe : Nat) : Int))) rfl (y_assign rfl) ?_
  refine s_nil ?_
  refine W_seq ?_
  refine W_region (by kernel_rfl) ?_
  refine s_y (v := .pointer (some ⟨b1, 1, none⟩)) rfl (y_fld (o := 0) T35.fld_49_1_1 rfl) ?_
  refine s_y (v := .slice afx nfx cfx) rfl (y_load T35.one_24 rfl ((B.b 1 rfl).cell (j := 1) rfl)) ?_
  refine s_y (v := .int .i64 (k + ((nfe : Nat) : Int))) rfl (y_move rfl) ?_
  refine s_k rfl (k_call T35.fn_36 (c_l_markFloat32S (by omega) (by omega) (by omega) (B.all.pick [2] rfl) (B.pw.pick [2] rfl rfl)) rfl ?_)
  rintro _ w6 ⟨rfl, hU7⟩
  replace B : Bu w (hasW [.ow kF afe nfe cfe 56 Xfe, .ow kF afx nfx cfx 56 Xfx, .ow kF afy nfy cfy 56 Xfy]) w6 [.ow kF afx nfx cfx 56 (marks (k + ((nfe : Nat) : Int)) nfx), .ow kF afe nfe cfe 56 (marks k nfe), .blk b1 [.slice afe nfe cfe, .slice afx nfx cfx, .slice afy nfy cfy] 49, .ow kF afy nfy cfy 56 Xfy] := B.upd [2] rfl hU7
  clear hU7
  refine s_y (v := .int .i64 ((k + ((nfe : Nat) : Int)) + ((nfx : Nat) : Int))) rfl (y_assign rfl) ?_
  refine s_nil ?_
  refine W_seq ?_
  refine W_region (by kernel_rfl) ?_
  refine s_y (v := .pointer (some ⟨b1, 2, none⟩)) rfl (y_fld (o := 0) T35.fld_49_2_2 rfl) ?_
  refine s_y (v := .slice afy nfy cfy) rfl (y_load T35.one_24 rfl ((B.b 2 rfl).cell (j := 2) rfl)) ?_
  refine s_y (v := .int .i64 ((k + ((nfe : Nat) : Int)) + ((nfx : Nat) : Int))) rfl (y_move rfl) ?_
  refine s_k rfl (k_call T35.fn_36 (c_l_markFloat32S (by omega) (by omega) (by omega) (B.all.pick [3] rfl) (B.pw.pick [3] rfl rfl)) rfl ?_)
  rintro _ w8 ⟨rfl, hU9⟩
  replace B : Bu w (hasW [.ow kF afe nfe cfe 56 Xfe, .ow kF afx nfx cfx 56 Xfx, .ow kF afy nfy cfy 56 Xfy]) w8 [.ow kF afy nfy cfy 56 (marks ((k + ((nfe : Nat) : Int)) + ((nfx : Nat) : Int)) nfy), .ow kF afx nfx cfx 56 (marks (k + ((nfe : Nat) : Int)) nfx), .ow kF afe nfe cfe 56 (marks k nfe), .blk b1 [.slice afe nfe cfe, .slice afx nfx cfx, .slice afy nfy cfy] 49] := B.upd [3] rfl hU9
  clear hU9
  refine s_y (v := .int .i64 (((k + ((nfe : Nat) : Int)) + ((nfx : Nat) : Int)) + ((nfy : Nat) : Int))) rfl (y_assign rfl) ?_
  refine s_nil ?_
  refine W_seq ?_
  refine W_region (by kernel_rfl) ?_
  refine s_y (v := .int .i64 (((k + ((nfe : Nat) : Int)) + ((nfx : Nat) : Int)) + ((nfy : Nat) : Int))) rfl (y_move rfl) ?_
  refine s_y (v := .int .i64 (((k + ((nfe : Nat) : Int)) + ((nfx : Nat) : Int)) + ((nfy : Nat) : Int))) rfl (y_assign rfl) ?_
  refine s_nil ?_
  refine W_ret ?_
  refine ret1 (v := .int .i64 (((k + ((nfe : Nat) : Int)) + ((nfx : Nat) : Int)) + ((nfy : Nat) : Int))) rfl rfl rfl ⟨_, rfl, ?_⟩
  exact ⟨rfl, B.wrote [2, 1, 0] rfl rfl rfl⟩
namespace T37
theorem mx : Try.prog.follows .mixedOrders = true := by kernel_rfl
theorem flt_56_f32 : Try.prog.underlying 56 = some (.float .f32) := by kernel_rfl
theorem one_56 : oneB Try.prog 56 = true := by kernel_rfl
theorem sl_24_56_1 : slB Try.prog 24 56 1 = true := by kernel_rfl
theorem und_3 : (Try.prog.underlying 3).isSome = true := by kernel_rfl
end T37
set_option maxRecDepth 100000 in
set_option maxHeartbeats 4000000 in
theorem c_l_heldFloat32S {a : Option Addr} {n : Nat} {c : Nat} {k : Int} {w : World} (q : Rd w kF a n (marks k n)) (hbn : n ≤ 1048576) (hk0 : 0 ≤ k) (hk1 : k ≤ 4294967296) :
    Calls Try.prog 37 #[.slice a n c, .int .i64 k] w (Rt fun v w' => v = .int .i64 (k + ((n : Nat) : Int)) ∧ Ext0 w w') := by
  have hl := q.len
  have B : Bu w no w [.rd kF a n (marks k n)] := Bu.ro (All.cons q All.nil) rfl
  refine calls_W (n := 22) Try.func37 rfl rfl (Nat.le_of_ble_eq_true rfl) ?_
  refine W_seq ?_
  refine W_region (by kernel_rfl) ?_
  refine s_y (v := .int .i64 0) rfl (y_assign rfl) ?_
  refine s_nil ?_
  refine W_seq ?_
  refine W_seq ?_
  refine W_region (by kernel_rfl) ?_
  refine s_y (v := .int .i64 0) rfl (y_assign rfl) ?_
  refine s_nil ?_
  refine W_block ?_
  refine W_loop (fun ρ' w' => ∃ (ρ1 : Env) (j : Int), ρ' = updL ρ1 [(0, .slice a n c), (1, .int .i64 (k + j)), (5, .int .i64 j)] ∧ Bu w no w' [.rd kF a n (marks k n)] ∧ (0 ≤ j) ∧ (j ≤ (n : Int))) (fun ρ' _ => ((n : Int) - iv (ρ' 5)).toNat) ?_ ?_
  · exact ⟨_, 0, Fits.eq ⟨rfl, (by first | rfl | exact congrArg (Value.int .i64) (by omega)), rfl, trivial⟩, B, (Int.le_refl _), (by omega)⟩
  · clear B; rintro _ w1 ⟨ρ2, j, rfl, B, h0j, h1j⟩
    refine W_seq ?_
    refine W_seq ?_
    refine W_region (by kernel_rfl) ?_
    refine s_y (v := .int .i64 j) rfl (y_move rfl) ?_
    refine s_y (v := .slice a n c) rfl (y_move rfl) ?_
    refine s_y (v := .int .i64 ((n : Nat) : Int)) rfl (y_len T37.sl_24_56_1 rfl rfl) ?_
    by_cases c3 : j < ((n : Nat) : Int)
    · refine s_y (v := .bool true) rfl (y_lss rfl rfl (decide_eq_true c3)) ?_
      refine s_nil ?_
      refine W_if_t (by decide) rfl ?_
      refine W_skip ?_
      refine W_seq ?_
      refine W_block ?_
      refine W_seq ?_
      refine W_seq ?_
      refine W_region (by kernel_rfl) ?_
      refine s_y (v := .slice a n c) rfl (y_move rfl) ?_
      refine s_y (v := .int .i64 j) rfl (y_move rfl) ?_
      refine s_y (v := .pointer (some (sat a ((j).toNat * 1)))) rfl (y_idx T37.sl_24_56_1 rfl rfl ((B.r 0 rfl).addr (by omega)) (by omega) (by omega)) ?_
      obtain ⟨r5, hr6, hR4⟩ := Rd.atF (B.r 0 rfl) j (by omega) (by omega)
      refine s_y (v := .float .f32 r5) rfl (y_load T37.one_56 rfl (hR4.cell (i := 0) rfl)) ?_
      refine s_y (v := .int .i64 (k + j)) rfl (y_move rfl) ?_
      refine s_y (v := .float .f32 (FloatKind.nearest .f32 (k + j))) rfl (y_if T37.und_3 T37.flt_56_f32 rfl) ?_
      have hk7 : ¬ (fne .f32 (el (marks k n) j) (FloatKind.nearest .f32 (k + j)) = true) := not_fne_el_marks (by omega) (by omega)
      refine s_y (v := .bool false) rfl (y_fneq rfl rfl (fneC hr6 (can_nearest .f32 (k + j)) (Bool.eq_false_iff.2 hk7))) ?_
      refine s_nil ?_
      refine W_if_f (by decide) rfl ?_
      refine W_skip ?_
      refine W_region (by kernel_rfl) ?_
      refine s_y (v := .int .i64 (k + j)) rfl (y_move rfl) ?_
      refine s_y (v := .int .i64 ((k + j) + 1)) rfl (y_add rfl rfl rfl (by omega)) ?_
      refine s_y (v := .int .i64 ((k + j) + 1)) rfl (y_assign rfl) ?_
      refine s_nil ?_
      refine W_region (by kernel_rfl) ?_
      refine s_y (v := .int .i64 j) rfl (y_move rfl) ?_
      refine s_y (v := .int .i64 (j + 1)) rfl (y_add rfl rfl rfl (by omega)) ?_
      refine s_y (v := .int .i64 (j + 1)) rfl (y_assign rfl) ?_
      refine s_nil ?_
      refine ⟨⟨_, j + 1, Fits.eq ⟨rfl, (by first | rfl | exact congrArg (Value.int .i64) (by omega)), rfl, trivial⟩, B, (by omega), (by omega)⟩, ?_⟩
      show ((n : Int) - (j + 1)).toNat < ((n : Int) - j).toNat
      omega
    · refine s_y (v := .bool false) rfl (y_lss rfl rfl (decide_eq_false c3)) ?_
      refine s_nil ?_
      refine W_if_f (by decide) rfl ?_
      refine W_exit ?_
      refine W_seq ?_
      refine W_region (by kernel_rfl) ?_
      refine s_y (v := .int .i64 (k + j)) rfl (y_move rfl) ?_
      refine s_y (v := .int .i64 (k + j)) rfl (y_assign rfl) ?_
      refine s_nil ?_
      refine W_ret ?_
      refine ret1 (v := .int .i64 (k + j)) rfl rfl rfl ⟨_, rfl, ?_⟩
      exact ⟨congrArg (Value.int .i64) (by omega), B.ext⟩
namespace T50
theorem mx : Try.prog.follows .mixedOrders = true := by kernel_rfl
theorem fld_49_0_0 : fldB Try.prog 49 0 0 = true := by kernel_rfl
theorem fld_49_1_1 : fldB Try.prog 49 1 1 = true := by kernel_rfl
theorem fld_49_2_2 : fldB Try.prog 49 2 2 = true := by kernel_rfl
theorem fn_37 : fnB Try.prog 37 = true := by kernel_rfl
theorem one_24 : oneB Try.prog 24 = true := by kernel_rfl
end T50
set_option maxRecDepth 100000 in
set_option maxHeartbeats 4000000 in
theorem c_l_heldField {afe : Option Addr} {nfe : Nat} {cfe : Nat} {afx : Option Addr} {nfx : Nat} {cfx : Nat} {afy : Option Addr} {nfy : Nat} {cfy : Nat} {k : Int} {w : World} (qfe : Rd w kF afe nfe (marks k nfe)) (qfx : Rd w kF afx nfx (marks (k + ((nfe : Nat) : Int)) nfx)) (qfy : Rd w kF afy nfy (marks (k + ((nfe : Nat) : Int) + ((nfx : Nat) : Int)) nfy)) (hbnfe : nfe ≤ 1048576) (hbnfx : nfx ≤ 1048576) (hbnfy : nfy ≤ 1048576) (hk0 : 0 ≤ k) (hk1 : k ≤ 4200000000) :
    Calls Try.prog 50 #[.agg #[.slice afe nfe cfe, .slice afx nfx cfx, .slice afy nfy cfy], .int .i64 k] w (Rt fun v w' => v = .int .i64 (k + ((nfe : Nat) : Int) + ((nfx : Nat) : Int) + ((nfy : Nat) : Int)) ∧ Ext0 w w') := by
  have hlfe := qfe.len
  have hlfx := qfx.len
  have hlfy := qfy.len
  have B : Bu w no w [.rd kF afe nfe (marks k nfe), .rd kF afx nfx (marks (k + ((nfe : Nat) : Int)) nfx), .rd kF afy nfy (marks (k + ((nfe : Nat) : Int) + ((nfx : Nat) : Int)) nfy)] := Bu.ro (All.cons qfe (All.cons qfx (All.cons qfy All.nil))) rfl
  refine calls_W (n := 24) Try.func50 rfl rfl (Nat.le_of_ble_eq_true rfl) ?_
  refine W_seq ?_
  refine W_region (by kernel_rfl) ?_
  refine s_k rfl (k_boxN (v := .agg #[.slice afe nfe cfe, .slice afx nfx cfx, .slice afy nfy cfy]) (cs := [.slice afe nfe cfe, .slice afx nfx cfx, .slice afy nfy cfy]) rfl rfl (fun b1 w2 hN3 => ?_))
  replace B := B.new1 hN3
  clear hN3
  refine s_y (v := .int .i64 0) rfl (y_assign rfl) ?_
  refine s_nil ?_
  refine W_seq ?_
  refine W_region (by kernel_rfl) ?_
  refine s_y (v := .pointer (some ⟨b1, 0, none⟩)) rfl (y_fld (o := 0) T50.fld_49_0_0 rfl) ?_
  refine s_y (v := .slice afe nfe cfe) rfl (y_load T50.one_24 rfl ((B.b 0 rfl).cell (j := 0) rfl)) ?_
  refine s_y (v := .int .i64 k) rfl (y_move rfl) ?_
  refine s_k rfl (k_call T50.fn_37 (c_l_heldFloat32S (B.r 1 rfl) (by omega) (by omega) (by omega)) rfl ?_)
  rintro _ w4 ⟨rfl, e5⟩
  replace B := B.ext0 e5
  clear e5
  refine s_y (v := .int .i64 (k + ((nfe : Nat) : Int))) rfl (y_assign rfl) ?_
  refine s_nil ?_
  refine W_seq ?_
  refine W_seq ?_
  refine W_region (by kernel_rfl) ?_
  refine s_y (v := .int .i64 (k + ((nfe : Nat) : Int))) rfl (y_move rfl) ?_
  have hk6 : ¬ ((k + ((nfe : Nat) : Int)) < 0) := (by omega)
  refine s_y (v := .bool false) rfl (y_lss rfl rfl (decide_eq_false hk6)) ?_
  refine s_nil ?_
  refine W_if_f (by decide) rfl ?_
  refine W_skip ?_
  refine W_seq ?_
  refine W_region (by kernel_rfl) ?_
  refine s_y (v := .pointer (some ⟨b1, 1, none⟩)) rfl (y_fld (o := 0) T50.fld_49_1_1 rfl) ?_
  refine s_y (v := .slice afx nfx cfx) rfl (y_load T50.one_24 rfl ((B.b 0 rfl).cell (j := 1) rfl)) ?_
  refine s_y (v := .int .i64 (k + ((nfe : Nat) : Int))) rfl (y_move rfl) ?_
  refine s_k rfl (k_call T50.fn_37 (c_l_heldFloat32S (B.r 2 rfl) (by omega) (by omega) (by omega)) rfl ?_)
  rintro _ w7 ⟨rfl, e8⟩
  replace B := B.ext0 e8
  clear e8
  refine s_y (v := .int .i64 ((k + ((nfe : Nat) : Int)) + ((nfx : Nat) : Int))) rfl (y_assign rfl) ?_
  refine s_nil ?_
  refine W_seq ?_
  refine W_seq ?_
  refine W_region (by kernel_rfl) ?_
  refine s_y (v := .int .i64 ((k + ((nfe : Nat) : Int)) + ((nfx : Nat) : Int))) rfl (y_move rfl) ?_
  have hk9 : ¬ (((k + ((nfe : Nat) : Int)) + ((nfx : Nat) : Int)) < 0) := (by omega)
  refine s_y (v := .bool false) rfl (y_lss rfl rfl (decide_eq_false hk9)) ?_
  refine s_nil ?_
  refine W_if_f (by decide) rfl ?_
  refine W_skip ?_
  refine W_seq ?_
  refine W_region (by kernel_rfl) ?_
  refine s_y (v := .pointer (some ⟨b1, 2, none⟩)) rfl (y_fld (o := 0) T50.fld_49_2_2 rfl) ?_
  refine s_y (v := .slice afy nfy cfy) rfl (y_load T50.one_24 rfl ((B.b 0 rfl).cell (j := 2) rfl)) ?_
  refine s_y (v := .int .i64 ((k + ((nfe : Nat) : Int)) + ((nfx : Nat) : Int))) rfl (y_move rfl) ?_
  refine s_k rfl (k_call T50.fn_37 (c_l_heldFloat32S (B.r 3 rfl) (by omega) (by omega) (by omega)) rfl ?_)
  rintro _ w10 ⟨rfl, e11⟩
  replace B := B.ext0 e11
  clear e11
  refine s_y (v := .int .i64 (((k + ((nfe : Nat) : Int)) + ((nfx : Nat) : Int)) + ((nfy : Nat) : Int))) rfl (y_assign rfl) ?_
  refine s_nil ?_
  refine W_seq ?_
  refine W_seq ?_
  refine W_region (by kernel_rfl) ?_
  refine s_y (v := .int .i64 (((k + ((nfe : Nat) : Int)) + ((nfx : Nat) : Int)) + ((nfy : Nat) : Int))) rfl (y_move rfl) ?_
  have hk12 : ¬ ((((k + ((nfe : Nat) : Int)) + ((nfx : Nat) : Int)) + ((nfy : Nat) : Int)) < 0) := (by omega)
  refine s_y (v := .bool false) rfl (y_lss rfl rfl (decide_eq_false hk12)) ?_
  refine s_nil ?_
  refine W_if_f (by decide) rfl ?_
  refine W_skip ?_
  refine W_seq ?_
  refine W_region (by kernel_rfl) ?_
  refine s_y (v := .int .i64 (((k + ((nfe : Nat) : Int)) + ((nfx : Nat) : Int)) + ((nfy : Nat) : Int))) rfl (y_move rfl) ?_
  refine s_y (v := .int .i64 (((k + ((nfe : Nat) : Int)) + ((nfx : Nat) : Int)) + ((nfy : Nat) : Int))) rfl (y_assign rfl) ?_
  refine s_nil ?_
  refine W_ret ?_
  refine ret1 (v := .int .i64 (((k + ((nfe : Nat) : Int)) + ((nfx : Nat) : Int)) + ((nfy : Nat) : Int))) rfl rfl rfl ⟨_, rfl, ?_⟩
  exact ⟨congrArg (Value.int .i64) (by omega), B.ext⟩
end Go.Proofs.Ytalkhbnlphefdaa
