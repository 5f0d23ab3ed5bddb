/- Walks: what the functions under FnExactReadProbes do (part 1). Printed by a program of this claim's author. -/
import Derived.Test.YtmcldploldaceaaBw1
set_option linter.unusedSimpArgs false
set_option linter.unusedVariables false
open Go.Wv
namespace Go.Proofs.Ytmcldploldaceaa
open Go.Proofs
namespace T50
theorem mx : Try.prog.follows .mixedOrders = true := by kernel_rfl
theorem sl_60_111_2 : slB Try.prog 60 111 2 = true := by kernel_rfl
end T50
set_option maxRecDepth 100000 in
set_option maxHeartbeats 4000000 in
theorem c_l_szProbeS {a : Option Addr} {n : Nat} {c : Nat} {left : Int} {w : World} (h0 : 0 ≤ left) (h1 : left ≤ 1048576) (hn : n ≤ 9223372036854775807) :
    Calls Try.prog 50 #[.slice a n c, .int .i64 left] w (Rt fun v w' => v = .int .i64 (if ((n : Nat) : Int) ≤ left then left - ((n : Nat) : Int) else -1) ∧ Ext0 w w') := by
  have B : Bu w no w [] := Bu.ro All.nil rfl
  refine calls_W (n := 12) Try.func50 rfl rfl (Nat.le_of_ble_eq_true rfl) ?_
  refine W_seq ?_
  refine W_region (by kernel_rfl) ?_
  refine s_y (v := .int .i64 0) rfl (y_assign rfl) ?_
  refine s_nil ?_
  refine W_seq ?_
  refine W_region (by kernel_rfl) ?_
  refine s_y (v := .int .i64 left) rfl (y_move rfl) ?_
  refine s_y (v := .slice a n c) rfl (y_move rfl) ?_
  refine s_y (v := .int .i64 ((n : Nat) : Int)) rfl (y_len T50.sl_60_111_2 rfl rfl) ?_
  refine s_y (v := .int .i64 (left - ((n : Nat) : Int))) rfl (y_sub rfl rfl rfl (by omega)) ?_
  refine s_y (v := .int .i64 (left - ((n : Nat) : Int))) rfl (y_assign rfl) ?_
  refine s_nil ?_
  refine W_seq ?_
  refine W_seq ?_
  refine W_region (by kernel_rfl) ?_
  refine s_y (v := .int .i64 (left - ((n : Nat) : Int))) rfl (y_move rfl) ?_
  by_cases c1 : (left - ((n : Nat) : Int)) < 0
  · refine s_y (v := .bool true) rfl (y_lss rfl rfl (decide_eq_true c1)) ?_
    refine s_nil ?_
    refine W_if_t (by decide) rfl ?_
    refine W_seq ?_
    refine W_region (by kernel_rfl) ?_
    refine s_y (v := .int .i64 (-1)) rfl (y_assign rfl) ?_
    refine s_nil ?_
    refine W_ret ?_
    refine ret1 (v := .int .i64 (-1)) rfl rfl rfl ⟨_, rfl, ?_⟩
    exact ⟨congrArg (Value.int .i64) (if_neg (by omega)).symm, B.ext⟩
  · refine s_y (v := .bool false) rfl (y_lss rfl rfl (decide_eq_false c1)) ?_
    refine s_nil ?_
    refine W_if_f (by decide) rfl ?_
    refine W_skip ?_
    refine W_seq ?_
    refine W_region (by kernel_rfl) ?_
    refine s_y (v := .int .i64 (left - ((n : Nat) : Int))) rfl (y_move rfl) ?_
    refine s_y (v := .int .i64 (left - ((n : Nat) : Int))) rfl (y_assign rfl) ?_
    refine s_nil ?_
    refine W_ret ?_
    refine ret1 (v := .int .i64 (left - ((n : Nat) : Int))) rfl rfl rfl ⟨_, rfl, ?_⟩
    exact ⟨congrArg (Value.int .i64) (if_pos (by omega)).symm, B.ext⟩
namespace T108
theorem mx : Try.prog.follows .mixedOrders = true := by kernel_rfl
theorem agg_109_2 : aggB Try.prog 109 2 = true := by kernel_rfl
theorem fld_109_0_0 : fldB Try.prog 109 0 0 = true := by kernel_rfl
theorem fld_109_1_1 : fldB Try.prog 109 1 1 = true := by kernel_rfl
theorem fld_111_0_0 : fldB Try.prog 111 0 0 = true := by kernel_rfl
theorem fld_111_1_1 : fldB Try.prog 111 1 1 = true := by kernel_rfl
theorem one_2 : oneB Try.prog 2 = true := by kernel_rfl
theorem sz_109_2 : szB Try.prog 109 2 = true := by kernel_rfl
theorem sz_2_1 : szB Try.prog 2 1 = true := by kernel_rfl
theorem zero_109 : zeroB Try.prog 109 (.agg #[.int .i64 0, .int .i64 0]) := by unfold zeroB; kernel_rfl
end T108
set_option maxRecDepth 100000 in
set_option maxHeartbeats 4000000 in
theorem c_l_toProbe {px : Int} {py : Int} {w : World} :
    Calls Try.prog 108 #[.agg #[.int .i64 px, .int .i64 py]] w (Rt fun v w' => v = .agg #[.int .i64 px, .int .i64 py] ∧ Ext0 w w') := by
  have B : Bu w no w [] := Bu.ro All.nil rfl
  refine calls_W (n := 11) Try.func108 rfl rfl (Nat.le_of_ble_eq_true rfl) ?_
  refine W_seq ?_
  refine W_region (by kernel_rfl) ?_
  refine s_k rfl (k_boxN (v := .agg #[.int .i64 px, .int .i64 py]) (cs := [.int .i64 px, .int .i64 py]) rfl rfl (fun b1 w2 hN3 => ?_))
  replace B := B.new1 hN3
  clear hN3
  refine s_k rfl (k_allocN (z := (.agg #[.int .i64 0, .int .i64 0])) (cs := [.int .i64 0, .int .i64 0]) T108.zero_109 rfl (fun b4 w5 hN6 => ?_))
  replace B := B.new1 hN6
  clear hN6
  refine s_nil ?_
  refine W_seq ?_
  refine W_region (by kernel_rfl) ?_
  refine s_k rfl (k_allocN (z := (.agg #[.int .i64 0, .int .i64 0])) (cs := [.int .i64 0, .int .i64 0]) T108.zero_109 rfl (fun b7 w8 hN9 => ?_))
  replace B := B.new1 hN9
  clear hN9
  refine s_nil ?_
  refine W_seq ?_
  refine W_region (by kernel_rfl) ?_
  refine s_y (v := .pointer (some ⟨b1, 0, none⟩)) rfl (y_fld (o := 0) T108.fld_111_0_0 rfl) ?_
  refine s_y (v := .int .i64 px) rfl (y_load T108.one_2 rfl ((B.b 2 rfl).cell (j := 0) rfl)) ?_
  refine s_y (v := .pointer (some ⟨b7, 0, none⟩)) rfl (y_fld (o := 0) T108.fld_109_0_0 rfl) ?_
  refine s_k0 rfl (k_stB (v := .int .i64 px) (n := 1) (cs' := [.int .i64 px, .int .i64 0]) T108.sz_2_1 rfl rfl rfl (B.b 0 rfl) (by simp [Value.cells, Value.oneCell']) (Nat.le_of_ble_eq_true rfl) rfl (fun w10 hU11 => ?_))
  replace B : Bu w no w10 [.blk b7 [.int .i64 px, .int .i64 0] 109, .blk b4 [.int .i64 0, .int .i64 0] 109, .blk b1 [.int .i64 px, .int .i64 py] 111] := B.upd [0] rfl hU11
  clear hU11
  refine s_nil ?_
  refine W_seq ?_
  refine W_region (by kernel_rfl) ?_
  refine s_y (v := .pointer (some ⟨b1, 1, none⟩)) rfl (y_fld (o := 0) T108.fld_111_1_1 rfl) ?_
  refine s_y (v := .int .i64 py) rfl (y_load T108.one_2 rfl ((B.b 2 rfl).cell (j := 1) rfl)) ?_
  refine s_y (v := .pointer (some ⟨b7, 1, none⟩)) rfl (y_fld (o := 0) T108.fld_109_1_1 rfl) ?_
  refine s_k0 rfl (k_stB (v := .int .i64 py) (n := 1) (cs' := [.int .i64 px, .int .i64 py]) T108.sz_2_1 rfl rfl rfl (B.b 0 rfl) (by simp [Value.cells, Value.oneCell']) (Nat.le_of_ble_eq_true rfl) rfl (fun w12 hU13 => ?_))
  replace B : Bu w no w12 [.blk b7 [.int .i64 px, .int .i64 py] 109, .blk b4 [.int .i64 0, .int .i64 0] 109, .blk b1 [.int .i64 px, .int .i64 py] 111] := B.upd [0] rfl hU13
  clear hU13
  refine s_nil ?_
  refine W_seq ?_
  refine W_region (by kernel_rfl) ?_
  refine s_y (v := .agg #[.int .i64 px, .int .i64 py]) rfl (y_loadn (b := b7) (o := 0) (vs := [.int .i64 px, .int .i64 py]) T108.agg_109_2 rfl rfl ((B.b 0 rfl).cells (o := 0) rfl)) ?_
  refine s_k0 rfl (k_stB (v := .agg #[.int .i64 px, .int .i64 py]) (n := 2) (cs' := [.int .i64 px, .int .i64 py]) T108.sz_109_2 rfl rfl rfl (B.b 1 rfl) (by simp [Value.cells, Value.oneCell']) (Nat.le_of_ble_eq_true rfl) rfl (fun w14 hU15 => ?_))
  replace B : Bu w no w14 [.blk b4 [.int .i64 px, .int .i64 py] 109, .blk b7 [.int .i64 px, .int .i64 py] 109, .blk b1 [.int .i64 px, .int .i64 py] 111] := B.upd [1] rfl hU15
  clear hU15
  refine s_nil ?_
  refine W_ret ?_
  refine ret1 (v := .agg #[.int .i64 px, .int .i64 py]) rfl rfl ⟨_, [.int .i64 px, .int .i64 py], _, rfl, (B.b 0 rfl), T108.agg_109_2, rfl⟩ ⟨_, rfl, ?_⟩
  exact ⟨rfl, B.ext⟩
namespace T52
theorem mx : Try.prog.follows .mixedOrders = true := by kernel_rfl
theorem agg_111_2 : aggB Try.prog 111 2 = true := by kernel_rfl
theorem fn_108 : fnB Try.prog 108 = true := by kernel_rfl
theorem sl_60_111_2 : slB Try.prog 60 111 2 = true := by kernel_rfl
theorem sl_64_109_2 : slB Try.prog 64 109 2 = true := by kernel_rfl
theorem slt_64 : SlT Try.prog 64 109 2 16 (.agg #[.int .i64 0, .int .i64 0]) := ⟨by kernel_rfl, by kernel_rfl, rfl, by decide⟩
theorem sz_109_2 : szB Try.prog 109 2 = true := by kernel_rfl
end T52
set_option maxRecDepth 100000 in
set_option maxHeartbeats 4000000 in
theorem c_l_toProbeS {a : Option Addr} {n : Nat} {c : Nat} {X : List (Int × Int)} {w : World} (q : Rd w kP a n X) (hb : n ≤ 1048576) :
    Calls Try.prog 52 #[.slice a n c] w (Rt fun v w' => ∃ (a1 : Option Addr) (c1 : Nat), v = .slice a1 n c1 ∧ New w w' [.ow kP a1 n c1 109 X]) := by
  have hl := q.len
  have B : Bu w no w [.rd kP a n X] := Bu.ro (All.cons q All.nil) rfl
  refine calls_W (n := 23) Try.func52 rfl rfl (Nat.le_of_ble_eq_true rfl) ?_
  refine W_seq ?_
  refine W_region (by kernel_rfl) ?_
  refine s_y (v := .slice none 0 0) rfl (y_assign rfl) ?_
  refine s_nil ?_
  refine W_seq ?_
  refine W_region (by kernel_rfl) ?_
  refine s_y (v := .slice a n c) rfl (y_move rfl) ?_
  refine s_y (v := .int .i64 ((n : Nat) : Int)) rfl (y_len T52.sl_60_111_2 rfl rfl) ?_
  refine s_k rfl (k_mkO (k := kP) (z0 := ((0 : Int), (0 : Int))) T52.slt_64 rfl rfl rfl (by omega) (by omega) (by omega) (fun b1 w2 hN3 => ?_))
  replace B := B.new1 hN3
  clear hN3
  refine s_y (v := .slice (some ⟨b1, 0, none⟩) ((((n : Nat) : Int)).toNat) ((((n : Nat) : Int)).toNat)) rfl (y_assign rfl) ?_
  refine s_nil ?_
  refine W_seq ?_
  refine W_seq ?_
  refine W_region (by kernel_rfl) ?_
  refine s_y (v := .int .i64 0) rfl (y_assign rfl) ?_
  refine s_nil ?_
  refine W_block ?_
  refine W_loop (fun ρ' w' => ∃ (ρ1 : Env) (k : Int) (zs : List (Int × Int)), ρ' = updL ρ1 [(0, .slice a n c), (2, .slice none 0 0), (3, .slice (some ⟨b1, 0, none⟩) ((((n : Nat) : Int)).toNat) ((((n : Nat) : Int)).toNat)), (4, .int .i64 k)] ∧ Bu w no w' [.ow kP (some ⟨b1, 0, none⟩) n n 109 zs, .rd kP a n X] ∧ (0 ≤ k) ∧ (k ≤ (n : Int)) ∧ (zs.length = n) ∧ (∀ i, 0 ≤ i → i < k → gl zs i = gl X i)) (fun ρ' _ => ((n : Int) - iv (ρ' 4)).toNat) ?_ ?_
  · exact ⟨_, 0, _, Fits.eq ⟨rfl, rfl, rfl, rfl, trivial⟩, B, (Int.le_refl _), (by omega), (by simp), (by intro i h0 h1; omega)⟩
  · clear B; rintro _ w4 ⟨ρ5, k, zs, rfl, B, h0k, h1k, hz, hq⟩
    refine W_seq ?_
    refine W_seq ?_
    refine W_region (by kernel_rfl) ?_
    refine s_y (v := .int .i64 k) rfl (y_move rfl) ?_
    refine s_y (v := .slice a n c) rfl (y_move rfl) ?_
    refine s_y (v := .int .i64 ((n : Nat) : Int)) rfl (y_len T52.sl_60_111_2 rfl rfl) ?_
    by_cases c6 : k < ((n : Nat) : Int)
    · refine s_y (v := .bool true) rfl (y_lss rfl rfl (decide_eq_true c6)) ?_
      refine s_nil ?_
      refine W_if_t (by decide) rfl ?_
      refine W_skip ?_
      refine W_seq ?_
      refine W_block ?_
      refine W_region (by kernel_rfl) ?_
      refine s_y (v := .slice (some ⟨b1, 0, none⟩) ((((n : Nat) : Int)).toNat) ((((n : Nat) : Int)).toNat)) rfl (y_move rfl) ?_
      refine s_y (v := .int .i64 k) rfl (y_move rfl) ?_
      refine s_y (v := .slice a n c) rfl (y_move rfl) ?_
      refine s_y (v := .int .i64 k) rfl (y_move rfl) ?_
      refine s_y (v := .pointer (some (sat a ((k).toNat * 2)))) rfl (y_idx T52.sl_60_111_2 rfl rfl ((B.r 1 rfl).addr (by omega)) (by omega) (by omega)) ?_
      have hR7 := Rd.atP (B.r 1 rfl) k (by omega) (by omega)
      refine s_y (v := .agg #[.int .i64 ((gl X k).1), .int .i64 ((gl X k).2)]) rfl (y_loadR (vs := [.int .i64 ((gl X k).1), .int .i64 ((gl X k).2)]) T52.agg_111_2 rfl rfl (by decide) hR7) ?_
      refine s_k rfl (k_call T52.fn_108 (c_l_toProbe) rfl ?_)
      rintro _ w8 ⟨rfl, e9⟩
      replace B := B.ext0 e9
      clear e9
      refine s_y (v := .pointer (some (sat (some ⟨b1, 0, none⟩) ((k).toNat * 2)))) rfl (y_idx T52.sl_64_109_2 rfl rfl ((B.o 0 rfl).rd.addr (by omega)) (by omega) (by omega)) ?_
      refine s_k0 rfl (k_stO (k := kP) (i := k) (j := 0) (x' := (((gl X k).1), ((gl X k).2))) (new := [.int .i64 ((gl X k).1), .int .i64 ((gl X k).2)]) T52.sz_109_2 rfl rfl rfl rfl rfl (by simp [Value.oneCell']) (by decide) (B.o 0 rfl) (by omega) (by omega) (by decide) (by rintro q rfl; rfl) (fun w10 hU11 => ?_))
      replace B : Bu w no w10 [.ow kP (some ⟨b1, 0, none⟩) n n 109 (pl zs k (((gl X k).1), ((gl X k).2))), .rd kP a n X] := B.upd [0] rfl hU11
      clear hU11
      refine s_nil ?_
      refine W_region (by kernel_rfl) ?_
      refine s_y (v := .int .i64 k) rfl (y_move rfl) ?_
      refine s_y (v := .int .i64 (k + 1)) rfl (y_add rfl rfl rfl (by omega)) ?_
      refine s_y (v := .int .i64 (k + 1)) rfl (y_assign rfl) ?_
      refine s_nil ?_
      refine ⟨⟨_, k + 1, _, Fits.eq ⟨rfl, rfl, rfl, rfl, trivial⟩, B, (by omega), (by omega), ((pl_length ..).trans hz), (gl_same (by omega) (by omega) (by omega) hq)⟩, ?_⟩
      show ((n : Int) - (k + 1)).toNat < ((n : Int) - k).toNat
      omega
    · refine s_y (v := .bool false) rfl (y_lss rfl rfl (decide_eq_false c6)) ?_
      refine s_nil ?_
      refine W_if_f (by decide) rfl ?_
      refine W_exit ?_
      refine W_seq ?_
      refine W_region (by kernel_rfl) ?_
      refine s_y (v := .slice (some ⟨b1, 0, none⟩) ((((n : Nat) : Int)).toNat) ((((n : Nat) : Int)).toNat)) rfl (y_move rfl) ?_
      refine s_y (v := .slice (some ⟨b1, 0, none⟩) ((((n : Nat) : Int)).toNat) ((((n : Nat) : Int)).toNat)) rfl (y_assign rfl) ?_
      refine s_nil ?_
      refine W_ret ?_
      refine ret1 (v := .slice (some ⟨b1, 0, none⟩) ((((n : Nat) : Int)).toNat) ((((n : Nat) : Int)).toNat)) rfl rfl rfl ⟨_, rfl, ?_⟩
      obtain rfl : zs = X := ext_gl (by omega) (fun i h0 h1 => hq i h0 (by omega))
      exact ⟨_, _, rfl, B.give [0] rfl rfl rfl⟩
namespace T106
theorem mx : Try.prog.follows .mixedOrders = true := by kernel_rfl
theorem fld_109_0_0 : fldB Try.prog 109 0 0 = true := by kernel_rfl
theorem fld_109_1_1 : fldB Try.prog 109 1 1 = true := by kernel_rfl
theorem fn_116 : fnB Try.prog 116 = true := by kernel_rfl
theorem one_2 : oneB Try.prog 2 = true := by kernel_rfl
theorem sl_64_109_2 : slB Try.prog 64 109 2 = true := by kernel_rfl
end T106
set_option maxRecDepth 100000 in
set_option maxHeartbeats 4000000 in
theorem c_s_l04Probes {b : Nat} {o : Nat} {wd : Int} {hi : Int} {wr : Bool} {asp : Option Addr} {nsp : Nat} {csp : Nat} {als : Option Addr} {nls : Nat} {cls : Nat} {ap : Option Addr} {np : Nat} {cp : Nat} {Xp : List (Int × Int)} {w : World} (Pb : Sl w (some ⟨b, o, none⟩) [.int .i64 wd, .int .i64 hi, .bool wr, .slice asp nsp csp, .slice als nls cls]) (qp : Rd w kP ap np Xp) (h1 : 3 ≤ wd) (h2 : wd ≤ 16) (h3 : 3 ≤ hi) (h4 : hi ≤ 16) :
    Calls Try.prog 106 #[.pointer (some ⟨b, o, none⟩), .slice ap np cp] w (Rt fun v w' => v = .bool (prB wd hi Xp) ∧ Ext0 w w') := by
  have hlp := qp.len
  have B : Bu w no w [.sl (some ⟨b, o, none⟩) [.int .i64 wd, .int .i64 hi, .bool wr, .slice asp nsp csp, .slice als nls cls], .rd kP ap np Xp] := Bu.ro (All.cons Pb (All.cons qp All.nil)) rfl
  refine calls_W (n := 28) Try.func106 rfl rfl (Nat.le_of_ble_eq_true rfl) ?_
  refine W_seq ?_
  refine W_region (by kernel_rfl) ?_
  refine s_y (v := .bool false) rfl (y_assign rfl) ?_
  refine s_nil ?_
  refine W_seq ?_
  refine W_seq ?_
  refine W_region (by kernel_rfl) ?_
  refine s_y (v := .slice ap np cp) rfl (y_move rfl) ?_
  refine s_y (v := .int .i64 ((np : Nat) : Int)) rfl (y_len T106.sl_64_109_2 rfl rfl) ?_
  by_cases c1 : 8 < ((np : Nat) : Int)
  · refine s_y (v := .bool true) rfl (y_gtr rfl rfl (decide_eq_true c1)) ?_
    refine s_nil ?_
    refine W_if_t (by decide) rfl ?_
    refine W_seq ?_
    refine W_region (by kernel_rfl) ?_
    refine s_y (v := .bool false) rfl (y_assign rfl) ?_
    refine s_nil ?_
    refine W_ret ?_
    refine ret1 (v := .bool false) rfl rfl rfl ⟨_, rfl, ?_⟩
    exact ⟨congrArg Value.bool ((prB_n (by omega)).symm), B.ext⟩
  · refine s_y (v := .bool false) rfl (y_gtr rfl rfl (decide_eq_false c1)) ?_
    refine s_nil ?_
    refine W_if_f (by decide) rfl ?_
    refine W_skip ?_
    refine W_seq ?_
    refine W_seq ?_
    refine W_region (by kernel_rfl) ?_
    refine s_y (v := .int .i64 0) rfl (y_assign rfl) ?_
    refine s_nil ?_
    refine W_block ?_
    refine W_loop (fun ρ' w' => ∃ (ρ1 : Env) (k : Int), ρ' = updL ρ1 [(0, .pointer (some ⟨b, o, none⟩)), (1, .slice ap np cp), (5, .int .i64 k)] ∧ Bu w no w' [.sl (some ⟨b, o, none⟩) [.int .i64 wd, .int .i64 hi, .bool wr, .slice asp nsp csp, .slice als nls cls], .rd kP ap np Xp] ∧ (0 ≤ k) ∧ (k ≤ (np : Int)) ∧ (∀ i, 0 ≤ i → i < k → cellB wd hi (gl Xp i).1 (gl Xp i).2 = true)) (fun ρ' _ => ((np : Int) - iv (ρ' 5)).toNat) ?_ ?_
    · exact ⟨_, 0, Fits.eq ⟨rfl, rfl, rfl, trivial⟩, B, (Int.le_refl _), (by omega), (by intro i h0 h1; omega)⟩
    · clear B; rintro _ w2 ⟨ρ3, k, rfl, B, h0k, h1k, hq⟩
      refine W_seq ?_
      refine W_seq ?_
      refine W_region (by kernel_rfl) ?_
      refine s_y (v := .int .i64 k) rfl (y_move rfl) ?_
      refine s_y (v := .slice ap np cp) rfl (y_move rfl) ?_
      refine s_y (v := .int .i64 ((np : Nat) : Int)) rfl (y_len T106.sl_64_109_2 rfl rfl) ?_
      by_cases c4 : k < ((np : Nat) : Int)
      · refine s_y (v := .bool true) rfl (y_lss rfl rfl (decide_eq_true c4)) ?_
        refine s_nil ?_
        refine W_if_t (by decide) rfl ?_
        refine W_skip ?_
        refine W_seq ?_
        refine W_block ?_
        refine W_seq ?_
        have B0_9 := B
        refine W_draw (no) T106.mx (by kernel_rfl) (fun w7 e8 => ?_)
        have R10 := Ext.refl (no) w2
        replace R10 := R10.trans (Ext0.any e8)
        replace B := B.ext0 e8
        clear e8
        refine m_y (v := .pointer (some ⟨b, o, none⟩)) 0 rfl (by kernel_rfl) rfl rfl (fun w' e' => y_move rfl) ?_
        refine m_y (v := .slice ap np cp) 1 rfl (by kernel_rfl) rfl rfl (fun w' e' => y_move rfl) ?_
        refine m_y (v := .int .i64 k) 2 rfl (by kernel_rfl) rfl rfl (fun w' e' => y_move rfl) ?_
        refine m_y (v := .pointer (some (sat ap ((k).toNat * 2)))) 3 rfl (by kernel_rfl) rfl rfl (fun w' e' => y_idx T106.sl_64_109_2 rfl rfl ((B.r 1 rfl).addr (by omega)) (by omega) (by omega)) ?_
        refine m_y (v := .pointer (some (sat ap ((k).toNat * 2)))) 4 rfl (by kernel_rfl) rfl rfl (fun w' e' => y_fldEl (j := (k).toNat * 2) T106.fld_109_0_0 rfl ((B.r 1 rfl).addr (by omega))) ?_
        have hR11 := Rd.atP (B0_9.r 1 rfl) k (by omega) (by omega)
        refine m_y (v := .int .i64 ((gl Xp k).1)) 5 rfl (by kernel_rfl) rfl rfl (fun w' e' => y_load T106.one_2 rfl ((hR11.ext0 e').cell (i := 0) rfl)) ?_
        refine m_y (v := .slice ap np cp) 6 rfl (by kernel_rfl) rfl rfl (fun w' e' => y_move rfl) ?_
        refine m_y (v := .int .i64 k) 7 rfl (by kernel_rfl) rfl rfl (fun w' e' => y_move rfl) ?_
        refine m_y (v := .pointer (some (sat ap ((k).toNat * 2)))) 8 rfl (by kernel_rfl) rfl rfl (fun w' e' => y_idx T106.sl_64_109_2 rfl rfl ((B.r 1 rfl).addr (by omega)) (by omega) (by omega)) ?_
        refine m_y (v := .pointer (some (sat ap ((k).toNat * 2 + 1)))) 9 rfl (by kernel_rfl) rfl rfl (fun w' e' => y_fldEl (j := (k).toNat * 2) T106.fld_109_1_1 rfl ((B.r 1 rfl).addr (by omega))) ?_
        have hR12 := Rd.atP (B0_9.r 1 rfl) k (by omega) (by omega)
        refine m_y (v := .int .i64 ((gl Xp k).2)) 10 rfl (by kernel_rfl) rfl rfl (fun w' e' => y_load T106.one_2 rfl ((hR12.ext0 e').cell (i := 1) rfl)) ?_
        refine m_k 11 [12] rfl (by kernel_rfl) rfl rfl (fun w13 e14 => ?_)
        replace R10 := R10.trans (Ext0.any e14)
        replace B := B.ext0 e14
        clear e14
        refine k_call T106.fn_116 (c_s_l02Cell (B.s 0 rfl) (by omega) (by omega) (by omega) (by omega)) rfl ?_
        rintro v17 w15 ⟨hv18, e16⟩
        replace R10 := R10.trans (Ext0.any e16)
        replace B := B.ext0 e16
        clear e16
        refine ⟨fun _ => R10, ?_⟩
        by_cases c19 : cellB wd hi ((gl Xp k).1) ((gl Xp k).2) = true
        · have hb20 := cellB_b c19
          obtain rfl : v17 = .bool true := hv18.trans (congrArg Value.bool c19)
          refine m_y (v := .bool false) 12 rfl (by kernel_rfl) rfl rfl (fun w' e' => y_not rfl rfl) ?_
          refine m_done (by kernel_rfl) (fun w21 e22 => ?_)
          replace B := B.ext0 e22
          clear e22
          clear B0_9 R10
          refine W_if_f (by decide) rfl ?_
          refine W_skip ?_
          refine W_region (by kernel_rfl) ?_
          refine s_y (v := .int .i64 k) rfl (y_move rfl) ?_
          refine s_y (v := .int .i64 (k + 1)) rfl (y_add rfl rfl rfl (by omega)) ?_
          refine s_y (v := .int .i64 (k + 1)) rfl (y_assign rfl) ?_
          refine s_nil ?_
          refine ⟨⟨_, k + 1, Fits.eq ⟨rfl, rfl, rfl, trivial⟩, B, (by omega), (by omega), (allI_more (p := fun i => cellB wd hi (gl Xp i).1 (gl Xp i).2) hq (by assumption))⟩, ?_⟩
          show ((np : Int) - (k + 1)).toNat < ((np : Int) - k).toNat
          omega
        · obtain rfl : v17 = .bool false := hv18.trans (congrArg Value.bool (Bool.eq_false_iff.2 c19))
          refine m_y (v := .bool true) 12 rfl (by kernel_rfl) rfl rfl (fun w' e' => y_not rfl rfl) ?_
          refine m_done (by kernel_rfl) (fun w23 e24 => ?_)
          replace B := B.ext0 e24
          clear e24
          clear B0_9 R10
          refine W_if_t (by decide) rfl ?_
          refine W_seq ?_
          refine W_region (by kernel_rfl) ?_
          refine s_y (v := .bool false) rfl (y_assign rfl) ?_
          refine s_nil ?_
          refine W_ret ?_
          refine ret1 (v := .bool false) rfl rfl rfl ⟨_, rfl, ?_⟩
          exact ⟨congrArg Value.bool ((prB_no (i := k) (by omega) (by omega) (by assumption)).symm), B.ext⟩
      · refine s_y (v := .bool false) rfl (y_lss rfl rfl (decide_eq_false c4)) ?_
        refine s_nil ?_
        refine W_if_f (by decide) rfl ?_
        refine W_exit ?_
        refine W_seq ?_
        refine W_region (by kernel_rfl) ?_
        refine s_y (v := .bool true) rfl (y_assign rfl) ?_
        refine s_nil ?_
        refine W_ret ?_
        refine ret1 (v := .bool true) rfl rfl rfl ⟨_, rfl, ?_⟩
        exact ⟨congrArg Value.bool ((prB_yes (by omega) (fun i h0 h1 => hq i h0 (by omega))).symm), B.ext⟩
namespace T107
theorem mx : Try.prog.follows .mixedOrders = true := by kernel_rfl
theorem fld_109_0_0 : fldB Try.prog 109 0 0 = true := by kernel_rfl
theorem fld_109_1_1 : fldB Try.prog 109 1 1 = true := by kernel_rfl
theorem fld_26_0_0 : fldB Try.prog 26 0 0 = true := by kernel_rfl
theorem fld_29_0_0 : fldB Try.prog 29 0 0 = true := by kernel_rfl
theorem one_2 : oneB Try.prog 2 = true := by kernel_rfl
theorem one_24 : oneB Try.prog 24 = true := by kernel_rfl
theorem one_35 : oneB Try.prog 35 = true := by kernel_rfl
theorem sl_24_35_1 : slB Try.prog 24 35 1 = true := by kernel_rfl
theorem sl_64_109_2 : slB Try.prog 64 109 2 = true := by kernel_rfl
theorem slt_24 : SlT Try.prog 24 35 1 4 (.float .f32 0) := ⟨by kernel_rfl, by kernel_rfl, rfl, by decide⟩
end T107
set_option maxRecDepth 100000 in
set_option maxHeartbeats 4000000 in
theorem c_s_l04Read {b : Nat} {o : Nat} {wd : Int} {hi : Int} {wr : Bool} {asp : Option Addr} {nsp : Nat} {csp : Nat} {als : Option Addr} {nls : Nat} {cls : Nat} {b2 : Nat} {o2 : Nat} {afe : Option Addr} {nfe : Nat} {cfe : Nat} {Xfe : List Nat} {afx : Option Addr} {nfx : Nat} {cfx : Nat} {Xfx : List Nat} {afy : Option Addr} {nfy : Nat} {cfy : Nat} {Xfy : List Nat} {ap : Option Addr} {np : Nat} {cp : Nat} {Xp : List (Int × Int)} {w : World} (Pb : Sl w (some ⟨b, o, none⟩) [.int .i64 wd, .int .i64 hi, .bool wr, .slice asp nsp csp, .slice als nls cls]) (qfe : Rd w kF afe nfe Xfe) (qfx : Rd w kF afx nfx Xfx) (qfy : Rd w kF afy nfy Xfy) (Pb2 : Sl w (some ⟨b2, o2, none⟩) [.slice afe nfe cfe, .slice afx nfx cfx, .slice afy nfy cfy]) (qp : Rd w kP ap np Xp) (h1 : 3 ≤ wd) (h2 : wd ≤ 16) (h3 : 3 ≤ hi) (h4 : hi ≤ 16) (gfe : (nfe : Int) = wd * hi) (gfx : (nfx : Int) = wd * hi) (gfy : (nfy : Int) = wd * hi) (hprb : prB wd hi Xp = true) (hp8 : np ≤ 8) :
    Calls Try.prog 107 #[.pointer (some ⟨b, o, none⟩), .pointer (some ⟨b2, o2, none⟩), .slice ap np cp] w (Rt fun v w' => ∃ (a1 : Option Addr) (c1 : Nat), v = .slice a1 np c1 ∧ New w w' [.ow kF a1 np c1 35 (readL wd Xfe Xp np)]) := by
  have hlfe := qfe.len
  have hlfx := qfx.len
  have hlfy := qfy.len
  have hlp := qp.len
  have B : Bu w no w [.sl (some ⟨b, o, none⟩) [.int .i64 wd, .int .i64 hi, .bool wr, .slice asp nsp csp, .slice als nls cls], .rd kF afe nfe Xfe, .rd kF afx nfx Xfx, .rd kF afy nfy Xfy, .sl (some ⟨b2, o2, none⟩) [.slice afe nfe cfe, .slice afx nfx cfx, .slice afy nfy cfy], .rd kP ap np Xp] := Bu.ro (All.cons Pb (All.cons qfe (All.cons qfx (All.cons qfy (All.cons Pb2 (All.cons qp All.nil)))))) rfl
  have hwh := mul16 (And.intro (And.intro h1 h2) (And.intro h3 h4))
  refine calls_W (n := 42) Try.func107 rfl rfl (Nat.le_of_ble_eq_true rfl) ?_
  refine W_seq ?_
  refine W_region (by kernel_rfl) ?_
  refine s_y (v := .slice none 0 0) rfl (y_assign rfl) ?_
  refine s_nil ?_
  refine W_seq ?_
  refine W_region (by kernel_rfl) ?_
  refine s_k rfl (k_bsliceO (k := kF) (n := 0) (cells := #[]) (X := []) T107.slt_24 (by decide) (by first | rfl | kernel_rfl) (rfl : Reps kF [] []) rfl (fun b1 w2 hN3 => ?_))
  replace B := B.new1 hN3
  clear hN3
  refine s_y (v := .slice (some ⟨b1, 0, none⟩) 0 0) rfl (y_assign rfl) ?_
  refine s_nil ?_
  refine W_seq ?_
  refine W_seq ?_
  refine W_region (by kernel_rfl) ?_
  refine s_y (v := .int .i64 0) rfl (y_assign rfl) ?_
  refine s_nil ?_
  refine W_block ?_
  refine W_loop (fun ρ' w' => ∃ (ρ1 : Env) (k : Int) (a0 : Option Addr) (cc0 : Nat) (nn0 : Nat), ρ' = updL ρ1 [(0, .pointer (some ⟨b, o, none⟩)), (1, .pointer (some ⟨b2, o2, none⟩)), (2, .slice ap np cp), (6, .slice none 0 0), (7, .slice a0 nn0 cc0), (8, .int .i64 k)] ∧ Bu w no w' [.ow kF a0 nn0 cc0 35 (readL wd Xfe Xp k), .sl (some ⟨b, o, none⟩) [.int .i64 wd, .int .i64 hi, .bool wr, .slice asp nsp csp, .slice als nls cls], .rd kF afe nfe Xfe, .rd kF afx nfx Xfx, .rd kF afy nfy Xfy, .sl (some ⟨b2, o2, none⟩) [.slice afe nfe cfe, .slice afx nfx cfx, .slice afy nfy cfy], .rd kP ap np Xp] ∧ (0 ≤ k) ∧ (k ≤ (np : Int))) (fun ρ' _ => ((np : Int) - iv (ρ' 8)).toNat) ?_ ?_
  · replace B : Bu w no w2 [.ow kF (some ⟨b1, 0, none⟩) 0 0 35 (readL wd Xfe Xp 0), .sl (some ⟨b, o, none⟩) [.int .i64 wd, .int .i64 hi, .bool wr, .slice asp nsp csp, .slice als nls cls], .rd kF afe nfe Xfe, .rd kF afx nfx Xfx, .rd kF afy nfy Xfy, .sl (some ⟨b2, o2, none⟩) [.slice afe nfe cfe, .slice afx nfx cfx, .slice afy nfy cfy], .rd kP ap np Xp] := B.castX 0 rfl rfl rfl
    exact ⟨_, 0, (some ⟨b1, 0, none⟩), 0, 0, Fits.eq ⟨rfl, rfl, rfl, rfl, rfl, rfl, trivial⟩, B, (Int.le_refl _), (by omega)⟩
  · clear B; rintro _ w4 ⟨ρ5, k, a0, cc0, nn0, rfl, B, h0k, h1k⟩
    have hnn0 := (B.o 0 rfl).len
    rw [readL, tab_length] at hnn0
    have hcell2 : k < (np : Int) → _ := fun hlt => read_cell (ps := Xp) (wd := wd) (hi := hi) (k := k) hprb (by omega) (by omega)
    refine W_seq ?_
    refine W_seq ?_
    refine W_region (by kernel_rfl) ?_
    refine s_y (v := .int .i64 k) rfl (y_move rfl) ?_
    refine s_y (v := .slice ap np cp) rfl (y_move rfl) ?_
    refine s_y (v := .int .i64 ((np : Nat) : Int)) rfl (y_len T107.sl_64_109_2 rfl rfl) ?_
    by_cases c6 : k < ((np : Nat) : Int)
    · refine s_y (v := .bool true) rfl (y_lss rfl rfl (decide_eq_true c6)) ?_
      refine s_nil ?_
      refine W_if_t (by decide) rfl ?_
      refine W_skip ?_
      refine W_seq ?_
      refine W_block ?_
      have B0_11 := B
      refine W_draw (inA a0) T107.mx (by kernel_rfl) (fun w9 e10 => ?_)
      have R12 := Ext.refl (inA a0) w4
      replace R12 := R12.trans (Ext0.any e10)
      replace B := B.ext0 e10
      clear e10
      refine m_y (v := .slice a0 nn0 cc0) 0 rfl (by kernel_rfl) rfl rfl (fun w' e' => y_move rfl) ?_
      refine m_y (v := .pointer (some ⟨b2, o2, none⟩)) 1 rfl (by kernel_rfl) rfl rfl (fun w' e' => y_move rfl) ?_
      refine m_y (v := .pointer (some ⟨b2, o2, none⟩)) 2 rfl (by kernel_rfl) rfl rfl (fun w' e' => y_nil rfl) ?_
      refine m_y (v := .pointer (some ⟨b2, o2, none⟩)) 3 rfl (by kernel_rfl) rfl rfl (fun w' e' => y_fld (o := o2 + 0) T107.fld_29_0_0 rfl) ?_
      refine m_y (v := .slice afe nfe cfe) 4 rfl (by kernel_rfl) rfl rfl (fun w' e' => y_load T107.one_24 rfl ((B0_11.sx 5 0 rfl rfl rfl rfl e' (fun _ h => h)).cell (j := 0) rfl)) ?_
      refine m_y (v := .slice ap np cp) 5 rfl (by kernel_rfl) rfl rfl (fun w' e' => y_move rfl) ?_
      refine m_y (v := .int .i64 k) 6 rfl (by kernel_rfl) rfl rfl (fun w' e' => y_move rfl) ?_
      have hx13 := hcell2 (by omega)
      refine m_y (v := .pointer (some (sat ap ((k).toNat * 2)))) 7 rfl (by kernel_rfl) rfl rfl (fun w' e' => y_idx T107.sl_64_109_2 rfl rfl ((B.r 6 rfl).addr (by omega)) (by omega) (by omega)) ?_
      refine m_y (v := .pointer (some (sat ap ((k).toNat * 2)))) 8 rfl (by kernel_rfl) rfl rfl (fun w' e' => y_fldEl (j := (k).toNat * 2) T107.fld_109_0_0 rfl ((B.r 6 rfl).addr (by omega))) ?_
      have hR14 := Rd.atP (B0_11.r 6 rfl) k (by omega) (by omega)
      refine m_y (v := .int .i64 ((gl Xp k).1)) 9 rfl (by kernel_rfl) rfl rfl (fun w' e' => y_load T107.one_2 rfl ((B0_11.rowr 6 0 rfl rfl rfl rfl (by omega) hR14 e' (fun _ h => h)).cell (i := 0) rfl)) ?_
      refine m_y (v := .pointer (some ⟨b, o, none⟩)) 10 rfl (by kernel_rfl) rfl rfl (fun w' e' => y_move rfl) ?_
      refine m_y (v := .pointer (some ⟨b, o, none⟩)) 11 rfl (by kernel_rfl) rfl rfl (fun w' e' => y_nil rfl) ?_
      refine m_y (v := .pointer (some ⟨b, o, none⟩)) 12 rfl (by kernel_rfl) rfl rfl (fun w' e' => y_fld (o := o + 0) T107.fld_26_0_0 rfl) ?_
      refine m_y (v := .int .i64 wd) 13 rfl (by kernel_rfl) rfl rfl (fun w' e' => y_load T107.one_2 rfl ((B0_11.sx 1 0 rfl rfl rfl rfl e' (fun _ h => h)).cell (j := 0) rfl)) ?_
      refine m_y (v := .slice ap np cp) 14 rfl (by kernel_rfl) rfl rfl (fun w' e' => y_move rfl) ?_
      refine m_y (v := .int .i64 k) 15 rfl (by kernel_rfl) rfl rfl (fun w' e' => y_move rfl) ?_
      have hx15 := hcell2 (by omega)
      refine m_y (v := .pointer (some (sat ap ((k).toNat * 2)))) 16 rfl (by kernel_rfl) rfl rfl (fun w' e' => y_idx T107.sl_64_109_2 rfl rfl ((B.r 6 rfl).addr (by omega)) (by omega) (by omega)) ?_
      refine m_y (v := .pointer (some (sat ap ((k).toNat * 2 + 1)))) 17 rfl (by kernel_rfl) rfl rfl (fun w' e' => y_fldEl (j := (k).toNat * 2) T107.fld_109_1_1 rfl ((B.r 6 rfl).addr (by omega))) ?_
      have hR16 := Rd.atP (B0_11.r 6 rfl) k (by omega) (by omega)
      refine m_y (v := .int .i64 ((gl Xp k).2)) 18 rfl (by kernel_rfl) rfl rfl (fun w' e' => y_load T107.one_2 rfl ((B0_11.rowr 6 0 rfl rfl rfl rfl (by omega) hR16 e' (fun _ h => h)).cell (i := 1) rfl)) ?_
      have hm17 := mulb (a := wd) (b := (gl Xp k).2) (by omega) (by omega) (by omega) (by omega)
      refine m_y (v := .int .i64 (wd * ((gl Xp k).2))) 19 rfl (by kernel_rfl) rfl rfl (fun w' e' => y_mul rfl rfl rfl (by omega)) ?_
      refine m_y (v := .int .i64 (((gl Xp k).1) + (wd * ((gl Xp k).2)))) 20 rfl (by kernel_rfl) rfl rfl (fun w' e' => y_add rfl rfl rfl (by omega)) ?_
      have hx18 := row_lt (wd := wd) (hi := hi) (a := (gl Xp k).1) (b := (gl Xp k).2) (by omega) (by omega) (by omega) (by omega)
      refine m_y (v := .pointer (some (sat afe ((((gl Xp k).1) + (wd * ((gl Xp k).2))).toNat * 1)))) 21 rfl (by kernel_rfl) rfl rfl (fun w' e' => y_idx T107.sl_24_35_1 rfl rfl ((B.r 2 rfl).addr (by omega)) (by omega) (by omega)) ?_
      obtain ⟨r20, hr21, hR19⟩ := Rd.atF (B0_11.r 2 rfl) (((gl Xp k).1) + (wd * ((gl Xp k).2))) (by omega) (by omega)
      refine m_y (v := .float .f32 r20) 22 rfl (by kernel_rfl) rfl rfl (fun w' e' => y_load T107.one_35 rfl ((B0_11.rowr 2 0 rfl rfl rfl rfl (by omega) hR19 e' (fun _ h => h)).cell (i := 0) rfl)) ?_
      refine m_k 23 [24, 25] rfl (by kernel_rfl) rfl rfl (fun w25 e26 => ?_)
      replace R12 := R12.trans (Ext0.any e26)
      replace B := B.ext0 e26
      clear e26
      refine k_bsliceO (k := kF) (n := 1) (cells := #[.float .f32 r20]) (X := [el Xfe (((gl Xp k).1) + (wd * ((gl Xp k).2)))]) T107.slt_24 (by decide) (by first | rfl | kernel_rfl) (reps_cons (c := [.float .f32 r20]) ⟨_, rfl, hr21⟩ (rfl : Reps kF [] [])) rfl (fun b22 w23 hN24 => ?_)
      replace R12 := R12.trans (Ext0.any hN24.ext)
      replace B := B.new1 hN24
      clear hN24
      refine ⟨fun _ => R12, ?_⟩
      refine m_k 24 [25] rfl (by kernel_rfl) rfl rfl (fun w31 e32 => ?_)
      replace R12 := R12.trans (Ext0.any e32)
      replace B := B.ext0 e32
      clear e32
      refine k_appO (k := kF) T107.slt_24 rfl rfl rfl (B.o 1 rfl) (B.o 0 rfl).rd (by omega) (by unfold maxLen; omega) (fun a27 c28 w29 hU30 => ?_)
      replace R12 := R12.trans hU30.atA
      replace B : Bu w no w29 [.ow kF a27 (nn0 + 1) c28 35 ((readL wd Xfe Xp k) ++ ([el Xfe (((gl Xp k).1) + (wd * ((gl Xp k).2)))])), .ow kF (some ⟨b22, 0, none⟩) 1 1 35 ([el Xfe (((gl Xp k).1) + (wd * ((gl Xp k).2)))]), .sl (some ⟨b, o, none⟩) [.int .i64 wd, .int .i64 hi, .bool wr, .slice asp nsp csp, .slice als nls cls], .rd kF afe nfe Xfe, .rd kF afx nfx Xfx, .rd kF afy nfy Xfy, .sl (some ⟨b2, o2, none⟩) [.slice afe nfe cfe, .slice afx nfx cfx, .slice afy nfy cfy], .rd kP ap np Xp] := B.upd [1] rfl hU30
      clear hU30
      refine ⟨fun _ => R12, ?_⟩
      refine m_y (v := .slice a27 (nn0 + 1) c28) 25 rfl (by kernel_rfl) rfl rfl (fun w' e' => y_assign rfl) ?_
      refine m_done (by kernel_rfl) (fun w33 e34 => ?_)
      replace B := B.ext0 e34
      clear e34
      clear B0_11 R12
      refine W_region (by kernel_rfl) ?_
      refine s_y (v := .int .i64 k) rfl (y_move rfl) ?_
      refine s_y (v := .int .i64 (k + 1)) rfl (y_add rfl rfl rfl (by omega)) ?_
      refine s_y (v := .int .i64 (k + 1)) rfl (y_assign rfl) ?_
      refine s_nil ?_
      replace B : Bu w no w33 [.ow kF a27 (nn0 + 1) c28 35 (readL wd Xfe Xp (k + 1)), .ow kF (some ⟨b22, 0, none⟩) 1 1 35 ([el Xfe (((gl Xp k).1) + (wd * ((gl Xp k).2)))]), .sl (some ⟨b, o, none⟩) [.int .i64 wd, .int .i64 hi, .bool wr, .slice asp nsp csp, .slice als nls cls], .rd kF afe nfe Xfe, .rd kF afx nfx Xfx, .rd kF afy nfy Xfy, .sl (some ⟨b2, o2, none⟩) [.slice afe nfe cfe, .slice afx nfx cfx, .slice afy nfy cfy], .rd kP ap np Xp] := B.castX 0 rfl rfl (tab_snoc (g := fun i => el Xfe ((gl Xp i).1 + wd * (gl Xp i).2)) (by omega) rfl)
      refine ⟨⟨_, k + 1, a27, c28, nn0 + 1, Fits.eq ⟨rfl, rfl, rfl, rfl, rfl, rfl, trivial⟩, (B.pick [0, 2, 3, 4, 5, 6, 7] rfl rfl), (by omega), (by omega)⟩, ?_⟩
      show ((np : Int) - (k + 1)).toNat < ((np : Int) - k).toNat
      omega
    · refine s_y (v := .bool false) rfl (y_lss rfl rfl (decide_eq_false c6)) ?_
      refine s_nil ?_
      refine W_if_f (by decide) rfl ?_
      refine W_exit ?_
      refine W_seq ?_
      refine W_region (by kernel_rfl) ?_
      refine s_y (v := .slice a0 nn0 cc0) rfl (y_move rfl) ?_
      refine s_y (v := .slice a0 nn0 cc0) rfl (y_assign rfl) ?_
      refine s_nil ?_
      refine W_ret ?_
      refine ret1 (v := .slice a0 nn0 cc0) rfl rfl rfl ⟨_, rfl, ?_⟩
      obtain rfl : k = (np : Int) := by omega
      replace B : Bu w no w4 [.ow kF a0 np cc0 35 (readL wd Xfe Xp np), .sl (some ⟨b, o, none⟩) [.int .i64 wd, .int .i64 hi, .bool wr, .slice asp nsp csp, .slice als nls cls], .rd kF afe nfe Xfe, .rd kF afx nfx Xfx, .rd kF afy nfy Xfy, .sl (some ⟨b2, o2, none⟩) [.slice afe nfe cfe, .slice afx nfx cfx, .slice afy nfy cfy], .rd kP ap np Xp] := B.castX 0 rfl (by omega) rfl
      exact ⟨_, _, (by rw [(show nn0 = np from (by omega))]), B.give [0] rfl rfl rfl⟩
namespace T51
theorem mx : Try.prog.follows .mixedOrders = true := by kernel_rfl
theorem fn_104 : fnB Try.prog 104 = true := by kernel_rfl
theorem fn_105 : fnB Try.prog 105 = true := by kernel_rfl
theorem fn_106 : fnB Try.prog 106 = true := by kernel_rfl
theorem fn_107 : fnB Try.prog 107 = true := by kernel_rfl
end T51
set_option maxRecDepth 100000 in
set_option maxHeartbeats 4000000 in
theorem c_s_ReadProbes {wd : Int} {hi : Int} {wr : Bool} {asp : Option Addr} {nsp : Nat} {csp : Nat} {Xsp : List Nat} {als : Option Addr} {nls : Nat} {cls : Nat} {Xls : List Nat} {afe : Option Addr} {nfe : Nat} {cfe : Nat} {Xfe : List Nat} {afx : Option Addr} {nfx : Nat} {cfx : Nat} {Xfx : List Nat} {afy : Option Addr} {nfy : Nat} {cfy : Nat} {Xfy : List Nat} {ap : Option Addr} {np : Nat} {cp : Nat} {Xp : List (Int × Int)} {w : World} (qsp : Rd w kF asp nsp Xsp) (qls : Rd w kF als nls Xls) (qfe : Rd w kF afe nfe Xfe) (qfx : Rd w kF afx nfx Xfx) (qfy : Rd w kF afy nfy Xfy) (qp : Rd w kP ap np Xp) (hbsp : nsp ≤ 9223372036854775806) (hbls : nls ≤ 9223372036854775806) (hbfe : nfe ≤ 9223372036854775806) (hbfx : nfx ≤ 9223372036854775806) (hbfy : nfy ≤ 9223372036854775806) :
    Calls Try.prog 51 #[.agg #[.int .i64 wd, .int .i64 hi, .bool wr, .slice asp nsp csp, .slice als nls cls], .agg #[.slice afe nfe cfe, .slice afx nfx cfx, .slice afy nfy cfy], .slice ap np cp] w (Rt fun v w' => (readB wd hi wr Xsp Xls Xfe Xfx Xfy Xp = true ∧ ∃ (a1 : Option Addr) (c1 : Nat), v = .tuple #[.slice a1 np c1, .bool true] ∧ New w w' [.ow kF a1 np c1 35 (readL wd Xfe Xp np)]) ∨ (readB wd hi wr Xsp Xls Xfe Xfx Xfy Xp = false ∧ v = .tuple #[.slice none 0 0, .bool false] ∧ Ext0 w w')) := by
  have hlsp := qsp.len
  have hlls := qls.len
  have hlfe := qfe.len
  have hlfx := qfx.len
  have hlfy := qfy.len
  have hlp := qp.len
  have B : Bu w no w [.rd kF asp nsp Xsp, .rd kF als nls Xls, .rd kF afe nfe Xfe, .rd kF afx nfx Xfx, .rd kF afy nfy Xfy, .rd kP ap np Xp] := Bu.ro (All.cons qsp (All.cons qls (All.cons qfe (All.cons qfx (All.cons qfy (All.cons qp All.nil)))))) rfl
  refine calls_W (n := 21) Try.func51 rfl rfl (Nat.le_of_ble_eq_true rfl) ?_
  refine W_seq ?_
  refine W_region (by kernel_rfl) ?_
  refine s_k rfl (k_boxN (v := .agg #[.int .i64 wd, .int .i64 hi, .bool wr, .slice asp nsp csp, .slice als nls cls]) (cs := [.int .i64 wd, .int .i64 hi, .bool wr, .slice asp nsp csp, .slice als nls cls]) rfl rfl (fun b1 w2 hN3 => ?_))
  replace B := B.new1 hN3
  clear hN3
  refine s_k rfl (k_boxN (v := .agg #[.slice afe nfe cfe, .slice afx nfx cfx, .slice afy nfy cfy]) (cs := [.slice afe nfe cfe, .slice afx nfx cfx, .slice afy nfy cfy]) rfl rfl (fun b4 w5 hN6 => ?_))
  replace B := B.new1 hN6
  clear hN6
  refine s_y (v := .slice none 0 0) rfl (y_assign rfl) ?_
  refine s_y (v := .bool false) rfl (y_assign rfl) ?_
  refine s_nil ?_
  refine W_seq ?_
  refine W_seq ?_
  refine W_region (by kernel_rfl) ?_
  refine s_k rfl (k_call T51.fn_104 (c_s_l02Is (B.r 2 rfl) (B.r 3 rfl) ((B.b 1 rfl).sl) (by omega) (by omega)) rfl ?_)
  rintro v9 w7 ⟨hv10, e8⟩
  replace B := B.ext0 e8
  clear e8
  by_cases c11 : validS wd hi Xsp Xls = true
  · have hb12 := validS_b c11
    obtain rfl : v9 = .bool true := hv10.trans (congrArg Value.bool c11)
    refine s_y (v := .bool false) rfl (y_not rfl rfl) ?_
    refine s_y (v := .bool false) rfl (y_move rfl) ?_
    refine s_k rfl (k_call T51.fn_105 (c_s_l02Fits ((B.b 1 rfl).sl) (B.r 4 rfl) (B.r 5 rfl) (B.r 6 rfl) ((B.b 0 rfl).sl) (by omega) (by omega) (by omega) (by omega) (by omega) (by omega) (by omega)) rfl ?_)
    rintro v15 w13 ⟨hv16, e14⟩
    replace B := B.ext0 e14
    clear e14
    by_cases c17 : fitsB wd hi wr Xfe Xfx Xfy = true
    · have hb18 := fitsB_b c17
      obtain rfl : v15 = .bool true := hv16.trans (congrArg Value.bool c17)
      refine s_y (v := .bool false) rfl (y_not rfl rfl) ?_
      refine s_y (v := .bool false) rfl (y_pick_f rfl rfl) ?_
      refine s_y (v := .bool false) rfl (y_move rfl) ?_
      refine s_y (v := .slice ap np cp) rfl (y_move rfl) ?_
      refine s_k rfl (k_call T51.fn_106 (c_s_l04Probes ((B.b 1 rfl).sl) (B.r 7 rfl) (by omega) (by omega) (by omega) (by omega)) rfl ?_)
      rintro v21 w19 ⟨hv22, e20⟩
      replace B := B.ext0 e20
      clear e20
      by_cases c23 : prB wd hi Xp = true
      · have hb24 := prB_b c23
        obtain rfl : v21 = .bool true := hv22.trans (congrArg Value.bool c23)
        refine s_y (v := .bool false) rfl (y_not rfl rfl) ?_
        refine s_y (v := .bool false) rfl (y_pick_f rfl rfl) ?_
        refine s_nil ?_
        refine W_if_f (by decide) rfl ?_
        refine W_skip ?_
        refine W_seq ?_
        refine W_region (by kernel_rfl) ?_
        refine s_y (v := .slice ap np cp) rfl (y_move rfl) ?_
        refine s_k rfl (k_call T51.fn_107 (c_s_l04Read ((B.b 1 rfl).sl) (B.r 4 rfl) (B.r 5 rfl) (B.r 6 rfl) ((B.b 0 rfl).sl) (B.r 7 rfl) (by omega) (by omega) (by omega) (by omega) (by omega) (by omega) (by omega) c23 (by omega)) rfl ?_)
        rintro _ w25 ⟨a26, c27, rfl, hN28⟩
        replace B := B.new1 hN28
        clear hN28
        refine s_y (v := .slice a26 np c27) rfl (y_assign rfl) ?_
        refine s_y (v := .bool true) rfl (y_assign rfl) ?_
        refine s_nil ?_
        refine W_ret ?_
        refine ret2 (v1 := .slice a26 np c27) (v2 := .bool true) rfl rfl rfl rfl rfl ⟨_, rfl, ?_⟩
        have hcond : readB wd hi wr Xsp Xls Xfe Xfx Xfy Xp = true := by simp only [readB, fieldB, c11, c17, c23, Bool.and_true, Bool.true_and, Bool.and_false, Bool.false_and, Bool.not_true, Bool.not_false, Bool.or_true, Bool.true_or, Bool.or_false, Bool.false_or]
        exact .inl ⟨hcond, ⟨_, _, rfl, B.give [0] rfl rfl rfl⟩⟩
      · obtain rfl : v21 = .bool false := hv22.trans (congrArg Value.bool (Bool.eq_false_iff.2 c23))
        refine s_y (v := .bool true) rfl (y_not rfl rfl) ?_
        refine s_y (v := .bool true) rfl (y_pick_f rfl rfl) ?_
        refine s_nil ?_
        refine W_if_t (by decide) rfl ?_
        refine W_seq ?_
        refine W_region (by kernel_rfl) ?_
        refine s_y (v := .slice none 0 0) rfl (y_assign rfl) ?_
        refine s_y (v := .bool false) rfl (y_assign rfl) ?_
        refine s_nil ?_
        refine W_ret ?_
        refine ret2 (v1 := .slice none 0 0) (v2 := .bool false) rfl rfl rfl rfl rfl ⟨_, rfl, ?_⟩
        exact .inr ⟨by simp only [readB, fieldB, c11, c17, (Bool.eq_false_iff.2 c23), Bool.and_true, Bool.true_and, Bool.and_false, Bool.false_and, Bool.not_true, Bool.not_false, Bool.or_true, Bool.true_or, Bool.or_false, Bool.false_or], rfl, B.ext⟩
    · obtain rfl : v15 = .bool false := hv16.trans (congrArg Value.bool (Bool.eq_false_iff.2 c17))
      refine s_y (v := .bool true) rfl (y_not rfl rfl) ?_
      refine s_y (v := .bool true) rfl (y_pick_f rfl rfl) ?_
      refine s_y (v := .bool true) rfl (y_move rfl) ?_
      refine s_skip rfl ?_
      refine s_skip rfl ?_
      refine s_skip rfl ?_
      refine s_y (v := .bool true) rfl (y_pick_t rfl rfl) ?_
      refine s_nil ?_
      refine W_if_t (by decide) rfl ?_
      refine W_seq ?_
      refine W_region (by kernel_rfl) ?_
      refine s_y (v := .slice none 0 0) rfl (y_assign rfl) ?_
      refine s_y (v := .bool false) rfl (y_assign rfl) ?_
      refine s_nil ?_
      refine W_ret ?_
      refine ret2 (v1 := .slice none 0 0) (v2 := .bool false) rfl rfl rfl rfl rfl ⟨_, rfl, ?_⟩
      exact .inr ⟨by simp only [readB, fieldB, c11, (Bool.eq_false_iff.2 c17), Bool.and_true, Bool.true_and, Bool.and_false, Bool.false_and, Bool.not_true, Bool.not_false, Bool.or_true, Bool.true_or, Bool.or_false, Bool.false_or], rfl, B.ext⟩
  · obtain rfl : v9 = .bool false := hv10.trans (congrArg Value.bool (Bool.eq_false_iff.2 c11))
    refine s_y (v := .bool true) rfl (y_not rfl rfl) ?_
    refine s_y (v := .bool true) rfl (y_move rfl) ?_
    refine s_skip rfl ?_
    refine s_skip rfl ?_
    refine s_y (v := .bool true) rfl (y_pick_t rfl rfl) ?_
    refine s_y (v := .bool true) rfl (y_move rfl) ?_
    refine s_skip rfl ?_
    refine s_skip rfl ?_
    refine s_skip rfl ?_
    refine s_y (v := .bool true) rfl (y_pick_t rfl rfl) ?_
    refine s_nil ?_
    refine W_if_t (by decide) rfl ?_
    refine W_seq ?_
    refine W_region (by kernel_rfl) ?_
    refine s_y (v := .slice none 0 0) rfl (y_assign rfl) ?_
    refine s_y (v := .bool false) rfl (y_assign rfl) ?_
    refine s_nil ?_
    refine W_ret ?_
    refine ret2 (v1 := .slice none 0 0) (v2 := .bool false) rfl rfl rfl rfl rfl ⟨_, rfl, ?_⟩
    exact .inr ⟨by simp only [readB, fieldB, (Bool.eq_false_iff.2 c11), Bool.and_true, Bool.true_and, Bool.and_false, Bool.false_and, Bool.not_true, Bool.not_false, Bool.or_true, Bool.true_or, Bool.or_false, Bool.false_or], rfl, B.ext⟩
namespace T109
theorem mx : Try.prog.follows .mixedOrders = true := by kernel_rfl
theorem agg_109_2 : aggB Try.prog 109 2 = true := by kernel_rfl
theorem agg_26_5 : aggB Try.prog 26 5 = true := by kernel_rfl
theorem fld_109_0_0 : fldB Try.prog 109 0 0 = true := by kernel_rfl
theorem fld_109_1_1 : fldB Try.prog 109 1 1 = true := by kernel_rfl
theorem fn_140 : fnB Try.prog 140 = true := by kernel_rfl
theorem fn_81 : fnB Try.prog 81 = true := by kernel_rfl
theorem one_2 : oneB Try.prog 2 = true := by kernel_rfl
theorem sl_64_109_2 : slB Try.prog 64 109 2 = true := by kernel_rfl
theorem sz_109_2 : szB Try.prog 109 2 = true := by kernel_rfl
theorem zero_109 : zeroB Try.prog 109 (.agg #[.int .i64 0, .int .i64 0]) := by unfold zeroB; kernel_rfl
end T109
set_option maxRecDepth 100000 in
set_option maxHeartbeats 4000000 in
theorem c_i_AreProbes {wd : Int} {hi : Int} {wr : Bool} {asp : Option Addr} {nsp : Nat} {csp : Nat} {Xsp : List Nat} {als : Option Addr} {nls : Nat} {cls : Nat} {Xls : List Nat} {ap : Option Addr} {np : Nat} {cp : Nat} {Xp : List (Int × Int)} {w : World} (qsp : Rd w kF asp nsp Xsp) (qls : Rd w kF als nls Xls) (qp : Rd w kP ap np Xp) (hbsp : nsp ≤ 9223372036854775806) (hbls : nls ≤ 9223372036854775806) :
    Calls Try.prog 109 #[.agg #[.int .i64 wd, .int .i64 hi, .bool wr, .slice asp nsp csp, .slice als nls cls], .slice ap np cp] w (Rt fun v w' => v = .bool (areProbesB wd hi Xsp Xls Xp) ∧ Ext0 w w') := by
  have hlsp := qsp.len
  have hlls := qls.len
  have hlp := qp.len
  have B : Bu w no w [.rd kF asp nsp Xsp, .rd kF als nls Xls, .rd kP ap np Xp] := Bu.ro (All.cons qsp (All.cons qls (All.cons qp All.nil))) rfl
  refine calls_W (n := 29) Try.func109 rfl rfl (Nat.le_of_ble_eq_true rfl) ?_
  refine W_seq ?_
  refine W_region (by kernel_rfl) ?_
  refine s_k rfl (k_boxN (v := .agg #[.int .i64 wd, .int .i64 hi, .bool wr, .slice asp nsp csp, .slice als nls cls]) (cs := [.int .i64 wd, .int .i64 hi, .bool wr, .slice asp nsp csp, .slice als nls cls]) rfl rfl (fun b1 w2 hN3 => ?_))
  replace B := B.new1 hN3
  clear hN3
  refine s_y (v := .bool false) rfl (y_assign rfl) ?_
  refine s_nil ?_
  refine W_seq ?_
  refine W_seq ?_
  refine W_region (by kernel_rfl) ?_
  refine s_y (v := .agg #[.int .i64 wd, .int .i64 hi, .bool wr, .slice asp nsp csp, .slice als nls cls]) rfl (y_loadn (b := b1) (o := 0) (vs := [.int .i64 wd, .int .i64 hi, .bool wr, .slice asp nsp csp, .slice als nls cls]) T109.agg_26_5 rfl rfl ((B.b 0 rfl).cells (o := 0) rfl)) ?_
  refine s_k rfl (k_call T109.fn_81 (c_i_ValidSheet (B.r 1 rfl) (B.r 2 rfl) (by omega) (by omega)) rfl ?_)
  rintro v6 w4 ⟨hv7, e5⟩
  replace B := B.ext0 e5
  clear e5
  by_cases c8 : validS wd hi Xsp Xls = true
  · have hb9 := validS_b c8
    obtain rfl : v6 = .bool true := hv7.trans (congrArg Value.bool c8)
    refine s_y (v := .bool false) rfl (y_not rfl rfl) ?_
    refine s_y (v := .bool false) rfl (y_move rfl) ?_
    refine s_y (v := .slice ap np cp) rfl (y_move rfl) ?_
    refine s_y (v := .int .i64 ((np : Nat) : Int)) rfl (y_len T109.sl_64_109_2 rfl rfl) ?_
    by_cases c10 : 8 < ((np : Nat) : Int)
    · refine s_y (v := .bool true) rfl (y_gtr rfl rfl (decide_eq_true c10)) ?_
      refine s_y (v := .bool true) rfl (y_pick_f rfl rfl) ?_
      refine s_nil ?_
      refine W_if_t (by decide) rfl ?_
      refine W_seq ?_
      refine W_region (by kernel_rfl) ?_
      refine s_y (v := .bool false) rfl (y_assign rfl) ?_
      refine s_nil ?_
      refine W_ret ?_
      refine ret1 (v := .bool false) rfl rfl rfl ⟨_, rfl, ?_⟩
      exact ⟨congrArg Value.bool (by first | exact (probesB_n1 (by assumption)).symm | exact (probesB_n2 (by omega)).symm), B.ext⟩
    · refine s_y (v := .bool false) rfl (y_gtr rfl rfl (decide_eq_false c10)) ?_
      refine s_y (v := .bool false) rfl (y_pick_f rfl rfl) ?_
      refine s_nil ?_
      refine W_if_f (by decide) rfl ?_
      refine W_skip ?_
      refine W_seq ?_
      refine W_seq ?_
      refine W_region (by kernel_rfl) ?_
      refine s_y (v := .slice ap np cp) rfl (y_move rfl) ?_
      refine s_y (v := .int .i64 ((np : Nat) : Int)) rfl (y_len T109.sl_64_109_2 rfl rfl) ?_
      refine s_y (v := .int .i64 0) rfl (y_move rfl) ?_
      refine s_nil ?_
      refine W_block ?_
      refine W_loop (fun ρ' w' => ∃ (ρ1 : Env) (k : Int), ρ' = updL ρ1 [(2, .pointer (some ⟨b1, 0, none⟩)), (15, .slice ap np cp), (16, .int .i64 ((np : Nat) : Int)), (17, .int .i64 k)] ∧ Bu w no w' [.blk b1 [.int .i64 wd, .int .i64 hi, .bool wr, .slice asp nsp csp, .slice als nls cls] 26, .rd kF asp nsp Xsp, .rd kF als nls Xls, .rd kP ap np Xp] ∧ (0 ≤ k) ∧ (k ≤ (np : Int)) ∧ (∀ i, 0 ≤ i → i < k → cellB wd hi (gl Xp i).1 (gl Xp i).2 = true)) (fun ρ' _ => ((np : Int) - iv (ρ' 17)).toNat) ?_ ?_
      · exact ⟨_, 0, Fits.eq ⟨rfl, rfl, rfl, rfl, trivial⟩, B, (Int.le_refl _), (by omega), (by intro i h0 h1; omega)⟩
      · clear B; rintro _ w11 ⟨ρ12, k, rfl, B, h0k, h1k, hq⟩
        refine W_seq ?_
        refine W_region (by kernel_rfl) ?_
        by_cases c13 : k < ((np : Nat) : Int)
        · refine s_y (v := .bool true) rfl (y_lss rfl rfl (decide_eq_true c13)) ?_
          refine s_nil ?_
          refine W_seq ?_
          refine W_if_t (by decide) rfl ?_
          refine W_skip ?_
          refine W_seq ?_
          refine W_block ?_
          refine W_seq ?_
          refine W_region (by kernel_rfl) ?_
          refine s_y (v := .pointer (some (sat ap ((k).toNat * 2)))) rfl (y_idx T109.sl_64_109_2 rfl rfl ((B.r 3 rfl).addr (by omega)) (by omega) (by omega)) ?_
          have hR14 := Rd.atP (B.r 3 rfl) k (by omega) (by omega)
          refine s_y (v := .agg #[.int .i64 ((gl Xp k).1), .int .i64 ((gl Xp k).2)]) rfl (y_loadR (vs := [.int .i64 ((gl Xp k).1), .int .i64 ((gl Xp k).2)]) T109.agg_109_2 rfl rfl (by decide) hR14) ?_
          refine s_k rfl (k_allocN (z := (.agg #[.int .i64 0, .int .i64 0])) (cs := [.int .i64 0, .int .i64 0]) T109.zero_109 rfl (fun b15 w16 hN17 => ?_))
          replace B := B.new1 hN17
          clear hN17
          refine s_k0 rfl (k_stB (v := .agg #[.int .i64 ((gl Xp k).1), .int .i64 ((gl Xp k).2)]) (n := 2) (cs' := [.int .i64 ((gl Xp k).1), .int .i64 ((gl Xp k).2)]) T109.sz_109_2 rfl rfl rfl (B.b 0 rfl) (by simp [Value.cells, Value.oneCell']) (Nat.le_of_ble_eq_true rfl) rfl (fun w18 hU19 => ?_))
          replace B : Bu w no w18 [.blk b15 [.int .i64 ((gl Xp k).1), .int .i64 ((gl Xp k).2)] 109, .blk b1 [.int .i64 wd, .int .i64 hi, .bool wr, .slice asp nsp csp, .slice als nls cls] 26, .rd kF asp nsp Xsp, .rd kF als nls Xls, .rd kP ap np Xp] := B.upd [0] rfl hU19
          clear hU19
          refine s_nil ?_
          refine W_seq ?_
          refine W_region (by kernel_rfl) ?_
          refine s_y (v := .agg #[.int .i64 wd, .int .i64 hi, .bool wr, .slice asp nsp csp, .slice als nls cls]) rfl (y_loadn (b := b1) (o := 0) (vs := [.int .i64 wd, .int .i64 hi, .bool wr, .slice asp nsp csp, .slice als nls cls]) T109.agg_26_5 rfl rfl ((B.b 1 rfl).cells (o := 0) rfl)) ?_
          refine s_y (v := .pointer (some ⟨b15, 0, none⟩)) rfl (y_fld (o := 0) T109.fld_109_0_0 rfl) ?_
          refine s_y (v := .int .i64 ((gl Xp k).1)) rfl (y_load T109.one_2 rfl ((B.b 0 rfl).cell (j := 0) rfl)) ?_
          refine s_y (v := .pointer (some ⟨b15, 1, none⟩)) rfl (y_fld (o := 0) T109.fld_109_1_1 rfl) ?_
          refine s_y (v := .int .i64 ((gl Xp k).2)) rfl (y_load T109.one_2 rfl ((B.b 0 rfl).cell (j := 1) rfl)) ?_
          refine s_k rfl (k_call T109.fn_140 (c_i_isCell (by omega) (by omega) (by omega) (by omega)) rfl ?_)
          rintro v22 w20 ⟨hv23, e21⟩
          replace B := B.ext0 e21
          clear e21
          by_cases c24 : cellB wd hi ((gl Xp k).1) ((gl Xp k).2) = true
          · have hb25 := cellB_b c24
            obtain rfl : v22 = .bool true := hv23.trans (congrArg Value.bool c24)
            refine s_y (v := .bool false) rfl (y_not rfl rfl) ?_
            refine s_nil ?_
            refine W_if_f (by decide) rfl ?_
            refine W_skip ?_
            refine W_region (by kernel_rfl) ?_
            refine s_y (v := .int .i64 (k + 1)) rfl (y_add rfl rfl rfl (by omega)) ?_
            refine s_y (v := .int .i64 (k + 1)) rfl (y_move rfl) ?_
            refine s_nil ?_
            refine ⟨⟨_, k + 1, Fits.eq ⟨rfl, rfl, rfl, rfl, trivial⟩, (B.pick [1, 2, 3, 4] rfl rfl), (by omega), (by omega), (allI_more (p := fun i => cellB wd hi (gl Xp i).1 (gl Xp i).2) hq (by assumption))⟩, ?_⟩
            show ((np : Int) - (k + 1)).toNat < ((np : Int) - k).toNat
            omega
          · obtain rfl : v22 = .bool false := hv23.trans (congrArg Value.bool (Bool.eq_false_iff.2 c24))
            refine s_y (v := .bool true) rfl (y_not rfl rfl) ?_
            refine s_nil ?_
            refine W_if_t (by decide) rfl ?_
            refine W_seq ?_
            refine W_region (by kernel_rfl) ?_
            refine s_y (v := .bool false) rfl (y_assign rfl) ?_
            refine s_nil ?_
            refine W_ret ?_
            refine ret1 (v := .bool false) rfl rfl rfl ⟨_, rfl, ?_⟩
            exact ⟨congrArg Value.bool ((probesB_no (i := k) (by omega) (by omega) (by assumption)).symm), B.ext⟩
        · refine s_y (v := .bool false) rfl (y_lss rfl rfl (decide_eq_false c13)) ?_
          refine s_nil ?_
          refine W_seq ?_
          refine W_if_f (by decide) rfl ?_
          refine W_exit ?_
          refine W_seq ?_
          refine W_region (by kernel_rfl) ?_
          refine s_y (v := .bool true) rfl (y_assign rfl) ?_
          refine s_nil ?_
          refine W_ret ?_
          refine ret1 (v := .bool true) rfl rfl rfl ⟨_, rfl, ?_⟩
          exact ⟨congrArg Value.bool ((probesB_yes (by assumption) (by omega) (fun i h0 h1 => hq i h0 (by omega))).symm), B.ext⟩
  · obtain rfl : v6 = .bool false := hv7.trans (congrArg Value.bool (Bool.eq_false_iff.2 c8))
    refine s_y (v := .bool true) rfl (y_not rfl rfl) ?_
    refine s_y (v := .bool true) rfl (y_move rfl) ?_
    refine s_skip rfl ?_
    refine s_skip rfl ?_
    refine s_skip rfl ?_
    refine s_y (v := .bool true) rfl (y_pick_t rfl rfl) ?_
    refine s_nil ?_
    refine W_if_t (by decide) rfl ?_
    refine W_seq ?_
    refine W_region (by kernel_rfl) ?_
    refine s_y (v := .bool false) rfl (y_assign rfl) ?_
    refine s_nil ?_
    refine W_ret ?_
    refine ret1 (v := .bool false) rfl rfl rfl ⟨_, rfl, ?_⟩
    exact ⟨congrArg Value.bool (by first | exact (probesB_n1 (by assumption)).symm | exact (probesB_n2 (by omega)).symm), B.ext⟩
namespace T53
theorem mx : Try.prog.follows .mixedOrders = true := by kernel_rfl
theorem agg_109_2 : aggB Try.prog 109 2 = true := by kernel_rfl
theorem agg_26_5 : aggB Try.prog 26 5 = true := by kernel_rfl
theorem agg_29_3 : aggB Try.prog 29 3 = true := by kernel_rfl
theorem fld_109_0_0 : fldB Try.prog 109 0 0 = true := by kernel_rfl
theorem fld_109_1_1 : fldB Try.prog 109 1 1 = true := by kernel_rfl
theorem fld_29_0_0 : fldB Try.prog 29 0 0 = true := by kernel_rfl
theorem fn_109 : fnB Try.prog 109 = true := by kernel_rfl
theorem fn_28 : fnB Try.prog 28 = true := by kernel_rfl
theorem fn_98 : fnB Try.prog 98 = true := by kernel_rfl
theorem one_2 : oneB Try.prog 2 = true := by kernel_rfl
theorem one_24 : oneB Try.prog 24 = true := by kernel_rfl
theorem one_35 : oneB Try.prog 35 = true := by kernel_rfl
theorem sl_24_35_1 : slB Try.prog 24 35 1 = true := by kernel_rfl
theorem sl_64_109_2 : slB Try.prog 64 109 2 = true := by kernel_rfl
theorem slt_24 : SlT Try.prog 24 35 1 4 (.float .f32 0) := ⟨by kernel_rfl, by kernel_rfl, rfl, by decide⟩
theorem sz_109_2 : szB Try.prog 109 2 = true := by kernel_rfl
theorem zero_109 : zeroB Try.prog 109 (.agg #[.int .i64 0, .int .i64 0]) := by unfold zeroB; kernel_rfl
end T53
set_option maxRecDepth 100000 in
set_option maxHeartbeats 4000000 in
theorem c_i_ReadProbes {wd : Int} {hi : Int} {wr : Bool} {asp : Option Addr} {nsp : Nat} {csp : Nat} {Xsp : List Nat} {als : Option Addr} {nls : Nat} {cls : Nat} {Xls : List Nat} {afe : Option Addr} {nfe : Nat} {cfe : Nat} {Xfe : List Nat} {afx : Option Addr} {nfx : Nat} {cfx : Nat} {Xfx : List Nat} {afy : Option Addr} {nfy : Nat} {cfy : Nat} {Xfy : List Nat} {ap : Option Addr} {np : Nat} {cp : Nat} {Xp : List (Int × Int)} {w : World} (qsp : Rd w kF asp nsp Xsp) (qls : Rd w kF als nls Xls) (qfe : Rd w kF afe nfe Xfe) (qfx : Rd w kF afx nfx Xfx) (qfy : Rd w kF afy nfy Xfy) (qp : Rd w kP ap np Xp) (hbsp : nsp ≤ 9223372036854775806) (hbls : nls ≤ 9223372036854775806) (hbfe : nfe ≤ 9223372036854775806) (hbfx : nfx ≤ 9223372036854775806) (hbfy : nfy ≤ 9223372036854775806) :
    Calls Try.prog 53 #[.agg #[.int .i64 wd, .int .i64 hi, .bool wr, .slice asp nsp csp, .slice als nls cls], .agg #[.slice afe nfe cfe, .slice afx nfx cfx, .slice afy nfy cfy], .slice ap np cp] w (Rt fun v w' => (readB wd hi wr Xsp Xls Xfe Xfx Xfy Xp = true ∧ ∃ (a1 : Option Addr) (c1 : Nat), v = .tuple #[.slice a1 np c1, .bool true] ∧ New w w' [.ow kF a1 np c1 35 (readL wd Xfe Xp np)]) ∨ (readB wd hi wr Xsp Xls Xfe Xfx Xfy Xp = false ∧ v = .tuple #[.slice none 0 0, .bool false] ∧ Ext0 w w')) := by
  have hlsp := qsp.len
  have hlls := qls.len
  have hlfe := qfe.len
  have hlfx := qfx.len
  have hlfy := qfy.len
  have hlp := qp.len
  have B : Bu w no w [.rd kF asp nsp Xsp, .rd kF als nls Xls, .rd kF afe nfe Xfe, .rd kF afx nfx Xfx, .rd kF afy nfy Xfy, .rd kP ap np Xp] := Bu.ro (All.cons qsp (All.cons qls (All.cons qfe (All.cons qfx (All.cons qfy (All.cons qp All.nil)))))) rfl
  refine calls_W (n := 43) Try.func53 rfl rfl (Nat.le_of_ble_eq_true rfl) ?_
  refine W_seq ?_
  refine W_region (by kernel_rfl) ?_
  refine s_k rfl (k_boxN (v := .agg #[.int .i64 wd, .int .i64 hi, .bool wr, .slice asp nsp csp, .slice als nls cls]) (cs := [.int .i64 wd, .int .i64 hi, .bool wr, .slice asp nsp csp, .slice als nls cls]) rfl rfl (fun b1 w2 hN3 => ?_))
  replace B := B.new1 hN3
  clear hN3
  refine s_k rfl (k_boxN (v := .agg #[.slice afe nfe cfe, .slice afx nfx cfx, .slice afy nfy cfy]) (cs := [.slice afe nfe cfe, .slice afx nfx cfx, .slice afy nfy cfy]) rfl rfl (fun b4 w5 hN6 => ?_))
  replace B := B.new1 hN6
  clear hN6
  refine s_y (v := .slice none 0 0) rfl (y_assign rfl) ?_
  refine s_y (v := .bool false) rfl (y_assign rfl) ?_
  refine s_nil ?_
  refine W_seq ?_
  refine W_seq ?_
  refine W_region (by kernel_rfl) ?_
  refine s_y (v := .agg #[.int .i64 wd, .int .i64 hi, .bool wr, .slice asp nsp csp, .slice als nls cls]) rfl (y_loadn (b := b1) (o := 0) (vs := [.int .i64 wd, .int .i64 hi, .bool wr, .slice asp nsp csp, .slice als nls cls]) T53.agg_26_5 rfl rfl ((B.b 1 rfl).cells (o := 0) rfl)) ?_
  refine s_y (v := .agg #[.slice afe nfe cfe, .slice afx nfx cfx, .slice afy nfy cfy]) rfl (y_loadn (b := b4) (o := 0) (vs := [.slice afe nfe cfe, .slice afx nfx cfx, .slice afy nfy cfy]) T53.agg_29_3 rfl rfl ((B.b 0 rfl).cells (o := 0) rfl)) ?_
  refine s_k rfl (k_call T53.fn_28 (c_i_IsField (B.r 2 rfl) (B.r 3 rfl) (B.r 4 rfl) (B.r 5 rfl) (B.r 6 rfl) (by omega) (by omega) (by omega) (by omega) (by omega)) rfl ?_)
  rintro v9 w7 ⟨hv10, e8⟩
  replace B := B.ext0 e8
  clear e8
  by_cases c11 : fieldB wd hi wr Xsp Xls Xfe Xfx Xfy = true
  · have hb12 := fieldB_b c11
    obtain rfl : v9 = .bool true := hv10.trans (congrArg Value.bool c11)
    refine s_y (v := .bool false) rfl (y_not rfl rfl) ?_
    refine s_y (v := .bool false) rfl (y_move rfl) ?_
    refine s_y (v := .agg #[.int .i64 wd, .int .i64 hi, .bool wr, .slice asp nsp csp, .slice als nls cls]) rfl (y_loadn (b := b1) (o := 0) (vs := [.int .i64 wd, .int .i64 hi, .bool wr, .slice asp nsp csp, .slice als nls cls]) T53.agg_26_5 rfl rfl ((B.b 1 rfl).cells (o := 0) rfl)) ?_
    refine s_y (v := .slice ap np cp) rfl (y_move rfl) ?_
    refine s_k rfl (k_call T53.fn_109 (c_i_AreProbes (B.r 2 rfl) (B.r 3 rfl) (B.r 7 rfl) (by omega) (by omega)) rfl ?_)
    rintro v15 w13 ⟨hv16, e14⟩
    replace B := B.ext0 e14
    clear e14
    by_cases c17 : areProbesB wd hi Xsp Xls Xp = true
    · have hb18 := areProbesB_b c17
      obtain rfl : v15 = .bool true := hv16.trans (congrArg Value.bool c17)
      refine s_y (v := .bool false) rfl (y_not rfl rfl) ?_
      refine s_y (v := .bool false) rfl (y_pick_f rfl rfl) ?_
      refine s_nil ?_
      refine W_if_f (by decide) rfl ?_
      refine W_skip ?_
      refine W_seq ?_
      refine W_region (by kernel_rfl) ?_
      refine s_k rfl (k_bsliceO (k := kF) (n := 0) (cells := #[]) (X := []) T53.slt_24 (by decide) (by first | rfl | kernel_rfl) (rfl : Reps kF [] []) rfl (fun b19 w20 hN21 => ?_))
      replace B := B.new1 hN21
      clear hN21
      refine s_y (v := .slice (some ⟨b19, 0, none⟩) 0 0) rfl (y_assign rfl) ?_
      refine s_nil ?_
      refine W_seq ?_
      refine W_seq ?_
      refine W_region (by kernel_rfl) ?_
      refine s_y (v := .slice ap np cp) rfl (y_move rfl) ?_
      refine s_y (v := .int .i64 ((np : Nat) : Int)) rfl (y_len T53.sl_64_109_2 rfl rfl) ?_
      refine s_y (v := .int .i64 0) rfl (y_move rfl) ?_
      refine s_nil ?_
      refine W_block ?_
      have hprb : prB wd hi Xp = true := by have hz := c17; simp only [areProbesB, Bool.and_eq_true] at hz; exact hz.2
      refine W_loop (fun ρ' w' => ∃ (ρ1 : Env) (k : Int) (a0 : Option Addr) (cc0 : Nat) (nn0 : Nat), ρ' = updL ρ1 [(3, .pointer (some ⟨b1, 0, none⟩)), (4, .pointer (some ⟨b4, 0, none⟩)), (6, .slice none 0 0), (7, .bool false), (8, .slice a0 nn0 cc0), (22, .slice ap np cp), (23, .int .i64 ((np : Nat) : Int)), (24, .int .i64 k)] ∧ Bu w no w' [.ow kF a0 nn0 cc0 35 (readL wd Xfe Xp k), .blk b4 [.slice afe nfe cfe, .slice afx nfx cfx, .slice afy nfy cfy] 29, .blk b1 [.int .i64 wd, .int .i64 hi, .bool wr, .slice asp nsp csp, .slice als nls cls] 26, .rd kF asp nsp Xsp, .rd kF als nls Xls, .rd kF afe nfe Xfe, .rd kF afx nfx Xfx, .rd kF afy nfy Xfy, .rd kP ap np Xp] ∧ (0 ≤ k) ∧ (k ≤ (np : Int))) (fun ρ' _ => ((np : Int) - iv (ρ' 24)).toNat) ?_ ?_
      · replace B : Bu w no w20 [.ow kF (some ⟨b19, 0, none⟩) 0 0 35 (readL wd Xfe Xp 0), .blk b4 [.slice afe nfe cfe, .slice afx nfx cfx, .slice afy nfy cfy] 29, .blk b1 [.int .i64 wd, .int .i64 hi, .bool wr, .slice asp nsp csp, .slice als nls cls] 26, .rd kF asp nsp Xsp, .rd kF als nls Xls, .rd kF afe nfe Xfe, .rd kF afx nfx Xfx, .rd kF afy nfy Xfy, .rd kP ap np Xp] := B.castX 0 rfl rfl rfl
        exact ⟨_, 0, (some ⟨b19, 0, none⟩), 0, 0, Fits.eq ⟨rfl, rfl, rfl, rfl, rfl, rfl, rfl, rfl, trivial⟩, B, (Int.le_refl _), (by omega)⟩
      · clear B; rintro _ w22 ⟨ρ23, k, a0, cc0, nn0, rfl, B, h0k, h1k⟩
        have hnn0 := (B.o 0 rfl).len
        rw [readL, tab_length] at hnn0
        have hcell2 : k < (np : Int) → _ := fun hlt => read_cell (ps := Xp) (wd := wd) (hi := hi) (k := k) hprb (by omega) (by omega)
        refine W_seq ?_
        refine W_region (by kernel_rfl) ?_
        by_cases c24 : k < ((np : Nat) : Int)
        · refine s_y (v := .bool true) rfl (y_lss rfl rfl (decide_eq_true c24)) ?_
          refine s_nil ?_
          refine W_seq ?_
          refine W_if_t (by decide) rfl ?_
          refine W_skip ?_
          refine W_seq ?_
          refine W_block ?_
          refine W_seq ?_
          refine W_region (by kernel_rfl) ?_
          refine s_y (v := .pointer (some (sat ap ((k).toNat * 2)))) rfl (y_idx T53.sl_64_109_2 rfl rfl ((B.r 8 rfl).addr (by omega)) (by omega) (by omega)) ?_
          have hR25 := Rd.atP (B.r 8 rfl) k (by omega) (by omega)
          refine s_y (v := .agg #[.int .i64 ((gl Xp k).1), .int .i64 ((gl Xp k).2)]) rfl (y_loadR (vs := [.int .i64 ((gl Xp k).1), .int .i64 ((gl Xp k).2)]) T53.agg_109_2 rfl rfl (by decide) hR25) ?_
          refine s_k rfl (k_allocN (z := (.agg #[.int .i64 0, .int .i64 0])) (cs := [.int .i64 0, .int .i64 0]) T53.zero_109 rfl (fun b26 w27 hN28 => ?_))
          replace B := B.new1 hN28
          clear hN28
          refine s_k0 rfl (k_stB (v := .agg #[.int .i64 ((gl Xp k).1), .int .i64 ((gl Xp k).2)]) (n := 2) (cs' := [.int .i64 ((gl Xp k).1), .int .i64 ((gl Xp k).2)]) T53.sz_109_2 rfl rfl rfl (B.b 0 rfl) (by simp [Value.cells, Value.oneCell']) (Nat.le_of_ble_eq_true rfl) rfl (fun w29 hU30 => ?_))
          replace B : Bu w no w29 [.blk b26 [.int .i64 ((gl Xp k).1), .int .i64 ((gl Xp k).2)] 109, .ow kF a0 nn0 cc0 35 (readL wd Xfe Xp k), .blk b4 [.slice afe nfe cfe, .slice afx nfx cfx, .slice afy nfy cfy] 29, .blk b1 [.int .i64 wd, .int .i64 hi, .bool wr, .slice asp nsp csp, .slice als nls cls] 26, .rd kF asp nsp Xsp, .rd kF als nls Xls, .rd kF afe nfe Xfe, .rd kF afx nfx Xfx, .rd kF afy nfy Xfy, .rd kP ap np Xp] := B.upd [0] rfl hU30
          clear hU30
          refine s_nil ?_
          have B0_35 := B
          refine W_draw (inA a0) T53.mx (by kernel_rfl) (fun w33 e34 => ?_)
          have R36 := Ext.refl (inA a0) w29
          replace R36 := R36.trans (Ext0.any e34)
          replace B := B.ext0 e34
          clear e34
          refine m_y (v := .slice a0 nn0 cc0) 0 rfl (by kernel_rfl) rfl rfl (fun w' e' => y_move rfl) ?_
          refine m_y (v := .pointer (some ⟨b4, 0, none⟩)) 1 rfl (by kernel_rfl) rfl rfl (fun w' e' => y_fld (o := 0) T53.fld_29_0_0 rfl) ?_
          refine m_y (v := .slice afe nfe cfe) 2 rfl (by kernel_rfl) rfl rfl (fun w' e' => y_load T53.one_24 rfl ((B0_35.bx 2 1 rfl rfl rfl rfl e' (fun _ h => h)).cell (j := 0) rfl)) ?_
          refine m_y (v := .agg #[.int .i64 wd, .int .i64 hi, .bool wr, .slice asp nsp csp, .slice als nls cls]) 3 rfl (by kernel_rfl) rfl rfl (fun w' e' => y_loadn (b := b1) (o := 0) (vs := [.int .i64 wd, .int .i64 hi, .bool wr, .slice asp nsp csp, .slice als nls cls]) T53.agg_26_5 rfl rfl ((B0_35.bx 3 1 rfl rfl rfl rfl e' (fun _ h => h)).cells (o := 0) rfl)) ?_
          refine m_y (v := .pointer (some ⟨b26, 0, none⟩)) 4 rfl (by kernel_rfl) rfl rfl (fun w' e' => y_fld (o := 0) T53.fld_109_0_0 rfl) ?_
          refine m_y (v := .int .i64 ((gl Xp k).1)) 5 rfl (by kernel_rfl) rfl rfl (fun w' e' => y_load T53.one_2 rfl ((B0_35.bx 0 1 rfl rfl rfl rfl e' (fun _ h => h)).cell (j := 0) rfl)) ?_
          refine m_y (v := .pointer (some ⟨b26, 1, none⟩)) 6 rfl (by kernel_rfl) rfl rfl (fun w' e' => y_fld (o := 0) T53.fld_109_1_1 rfl) ?_
          refine m_y (v := .int .i64 ((gl Xp k).2)) 7 rfl (by kernel_rfl) rfl rfl (fun w' e' => y_load T53.one_2 rfl ((B0_35.bx 0 1 rfl rfl rfl rfl e' (fun _ h => h)).cell (j := 1) rfl)) ?_
          refine m_k 8 [9, 10, 11, 12, 13] rfl (by kernel_rfl) rfl rfl (fun w37 e38 => ?_)
          replace R36 := R36.trans (Ext0.any e38)
          replace B := B.ext0 e38
          clear e38
          refine k_call T53.fn_98 (c_i_at (by omega) (by omega) (by omega) (by omega) (by omega) (by omega) (by omega) (by omega)) rfl ?_
          rintro _ w39 ⟨rfl, e40⟩
          replace R36 := R36.trans (Ext0.any e40)
          replace B := B.ext0 e40
          clear e40
          refine ⟨fun _ => R36, ?_⟩
          have hat41 := atI_b (wd := wd) (hi := hi) (x := (gl Xp k).1) (y := (gl Xp k).2) (by omega) (by omega)
          refine m_y (v := .pointer (some (sat afe ((atI wd hi ((gl Xp k).1) ((gl Xp k).2)).toNat * 1)))) 9 rfl (by kernel_rfl) rfl rfl (fun w' e' => y_idx T53.sl_24_35_1 rfl rfl ((B.r 6 rfl).addr (by omega)) (by omega) (by omega)) ?_
          obtain ⟨r43, hr44, hR42⟩ := Rd.atF (B0_35.r 6 rfl) (atI wd hi ((gl Xp k).1) ((gl Xp k).2)) (by omega) (by omega)
          refine m_y (v := .float .f32 r43) 10 rfl (by kernel_rfl) rfl rfl (fun w' e' => y_load T53.one_35 rfl ((B0_35.rowr 6 1 rfl rfl rfl rfl (by omega) hR42 e' (fun _ h => h)).cell (i := 0) rfl)) ?_
          refine m_k 11 [12, 13] rfl (by kernel_rfl) rfl rfl (fun w48 e49 => ?_)
          replace R36 := R36.trans (Ext0.any e49)
          replace B := B.ext0 e49
          clear e49
          refine k_bsliceO (k := kF) (n := 1) (cells := #[.float .f32 r43]) (X := [el Xfe (atI wd hi ((gl Xp k).1) ((gl Xp k).2))]) T53.slt_24 (by decide) (by first | rfl | kernel_rfl) (reps_cons (c := [.float .f32 r43]) ⟨_, rfl, hr44⟩ (rfl : Reps kF [] [])) rfl (fun b45 w46 hN47 => ?_)
          replace R36 := R36.trans (Ext0.any hN47.ext)
          replace B := B.new1 hN47
          clear hN47
          refine ⟨fun _ => R36, ?_⟩
          refine m_k 12 [13] rfl (by kernel_rfl) rfl rfl (fun w54 e55 => ?_)
          replace R36 := R36.trans (Ext0.any e55)
          replace B := B.ext0 e55
          clear e55
          refine k_appO (k := kF) T53.slt_24 rfl rfl rfl (B.o 2 rfl) (B.o 0 rfl).rd (by omega) (by unfold maxLen; omega) (fun a50 c51 w52 hU53 => ?_)
          replace R36 := R36.trans hU53.atA
          replace B : Bu w no w52 [.ow kF a50 (nn0 + 1) c51 35 ((readL wd Xfe Xp k) ++ ([el Xfe (atI wd hi ((gl Xp k).1) ((gl Xp k).2))])), .ow kF (some ⟨b45, 0, none⟩) 1 1 35 ([el Xfe (atI wd hi ((gl Xp k).1) ((gl Xp k).2))]), .blk b26 [.int .i64 ((gl Xp k).1), .int .i64 ((gl Xp k).2)] 109, .blk b4 [.slice afe nfe cfe, .slice afx nfx cfx, .slice afy nfy cfy] 29, .blk b1 [.int .i64 wd, .int .i64 hi, .bool wr, .slice asp nsp csp, .slice als nls cls] 26, .rd kF asp nsp Xsp, .rd kF als nls Xls, .rd kF afe nfe Xfe, .rd kF afx nfx Xfx, .rd kF afy nfy Xfy, .rd kP ap np Xp] := B.upd [2] rfl hU53
          clear hU53
          refine ⟨fun _ => R36, ?_⟩
          refine m_y (v := .slice a50 (nn0 + 1) c51) 13 rfl (by kernel_rfl) rfl rfl (fun w' e' => y_assign rfl) ?_
          refine m_done (by kernel_rfl) (fun w56 e57 => ?_)
          replace B := B.ext0 e57
          clear e57
          clear B0_35 R36
          refine W_region (by kernel_rfl) ?_
          refine s_y (v := .int .i64 (k + 1)) rfl (y_add rfl rfl rfl (by omega)) ?_
          refine s_y (v := .int .i64 (k + 1)) rfl (y_move rfl) ?_
          refine s_nil ?_
          replace B : Bu w no w56 [.ow kF a50 (nn0 + 1) c51 35 (readL wd Xfe Xp (k + 1)), .ow kF (some ⟨b45, 0, none⟩) 1 1 35 ([el Xfe (atI wd hi ((gl Xp k).1) ((gl Xp k).2))]), .blk b26 [.int .i64 ((gl Xp k).1), .int .i64 ((gl Xp k).2)] 109, .blk b4 [.slice afe nfe cfe, .slice afx nfx cfx, .slice afy nfy cfy] 29, .blk b1 [.int .i64 wd, .int .i64 hi, .bool wr, .slice asp nsp csp, .slice als nls cls] 26, .rd kF asp nsp Xsp, .rd kF als nls Xls, .rd kF afe nfe Xfe, .rd kF afx nfx Xfx, .rd kF afy nfy Xfy, .rd kP ap np Xp] := B.castX 0 rfl rfl (tab_snoc (g := fun i => el Xfe ((gl Xp i).1 + wd * (gl Xp i).2)) (by omega) (congrArg (el Xfe) (atI_in (by omega) (by omega) (by omega) (by omega))))
          refine ⟨⟨_, k + 1, a50, c51, nn0 + 1, Fits.eq ⟨rfl, rfl, rfl, rfl, rfl, rfl, rfl, rfl, trivial⟩, (B.pick [0, 3, 4, 5, 6, 7, 8, 9, 10] rfl rfl), (by omega), (by omega)⟩, ?_⟩
          show ((np : Int) - (k + 1)).toNat < ((np : Int) - k).toNat
          omega
        · refine s_y (v := .bool false) rfl (y_lss rfl rfl (decide_eq_false c24)) ?_
          refine s_nil ?_
          refine W_seq ?_
          refine W_if_f (by decide) rfl ?_
          refine W_exit ?_
          refine W_seq ?_
          refine W_region (by kernel_rfl) ?_
          refine s_y (v := .slice a0 nn0 cc0) rfl (y_move rfl) ?_
          refine s_y (v := .slice a0 nn0 cc0) rfl (y_assign rfl) ?_
          refine s_y (v := .bool true) rfl (y_assign rfl) ?_
          refine s_nil ?_
          refine W_ret ?_
          refine ret2 (v1 := .slice a0 nn0 cc0) (v2 := .bool true) rfl rfl rfl rfl rfl ⟨_, rfl, ?_⟩
          have hcond : readB wd hi wr Xsp Xls Xfe Xfx Xfy Xp = true := by simp only [readB_i, c11, c17, (decide_eq_false c24), Bool.and_true, Bool.true_and, Bool.and_false, Bool.false_and, Bool.not_true, Bool.not_false, Bool.or_true, Bool.true_or, Bool.or_false, Bool.false_or]
          obtain rfl : k = (np : Int) := by omega
          replace B : Bu w no w22 [.ow kF a0 np cc0 35 (readL wd Xfe Xp np), .blk b4 [.slice afe nfe cfe, .slice afx nfx cfx, .slice afy nfy cfy] 29, .blk b1 [.int .i64 wd, .int .i64 hi, .bool wr, .slice asp nsp csp, .slice als nls cls] 26, .rd kF asp nsp Xsp, .rd kF als nls Xls, .rd kF afe nfe Xfe, .rd kF afx nfx Xfx, .rd kF afy nfy Xfy, .rd kP ap np Xp] := B.castX 0 rfl (by omega) rfl
          exact .inl ⟨hcond, ⟨_, _, (by rw [(show nn0 = np from (by omega))]), B.give [0] rfl rfl rfl⟩⟩
    · obtain rfl : v15 = .bool false := hv16.trans (congrArg Value.bool (Bool.eq_false_iff.2 c17))
      refine s_y (v := .bool true) rfl (y_not rfl rfl) ?_
      refine s_y (v := .bool true) rfl (y_pick_f rfl rfl) ?_
      refine s_nil ?_
      refine W_if_t (by decide) rfl ?_
      refine W_seq ?_
      refine W_region (by kernel_rfl) ?_
      refine s_y (v := .slice none 0 0) rfl (y_assign rfl) ?_
      refine s_y (v := .bool false) rfl (y_assign rfl) ?_
      refine s_nil ?_
      refine W_ret ?_
      refine ret2 (v1 := .slice none 0 0) (v2 := .bool false) rfl rfl rfl rfl rfl ⟨_, rfl, ?_⟩
      exact .inr ⟨by simp only [readB_i, c11, (Bool.eq_false_iff.2 c17), Bool.and_true, Bool.true_and, Bool.and_false, Bool.false_and, Bool.not_true, Bool.not_false, Bool.or_true, Bool.true_or, Bool.or_false, Bool.false_or], rfl, B.ext⟩
  · obtain rfl : v9 = .bool false := hv10.trans (congrArg Value.bool (Bool.eq_false_iff.2 c11))
    refine s_y (v := .bool true) rfl (y_not rfl rfl) ?_
    refine s_y (v := .bool true) rfl (y_move rfl) ?_
    refine s_skip rfl ?_
    refine s_skip rfl ?_
    refine s_skip rfl ?_
    refine s_skip rfl ?_
    refine s_y (v := .bool true) rfl (y_pick_t rfl rfl) ?_
    refine s_nil ?_
    refine W_if_t (by decide) rfl ?_
    refine W_seq ?_
    refine W_region (by kernel_rfl) ?_
    refine s_y (v := .slice none 0 0) rfl (y_assign rfl) ?_
    refine s_y (v := .bool false) rfl (y_assign rfl) ?_
    refine s_nil ?_
    refine W_ret ?_
    refine ret2 (v1 := .slice none 0 0) (v2 := .bool false) rfl rfl rfl rfl rfl ⟨_, rfl, ?_⟩
    exact .inr ⟨by simp only [readB_i, (Bool.eq_false_iff.2 c11), Bool.and_true, Bool.true_and, Bool.and_false, Bool.false_and, Bool.not_true, Bool.not_false, Bool.or_true, Bool.true_or, Bool.or_false, Bool.false_or], rfl, B.ext⟩
namespace T111
theorem mx : Try.prog.follows .mixedOrders = true := by kernel_rfl
theorem fld_109_0_0 : fldB Try.prog 109 0 0 = true := by kernel_rfl
theorem fld_109_1_1 : fldB Try.prog 109 1 1 = true := by kernel_rfl
theorem one_2 : oneB Try.prog 2 = true := by kernel_rfl
end T111
set_option maxRecDepth 100000 in
set_option maxHeartbeats 4000000 in
theorem c_l_eqProbe {px : Int} {py : Int} {w : World} :
    Calls Try.prog 111 #[.agg #[.int .i64 px, .int .i64 py], .agg #[.int .i64 px, .int .i64 py]] w (Rt fun v w' => v = .bool true ∧ Ext0 w w') := by
  have B : Bu w no w [] := Bu.ro All.nil rfl
  refine calls_W (n := 15) Try.func111 rfl rfl (Nat.le_of_ble_eq_true rfl) ?_
  refine W_seq ?_
  refine W_region (by kernel_rfl) ?_
  refine s_k rfl (k_boxN (v := .agg #[.int .i64 px, .int .i64 py]) (cs := [.int .i64 px, .int .i64 py]) rfl rfl (fun b1 w2 hN3 => ?_))
  replace B := B.new1 hN3
  clear hN3
  refine s_k rfl (k_boxN (v := .agg #[.int .i64 px, .int .i64 py]) (cs := [.int .i64 px, .int .i64 py]) rfl rfl (fun b4 w5 hN6 => ?_))
  replace B := B.new1 hN6
  clear hN6
  refine s_y (v := .bool false) rfl (y_assign rfl) ?_
  refine s_nil ?_
  refine W_seq ?_
  refine W_seq ?_
  refine W_region (by kernel_rfl) ?_
  refine s_y (v := .pointer (some ⟨b1, 0, none⟩)) rfl (y_fld (o := 0) T111.fld_109_0_0 rfl) ?_
  refine s_y (v := .int .i64 px) rfl (y_load T111.one_2 rfl ((B.b 1 rfl).cell (j := 0) rfl)) ?_
  refine s_y (v := .pointer (some ⟨b4, 0, none⟩)) rfl (y_fld (o := 0) T111.fld_109_0_0 rfl) ?_
  refine s_y (v := .int .i64 px) rfl (y_load T111.one_2 rfl ((B.b 0 rfl).cell (j := 0) rfl)) ?_
  refine s_y (v := .bool false) rfl (y_neq rfl rfl (decide_eq_false (fun hq => hq rfl))) ?_
  refine s_nil ?_
  refine W_if_f (by decide) rfl ?_
  refine W_skip ?_
  refine W_seq ?_
  refine W_seq ?_
  refine W_region (by kernel_rfl) ?_
  refine s_y (v := .pointer (some ⟨b1, 1, none⟩)) rfl (y_fld (o := 0) T111.fld_109_1_1 rfl) ?_
  refine s_y (v := .int .i64 py) rfl (y_load T111.one_2 rfl ((B.b 1 rfl).cell (j := 1) rfl)) ?_
  refine s_y (v := .pointer (some ⟨b4, 1, none⟩)) rfl (y_fld (o := 0) T111.fld_109_1_1 rfl) ?_
  refine s_y (v := .int .i64 py) rfl (y_load T111.one_2 rfl ((B.b 0 rfl).cell (j := 1) rfl)) ?_
  refine s_y (v := .bool false) rfl (y_neq rfl rfl (decide_eq_false (fun hq => hq rfl))) ?_
  refine s_nil ?_
  refine W_if_f (by decide) rfl ?_
  refine W_skip ?_
  refine W_seq ?_
  refine W_region (by kernel_rfl) ?_
  refine s_y (v := .bool true) rfl (y_assign rfl) ?_
  refine s_nil ?_
  refine W_ret ?_
  refine ret1 (v := .bool true) rfl rfl rfl ⟨_, rfl, ?_⟩
  exact ⟨rfl, B.ext⟩
namespace T55
theorem mx : Try.prog.follows .mixedOrders = true := by kernel_rfl
theorem agg_109_2 : aggB Try.prog 109 2 = true := by kernel_rfl
theorem fn_111 : fnB Try.prog 111 = true := by kernel_rfl
theorem sl_64_109_2 : slB Try.prog 64 109 2 = true := by kernel_rfl
end T55
set_option maxRecDepth 100000 in
set_option maxHeartbeats 4000000 in
theorem c_l_eqProbeS {a : Option Addr} {n : Nat} {c : Nat} {X : List (Int × Int)} {a2 : Option Addr} {n2 : Nat} {c2 : Nat} {w : World} (q : Rd w kP a n X) (q2 : Rd w kP a2 n2 X) (hb : n ≤ 9223372036854775806) :
    Calls Try.prog 55 #[.slice a n c, .slice a2 n2 c2] w (Rt fun v w' => v = .bool true ∧ Ext0 w w') := by
  have hl := q.len
  have hl2 := q2.len
  have B : Bu w no w [.rd kP a n X, .rd kP a2 n2 X] := Bu.ro (All.cons q (All.cons q2 All.nil)) rfl
  refine calls_W (n := 27) Try.func55 rfl rfl (Nat.le_of_ble_eq_true rfl) ?_
  refine W_seq ?_
  refine W_region (by kernel_rfl) ?_
  refine s_y (v := .bool false) rfl (y_assign rfl) ?_
  refine s_nil ?_
  refine W_seq ?_
  refine W_seq ?_
  refine W_region (by kernel_rfl) ?_
  refine s_y (v := .slice a n c) rfl (y_move rfl) ?_
  refine s_y (v := .int .i64 ((n : Nat) : Int)) rfl (y_len T55.sl_64_109_2 rfl rfl) ?_
  refine s_y (v := .slice a2 n2 c2) rfl (y_move rfl) ?_
  refine s_y (v := .int .i64 ((n2 : Nat) : Int)) rfl (y_len T55.sl_64_109_2 rfl rfl) ?_
  by_cases c1 : ((n : Nat) : Int) ≠ ((n2 : Nat) : Int)
  · refine s_y (v := .bool true) rfl (y_neq rfl rfl (decide_eq_true c1)) ?_
    refine s_nil ?_
    refine W_if_t (by decide) rfl ?_
    refine W_seq ?_
    refine W_region (by kernel_rfl) ?_
    refine s_y (v := .bool false) rfl (y_assign rfl) ?_
    refine s_nil ?_
    refine W_ret ?_
    refine ret1 (v := .bool false) rfl rfl rfl ⟨_, rfl, ?_⟩
    exfalso; omega
  · refine s_y (v := .bool false) rfl (y_neq rfl rfl (decide_eq_false c1)) ?_
    refine s_nil ?_
    refine W_if_f (by decide) rfl ?_
    refine W_skip ?_
    refine W_seq ?_
    refine W_seq ?_
    refine W_region (by kernel_rfl) ?_
    refine s_y (v := .int .i64 0) rfl (y_assign rfl) ?_
    refine s_nil ?_
    refine W_block ?_
    refine W_loop (fun ρ' w' => ∃ (ρ1 : Env) (k : Int), ρ' = updL ρ1 [(0, .slice a n c), (1, .slice a2 n2 c2), (5, .int .i64 k)] ∧ Bu w no w' [.rd kP a n X, .rd kP a2 n2 X] ∧ (0 ≤ k) ∧ (k ≤ (n : Int))) (fun ρ' _ => ((n : Int) - iv (ρ' 5)).toNat) ?_ ?_
    · exact ⟨_, 0, Fits.eq ⟨rfl, rfl, rfl, trivial⟩, B, (Int.le_refl _), (by omega)⟩
    · clear B; rintro _ w2 ⟨ρ3, k, rfl, B, h0k, h1k⟩
      refine W_seq ?_
      refine W_seq ?_
      refine W_region (by kernel_rfl) ?_
      refine s_y (v := .int .i64 k) rfl (y_move rfl) ?_
      refine s_y (v := .slice a n c) rfl (y_move rfl) ?_
      refine s_y (v := .int .i64 ((n : Nat) : Int)) rfl (y_len T55.sl_64_109_2 rfl rfl) ?_
      by_cases c4 : k < ((n : Nat) : Int)
      · refine s_y (v := .bool true) rfl (y_lss rfl rfl (decide_eq_true c4)) ?_
        refine s_nil ?_
        refine W_if_t (by decide) rfl ?_
        refine W_skip ?_
        refine W_seq ?_
        refine W_block ?_
        refine W_seq ?_
        have B0_9 := B
        refine W_draw (no) T55.mx (by kernel_rfl) (fun w7 e8 => ?_)
        have R10 := Ext.refl (no) w2
        replace R10 := R10.trans (Ext0.any e8)
        replace B := B.ext0 e8
        clear e8
        refine m_y (v := .slice a n c) 0 rfl (by kernel_rfl) rfl rfl (fun w' e' => y_move rfl) ?_
        refine m_y (v := .int .i64 k) 1 rfl (by kernel_rfl) rfl rfl (fun w' e' => y_move rfl) ?_
        refine m_y (v := .pointer (some (sat a ((k).toNat * 2)))) 2 rfl (by kernel_rfl) rfl rfl (fun w' e' => y_idx T55.sl_64_109_2 rfl rfl ((B.r 0 rfl).addr (by omega)) (by omega) (by omega)) ?_
        have hR11 := Rd.atP (B0_9.r 0 rfl) k (by omega) (by omega)
        refine m_y (v := .agg #[.int .i64 ((gl X k).1), .int .i64 ((gl X k).2)]) 3 rfl (by kernel_rfl) rfl rfl (fun w' e' => y_loadR (vs := [.int .i64 ((gl X k).1), .int .i64 ((gl X k).2)]) T55.agg_109_2 rfl rfl (by decide) (hR11.ext0 e')) ?_
        refine m_y (v := .slice a2 n2 c2) 4 rfl (by kernel_rfl) rfl rfl (fun w' e' => y_move rfl) ?_
        refine m_y (v := .int .i64 k) 5 rfl (by kernel_rfl) rfl rfl (fun w' e' => y_move rfl) ?_
        refine m_y (v := .pointer (some (sat a2 ((k).toNat * 2)))) 6 rfl (by kernel_rfl) rfl rfl (fun w' e' => y_idx T55.sl_64_109_2 rfl rfl ((B.r 1 rfl).addr (by omega)) (by omega) (by omega)) ?_
        have hR12 := Rd.atP (B0_9.r 1 rfl) k (by omega) (by omega)
        refine m_y (v := .agg #[.int .i64 ((gl X k).1), .int .i64 ((gl X k).2)]) 7 rfl (by kernel_rfl) rfl rfl (fun w' e' => y_loadR (vs := [.int .i64 ((gl X k).1), .int .i64 ((gl X k).2)]) T55.agg_109_2 rfl rfl (by decide) (hR12.ext0 e')) ?_
        refine m_k 8 [9] rfl (by kernel_rfl) rfl rfl (fun w13 e14 => ?_)
        replace R10 := R10.trans (Ext0.any e14)
        replace B := B.ext0 e14
        clear e14
        refine k_call T55.fn_111 (c_l_eqProbe) rfl ?_
        rintro _ w15 ⟨rfl, e16⟩
        replace R10 := R10.trans (Ext0.any e16)
        replace B := B.ext0 e16
        clear e16
        refine ⟨fun _ => R10, ?_⟩
        refine m_y (v := .bool false) 9 rfl (by kernel_rfl) rfl rfl (fun w' e' => y_not rfl rfl) ?_
        refine m_done (by kernel_rfl) (fun w17 e18 => ?_)
        replace B := B.ext0 e18
        clear e18
        clear B0_9 R10
        refine W_if_f (by decide) rfl ?_
        refine W_skip ?_
        refine W_region (by kernel_rfl) ?_
        refine s_y (v := .int .i64 k) rfl (y_move rfl) ?_
        refine s_y (v := .int .i64 (k + 1)) rfl (y_add rfl rfl rfl (by omega)) ?_
        refine s_y (v := .int .i64 (k + 1)) rfl (y_assign rfl) ?_
        refine s_nil ?_
        refine ⟨⟨_, k + 1, Fits.eq ⟨rfl, rfl, rfl, trivial⟩, B, (by omega), (by omega)⟩, ?_⟩
        show ((n : Int) - (k + 1)).toNat < ((n : Int) - k).toNat
        omega
      · refine s_y (v := .bool false) rfl (y_lss rfl rfl (decide_eq_false c4)) ?_
        refine s_nil ?_
        refine W_if_f (by decide) rfl ?_
        refine W_exit ?_
        refine W_seq ?_
        refine W_region (by kernel_rfl) ?_
        refine s_y (v := .bool true) rfl (y_assign rfl) ?_
        refine s_nil ?_
        refine W_ret ?_
        refine ret1 (v := .bool true) rfl rfl rfl ⟨_, rfl, ?_⟩
        exact ⟨rfl, B.ext⟩
namespace T56
theorem mx : Try.prog.follows .mixedOrders = true := by kernel_rfl
theorem fld_109_0_0 : fldB Try.prog 109 0 0 = true := by kernel_rfl
theorem fld_109_1_1 : fldB Try.prog 109 1 1 = true := by kernel_rfl
theorem sl_64_109_2 : slB Try.prog 64 109 2 = true := by kernel_rfl
theorem sz_2_1 : szB Try.prog 2 1 = true := by kernel_rfl
end T56
set_option maxRecDepth 100000 in
set_option maxHeartbeats 4000000 in
theorem c_l_markProbeS {a : Option Addr} {n : Nat} {c : Nat} {k : Int} {X : List (Int × Int)} {w : World} (hbn : n ≤ 1048576) (hk0 : 0 ≤ k) (hk1 : k ≤ 4294967296) (HA : All w [.ow kP a n c 109 X]) (HP : Pw [.ow kP a n c 109 X]) :
    Calls Try.prog 56 #[.slice a n c, .int .i64 k] w (Rt fun v w' => v = .int .i64 (k + 2 * ((n : Nat) : Int)) ∧ Upd w w' [.ow kP a n c 109 X] [.ow kP a n c 109 (pmarks k n)]) := by
  have B : Bu w (hasW [.ow kP a n c 109 X]) w [.ow kP a n c 109 X] := Bu.initW (W := [.ow kP a n c 109 X]) (R := []) HA HP rfl
  have hl := (B.o 0 rfl).len
  refine calls_W (n := 27) Try.func56 rfl rfl (Nat.le_of_ble_eq_true rfl) ?_
  refine W_seq ?_
  refine W_region (by kernel_rfl) ?_
  refine s_y (v := .int .i64 0) rfl (y_assign rfl) ?_
  refine s_nil ?_
  refine W_seq ?_
  refine W_seq ?_
  refine W_region (by kernel_rfl) ?_
  refine s_y (v := .int .i64 0) rfl (y_assign rfl) ?_
  refine s_nil ?_
  refine W_block ?_
  refine W_loop (fun ρ' w' => ∃ (ρ1 : Env) (j : Int) (zs : List (Int × Int)), ρ' = updL ρ1 [(0, .slice a n c), (1, .int .i64 (k + 2 * j)), (4, .int .i64 0), (5, .int .i64 j)] ∧ Bu w (hasW [.ow kP a n c 109 X]) w' [.ow kP a n c 109 zs] ∧ (0 ≤ j) ∧ (j ≤ (n : Int)) ∧ (zs.length = n) ∧ (∀ i, 0 ≤ i → i < j → gl zs i = (k + 2 * i, k + 2 * i + 1))) (fun ρ' _ => ((n : Int) - iv (ρ' 5)).toNat) ?_ ?_
  · exact ⟨_, 0, _, Fits.eq ⟨rfl, (by first | rfl | exact congrArg (Value.int .i64) (by omega)), rfl, rfl, trivial⟩, B, (Int.le_refl _), (by omega), hl, (by intro i h0 h1; omega)⟩
  · clear B; rintro _ w1 ⟨ρ2, j, zs, rfl, B, h0j, h1j, hz, hq⟩
    refine W_seq ?_
    refine W_seq ?_
    refine W_region (by kernel_rfl) ?_
    refine s_y (v := .int .i64 j) rfl (y_move rfl) ?_
    refine s_y (v := .slice a n c) rfl (y_move rfl) ?_
    refine s_y (v := .int .i64 ((n : Nat) : Int)) rfl (y_len T56.sl_64_109_2 rfl rfl) ?_
    by_cases c3 : j < ((n : Nat) : Int)
    · refine s_y (v := .bool true) rfl (y_lss rfl rfl (decide_eq_true c3)) ?_
      refine s_nil ?_
      refine W_if_t (by decide) rfl ?_
      refine W_skip ?_
      refine W_seq ?_
      refine W_block ?_
      refine W_seq ?_
      refine W_region (by kernel_rfl) ?_
      refine s_y (v := .slice a n c) rfl (y_move rfl) ?_
      refine s_y (v := .int .i64 j) rfl (y_move rfl) ?_
      refine s_y (v := .int .i64 (k + 2 * j)) rfl (y_move rfl) ?_
      refine s_y (v := .pointer (some (sat a ((j).toNat * 2)))) rfl (y_idx T56.sl_64_109_2 rfl rfl ((B.o 0 rfl).rd.addr (by omega)) (by omega) (by omega)) ?_
      refine s_y (v := .pointer (some (sat a ((j).toNat * 2)))) rfl (y_fldEl (j := (j).toNat * 2) T56.fld_109_0_0 rfl ((B.o 0 rfl).rd.addr (by omega))) ?_
      refine s_k0 rfl (k_stO (k := kP) (i := j) (j := 0) (x' := (k + 2 * j, (gl zs j).2)) (new := [.int .i64 (k + 2 * j)]) T56.sz_2_1 rfl rfl rfl rfl rfl (by simp [Value.oneCell']) (by decide) (B.o 0 rfl) (by omega) (by omega) (by decide) (by rintro q rfl; rfl) (fun w4 hU5 => ?_))
      replace B : Bu w (hasW [.ow kP a n c 109 X]) w4 [.ow kP a n c 109 (pl zs j (k + 2 * j, (gl zs j).2))] := B.upd [0] rfl hU5
      clear hU5
      refine s_nil ?_
      refine W_seq ?_
      refine W_region (by kernel_rfl) ?_
      refine s_y (v := .int .i64 (k + 2 * j)) rfl (y_move rfl) ?_
      refine s_y (v := .int .i64 ((k + 2 * j) + 1)) rfl (y_add rfl rfl rfl (by omega)) ?_
      refine s_y (v := .int .i64 ((k + 2 * j) + 1)) rfl (y_assign rfl) ?_
      refine s_nil ?_
      refine W_seq ?_
      refine W_region (by kernel_rfl) ?_
      refine s_y (v := .slice a n c) rfl (y_move rfl) ?_
      refine s_y (v := .int .i64 j) rfl (y_move rfl) ?_
      refine s_y (v := .int .i64 ((k + 2 * j) + 1)) rfl (y_move rfl) ?_
      refine s_y (v := .pointer (some (sat a ((j).toNat * 2)))) rfl (y_idx T56.sl_64_109_2 rfl rfl ((B.o 0 rfl).rd.addr (by omega)) (by omega) (by omega)) ?_
      refine s_y (v := .pointer (some (sat a ((j).toNat * 2 + 1)))) rfl (y_fldEl (j := (j).toNat * 2) T56.fld_109_1_1 rfl ((B.o 0 rfl).rd.addr (by omega))) ?_
      refine s_k0 rfl (k_stO (k := kP) (i := j) (j := 1) (x' := ((gl (pl zs j (k + 2 * j, (gl zs j).2)) j).1, (k + 2 * j) + 1)) (new := [.int .i64 ((k + 2 * j) + 1)]) T56.sz_2_1 rfl rfl rfl rfl rfl (by simp [Value.oneCell']) (by decide) (B.o 0 rfl) (by omega) (by omega) (by decide) (by rintro q rfl; rfl) (fun w6 hU7 => ?_))
      replace B : Bu w (hasW [.ow kP a n c 109 X]) w6 [.ow kP a n c 109 (pl (pl zs j (k + 2 * j, (gl zs j).2)) j ((gl (pl zs j (k + 2 * j, (gl zs j).2)) j).1, (k + 2 * j) + 1))] := B.upd [0] rfl hU7
      clear hU7
      refine s_nil ?_
      refine W_region (by kernel_rfl) ?_
      refine s_y (v := .int .i64 ((k + 2 * j) + 1)) rfl (y_move rfl) ?_
      refine s_y (v := .int .i64 (((k + 2 * j) + 1) + 1)) rfl (y_add rfl rfl rfl (by omega)) ?_
      refine s_y (v := .int .i64 (((k + 2 * j) + 1) + 1)) rfl (y_assign rfl) ?_
      refine s_nil ?_
      refine W_region (by kernel_rfl) ?_
      refine s_y (v := .int .i64 j) rfl (y_move rfl) ?_
      refine s_y (v := .int .i64 (j + 1)) rfl (y_add rfl rfl rfl (by omega)) ?_
      refine s_y (v := .int .i64 (j + 1)) rfl (y_assign rfl) ?_
      refine s_nil ?_
      refine ⟨⟨_, j + 1, _, Fits.eq ⟨rfl, (by first | rfl | exact congrArg (Value.int .i64) (by omega)), rfl, rfl, trivial⟩, B, (by omega), (by omega), (by simp only [put_length, pl_length]; exact hz), (pmark_put (by omega) (by omega) (by omega) hq)⟩, ?_⟩
      show ((n : Int) - (j + 1)).toNat < ((n : Int) - j).toNat
      omega
    · refine s_y (v := .bool false) rfl (y_lss rfl rfl (decide_eq_false c3)) ?_
      refine s_nil ?_
      refine W_if_f (by decide) rfl ?_
      refine W_exit ?_
      refine W_seq ?_
      refine W_region (by kernel_rfl) ?_
      refine s_y (v := .int .i64 (k + 2 * j)) rfl (y_move rfl) ?_
      refine s_y (v := .int .i64 (k + 2 * j)) rfl (y_assign rfl) ?_
      refine s_nil ?_
      refine W_ret ?_
      refine ret1 (v := .int .i64 (k + 2 * j)) rfl rfl rfl ⟨_, rfl, ?_⟩
      obtain rfl : zs = pmarks k n := pmarks_done (by omega) (fun i h0 h1 => hq i h0 (by omega))
      exact ⟨congrArg (Value.int .i64) (by omega), B.wrote [0] rfl rfl rfl⟩
namespace T8
theorem mx : Try.prog.follows .mixedOrders = true := by kernel_rfl
theorem agg_26_5 : aggB Try.prog 26 5 = true := by kernel_rfl
theorem agg_29_3 : aggB Try.prog 29 3 = true := by kernel_rfl
theorem agg_45_5 : aggB Try.prog 45 5 = true := by kernel_rfl
theorem agg_46_3 : aggB Try.prog 46 3 = true := by kernel_rfl
theorem bool_4 : Try.prog.underlying 4 = some .bool := by kernel_rfl
theorem fn_31 : fnB Try.prog 31 = true := by kernel_rfl
theorem fn_32 : fnB Try.prog 32 = true := by kernel_rfl
theorem fn_34 : fnB Try.prog 34 = true := by kernel_rfl
theorem fn_35 : fnB Try.prog 35 = true := by kernel_rfl
theorem fn_38 : fnB Try.prog 38 = true := by kernel_rfl
theorem fn_39 : fnB Try.prog 39 = true := by kernel_rfl
theorem fn_40 : fnB Try.prog 40 = true := by kernel_rfl
theorem fn_41 : fnB Try.prog 41 = true := by kernel_rfl
theorem fn_50 : fnB Try.prog 50 = true := by kernel_rfl
theorem fn_51 : fnB Try.prog 51 = true := by kernel_rfl
theorem fn_52 : fnB Try.prog 52 = true := by kernel_rfl
theorem fn_53 : fnB Try.prog 53 = true := by kernel_rfl
theorem fn_54 : fnB Try.prog 54 = true := by kernel_rfl
theorem fn_55 : fnB Try.prog 55 = true := by kernel_rfl
theorem fn_56 : fnB Try.prog 56 = true := by kernel_rfl
theorem fn_57 : fnB Try.prog 57 = true := by kernel_rfl
theorem fn_58 : fnB Try.prog 58 = true := by kernel_rfl
theorem sz_26_5 : szB Try.prog 26 5 = true := by kernel_rfl
theorem sz_29_3 : szB Try.prog 29 3 = true := by kernel_rfl
theorem zero_26 : zeroB Try.prog 26 (.agg #[.int .i64 0, .int .i64 0, .bool false, .slice none 0 0, .slice none 0 0]) := by unfold zeroB; kernel_rfl
theorem zero_29 : zeroB Try.prog 29 (.agg #[.slice none 0 0, .slice none 0 0, .slice none 0 0]) := by unfold zeroB; kernel_rfl
end T8
set_option maxRecDepth 100000 in
set_option maxHeartbeats 20000000 in
theorem c_FnExactReadProbes {wd0 : Int} {hi0 : Int} {wr0 : Bool} {asp0 : Option Addr} {nsp0 : Nat} {csp0 : Nat} {Xsp0 : List Nat} {als0 : Option Addr} {nls0 : Nat} {cls0 : Nat} {Xls0 : List Nat} {afe1 : Option Addr} {nfe1 : Nat} {cfe1 : Nat} {Xfe1 : List Nat} {afx1 : Option Addr} {nfx1 : Nat} {cfx1 : Nat} {Xfx1 : List Nat} {afy1 : Option Addr} {nfy1 : Nat} {cfy1 : Nat} {Xfy1 : List Nat} {a2 : Option Addr} {n2 : Nat} {c2 : Nat} {X2 : List (Int × Int)} {w : World} (qsp0 : Rd w kF asp0 nsp0 Xsp0) (qls0 : Rd w kF als0 nls0 Xls0) (qfe1 : Rd w kF afe1 nfe1 Xfe1) (qfx1 : Rd w kF afx1 nfx1 Xfx1) (qfy1 : Rd w kF afy1 nfy1 Xfy1) (q2 : Rd w kP a2 n2 X2) (gsp0 : nsp0 ≤ 9223372036854775807) (gls0 : nls0 ≤ 9223372036854775807) (gfe1 : nfe1 ≤ 9223372036854775807) (gfx1 : nfx1 ≤ 9223372036854775807) (gfy1 : nfy1 ≤ 9223372036854775807) (g2 : n2 ≤ 9223372036854775807) :
    Calls Try.prog 8 #[.agg #[.int .i64 wd0, .int .i64 hi0, .bool wr0, .slice asp0 nsp0 csp0, .slice als0 nls0 cls0], .agg #[.slice afe1 nfe1 cfe1, .slice afx1 nfx1 cfx1, .slice afy1 nfy1 cfy1], .slice a2 n2 c2] w (Rt fun v w' => v = .bool true ∧ Ext0 w w') := by
  have hlsp0 := qsp0.len
  have hlls0 := qls0.len
  have hlfe1 := qfe1.len
  have hlfx1 := qfx1.len
  have hlfy1 := qfy1.len
  have hl2 := q2.len
  have B : Bu w no w [.rd kF asp0 nsp0 Xsp0, .rd kF als0 nls0 Xls0, .rd kF afe1 nfe1 Xfe1, .rd kF afx1 nfx1 Xfx1, .rd kF afy1 nfy1 Xfy1, .rd kP a2 n2 X2] := Bu.ro (All.cons qsp0 (All.cons qls0 (All.cons qfe1 (All.cons qfx1 (All.cons qfy1 (All.cons q2 All.nil)))))) rfl
  refine calls_W (n := 142) Try.func8 rfl rfl (Nat.le_of_ble_eq_true rfl) ?_
  refine W_seq ?_
  refine W_region (by kernel_rfl) ?_
  refine s_k rfl (k_boxN (v := .agg #[.int .i64 wd0, .int .i64 hi0, .bool wr0, .slice asp0 nsp0 csp0, .slice als0 nls0 cls0]) (cs := [.int .i64 wd0, .int .i64 hi0, .bool wr0, .slice asp0 nsp0 csp0, .slice als0 nls0 cls0]) rfl rfl (fun b1 w2 hN3 => ?_))
  replace B := B.new1 hN3
  clear hN3
  refine s_k rfl (k_boxN (v := .agg #[.slice afe1 nfe1 cfe1, .slice afx1 nfx1 cfx1, .slice afy1 nfy1 cfy1]) (cs := [.slice afe1 nfe1 cfe1, .slice afx1 nfx1 cfx1, .slice afy1 nfy1 cfy1]) rfl rfl (fun b4 w5 hN6 => ?_))
  replace B := B.new1 hN6
  clear hN6
  refine s_y (v := .bool false) rfl (y_assign rfl) ?_
  refine s_nil ?_
  refine W_seq ?_
  refine W_region (by kernel_rfl) ?_
  refine s_y (v := .int .i64 1048576) rfl (y_assign rfl) ?_
  refine s_nil ?_
  refine W_seq ?_
  refine W_region (by kernel_rfl) ?_
  refine s_y (v := .agg #[.int .i64 wd0, .int .i64 hi0, .bool wr0, .slice asp0 nsp0 csp0, .slice als0 nls0 cls0]) rfl (y_loadn (b := b1) (o := 0) (vs := [.int .i64 wd0, .int .i64 hi0, .bool wr0, .slice asp0 nsp0 csp0, .slice als0 nls0 cls0]) T8.agg_45_5 rfl rfl ((B.b 1 rfl).cells (o := 0) rfl)) ?_
  refine s_y (v := .int .i64 1048576) rfl (y_move rfl) ?_
  refine s_k rfl (k_call T8.fn_31 (c_l_szSheet (by omega) (by omega) (by omega) (by omega)) rfl ?_)
  rintro v9 w7 ⟨hv10, e8⟩
  replace B := B.ext0 e8
  clear e8
  by_cases c11 : ((nsp0 : Nat) : Int) + ((nls0 : Nat) : Int) ≤ 1048576
  · obtain rfl : v9 = .int .i64 (1048576 - ((nsp0 : Nat) : Int) - ((nls0 : Nat) : Int)) := hv10.trans (congrArg _ (if_pos c11))
    have hk12 : ¬ (1048576 - ((nsp0 : Nat) : Int) - ((nls0 : Nat) : Int)) < 0 := by omega
    refine s_y (v := .int .i64 (1048576 - ((nsp0 : Nat) : Int) - ((nls0 : Nat) : Int))) rfl (y_assign rfl) ?_
    refine s_nil ?_
    refine W_seq ?_
    refine W_seq ?_
    refine W_region (by kernel_rfl) ?_
    refine s_y (v := .int .i64 (1048576 - ((nsp0 : Nat) : Int) - ((nls0 : Nat) : Int))) rfl (y_move rfl) ?_
    refine s_y (v := .bool false) rfl (y_lss rfl rfl (decide_eq_false hk12)) ?_
    refine s_nil ?_
    refine W_if_f (by decide) rfl ?_
    refine W_skip ?_
    refine W_seq ?_
    refine W_region (by kernel_rfl) ?_
    refine s_y (v := .agg #[.slice afe1 nfe1 cfe1, .slice afx1 nfx1 cfx1, .slice afy1 nfy1 cfy1]) rfl (y_loadn (b := b4) (o := 0) (vs := [.slice afe1 nfe1 cfe1, .slice afx1 nfx1 cfx1, .slice afy1 nfy1 cfy1]) T8.agg_46_3 rfl rfl ((B.b 0 rfl).cells (o := 0) rfl)) ?_
    refine s_y (v := .int .i64 (1048576 - ((nsp0 : Nat) : Int) - ((nls0 : Nat) : Int))) rfl (y_move rfl) ?_
    refine s_k rfl (k_call T8.fn_32 (c_l_szField (by omega) (by omega) (by omega) (by omega) (by omega)) rfl ?_)
    rintro v15 w13 ⟨hv16, e14⟩
    replace B := B.ext0 e14
    clear e14
    by_cases c17 : ((nfe1 : Nat) : Int) + ((nfx1 : Nat) : Int) + ((nfy1 : Nat) : Int) ≤ (1048576 - ((nsp0 : Nat) : Int) - ((nls0 : Nat) : Int))
    · obtain rfl : v15 = .int .i64 ((1048576 - ((nsp0 : Nat) : Int) - ((nls0 : Nat) : Int)) - ((nfe1 : Nat) : Int) - ((nfx1 : Nat) : Int) - ((nfy1 : Nat) : Int)) := hv16.trans (congrArg _ (if_pos c17))
      have hk18 : ¬ ((1048576 - ((nsp0 : Nat) : Int) - ((nls0 : Nat) : Int)) - ((nfe1 : Nat) : Int) - ((nfx1 : Nat) : Int) - ((nfy1 : Nat) : Int)) < 0 := by omega
      refine s_y (v := .int .i64 ((1048576 - ((nsp0 : Nat) : Int) - ((nls0 : Nat) : Int)) - ((nfe1 : Nat) : Int) - ((nfx1 : Nat) : Int) - ((nfy1 : Nat) : Int))) rfl (y_assign rfl) ?_
      refine s_nil ?_
      refine W_seq ?_
      refine W_seq ?_
      refine W_region (by kernel_rfl) ?_
      refine s_y (v := .int .i64 ((1048576 - ((nsp0 : Nat) : Int) - ((nls0 : Nat) : Int)) - ((nfe1 : Nat) : Int) - ((nfx1 : Nat) : Int) - ((nfy1 : Nat) : Int))) rfl (y_move rfl) ?_
      refine s_y (v := .bool false) rfl (y_lss rfl rfl (decide_eq_false hk18)) ?_
      refine s_nil ?_
      refine W_if_f (by decide) rfl ?_
      refine W_skip ?_
      refine W_seq ?_
      refine W_region (by kernel_rfl) ?_
      refine s_y (v := .slice a2 n2 c2) rfl (y_move rfl) ?_
      refine s_y (v := .int .i64 ((1048576 - ((nsp0 : Nat) : Int) - ((nls0 : Nat) : Int)) - ((nfe1 : Nat) : Int) - ((nfx1 : Nat) : Int) - ((nfy1 : Nat) : Int))) rfl (y_move rfl) ?_
      refine s_k rfl (k_call T8.fn_50 (c_l_szProbeS (by omega) (by omega) (by omega)) rfl ?_)
      rintro v21 w19 ⟨hv22, e20⟩
      replace B := B.ext0 e20
      clear e20
      by_cases c23 : ((n2 : Nat) : Int) ≤ ((1048576 - ((nsp0 : Nat) : Int) - ((nls0 : Nat) : Int)) - ((nfe1 : Nat) : Int) - ((nfx1 : Nat) : Int) - ((nfy1 : Nat) : Int))
      · obtain rfl : v21 = .int .i64 (((1048576 - ((nsp0 : Nat) : Int) - ((nls0 : Nat) : Int)) - ((nfe1 : Nat) : Int) - ((nfx1 : Nat) : Int) - ((nfy1 : Nat) : Int)) - ((n2 : Nat) : Int)) := hv22.trans (congrArg _ (if_pos c23))
        have hk24 : ¬ (((1048576 - ((nsp0 : Nat) : Int) - ((nls0 : Nat) : Int)) - ((nfe1 : Nat) : Int) - ((nfx1 : Nat) : Int) - ((nfy1 : Nat) : Int)) - ((n2 : Nat) : Int)) < 0 := by omega
        refine s_y (v := .int .i64 (((1048576 - ((nsp0 : Nat) : Int) - ((nls0 : Nat) : Int)) - ((nfe1 : Nat) : Int) - ((nfx1 : Nat) : Int) - ((nfy1 : Nat) : Int)) - ((n2 : Nat) : Int))) rfl (y_assign rfl) ?_
        refine s_nil ?_
        refine W_seq ?_
        refine W_seq ?_
        refine W_region (by kernel_rfl) ?_
        refine s_y (v := .int .i64 (((1048576 - ((nsp0 : Nat) : Int) - ((nls0 : Nat) : Int)) - ((nfe1 : Nat) : Int) - ((nfx1 : Nat) : Int) - ((nfy1 : Nat) : Int)) - ((n2 : Nat) : Int))) rfl (y_move rfl) ?_
        refine s_y (v := .bool false) rfl (y_lss rfl rfl (decide_eq_false hk24)) ?_
        refine s_nil ?_
        refine W_if_f (by decide) rfl ?_
        refine W_skip ?_
        refine W_seq ?_
        have B0_29 := B
        refine W_draw (no) T8.mx (by kernel_rfl) (fun w27 e28 => ?_)
        have R30 := Ext.refl (no) w19
        replace R30 := R30.trans (Ext0.any e28)
        replace B := B.ext0 e28
        clear e28
        refine m_y (v := .agg #[.int .i64 wd0, .int .i64 hi0, .bool wr0, .slice asp0 nsp0 csp0, .slice als0 nls0 cls0]) 0 rfl (by kernel_rfl) rfl rfl (fun w' e' => y_loadn (b := b1) (o := 0) (vs := [.int .i64 wd0, .int .i64 hi0, .bool wr0, .slice asp0 nsp0 csp0, .slice als0 nls0 cls0]) T8.agg_45_5 rfl rfl (((B0_29.b 1 rfl).ext0 e').cells (o := 0) rfl)) ?_
        refine m_y (v := .agg #[.slice afe1 nfe1 cfe1, .slice afx1 nfx1 cfx1, .slice afy1 nfy1 cfy1]) 2 rfl (by kernel_rfl) rfl rfl (fun w' e' => y_loadn (b := b4) (o := 0) (vs := [.slice afe1 nfe1 cfe1, .slice afx1 nfx1 cfx1, .slice afy1 nfy1 cfy1]) T8.agg_46_3 rfl rfl (((B0_29.b 0 rfl).ext0 e').cells (o := 0) rfl)) ?_
        refine m_y (v := .slice a2 n2 c2) 4 rfl (by kernel_rfl) rfl rfl (fun w' e' => y_move rfl) ?_
        refine m_k 1 [3, 5, 6, 7, 8, 9, 10, 11] rfl (by kernel_rfl) rfl rfl (fun w31 e32 => ?_)
        replace R30 := R30.trans (Ext0.any e32)
        replace B := B.ext0 e32
        clear e32
        refine k_call T8.fn_34 (c_l_toSheet (B.r 2 rfl) (B.r 3 rfl) (by omega) (by omega)) rfl ?_
        rintro _ w33 ⟨a34, c35, a36, c37, rfl, hN38⟩
        replace R30 := R30.trans (Ext0.any hN38.ext)
        replace B := B.new2 hN38
        clear hN38
        refine ⟨fun _ => R30, ?_⟩
        refine m_k 3 [5, 6, 7, 8, 9, 10, 11] rfl (by kernel_rfl) rfl rfl (fun w39 e40 => ?_)
        replace R30 := R30.trans (Ext0.any e40)
        replace B := B.ext0 e40
        clear e40
        refine k_call T8.fn_35 (c_l_toField (B.r 6 rfl) (B.r 7 rfl) (B.r 8 rfl) (by omega) (by omega) (by omega)) rfl ?_
        rintro _ w41 ⟨a42, c43, a44, c45, a46, c47, rfl, hN48⟩
        replace R30 := R30.trans (Ext0.any hN48.ext)
        replace B := B.new3 hN48
        clear hN48
        refine ⟨fun _ => R30, ?_⟩
        refine m_k 5 [6, 7, 8, 9, 10, 11] rfl (by kernel_rfl) rfl rfl (fun w49 e50 => ?_)
        replace R30 := R30.trans (Ext0.any e50)
        replace B := B.ext0 e50
        clear e50
        refine k_call T8.fn_52 (c_l_toProbeS (B.r 12 rfl) (by omega)) rfl ?_
        rintro _ w51 ⟨a52, c53, rfl, hN54⟩
        replace R30 := R30.trans (Ext0.any hN54.ext)
        replace B := B.new1 hN54
        clear hN54
        refine ⟨fun _ => R30, ?_⟩
        refine m_k 6 [7, 8, 9, 10, 11] rfl (by kernel_rfl) rfl rfl (fun w55 e56 => ?_)
        replace R30 := R30.trans (Ext0.any e56)
        replace B := B.ext0 e56
        clear e56
        refine k_call T8.fn_51 (c_s_ReadProbes ((B.o 4 rfl).rd) ((B.o 5 rfl).rd) ((B.o 1 rfl).rd) ((B.o 2 rfl).rd) ((B.o 3 rfl).rd) ((B.o 0 rfl).rd) (by omega) (by omega) (by omega) (by omega) (by omega)) rfl ?_
        rintro v59 w57 hx58
        by_cases c60 : readB wd0 hi0 wr0 Xsp0 Xls0 Xfe1 Xfx1 Xfy1 X2 = true
        · have hb61 := readB_b c60
          obtain ⟨a62, c63, rfl, hN64⟩ := (hx58.resolve_right (fun hz => by rw [c60] at hz; cases hz.1)).2
          clear hx58
          replace R30 := R30.trans (Ext0.any hN64.ext)
          replace B := B.new1 hN64
          clear hN64
          refine ⟨fun _ => R30, ?_⟩
          refine m_y (v := .tuple #[.slice a62 n2 c63, .bool true]) 7 rfl (by kernel_rfl) rfl rfl (fun w' e' => y_move rfl) ?_
          refine m_y (v := .slice a62 n2 c63) 8 rfl (by kernel_rfl) rfl rfl (fun w' e' => y_extract rfl rfl) ?_
          refine m_y (v := .bool true) 9 rfl (by kernel_rfl) rfl rfl (fun w' e' => y_extract rfl rfl) ?_
          refine m_y (v := .slice a62 n2 c63) 10 rfl (by kernel_rfl) rfl rfl (fun w' e' => y_assign rfl) ?_
          refine m_y (v := .bool true) 11 rfl (by kernel_rfl) rfl rfl (fun w' e' => y_assign rfl) ?_
          refine m_done (by kernel_rfl) (fun w65 e66 => ?_)
          replace B := B.ext0 e66
          clear e66
          clear B0_29 R30
          refine W_seq ?_
          refine W_region (by kernel_rfl) ?_
          refine s_y (v := .agg #[.int .i64 wd0, .int .i64 hi0, .bool wr0, .slice asp0 nsp0 csp0, .slice als0 nls0 cls0]) rfl (y_loadn (b := b1) (o := 0) (vs := [.int .i64 wd0, .int .i64 hi0, .bool wr0, .slice asp0 nsp0 csp0, .slice als0 nls0 cls0]) T8.agg_45_5 rfl rfl ((B.b 8 rfl).cells (o := 0) rfl)) ?_
          refine s_k rfl (k_call T8.fn_34 (c_l_toSheet (B.r 9 rfl) (B.r 10 rfl) (by omega) (by omega)) rfl ?_)
          rintro _ w67 ⟨a68, c69, a70, c71, rfl, hN72⟩
          replace B := B.new2 hN72
          clear hN72
          refine s_k rfl (k_allocN (z := (.agg #[.int .i64 0, .int .i64 0, .bool false, .slice none 0 0, .slice none 0 0])) (cs := [.int .i64 0, .int .i64 0, .bool false, .slice none 0 0, .slice none 0 0]) T8.zero_26 rfl (fun b73 w74 hN75 => ?_))
          replace B := B.new1 hN75
          clear hN75
          refine s_k0 rfl (k_stB (v := .agg #[.int .i64 wd0, .int .i64 hi0, .bool wr0, .slice a68 nsp0 c69, .slice a70 nls0 c71]) (n := 5) (cs' := [.int .i64 wd0, .int .i64 hi0, .bool wr0, .slice a68 nsp0 c69, .slice a70 nls0 c71]) T8.sz_26_5 rfl rfl rfl (B.b 0 rfl) (by simp [Value.cells, Value.oneCell']) (Nat.le_of_ble_eq_true rfl) rfl (fun w76 hU77 => ?_))
          replace B : Bu w no w76 [.blk b73 [.int .i64 wd0, .int .i64 hi0, .bool wr0, .slice a68 nsp0 c69, .slice a70 nls0 c71] 26, .ow kF a68 nsp0 c69 35 Xsp0, .ow kF a70 nls0 c71 35 Xls0, .ow kF a62 n2 c63 35 (readL wd0 Xfe1 X2 n2), .ow kP a52 n2 c53 109 X2, .ow kF a42 nfe1 c43 35 Xfe1, .ow kF a44 nfx1 c45 35 Xfx1, .ow kF a46 nfy1 c47 35 Xfy1, .ow kF a34 nsp0 c35 35 Xsp0, .ow kF a36 nls0 c37 35 Xls0, .blk b4 [.slice afe1 nfe1 cfe1, .slice afx1 nfx1 cfx1, .slice afy1 nfy1 cfy1] 46, .blk b1 [.int .i64 wd0, .int .i64 hi0, .bool wr0, .slice asp0 nsp0 csp0, .slice als0 nls0 cls0] 45, .rd kF asp0 nsp0 Xsp0, .rd kF als0 nls0 Xls0, .rd kF afe1 nfe1 Xfe1, .rd kF afx1 nfx1 Xfx1, .rd kF afy1 nfy1 Xfy1, .rd kP a2 n2 X2] := B.upd [0] rfl hU77
          clear hU77
          refine s_nil ?_
          refine W_seq ?_
          refine W_region (by kernel_rfl) ?_
          refine s_y (v := .agg #[.slice afe1 nfe1 cfe1, .slice afx1 nfx1 cfx1, .slice afy1 nfy1 cfy1]) rfl (y_loadn (b := b4) (o := 0) (vs := [.slice afe1 nfe1 cfe1, .slice afx1 nfx1 cfx1, .slice afy1 nfy1 cfy1]) T8.agg_46_3 rfl rfl ((B.b 10 rfl).cells (o := 0) rfl)) ?_
          refine s_k rfl (k_call T8.fn_35 (c_l_toField (B.r 14 rfl) (B.r 15 rfl) (B.r 16 rfl) (by omega) (by omega) (by omega)) rfl ?_)
          rintro _ w78 ⟨a79, c80, a81, c82, a83, c84, rfl, hN85⟩
          replace B := B.new3 hN85
          clear hN85
          refine s_k rfl (k_allocN (z := (.agg #[.slice none 0 0, .slice none 0 0, .slice none 0 0])) (cs := [.slice none 0 0, .slice none 0 0, .slice none 0 0]) T8.zero_29 rfl (fun b86 w87 hN88 => ?_))
          replace B := B.new1 hN88
          clear hN88
          refine s_k0 rfl (k_stB (v := .agg #[.slice a79 nfe1 c80, .slice a81 nfx1 c82, .slice a83 nfy1 c84]) (n := 3) (cs' := [.slice a79 nfe1 c80, .slice a81 nfx1 c82, .slice a83 nfy1 c84]) T8.sz_29_3 rfl rfl rfl (B.b 0 rfl) (by simp [Value.cells, Value.oneCell']) (Nat.le_of_ble_eq_true rfl) rfl (fun w89 hU90 => ?_))
          replace B : Bu w no w89 [.blk b86 [.slice a79 nfe1 c80, .slice a81 nfx1 c82, .slice a83 nfy1 c84] 29, .ow kF a79 nfe1 c80 35 Xfe1, .ow kF a81 nfx1 c82 35 Xfx1, .ow kF a83 nfy1 c84 35 Xfy1, .blk b73 [.int .i64 wd0, .int .i64 hi0, .bool wr0, .slice a68 nsp0 c69, .slice a70 nls0 c71] 26, .ow kF a68 nsp0 c69 35 Xsp0, .ow kF a70 nls0 c71 35 Xls0, .ow kF a62 n2 c63 35 (readL wd0 Xfe1 X2 n2), .ow kP a52 n2 c53 109 X2, .ow kF a42 nfe1 c43 35 Xfe1, .ow kF a44 nfx1 c45 35 Xfx1, .ow kF a46 nfy1 c47 35 Xfy1, .ow kF a34 nsp0 c35 35 Xsp0, .ow kF a36 nls0 c37 35 Xls0, .blk b4 [.slice afe1 nfe1 cfe1, .slice afx1 nfx1 cfx1, .slice afy1 nfy1 cfy1] 46, .blk b1 [.int .i64 wd0, .int .i64 hi0, .bool wr0, .slice asp0 nsp0 csp0, .slice als0 nls0 cls0] 45, .rd kF asp0 nsp0 Xsp0, .rd kF als0 nls0 Xls0, .rd kF afe1 nfe1 Xfe1, .rd kF afx1 nfx1 Xfx1, .rd kF afy1 nfy1 Xfy1, .rd kP a2 n2 X2] := B.upd [0] rfl hU90
          clear hU90
          refine s_nil ?_
          refine W_seq ?_
          refine W_region (by kernel_rfl) ?_
          refine s_y (v := .slice a2 n2 c2) rfl (y_move rfl) ?_
          refine s_k rfl (k_call T8.fn_52 (c_l_toProbeS (B.r 21 rfl) (by omega)) rfl ?_)
          rintro _ w91 ⟨a92, c93, rfl, hN94⟩
          replace B := B.new1 hN94
          clear hN94
          refine s_y (v := .slice a92 n2 c93) rfl (y_assign rfl) ?_
          refine s_nil ?_
          refine W_seq ?_
          refine W_region (by kernel_rfl) ?_
          refine s_y (v := .agg #[.int .i64 wd0, .int .i64 hi0, .bool wr0, .slice a68 nsp0 c69, .slice a70 nls0 c71]) rfl (y_loadn (b := b73) (o := 0) (vs := [.int .i64 wd0, .int .i64 hi0, .bool wr0, .slice a68 nsp0 c69, .slice a70 nls0 c71]) T8.agg_26_5 rfl rfl ((B.b 5 rfl).cells (o := 0) rfl)) ?_
          refine s_y (v := .agg #[.slice a79 nfe1 c80, .slice a81 nfx1 c82, .slice a83 nfy1 c84]) rfl (y_loadn (b := b86) (o := 0) (vs := [.slice a79 nfe1 c80, .slice a81 nfx1 c82, .slice a83 nfy1 c84]) T8.agg_29_3 rfl rfl ((B.b 1 rfl).cells (o := 0) rfl)) ?_
          refine s_y (v := .slice a92 n2 c93) rfl (y_move rfl) ?_
          refine s_k rfl (k_call T8.fn_53 (c_i_ReadProbes ((B.o 6 rfl).rd) ((B.o 7 rfl).rd) ((B.o 2 rfl).rd) ((B.o 3 rfl).rd) ((B.o 4 rfl).rd) ((B.o 0 rfl).rd) (by omega) (by omega) (by omega) (by omega) (by omega)) rfl ?_)
          rintro v97 w95 hx96
          obtain ⟨a98, c99, rfl, hN100⟩ := (hx96.resolve_right (fun hz => by rw [c60] at hz; cases hz.1)).2
          clear hx96
          replace B := B.new1 hN100
          clear hN100
          refine s_y (v := .tuple #[.slice a98 n2 c99, .bool true]) rfl (y_move rfl) ?_
          refine s_y (v := .slice a98 n2 c99) rfl (y_extract rfl rfl) ?_
          refine s_y (v := .bool true) rfl (y_extract rfl rfl) ?_
          refine s_y (v := .slice a98 n2 c99) rfl (y_assign rfl) ?_
          refine s_y (v := .bool true) rfl (y_assign rfl) ?_
          refine s_nil ?_
          refine W_seq ?_
          refine W_seq ?_
          refine W_region (by kernel_rfl) ?_
          refine s_y (v := .slice a98 n2 c99) rfl (y_move rfl) ?_
          refine s_y (v := .slice a62 n2 c63) rfl (y_move rfl) ?_
          refine s_k rfl (k_call T8.fn_54 (c_l_eqFloat32S ((B.o 0 rfl).rd) ((B.o 9 rfl).rd) (by omega)) rfl ?_)
          rintro _ w101 ⟨rfl, e102⟩
          replace B := B.ext0 e102
          clear e102
          refine s_y (v := .bool false) rfl (y_not rfl rfl) ?_
          refine s_y (v := .bool false) rfl (y_move rfl) ?_
          refine s_y (v := .bool true) rfl (y_move rfl) ?_
          refine s_y (v := .bool true) rfl (y_move rfl) ?_
          refine s_y (v := .bool false) rfl (y_bneq T8.bool_4 rfl rfl rfl) ?_
          refine s_y (v := .bool false) rfl (y_pick_f rfl rfl) ?_
          refine s_nil ?_
          refine W_if_f (by decide) rfl ?_
          refine W_skip ?_
          refine W_seq ?_
          refine W_seq ?_
          have B0_107 := B
          refine W_draw (no) T8.mx (by kernel_rfl) (fun w105 e106 => ?_)
          have R108 := Ext.refl (no) w101
          replace R108 := R108.trans (Ext0.any e106)
          replace B := B.ext0 e106
          clear e106
          refine m_y (v := .agg #[.int .i64 wd0, .int .i64 hi0, .bool wr0, .slice a68 nsp0 c69, .slice a70 nls0 c71]) 0 rfl (by kernel_rfl) rfl rfl (fun w' e' => y_loadn (b := b73) (o := 0) (vs := [.int .i64 wd0, .int .i64 hi0, .bool wr0, .slice a68 nsp0 c69, .slice a70 nls0 c71]) T8.agg_26_5 rfl rfl (((B0_107.b 6 rfl).ext0 e').cells (o := 0) rfl)) ?_
          refine m_y (v := .agg #[.int .i64 wd0, .int .i64 hi0, .bool wr0, .slice asp0 nsp0 csp0, .slice als0 nls0 cls0]) 1 rfl (by kernel_rfl) rfl rfl (fun w' e' => y_loadn (b := b1) (o := 0) (vs := [.int .i64 wd0, .int .i64 hi0, .bool wr0, .slice asp0 nsp0 csp0, .slice als0 nls0 cls0]) T8.agg_45_5 rfl rfl (((B0_107.b 17 rfl).ext0 e').cells (o := 0) rfl)) ?_
          refine m_k 2 [3, 4] rfl (by kernel_rfl) rfl rfl (fun w109 e110 => ?_)
          replace R108 := R108.trans (Ext0.any e110)
          replace B := B.ext0 e110
          clear e110
          refine k_call T8.fn_34 (c_l_toSheet (B.r 18 rfl) (B.r 19 rfl) (by omega) (by omega)) rfl ?_
          rintro _ w111 ⟨a112, c113, a114, c115, rfl, hN116⟩
          replace R108 := R108.trans (Ext0.any hN116.ext)
          replace B := B.new2 hN116
          clear hN116
          refine ⟨fun _ => R108, ?_⟩
          refine m_k 3 [4] rfl (by kernel_rfl) rfl rfl (fun w117 e118 => ?_)
          replace R108 := R108.trans (Ext0.any e118)
          replace B := B.ext0 e118
          clear e118
          refine k_call T8.fn_38 (c_l_eqSheet ((B.o 9 rfl).rd) ((B.o 10 rfl).rd) ((B.o 0 rfl).rd) ((B.o 1 rfl).rd) (by omega) (by omega)) rfl ?_
          rintro _ w119 ⟨rfl, e120⟩
          replace R108 := R108.trans (Ext0.any e120)
          replace B := B.ext0 e120
          clear e120
          refine ⟨fun _ => R108, ?_⟩
          refine m_y (v := .bool false) 4 rfl (by kernel_rfl) rfl rfl (fun w' e' => y_not rfl rfl) ?_
          refine m_done (by kernel_rfl) (fun w121 e122 => ?_)
          replace B := B.ext0 e122
          clear e122
          clear B0_107 R108
          refine W_if_f (by decide) rfl ?_
          refine W_skip ?_
          refine W_seq ?_
          refine W_seq ?_
          have B0_127 := B
          refine W_draw (no) T8.mx (by kernel_rfl) (fun w125 e126 => ?_)
          have R128 := Ext.refl (no) w121
          replace R128 := R128.trans (Ext0.any e126)
          replace B := B.ext0 e126
          clear e126
          refine m_y (v := .agg #[.slice a79 nfe1 c80, .slice a81 nfx1 c82, .slice a83 nfy1 c84]) 0 rfl (by kernel_rfl) rfl rfl (fun w' e' => y_loadn (b := b86) (o := 0) (vs := [.slice a79 nfe1 c80, .slice a81 nfx1 c82, .slice a83 nfy1 c84]) T8.agg_29_3 rfl rfl (((B0_127.b 4 rfl).ext0 e').cells (o := 0) rfl)) ?_
          refine m_y (v := .agg #[.slice afe1 nfe1 cfe1, .slice afx1 nfx1 cfx1, .slice afy1 nfy1 cfy1]) 1 rfl (by kernel_rfl) rfl rfl (fun w' e' => y_loadn (b := b4) (o := 0) (vs := [.slice afe1 nfe1 cfe1, .slice afx1 nfx1 cfx1, .slice afy1 nfy1 cfy1]) T8.agg_46_3 rfl rfl (((B0_127.b 18 rfl).ext0 e').cells (o := 0) rfl)) ?_
          refine m_k 2 [3, 4] rfl (by kernel_rfl) rfl rfl (fun w129 e130 => ?_)
          replace R128 := R128.trans (Ext0.any e130)
          replace B := B.ext0 e130
          clear e130
          refine k_call T8.fn_35 (c_l_toField (B.r 22 rfl) (B.r 23 rfl) (B.r 24 rfl) (by omega) (by omega) (by omega)) rfl ?_
          rintro _ w131 ⟨a132, c133, a134, c135, a136, c137, rfl, hN138⟩
          replace R128 := R128.trans (Ext0.any hN138.ext)
          replace B := B.new3 hN138
          clear hN138
          refine ⟨fun _ => R128, ?_⟩
          refine m_k 3 [4] rfl (by kernel_rfl) rfl rfl (fun w139 e140 => ?_)
          replace R128 := R128.trans (Ext0.any e140)
          replace B := B.ext0 e140
          clear e140
          refine k_call T8.fn_39 (c_l_eqField ((B.o 8 rfl).rd) ((B.o 9 rfl).rd) ((B.o 10 rfl).rd) ((B.o 0 rfl).rd) ((B.o 1 rfl).rd) ((B.o 2 rfl).rd) (by omega) (by omega) (by omega)) rfl ?_
          rintro _ w141 ⟨rfl, e142⟩
          replace R128 := R128.trans (Ext0.any e142)
          replace B := B.ext0 e142
          clear e142
          refine ⟨fun _ => R128, ?_⟩
          refine m_y (v := .bool false) 4 rfl (by kernel_rfl) rfl rfl (fun w' e' => y_not rfl rfl) ?_
          refine m_done (by kernel_rfl) (fun w143 e144 => ?_)
          replace B := B.ext0 e144
          clear e144
          clear B0_127 R128
          refine W_if_f (by decide) rfl ?_
          refine W_skip ?_
          refine W_seq ?_
          refine W_seq ?_
          refine W_region (by kernel_rfl) ?_
          refine s_y (v := .slice a92 n2 c93) rfl (y_move rfl) ?_
          refine s_y (v := .slice a2 n2 c2) rfl (y_move rfl) ?_
          refine s_k rfl (k_call T8.fn_52 (c_l_toProbeS (B.r 28 rfl) (by omega)) rfl ?_)
          rintro _ w145 ⟨a146, c147, rfl, hN148⟩
          replace B := B.new1 hN148
          clear hN148
          refine s_k rfl (k_call T8.fn_55 (c_l_eqProbeS ((B.o 7 rfl).rd) ((B.o 0 rfl).rd) (by omega)) rfl ?_)
          rintro _ w149 ⟨rfl, e150⟩
          replace B := B.ext0 e150
          clear e150
          refine s_y (v := .bool false) rfl (y_not rfl rfl) ?_
          refine s_nil ?_
          refine W_if_f (by decide) rfl ?_
          refine W_skip ?_
          refine W_seq ?_
          refine W_region (by kernel_rfl) ?_
          refine s_y (v := .int .i64 1) rfl (y_assign rfl) ?_
          refine s_nil ?_
          refine W_seq ?_
          refine W_region (by kernel_rfl) ?_
          refine s_y (v := .agg #[.int .i64 wd0, .int .i64 hi0, .bool wr0, .slice a68 nsp0 c69, .slice a70 nls0 c71]) rfl (y_loadn (b := b73) (o := 0) (vs := [.int .i64 wd0, .int .i64 hi0, .bool wr0, .slice a68 nsp0 c69, .slice a70 nls0 c71]) T8.agg_26_5 rfl rfl ((B.b 12 rfl).cells (o := 0) rfl)) ?_
          refine s_y (v := .int .i64 1) rfl (y_move rfl) ?_
          refine s_k rfl (k_call T8.fn_40 (c_l_markSheet (by omega) (by omega) (by omega) (by omega) (B.all.pick [13, 14] rfl) (B.pw.pick [13, 14] rfl rfl)) rfl ?_)
          rintro _ w151 ⟨rfl, hU152⟩
          replace B : Bu w no w151 [.ow kF a68 nsp0 c69 35 (marks 1 nsp0), .ow kF a70 nls0 c71 35 (marks (1 + ((nsp0 : Nat) : Int)) nls0), .ow kP a146 n2 c147 109 X2, .ow kF a132 nfe1 c133 35 Xfe1, .ow kF a134 nfx1 c135 35 Xfx1, .ow kF a136 nfy1 c137 35 Xfy1, .ow kF a112 nsp0 c113 35 Xsp0, .ow kF a114 nls0 c115 35 Xls0, .ow kF a98 n2 c99 35 (readL wd0 Xfe1 X2 n2), .ow kP a92 n2 c93 109 X2, .blk b86 [.slice a79 nfe1 c80, .slice a81 nfx1 c82, .slice a83 nfy1 c84] 29, .ow kF a79 nfe1 c80 35 Xfe1, .ow kF a81 nfx1 c82 35 Xfx1, .ow kF a83 nfy1 c84 35 Xfy1, .blk b73 [.int .i64 wd0, .int .i64 hi0, .bool wr0, .slice a68 nsp0 c69, .slice a70 nls0 c71] 26, .ow kF a62 n2 c63 35 (readL wd0 Xfe1 X2 n2), .ow kP a52 n2 c53 109 X2, .ow kF a42 nfe1 c43 35 Xfe1, .ow kF a44 nfx1 c45 35 Xfx1, .ow kF a46 nfy1 c47 35 Xfy1, .ow kF a34 nsp0 c35 35 Xsp0, .ow kF a36 nls0 c37 35 Xls0, .blk b4 [.slice afe1 nfe1 cfe1, .slice afx1 nfx1 cfx1, .slice afy1 nfy1 cfy1] 46, .blk b1 [.int .i64 wd0, .int .i64 hi0, .bool wr0, .slice asp0 nsp0 csp0, .slice als0 nls0 cls0] 45, .rd kF asp0 nsp0 Xsp0, .rd kF als0 nls0 Xls0, .rd kF afe1 nfe1 Xfe1, .rd kF afx1 nfx1 Xfx1, .rd kF afy1 nfy1 Xfy1, .rd kP a2 n2 X2] := B.upd [13, 14] rfl hU152
          clear hU152
          refine s_y (v := .int .i64 (1 + ((nsp0 : Nat) : Int) + ((nls0 : Nat) : Int))) rfl (y_assign rfl) ?_
          refine s_nil ?_
          refine W_seq ?_
          refine W_region (by kernel_rfl) ?_
          refine s_y (v := .agg #[.slice a79 nfe1 c80, .slice a81 nfx1 c82, .slice a83 nfy1 c84]) rfl (y_loadn (b := b86) (o := 0) (vs := [.slice a79 nfe1 c80, .slice a81 nfx1 c82, .slice a83 nfy1 c84]) T8.agg_29_3 rfl rfl ((B.b 10 rfl).cells (o := 0) rfl)) ?_
          refine s_y (v := .int .i64 (1 + ((nsp0 : Nat) : Int) + ((nls0 : Nat) : Int))) rfl (y_move rfl) ?_
          refine s_k rfl (k_call T8.fn_41 (c_l_markField (by omega) (by omega) (by omega) (by omega) (by omega) (B.all.pick [11, 12, 13] rfl) (B.pw.pick [11, 12, 13] rfl rfl)) rfl ?_)
          rintro _ w153 ⟨rfl, hU154⟩
          replace B : Bu w no w153 [.ow kF a79 nfe1 c80 35 (marks (1 + ((nsp0 : Nat) : Int) + ((nls0 : Nat) : Int)) nfe1), .ow kF a81 nfx1 c82 35 (marks ((1 + ((nsp0 : Nat) : Int) + ((nls0 : Nat) : Int)) + ((nfe1 : Nat) : Int)) nfx1), .ow kF a83 nfy1 c84 35 (marks ((1 + ((nsp0 : Nat) : Int) + ((nls0 : Nat) : Int)) + ((nfe1 : Nat) : Int) + ((nfx1 : Nat) : Int)) nfy1), .ow kF a68 nsp0 c69 35 (marks 1 nsp0), .ow kF a70 nls0 c71 35 (marks (1 + ((nsp0 : Nat) : Int)) nls0), .ow kP a146 n2 c147 109 X2, .ow kF a132 nfe1 c133 35 Xfe1, .ow kF a134 nfx1 c135 35 Xfx1, .ow kF a136 nfy1 c137 35 Xfy1, .ow kF a112 nsp0 c113 35 Xsp0, .ow kF a114 nls0 c115 35 Xls0, .ow kF a98 n2 c99 35 (readL wd0 Xfe1 X2 n2), .ow kP a92 n2 c93 109 X2, .blk b86 [.slice a79 nfe1 c80, .slice a81 nfx1 c82, .slice a83 nfy1 c84] 29, .blk b73 [.int .i64 wd0, .int .i64 hi0, .bool wr0, .slice a68 nsp0 c69, .slice a70 nls0 c71] 26, .ow kF a62 n2 c63 35 (readL wd0 Xfe1 X2 n2), .ow kP a52 n2 c53 109 X2, .ow kF a42 nfe1 c43 35 Xfe1, .ow kF a44 nfx1 c45 35 Xfx1, .ow kF a46 nfy1 c47 35 Xfy1, .ow kF a34 nsp0 c35 35 Xsp0, .ow kF a36 nls0 c37 35 Xls0, .blk b4 [.slice afe1 nfe1 cfe1, .slice afx1 nfx1 cfx1, .slice afy1 nfy1 cfy1] 46, .blk b1 [.int .i64 wd0, .int .i64 hi0, .bool wr0, .slice asp0 nsp0 csp0, .slice als0 nls0 cls0] 45, .rd kF asp0 nsp0 Xsp0, .rd kF als0 nls0 Xls0, .rd kF afe1 nfe1 Xfe1, .rd kF afx1 nfx1 Xfx1, .rd kF afy1 nfy1 Xfy1, .rd kP a2 n2 X2] := B.upd [11, 12, 13] rfl hU154
          clear hU154
          refine s_y (v := .int .i64 ((1 + ((nsp0 : Nat) : Int) + ((nls0 : Nat) : Int)) + ((nfe1 : Nat) : Int) + ((nfx1 : Nat) : Int) + ((nfy1 : Nat) : Int))) rfl (y_assign rfl) ?_
          refine s_nil ?_
          refine W_seq ?_
          refine W_region (by kernel_rfl) ?_
          refine s_y (v := .slice a92 n2 c93) rfl (y_move rfl) ?_
          refine s_y (v := .int .i64 ((1 + ((nsp0 : Nat) : Int) + ((nls0 : Nat) : Int)) + ((nfe1 : Nat) : Int) + ((nfx1 : Nat) : Int) + ((nfy1 : Nat) : Int))) rfl (y_move rfl) ?_
          refine s_k rfl (k_call T8.fn_56 (c_l_markProbeS (by omega) (by omega) (by omega) (B.all.pick [12] rfl) (B.pw.pick [12] rfl rfl)) rfl ?_)
          rintro _ w155 ⟨rfl, hU156⟩
          replace B : Bu w no w155 [.ow kP a92 n2 c93 109 (pmarks ((1 + ((nsp0 : Nat) : Int) + ((nls0 : Nat) : Int)) + ((nfe1 : Nat) : Int) + ((nfx1 : Nat) : Int) + ((nfy1 : Nat) : Int)) n2), .ow kF a79 nfe1 c80 35 (marks (1 + ((nsp0 : Nat) : Int) + ((nls0 : Nat) : Int)) nfe1), .ow kF a81 nfx1 c82 35 (marks ((1 + ((nsp0 : Nat) : Int) + ((nls0 : Nat) : Int)) + ((nfe1 : Nat) : Int)) nfx1), .ow kF a83 nfy1 c84 35 (marks ((1 + ((nsp0 : Nat) : Int) + ((nls0 : Nat) : Int)) + ((nfe1 : Nat) : Int) + ((nfx1 : Nat) : Int)) nfy1), .ow kF a68 nsp0 c69 35 (marks 1 nsp0), .ow kF a70 nls0 c71 35 (marks (1 + ((nsp0 : Nat) : Int)) nls0), .ow kP a146 n2 c147 109 X2, .ow kF a132 nfe1 c133 35 Xfe1, .ow kF a134 nfx1 c135 35 Xfx1, .ow kF a136 nfy1 c137 35 Xfy1, .ow kF a112 nsp0 c113 35 Xsp0, .ow kF a114 nls0 c115 35 Xls0, .ow kF a98 n2 c99 35 (readL wd0 Xfe1 X2 n2), .blk b86 [.slice a79 nfe1 c80, .slice a81 nfx1 c82, .slice a83 nfy1 c84] 29, .blk b73 [.int .i64 wd0, .int .i64 hi0, .bool wr0, .slice a68 nsp0 c69, .slice a70 nls0 c71] 26, .ow kF a62 n2 c63 35 (readL wd0 Xfe1 X2 n2), .ow kP a52 n2 c53 109 X2, .ow kF a42 nfe1 c43 35 Xfe1, .ow kF a44 nfx1 c45 35 Xfx1, .ow kF a46 nfy1 c47 35 Xfy1, .ow kF a34 nsp0 c35 35 Xsp0, .ow kF a36 nls0 c37 35 Xls0, .blk b4 [.slice afe1 nfe1 cfe1, .slice afx1 nfx1 cfx1, .slice afy1 nfy1 cfy1] 46, .blk b1 [.int .i64 wd0, .int .i64 hi0, .bool wr0, .slice asp0 nsp0 csp0, .slice als0 nls0 cls0] 45, .rd kF asp0 nsp0 Xsp0, .rd kF als0 nls0 Xls0, .rd kF afe1 nfe1 Xfe1, .rd kF afx1 nfx1 Xfx1, .rd kF afy1 nfy1 Xfy1, .rd kP a2 n2 X2] := B.upd [12] rfl hU156
          clear hU156
          refine s_y (v := .int .i64 (((1 + ((nsp0 : Nat) : Int) + ((nls0 : Nat) : Int)) + ((nfe1 : Nat) : Int) + ((nfx1 : Nat) : Int) + ((nfy1 : Nat) : Int)) + 2 * ((n2 : Nat) : Int))) rfl (y_assign rfl) ?_
          refine s_nil ?_
          refine W_seq ?_
          refine W_seq ?_
          refine W_region (by kernel_rfl) ?_
          refine s_y (v := .int .i64 (((1 + ((nsp0 : Nat) : Int) + ((nls0 : Nat) : Int)) + ((nfe1 : Nat) : Int) + ((nfx1 : Nat) : Int) + ((nfy1 : Nat) : Int)) + 2 * ((n2 : Nat) : Int))) rfl (y_move rfl) ?_
          have hk157 : ¬ ((((1 + ((nsp0 : Nat) : Int) + ((nls0 : Nat) : Int)) + ((nfe1 : Nat) : Int) + ((nfx1 : Nat) : Int) + ((nfy1 : Nat) : Int)) + 2 * ((n2 : Nat) : Int)) < 0) := (by omega)
          refine s_y (v := .bool false) rfl (y_lss rfl rfl (decide_eq_false hk157)) ?_
          refine s_y (v := .bool false) rfl (y_move rfl) ?_
          refine s_y (v := .slice a98 n2 c99) rfl (y_move rfl) ?_
          refine s_y (v := .slice a62 n2 c63) rfl (y_move rfl) ?_
          refine s_k rfl (k_call T8.fn_54 (c_l_eqFloat32S ((B.o 12 rfl).rd) ((B.o 15 rfl).rd) (by omega)) rfl ?_)
          rintro _ w158 ⟨rfl, e159⟩
          replace B := B.ext0 e159
          clear e159
          refine s_y (v := .bool false) rfl (y_not rfl rfl) ?_
          refine s_y (v := .bool false) rfl (y_pick_f rfl rfl) ?_
          refine s_y (v := .bool false) rfl (y_move rfl) ?_
          refine s_y (v := .bool true) rfl (y_move rfl) ?_
          refine s_y (v := .bool true) rfl (y_move rfl) ?_
          refine s_y (v := .bool false) rfl (y_bneq T8.bool_4 rfl rfl rfl) ?_
          refine s_y (v := .bool false) rfl (y_pick_f rfl rfl) ?_
          refine s_nil ?_
          refine W_if_f (by decide) rfl ?_
          refine W_skip ?_
          refine W_seq ?_
          refine W_region (by kernel_rfl) ?_
          refine s_y (v := .int .i64 1) rfl (y_assign rfl) ?_
          refine s_nil ?_
          refine W_seq ?_
          refine W_region (by kernel_rfl) ?_
          refine s_y (v := .slice a98 n2 c99) rfl (y_move rfl) ?_
          refine s_y (v := .int .i64 1) rfl (y_move rfl) ?_
          refine s_k rfl (k_call T8.fn_57 (c_l_markFloat32S (by omega) (by omega) (by omega) (B.all.pick [12] rfl) (B.pw.pick [12] rfl rfl)) rfl ?_)
          rintro _ w160 ⟨rfl, hU161⟩
          replace B : Bu w no w160 [.ow kF a98 n2 c99 35 (marks 1 n2), .ow kP a92 n2 c93 109 (pmarks ((1 + ((nsp0 : Nat) : Int) + ((nls0 : Nat) : Int)) + ((nfe1 : Nat) : Int) + ((nfx1 : Nat) : Int) + ((nfy1 : Nat) : Int)) n2), .ow kF a79 nfe1 c80 35 (marks (1 + ((nsp0 : Nat) : Int) + ((nls0 : Nat) : Int)) nfe1), .ow kF a81 nfx1 c82 35 (marks ((1 + ((nsp0 : Nat) : Int) + ((nls0 : Nat) : Int)) + ((nfe1 : Nat) : Int)) nfx1), .ow kF a83 nfy1 c84 35 (marks ((1 + ((nsp0 : Nat) : Int) + ((nls0 : Nat) : Int)) + ((nfe1 : Nat) : Int) + ((nfx1 : Nat) : Int)) nfy1), .ow kF a68 nsp0 c69 35 (marks 1 nsp0), .ow kF a70 nls0 c71 35 (marks (1 + ((nsp0 : Nat) : Int)) nls0), .ow kP a146 n2 c147 109 X2, .ow kF a132 nfe1 c133 35 Xfe1, .ow kF a134 nfx1 c135 35 Xfx1, .ow kF a136 nfy1 c137 35 Xfy1, .ow kF a112 nsp0 c113 35 Xsp0, .ow kF a114 nls0 c115 35 Xls0, .blk b86 [.slice a79 nfe1 c80, .slice a81 nfx1 c82, .slice a83 nfy1 c84] 29, .blk b73 [.int .i64 wd0, .int .i64 hi0, .bool wr0, .slice a68 nsp0 c69, .slice a70 nls0 c71] 26, .ow kF a62 n2 c63 35 (readL wd0 Xfe1 X2 n2), .ow kP a52 n2 c53 109 X2, .ow kF a42 nfe1 c43 35 Xfe1, .ow kF a44 nfx1 c45 35 Xfx1, .ow kF a46 nfy1 c47 35 Xfy1, .ow kF a34 nsp0 c35 35 Xsp0, .ow kF a36 nls0 c37 35 Xls0, .blk b4 [.slice afe1 nfe1 cfe1, .slice afx1 nfx1 cfx1, .slice afy1 nfy1 cfy1] 46, .blk b1 [.int .i64 wd0, .int .i64 hi0, .bool wr0, .slice asp0 nsp0 csp0, .slice als0 nls0 cls0] 45, .rd kF asp0 nsp0 Xsp0, .rd kF als0 nls0 Xls0, .rd kF afe1 nfe1 Xfe1, .rd kF afx1 nfx1 Xfx1, .rd kF afy1 nfy1 Xfy1, .rd kP a2 n2 X2] := B.upd [12] rfl hU161
          clear hU161
          refine s_y (v := .int .i64 (1 + ((n2 : Nat) : Int))) rfl (y_assign rfl) ?_
          refine s_nil ?_
          refine W_seq ?_
          refine W_region (by kernel_rfl) ?_
          refine s_y (v := .int .i64 1) rfl (y_assign rfl) ?_
          refine s_nil ?_
          refine W_seq ?_
          refine W_region (by kernel_rfl) ?_
          refine s_y (v := .slice a98 n2 c99) rfl (y_move rfl) ?_
          refine s_y (v := .int .i64 1) rfl (y_move rfl) ?_
          refine s_k rfl (k_call T8.fn_58 (c_l_heldFloat32S ((B.o 0 rfl).rd) (by omega) (by omega) (by omega)) rfl ?_)
          rintro _ w162 ⟨rfl, e163⟩
          replace B := B.ext0 e163
          clear e163
          refine s_y (v := .int .i64 (1 + ((n2 : Nat) : Int))) rfl (y_assign rfl) ?_
          refine s_nil ?_
          refine W_seq ?_
          refine W_seq ?_
          refine W_region (by kernel_rfl) ?_
          refine s_y (v := .int .i64 (1 + ((n2 : Nat) : Int))) rfl (y_move rfl) ?_
          have hk164 : ¬ ((1 + ((n2 : Nat) : Int)) < 0) := (by omega)
          refine s_y (v := .bool false) rfl (y_lss rfl rfl (decide_eq_false hk164)) ?_
          refine s_nil ?_
          refine W_if_f (by decide) rfl ?_
          refine W_skip ?_
          refine W_seq ?_
          refine W_seq ?_
          refine W_region (by kernel_rfl) ?_
          refine s_y (v := .int .i64 (1 + ((n2 : Nat) : Int))) rfl (y_move rfl) ?_
          refine s_y (v := .int .i64 (1 + ((n2 : Nat) : Int))) rfl (y_move rfl) ?_
          refine s_y (v := .bool false) rfl (y_neq rfl rfl (decide_eq_false (fun hq => hq rfl))) ?_
          refine s_nil ?_
          refine W_if_f (by decide) rfl ?_
          refine W_skip ?_
          refine W_seq ?_
          have B0_169 := B
          refine W_draw (no) T8.mx (by kernel_rfl) (fun w167 e168 => ?_)
          have R170 := Ext.refl (no) w162
          replace R170 := R170.trans (Ext0.any e168)
          replace B := B.ext0 e168
          clear e168
          refine m_y (v := .agg #[.int .i64 wd0, .int .i64 hi0, .bool wr0, .slice asp0 nsp0 csp0, .slice als0 nls0 cls0]) 0 rfl (by kernel_rfl) rfl rfl (fun w' e' => y_loadn (b := b1) (o := 0) (vs := [.int .i64 wd0, .int .i64 hi0, .bool wr0, .slice asp0 nsp0 csp0, .slice als0 nls0 cls0]) T8.agg_45_5 rfl rfl (((B0_169.b 23 rfl).ext0 e').cells (o := 0) rfl)) ?_
          refine m_y (v := .agg #[.slice afe1 nfe1 cfe1, .slice afx1 nfx1 cfx1, .slice afy1 nfy1 cfy1]) 2 rfl (by kernel_rfl) rfl rfl (fun w' e' => y_loadn (b := b4) (o := 0) (vs := [.slice afe1 nfe1 cfe1, .slice afx1 nfx1 cfx1, .slice afy1 nfy1 cfy1]) T8.agg_46_3 rfl rfl (((B0_169.b 22 rfl).ext0 e').cells (o := 0) rfl)) ?_
          refine m_y (v := .slice a2 n2 c2) 4 rfl (by kernel_rfl) rfl rfl (fun w' e' => y_move rfl) ?_
          refine m_k 1 [3, 5, 6, 7, 8, 9, 10, 11] rfl (by kernel_rfl) rfl rfl (fun w171 e172 => ?_)
          replace R170 := R170.trans (Ext0.any e172)
          replace B := B.ext0 e172
          clear e172
          refine k_call T8.fn_34 (c_l_toSheet (B.r 24 rfl) (B.r 25 rfl) (by omega) (by omega)) rfl ?_
          rintro _ w173 ⟨a174, c175, a176, c177, rfl, hN178⟩
          replace R170 := R170.trans (Ext0.any hN178.ext)
          replace B := B.new2 hN178
          clear hN178
          refine ⟨fun _ => R170, ?_⟩
          refine m_k 3 [5, 6, 7, 8, 9, 10, 11] rfl (by kernel_rfl) rfl rfl (fun w179 e180 => ?_)
          replace R170 := R170.trans (Ext0.any e180)
          replace B := B.ext0 e180
          clear e180
          refine k_call T8.fn_35 (c_l_toField (B.r 28 rfl) (B.r 29 rfl) (B.r 30 rfl) (by omega) (by omega) (by omega)) rfl ?_
          rintro _ w181 ⟨a182, c183, a184, c185, a186, c187, rfl, hN188⟩
          replace R170 := R170.trans (Ext0.any hN188.ext)
          replace B := B.new3 hN188
          clear hN188
          refine ⟨fun _ => R170, ?_⟩
          refine m_k 5 [6, 7, 8, 9, 10, 11] rfl (by kernel_rfl) rfl rfl (fun w189 e190 => ?_)
          replace R170 := R170.trans (Ext0.any e190)
          replace B := B.ext0 e190
          clear e190
          refine k_call T8.fn_52 (c_l_toProbeS (B.r 34 rfl) (by omega)) rfl ?_
          rintro _ w191 ⟨a192, c193, rfl, hN194⟩
          replace R170 := R170.trans (Ext0.any hN194.ext)
          replace B := B.new1 hN194
          clear hN194
          refine ⟨fun _ => R170, ?_⟩
          refine m_k 6 [7, 8, 9, 10, 11] rfl (by kernel_rfl) rfl rfl (fun w195 e196 => ?_)
          replace R170 := R170.trans (Ext0.any e196)
          replace B := B.ext0 e196
          clear e196
          refine k_call T8.fn_53 (c_i_ReadProbes ((B.o 4 rfl).rd) ((B.o 5 rfl).rd) ((B.o 1 rfl).rd) ((B.o 2 rfl).rd) ((B.o 3 rfl).rd) ((B.o 0 rfl).rd) (by omega) (by omega) (by omega) (by omega) (by omega)) rfl ?_
          rintro v199 w197 hx198
          obtain ⟨a200, c201, rfl, hN202⟩ := (hx198.resolve_right (fun hz => by rw [c60] at hz; cases hz.1)).2
          clear hx198
          replace R170 := R170.trans (Ext0.any hN202.ext)
          replace B := B.new1 hN202
          clear hN202
          refine ⟨fun _ => R170, ?_⟩
          refine m_y (v := .tuple #[.slice a200 n2 c201, .bool true]) 7 rfl (by kernel_rfl) rfl rfl (fun w' e' => y_move rfl) ?_
          refine m_y (v := .slice a200 n2 c201) 8 rfl (by kernel_rfl) rfl rfl (fun w' e' => y_extract rfl rfl) ?_
          refine m_y (v := .bool true) 9 rfl (by kernel_rfl) rfl rfl (fun w' e' => y_extract rfl rfl) ?_
          refine m_y (v := .slice a200 n2 c201) 10 rfl (by kernel_rfl) rfl rfl (fun w' e' => y_assign rfl) ?_
          refine m_y (v := .bool true) 11 rfl (by kernel_rfl) rfl rfl (fun w' e' => y_assign rfl) ?_
          refine m_done (by kernel_rfl) (fun w203 e204 => ?_)
          replace B := B.ext0 e204
          clear e204
          clear B0_169 R170
          refine W_seq ?_
          refine W_seq ?_
          refine W_region (by kernel_rfl) ?_
          refine s_y (v := .slice a200 n2 c201) rfl (y_move rfl) ?_
          refine s_y (v := .slice a62 n2 c63) rfl (y_move rfl) ?_
          refine s_k rfl (k_call T8.fn_54 (c_l_eqFloat32S ((B.o 0 rfl).rd) ((B.o 22 rfl).rd) (by omega)) rfl ?_)
          rintro _ w205 ⟨rfl, e206⟩
          replace B := B.ext0 e206
          clear e206
          refine s_y (v := .bool false) rfl (y_not rfl rfl) ?_
          refine s_y (v := .bool false) rfl (y_move rfl) ?_
          refine s_y (v := .bool true) rfl (y_move rfl) ?_
          refine s_y (v := .bool true) rfl (y_move rfl) ?_
          refine s_y (v := .bool false) rfl (y_bneq T8.bool_4 rfl rfl rfl) ?_
          refine s_y (v := .bool false) rfl (y_pick_f rfl rfl) ?_
          refine s_nil ?_
          refine W_if_f (by decide) rfl ?_
          refine W_skip ?_
          refine W_seq ?_
          refine W_region (by kernel_rfl) ?_
          refine s_y (v := .int .i64 1) rfl (y_assign rfl) ?_
          refine s_nil ?_
          refine W_seq ?_
          refine W_region (by kernel_rfl) ?_
          refine s_y (v := .slice a98 n2 c99) rfl (y_move rfl) ?_
          refine s_y (v := .int .i64 1) rfl (y_move rfl) ?_
          refine s_k rfl (k_call T8.fn_58 (c_l_heldFloat32S ((B.o 7 rfl).rd) (by omega) (by omega) (by omega)) rfl ?_)
          rintro _ w207 ⟨rfl, e208⟩
          replace B := B.ext0 e208
          clear e208
          refine s_y (v := .int .i64 (1 + ((n2 : Nat) : Int))) rfl (y_assign rfl) ?_
          refine s_nil ?_
          refine W_seq ?_
          refine W_seq ?_
          refine W_region (by kernel_rfl) ?_
          refine s_y (v := .int .i64 (1 + ((n2 : Nat) : Int))) rfl (y_move rfl) ?_
          refine s_y (v := .bool false) rfl (y_lss rfl rfl (decide_eq_false hk164)) ?_
          refine s_nil ?_
          refine W_if_f (by decide) rfl ?_
          refine W_skip ?_
          refine W_seq ?_
          refine W_seq ?_
          refine W_region (by kernel_rfl) ?_
          refine s_y (v := .int .i64 (1 + ((n2 : Nat) : Int))) rfl (y_move rfl) ?_
          refine s_y (v := .int .i64 (1 + ((n2 : Nat) : Int))) rfl (y_move rfl) ?_
          refine s_y (v := .bool false) rfl (y_neq rfl rfl (decide_eq_false (fun hq => hq rfl))) ?_
          refine s_nil ?_
          refine W_if_f (by decide) rfl ?_
          refine W_skip ?_
          refine W_seq ?_
          refine W_region (by kernel_rfl) ?_
          refine s_y (v := .bool true) rfl (y_assign rfl) ?_
          refine s_nil ?_
          refine W_ret ?_
          refine ret1 (v := .bool true) rfl rfl rfl ⟨_, rfl, ?_⟩
          exact ⟨rfl, B.ext⟩
        · obtain ⟨_, rfl, e209⟩ := hx58.resolve_left (fun hz => c60 hz.1)
          clear hx58
          replace R30 := R30.trans (Ext0.any e209)
          replace B := B.ext0 e209
          clear e209
          refine ⟨fun _ => R30, ?_⟩
          refine m_y (v := .tuple #[.slice none 0 0, .bool false]) 7 rfl (by kernel_rfl) rfl rfl (fun w' e' => y_move rfl) ?_
          refine m_y (v := .slice none 0 0) 8 rfl (by kernel_rfl) rfl rfl (fun w' e' => y_extract rfl rfl) ?_
          refine m_y (v := .bool false) 9 rfl (by kernel_rfl) rfl rfl (fun w' e' => y_extract rfl rfl) ?_
          refine m_y (v := .slice none 0 0) 10 rfl (by kernel_rfl) rfl rfl (fun w' e' => y_assign rfl) ?_
          refine m_y (v := .bool false) 11 rfl (by kernel_rfl) rfl rfl (fun w' e' => y_assign rfl) ?_
          refine m_done (by kernel_rfl) (fun w210 e211 => ?_)
          replace B := B.ext0 e211
          clear e211
          clear B0_29 R30
          refine W_seq ?_
          refine W_region (by kernel_rfl) ?_
          refine s_y (v := .agg #[.int .i64 wd0, .int .i64 hi0, .bool wr0, .slice asp0 nsp0 csp0, .slice als0 nls0 cls0]) rfl (y_loadn (b := b1) (o := 0) (vs := [.int .i64 wd0, .int .i64 hi0, .bool wr0, .slice asp0 nsp0 csp0, .slice als0 nls0 cls0]) T8.agg_45_5 rfl rfl ((B.b 7 rfl).cells (o := 0) rfl)) ?_
          refine s_k rfl (k_call T8.fn_34 (c_l_toSheet (B.r 8 rfl) (B.r 9 rfl) (by omega) (by omega)) rfl ?_)
          rintro _ w212 ⟨a213, c214, a215, c216, rfl, hN217⟩
          replace B := B.new2 hN217
          clear hN217
          refine s_k rfl (k_allocN (z := (.agg #[.int .i64 0, .int .i64 0, .bool false, .slice none 0 0, .slice none 0 0])) (cs := [.int .i64 0, .int .i64 0, .bool false, .slice none 0 0, .slice none 0 0]) T8.zero_26 rfl (fun b218 w219 hN220 => ?_))
          replace B := B.new1 hN220
          clear hN220
          refine s_k0 rfl (k_stB (v := .agg #[.int .i64 wd0, .int .i64 hi0, .bool wr0, .slice a213 nsp0 c214, .slice a215 nls0 c216]) (n := 5) (cs' := [.int .i64 wd0, .int .i64 hi0, .bool wr0, .slice a213 nsp0 c214, .slice a215 nls0 c216]) T8.sz_26_5 rfl rfl rfl (B.b 0 rfl) (by simp [Value.cells, Value.oneCell']) (Nat.le_of_ble_eq_true rfl) rfl (fun w221 hU222 => ?_))
          replace B : Bu w no w221 [.blk b218 [.int .i64 wd0, .int .i64 hi0, .bool wr0, .slice a213 nsp0 c214, .slice a215 nls0 c216] 26, .ow kF a213 nsp0 c214 35 Xsp0, .ow kF a215 nls0 c216 35 Xls0, .ow kP a52 n2 c53 109 X2, .ow kF a42 nfe1 c43 35 Xfe1, .ow kF a44 nfx1 c45 35 Xfx1, .ow kF a46 nfy1 c47 35 Xfy1, .ow kF a34 nsp0 c35 35 Xsp0, .ow kF a36 nls0 c37 35 Xls0, .blk b4 [.slice afe1 nfe1 cfe1, .slice afx1 nfx1 cfx1, .slice afy1 nfy1 cfy1] 46, .blk b1 [.int .i64 wd0, .int .i64 hi0, .bool wr0, .slice asp0 nsp0 csp0, .slice als0 nls0 cls0] 45, .rd kF asp0 nsp0 Xsp0, .rd kF als0 nls0 Xls0, .rd kF afe1 nfe1 Xfe1, .rd kF afx1 nfx1 Xfx1, .rd kF afy1 nfy1 Xfy1, .rd kP a2 n2 X2] := B.upd [0] rfl hU222
          clear hU222
          refine s_nil ?_
          refine W_seq ?_
          refine W_region (by kernel_rfl) ?_
          refine s_y (v := .agg #[.slice afe1 nfe1 cfe1, .slice afx1 nfx1 cfx1, .slice afy1 nfy1 cfy1]) rfl (y_loadn (b := b4) (o := 0) (vs := [.slice afe1 nfe1 cfe1, .slice afx1 nfx1 cfx1, .slice afy1 nfy1 cfy1]) T8.agg_46_3 rfl rfl ((B.b 9 rfl).cells (o := 0) rfl)) ?_
          refine s_k rfl (k_call T8.fn_35 (c_l_toField (B.r 13 rfl) (B.r 14 rfl) (B.r 15 rfl) (by omega) (by omega) (by omega)) rfl ?_)
          rintro _ w223 ⟨a224, c225, a226, c227, a228, c229, rfl, hN230⟩
          replace B := B.new3 hN230
          clear hN230
          refine s_k rfl (k_allocN (z := (.agg #[.slice none 0 0, .slice none 0 0, .slice none 0 0])) (cs := [.slice none 0 0, .slice none 0 0, .slice none 0 0]) T8.zero_29 rfl (fun b231 w232 hN233 => ?_))
          replace B := B.new1 hN233
          clear hN233
          refine s_k0 rfl (k_stB (v := .agg #[.slice a224 nfe1 c225, .slice a226 nfx1 c227, .slice a228 nfy1 c229]) (n := 3) (cs' := [.slice a224 nfe1 c225, .slice a226 nfx1 c227, .slice a228 nfy1 c229]) T8.sz_29_3 rfl rfl rfl (B.b 0 rfl) (by simp [Value.cells, Value.oneCell']) (Nat.le_of_ble_eq_true rfl) rfl (fun w234 hU235 => ?_))
          replace B : Bu w no w234 [.blk b231 [.slice a224 nfe1 c225, .slice a226 nfx1 c227, .slice a228 nfy1 c229] 29, .ow kF a224 nfe1 c225 35 Xfe1, .ow kF a226 nfx1 c227 35 Xfx1, .ow kF a228 nfy1 c229 35 Xfy1, .blk b218 [.int .i64 wd0, .int .i64 hi0, .bool wr0, .slice a213 nsp0 c214, .slice a215 nls0 c216] 26, .ow kF a213 nsp0 c214 35 Xsp0, .ow kF a215 nls0 c216 35 Xls0, .ow kP a52 n2 c53 109 X2, .ow kF a42 nfe1 c43 35 Xfe1, .ow kF a44 nfx1 c45 35 Xfx1, .ow kF a46 nfy1 c47 35 Xfy1, .ow kF a34 nsp0 c35 35 Xsp0, .ow kF a36 nls0 c37 35 Xls0, .blk b4 [.slice afe1 nfe1 cfe1, .slice afx1 nfx1 cfx1, .slice afy1 nfy1 cfy1] 46, .blk b1 [.int .i64 wd0, .int .i64 hi0, .bool wr0, .slice asp0 nsp0 csp0, .slice als0 nls0 cls0] 45, .rd kF asp0 nsp0 Xsp0, .rd kF als0 nls0 Xls0, .rd kF afe1 nfe1 Xfe1, .rd kF afx1 nfx1 Xfx1, .rd kF afy1 nfy1 Xfy1, .rd kP a2 n2 X2] := B.upd [0] rfl hU235
          clear hU235
          refine s_nil ?_
          refine W_seq ?_
          refine W_region (by kernel_rfl) ?_
          refine s_y (v := .slice a2 n2 c2) rfl (y_move rfl) ?_
          refine s_k rfl (k_call T8.fn_52 (c_l_toProbeS (B.r 20 rfl) (by omega)) rfl ?_)
          rintro _ w236 ⟨a237, c238, rfl, hN239⟩
          replace B := B.new1 hN239
          clear hN239
          refine s_y (v := .slice a237 n2 c238) rfl (y_assign rfl) ?_
          refine s_nil ?_
          refine W_seq ?_
          refine W_region (by kernel_rfl) ?_
          refine s_y (v := .agg #[.int .i64 wd0, .int .i64 hi0, .bool wr0, .slice a213 nsp0 c214, .slice a215 nls0 c216]) rfl (y_loadn (b := b218) (o := 0) (vs := [.int .i64 wd0, .int .i64 hi0, .bool wr0, .slice a213 nsp0 c214, .slice a215 nls0 c216]) T8.agg_26_5 rfl rfl ((B.b 5 rfl).cells (o := 0) rfl)) ?_
          refine s_y (v := .agg #[.slice a224 nfe1 c225, .slice a226 nfx1 c227, .slice a228 nfy1 c229]) rfl (y_loadn (b := b231) (o := 0) (vs := [.slice a224 nfe1 c225, .slice a226 nfx1 c227, .slice a228 nfy1 c229]) T8.agg_29_3 rfl rfl ((B.b 1 rfl).cells (o := 0) rfl)) ?_
          refine s_y (v := .slice a237 n2 c238) rfl (y_move rfl) ?_
          refine s_k rfl (k_call T8.fn_53 (c_i_ReadProbes ((B.o 6 rfl).rd) ((B.o 7 rfl).rd) ((B.o 2 rfl).rd) ((B.o 3 rfl).rd) ((B.o 4 rfl).rd) ((B.o 0 rfl).rd) (by omega) (by omega) (by omega) (by omega) (by omega)) rfl ?_)
          rintro v242 w240 hx241
          obtain ⟨_, rfl, e243⟩ := hx241.resolve_left (fun hz => c60 hz.1)
          clear hx241
          replace B := B.ext0 e243
          clear e243
          refine s_y (v := .tuple #[.slice none 0 0, .bool false]) rfl (y_move rfl) ?_
          refine s_y (v := .slice none 0 0) rfl (y_extract rfl rfl) ?_
          refine s_y (v := .bool false) rfl (y_extract rfl rfl) ?_
          refine s_y (v := .slice none 0 0) rfl (y_assign rfl) ?_
          refine s_y (v := .bool false) rfl (y_assign rfl) ?_
          refine s_nil ?_
          refine W_seq ?_
          refine W_seq ?_
          refine W_region (by kernel_rfl) ?_
          refine s_y (v := .slice none 0 0) rfl (y_move rfl) ?_
          refine s_y (v := .slice none 0 0) rfl (y_move rfl) ?_
          refine s_k rfl (k_call T8.fn_54 (c_l_eqFloat32S (Rd.nil _ kF none) (Rd.nil _ kF none) (by omega)) rfl ?_)
          rintro _ w244 ⟨rfl, e245⟩
          replace B := B.ext0 e245
          clear e245
          refine s_y (v := .bool false) rfl (y_not rfl rfl) ?_
          refine s_y (v := .bool false) rfl (y_move rfl) ?_
          refine s_y (v := .bool false) rfl (y_move rfl) ?_
          refine s_y (v := .bool false) rfl (y_move rfl) ?_
          refine s_y (v := .bool false) rfl (y_bneq T8.bool_4 rfl rfl rfl) ?_
          refine s_y (v := .bool false) rfl (y_pick_f rfl rfl) ?_
          refine s_nil ?_
          refine W_if_f (by decide) rfl ?_
          refine W_skip ?_
          refine W_seq ?_
          refine W_seq ?_
          have B0_250 := B
          refine W_draw (no) T8.mx (by kernel_rfl) (fun w248 e249 => ?_)
          have R251 := Ext.refl (no) w244
          replace R251 := R251.trans (Ext0.any e249)
          replace B := B.ext0 e249
          clear e249
          refine m_y (v := .agg #[.int .i64 wd0, .int .i64 hi0, .bool wr0, .slice a213 nsp0 c214, .slice a215 nls0 c216]) 0 rfl (by kernel_rfl) rfl rfl (fun w' e' => y_loadn (b := b218) (o := 0) (vs := [.int .i64 wd0, .int .i64 hi0, .bool wr0, .slice a213 nsp0 c214, .slice a215 nls0 c216]) T8.agg_26_5 rfl rfl (((B0_250.b 5 rfl).ext0 e').cells (o := 0) rfl)) ?_
          refine m_y (v := .agg #[.int .i64 wd0, .int .i64 hi0, .bool wr0, .slice asp0 nsp0 csp0, .slice als0 nls0 cls0]) 1 rfl (by kernel_rfl) rfl rfl (fun w' e' => y_loadn (b := b1) (o := 0) (vs := [.int .i64 wd0, .int .i64 hi0, .bool wr0, .slice asp0 nsp0 csp0, .slice als0 nls0 cls0]) T8.agg_45_5 rfl rfl (((B0_250.b 15 rfl).ext0 e').cells (o := 0) rfl)) ?_
          refine m_k 2 [3, 4] rfl (by kernel_rfl) rfl rfl (fun w252 e253 => ?_)
          replace R251 := R251.trans (Ext0.any e253)
          replace B := B.ext0 e253
          clear e253
          refine k_call T8.fn_34 (c_l_toSheet (B.r 16 rfl) (B.r 17 rfl) (by omega) (by omega)) rfl ?_
          rintro _ w254 ⟨a255, c256, a257, c258, rfl, hN259⟩
          replace R251 := R251.trans (Ext0.any hN259.ext)
          replace B := B.new2 hN259
          clear hN259
          refine ⟨fun _ => R251, ?_⟩
          refine m_k 3 [4] rfl (by kernel_rfl) rfl rfl (fun w260 e261 => ?_)
          replace R251 := R251.trans (Ext0.any e261)
          replace B := B.ext0 e261
          clear e261
          refine k_call T8.fn_38 (c_l_eqSheet ((B.o 8 rfl).rd) ((B.o 9 rfl).rd) ((B.o 0 rfl).rd) ((B.o 1 rfl).rd) (by omega) (by omega)) rfl ?_
          rintro _ w262 ⟨rfl, e263⟩
          replace R251 := R251.trans (Ext0.any e263)
          replace B := B.ext0 e263
          clear e263
          refine ⟨fun _ => R251, ?_⟩
          refine m_y (v := .bool false) 4 rfl (by kernel_rfl) rfl rfl (fun w' e' => y_not rfl rfl) ?_
          refine m_done (by kernel_rfl) (fun w264 e265 => ?_)
          replace B := B.ext0 e265
          clear e265
          clear B0_250 R251
          refine W_if_f (by decide) rfl ?_
          refine W_skip ?_
          refine W_seq ?_
          refine W_seq ?_
          have B0_270 := B
          refine W_draw (no) T8.mx (by kernel_rfl) (fun w268 e269 => ?_)
          have R271 := Ext.refl (no) w264
          replace R271 := R271.trans (Ext0.any e269)
          replace B := B.ext0 e269
          clear e269
          refine m_y (v := .agg #[.slice a224 nfe1 c225, .slice a226 nfx1 c227, .slice a228 nfy1 c229]) 0 rfl (by kernel_rfl) rfl rfl (fun w' e' => y_loadn (b := b231) (o := 0) (vs := [.slice a224 nfe1 c225, .slice a226 nfx1 c227, .slice a228 nfy1 c229]) T8.agg_29_3 rfl rfl (((B0_270.b 3 rfl).ext0 e').cells (o := 0) rfl)) ?_
          refine m_y (v := .agg #[.slice afe1 nfe1 cfe1, .slice afx1 nfx1 cfx1, .slice afy1 nfy1 cfy1]) 1 rfl (by kernel_rfl) rfl rfl (fun w' e' => y_loadn (b := b4) (o := 0) (vs := [.slice afe1 nfe1 cfe1, .slice afx1 nfx1 cfx1, .slice afy1 nfy1 cfy1]) T8.agg_46_3 rfl rfl (((B0_270.b 16 rfl).ext0 e').cells (o := 0) rfl)) ?_
          refine m_k 2 [3, 4] rfl (by kernel_rfl) rfl rfl (fun w272 e273 => ?_)
          replace R271 := R271.trans (Ext0.any e273)
          replace B := B.ext0 e273
          clear e273
          refine k_call T8.fn_35 (c_l_toField (B.r 20 rfl) (B.r 21 rfl) (B.r 22 rfl) (by omega) (by omega) (by omega)) rfl ?_
          rintro _ w274 ⟨a275, c276, a277, c278, a279, c280, rfl, hN281⟩
          replace R271 := R271.trans (Ext0.any hN281.ext)
          replace B := B.new3 hN281
          clear hN281
          refine ⟨fun _ => R271, ?_⟩
          refine m_k 3 [4] rfl (by kernel_rfl) rfl rfl (fun w282 e283 => ?_)
          replace R271 := R271.trans (Ext0.any e283)
          replace B := B.ext0 e283
          clear e283
          refine k_call T8.fn_39 (c_l_eqField ((B.o 7 rfl).rd) ((B.o 8 rfl).rd) ((B.o 9 rfl).rd) ((B.o 0 rfl).rd) ((B.o 1 rfl).rd) ((B.o 2 rfl).rd) (by omega) (by omega) (by omega)) rfl ?_
          rintro _ w284 ⟨rfl, e285⟩
          replace R271 := R271.trans (Ext0.any e285)
          replace B := B.ext0 e285
          clear e285
          refine ⟨fun _ => R271, ?_⟩
          refine m_y (v := .bool false) 4 rfl (by kernel_rfl) rfl rfl (fun w' e' => y_not rfl rfl) ?_
          refine m_done (by kernel_rfl) (fun w286 e287 => ?_)
          replace B := B.ext0 e287
          clear e287
          clear B0_270 R271
          refine W_if_f (by decide) rfl ?_
          refine W_skip ?_
          refine W_seq ?_
          refine W_seq ?_
          refine W_region (by kernel_rfl) ?_
          refine s_y (v := .slice a237 n2 c238) rfl (y_move rfl) ?_
          refine s_y (v := .slice a2 n2 c2) rfl (y_move rfl) ?_
          refine s_k rfl (k_call T8.fn_52 (c_l_toProbeS (B.r 26 rfl) (by omega)) rfl ?_)
          rintro _ w288 ⟨a289, c290, rfl, hN291⟩
          replace B := B.new1 hN291
          clear hN291
          refine s_k rfl (k_call T8.fn_55 (c_l_eqProbeS ((B.o 6 rfl).rd) ((B.o 0 rfl).rd) (by omega)) rfl ?_)
          rintro _ w292 ⟨rfl, e293⟩
          replace B := B.ext0 e293
          clear e293
          refine s_y (v := .bool false) rfl (y_not rfl rfl) ?_
          refine s_nil ?_
          refine W_if_f (by decide) rfl ?_
          refine W_skip ?_
          refine W_seq ?_
          refine W_region (by kernel_rfl) ?_
          refine s_y (v := .int .i64 1) rfl (y_assign rfl) ?_
          refine s_nil ?_
          refine W_seq ?_
          refine W_region (by kernel_rfl) ?_
          refine s_y (v := .agg #[.int .i64 wd0, .int .i64 hi0, .bool wr0, .slice a213 nsp0 c214, .slice a215 nls0 c216]) rfl (y_loadn (b := b218) (o := 0) (vs := [.int .i64 wd0, .int .i64 hi0, .bool wr0, .slice a213 nsp0 c214, .slice a215 nls0 c216]) T8.agg_26_5 rfl rfl ((B.b 11 rfl).cells (o := 0) rfl)) ?_
          refine s_y (v := .int .i64 1) rfl (y_move rfl) ?_
          refine s_k rfl (k_call T8.fn_40 (c_l_markSheet (by omega) (by omega) (by omega) (by omega) (B.all.pick [12, 13] rfl) (B.pw.pick [12, 13] rfl rfl)) rfl ?_)
          rintro _ w294 ⟨rfl, hU295⟩
          replace B : Bu w no w294 [.ow kF a213 nsp0 c214 35 (marks 1 nsp0), .ow kF a215 nls0 c216 35 (marks (1 + ((nsp0 : Nat) : Int)) nls0), .ow kP a289 n2 c290 109 X2, .ow kF a275 nfe1 c276 35 Xfe1, .ow kF a277 nfx1 c278 35 Xfx1, .ow kF a279 nfy1 c280 35 Xfy1, .ow kF a255 nsp0 c256 35 Xsp0, .ow kF a257 nls0 c258 35 Xls0, .ow kP a237 n2 c238 109 X2, .blk b231 [.slice a224 nfe1 c225, .slice a226 nfx1 c227, .slice a228 nfy1 c229] 29, .ow kF a224 nfe1 c225 35 Xfe1, .ow kF a226 nfx1 c227 35 Xfx1, .ow kF a228 nfy1 c229 35 Xfy1, .blk b218 [.int .i64 wd0, .int .i64 hi0, .bool wr0, .slice a213 nsp0 c214, .slice a215 nls0 c216] 26, .ow kP a52 n2 c53 109 X2, .ow kF a42 nfe1 c43 35 Xfe1, .ow kF a44 nfx1 c45 35 Xfx1, .ow kF a46 nfy1 c47 35 Xfy1, .ow kF a34 nsp0 c35 35 Xsp0, .ow kF a36 nls0 c37 35 Xls0, .blk b4 [.slice afe1 nfe1 cfe1, .slice afx1 nfx1 cfx1, .slice afy1 nfy1 cfy1] 46, .blk b1 [.int .i64 wd0, .int .i64 hi0, .bool wr0, .slice asp0 nsp0 csp0, .slice als0 nls0 cls0] 45, .rd kF asp0 nsp0 Xsp0, .rd kF als0 nls0 Xls0, .rd kF afe1 nfe1 Xfe1, .rd kF afx1 nfx1 Xfx1, .rd kF afy1 nfy1 Xfy1, .rd kP a2 n2 X2] := B.upd [12, 13] rfl hU295
          clear hU295
          refine s_y (v := .int .i64 (1 + ((nsp0 : Nat) : Int) + ((nls0 : Nat) : Int))) rfl (y_assign rfl) ?_
          refine s_nil ?_
          refine W_seq ?_
          refine W_region (by kernel_rfl) ?_
          refine s_y (v := .agg #[.slice a224 nfe1 c225, .slice a226 nfx1 c227, .slice a228 nfy1 c229]) rfl (y_loadn (b := b231) (o := 0) (vs := [.slice a224 nfe1 c225, .slice a226 nfx1 c227, .slice a228 nfy1 c229]) T8.agg_29_3 rfl rfl ((B.b 9 rfl).cells (o := 0) rfl)) ?_
          refine s_y (v := .int .i64 (1 + ((nsp0 : Nat) : Int) + ((nls0 : Nat) : Int))) rfl (y_move rfl) ?_
          refine s_k rfl (k_call T8.fn_41 (c_l_markField (by omega) (by omega) (by omega) (by omega) (by omega) (B.all.pick [10, 11, 12] rfl) (B.pw.pick [10, 11, 12] rfl rfl)) rfl ?_)
          rintro _ w296 ⟨rfl, hU297⟩
          replace B : Bu w no w296 [.ow kF a224 nfe1 c225 35 (marks (1 + ((nsp0 : Nat) : Int) + ((nls0 : Nat) : Int)) nfe1), .ow kF a226 nfx1 c227 35 (marks ((1 + ((nsp0 : Nat) : Int) + ((nls0 : Nat) : Int)) + ((nfe1 : Nat) : Int)) nfx1), .ow kF a228 nfy1 c229 35 (marks ((1 + ((nsp0 : Nat) : Int) + ((nls0 : Nat) : Int)) + ((nfe1 : Nat) : Int) + ((nfx1 : Nat) : Int)) nfy1), .ow kF a213 nsp0 c214 35 (marks 1 nsp0), .ow kF a215 nls0 c216 35 (marks (1 + ((nsp0 : Nat) : Int)) nls0), .ow kP a289 n2 c290 109 X2, .ow kF a275 nfe1 c276 35 Xfe1, .ow kF a277 nfx1 c278 35 Xfx1, .ow kF a279 nfy1 c280 35 Xfy1, .ow kF a255 nsp0 c256 35 Xsp0, .ow kF a257 nls0 c258 35 Xls0, .ow kP a237 n2 c238 109 X2, .blk b231 [.slice a224 nfe1 c225, .slice a226 nfx1 c227, .slice a228 nfy1 c229] 29, .blk b218 [.int .i64 wd0, .int .i64 hi0, .bool wr0, .slice a213 nsp0 c214, .slice a215 nls0 c216] 26, .ow kP a52 n2 c53 109 X2, .ow kF a42 nfe1 c43 35 Xfe1, .ow kF a44 nfx1 c45 35 Xfx1, .ow kF a46 nfy1 c47 35 Xfy1, .ow kF a34 nsp0 c35 35 Xsp0, .ow kF a36 nls0 c37 35 Xls0, .blk b4 [.slice afe1 nfe1 cfe1, .slice afx1 nfx1 cfx1, .slice afy1 nfy1 cfy1] 46, .blk b1 [.int .i64 wd0, .int .i64 hi0, .bool wr0, .slice asp0 nsp0 csp0, .slice als0 nls0 cls0] 45, .rd kF asp0 nsp0 Xsp0, .rd kF als0 nls0 Xls0, .rd kF afe1 nfe1 Xfe1, .rd kF afx1 nfx1 Xfx1, .rd kF afy1 nfy1 Xfy1, .rd kP a2 n2 X2] := B.upd [10, 11, 12] rfl hU297
          clear hU297
          refine s_y (v := .int .i64 ((1 + ((nsp0 : Nat) : Int) + ((nls0 : Nat) : Int)) + ((nfe1 : Nat) : Int) + ((nfx1 : Nat) : Int) + ((nfy1 : Nat) : Int))) rfl (y_assign rfl) ?_
          refine s_nil ?_
          refine W_seq ?_
          refine W_region (by kernel_rfl) ?_
          refine s_y (v := .slice a237 n2 c238) rfl (y_move rfl) ?_
          refine s_y (v := .int .i64 ((1 + ((nsp0 : Nat) : Int) + ((nls0 : Nat) : Int)) + ((nfe1 : Nat) : Int) + ((nfx1 : Nat) : Int) + ((nfy1 : Nat) : Int))) rfl (y_move rfl) ?_
          refine s_k rfl (k_call T8.fn_56 (c_l_markProbeS (by omega) (by omega) (by omega) (B.all.pick [11] rfl) (B.pw.pick [11] rfl rfl)) rfl ?_)
          rintro _ w298 ⟨rfl, hU299⟩
          replace B : Bu w no w298 [.ow kP a237 n2 c238 109 (pmarks ((1 + ((nsp0 : Nat) : Int) + ((nls0 : Nat) : Int)) + ((nfe1 : Nat) : Int) + ((nfx1 : Nat) : Int) + ((nfy1 : Nat) : Int)) n2), .ow kF a224 nfe1 c225 35 (marks (1 + ((nsp0 : Nat) : Int) + ((nls0 : Nat) : Int)) nfe1), .ow kF a226 nfx1 c227 35 (marks ((1 + ((nsp0 : Nat) : Int) + ((nls0 : Nat) : Int)) + ((nfe1 : Nat) : Int)) nfx1), .ow kF a228 nfy1 c229 35 (marks ((1 + ((nsp0 : Nat) : Int) + ((nls0 : Nat) : Int)) + ((nfe1 : Nat) : Int) + ((nfx1 : Nat) : Int)) nfy1), .ow kF a213 nsp0 c214 35 (marks 1 nsp0), .ow kF a215 nls0 c216 35 (marks (1 + ((nsp0 : Nat) : Int)) nls0), .ow kP a289 n2 c290 109 X2, .ow kF a275 nfe1 c276 35 Xfe1, .ow kF a277 nfx1 c278 35 Xfx1, .ow kF a279 nfy1 c280 35 Xfy1, .ow kF a255 nsp0 c256 35 Xsp0, .ow kF a257 nls0 c258 35 Xls0, .blk b231 [.slice a224 nfe1 c225, .slice a226 nfx1 c227, .slice a228 nfy1 c229] 29, .blk b218 [.int .i64 wd0, .int .i64 hi0, .bool wr0, .slice a213 nsp0 c214, .slice a215 nls0 c216] 26, .ow kP a52 n2 c53 109 X2, .ow kF a42 nfe1 c43 35 Xfe1, .ow kF a44 nfx1 c45 35 Xfx1, .ow kF a46 nfy1 c47 35 Xfy1, .ow kF a34 nsp0 c35 35 Xsp0, .ow kF a36 nls0 c37 35 Xls0, .blk b4 [.slice afe1 nfe1 cfe1, .slice afx1 nfx1 cfx1, .slice afy1 nfy1 cfy1] 46, .blk b1 [.int .i64 wd0, .int .i64 hi0, .bool wr0, .slice asp0 nsp0 csp0, .slice als0 nls0 cls0] 45, .rd kF asp0 nsp0 Xsp0, .rd kF als0 nls0 Xls0, .rd kF afe1 nfe1 Xfe1, .rd kF afx1 nfx1 Xfx1, .rd kF afy1 nfy1 Xfy1, .rd kP a2 n2 X2] := B.upd [11] rfl hU299
          clear hU299
          refine s_y (v := .int .i64 (((1 + ((nsp0 : Nat) : Int) + ((nls0 : Nat) : Int)) + ((nfe1 : Nat) : Int) + ((nfx1 : Nat) : Int) + ((nfy1 : Nat) : Int)) + 2 * ((n2 : Nat) : Int))) rfl (y_assign rfl) ?_
          refine s_nil ?_
          refine W_seq ?_
          refine W_seq ?_
          refine W_region (by kernel_rfl) ?_
          refine s_y (v := .int .i64 (((1 + ((nsp0 : Nat) : Int) + ((nls0 : Nat) : Int)) + ((nfe1 : Nat) : Int) + ((nfx1 : Nat) : Int) + ((nfy1 : Nat) : Int)) + 2 * ((n2 : Nat) : Int))) rfl (y_move rfl) ?_
          have hk300 : ¬ ((((1 + ((nsp0 : Nat) : Int) + ((nls0 : Nat) : Int)) + ((nfe1 : Nat) : Int) + ((nfx1 : Nat) : Int) + ((nfy1 : Nat) : Int)) + 2 * ((n2 : Nat) : Int)) < 0) := (by omega)
          refine s_y (v := .bool false) rfl (y_lss rfl rfl (decide_eq_false hk300)) ?_
          refine s_y (v := .bool false) rfl (y_move rfl) ?_
          refine s_y (v := .slice none 0 0) rfl (y_move rfl) ?_
          refine s_y (v := .slice none 0 0) rfl (y_move rfl) ?_
          refine s_k rfl (k_call T8.fn_54 (c_l_eqFloat32S (Rd.nil _ kF none) (Rd.nil _ kF none) (by omega)) rfl ?_)
          rintro _ w301 ⟨rfl, e302⟩
          replace B := B.ext0 e302
          clear e302
          refine s_y (v := .bool false) rfl (y_not rfl rfl) ?_
          refine s_y (v := .bool false) rfl (y_pick_f rfl rfl) ?_
          refine s_y (v := .bool false) rfl (y_move rfl) ?_
          refine s_y (v := .bool false) rfl (y_move rfl) ?_
          refine s_y (v := .bool false) rfl (y_move rfl) ?_
          refine s_y (v := .bool false) rfl (y_bneq T8.bool_4 rfl rfl rfl) ?_
          refine s_y (v := .bool false) rfl (y_pick_f rfl rfl) ?_
          refine s_nil ?_
          refine W_if_f (by decide) rfl ?_
          refine W_skip ?_
          refine W_seq ?_
          refine W_region (by kernel_rfl) ?_
          refine s_y (v := .int .i64 1) rfl (y_assign rfl) ?_
          refine s_nil ?_
          refine W_seq ?_
          refine W_region (by kernel_rfl) ?_
          refine s_y (v := .slice none 0 0) rfl (y_move rfl) ?_
          refine s_y (v := .int .i64 1) rfl (y_move rfl) ?_
          refine s_k rfl (k_call T8.fn_57 (c_l_markFloat32S (by decide) (by omega) (by omega) (All.cons (Ow.nil _ kF 35 : Fact.holds _ (.ow kF none 0 0 35 [])) <| All.nil) (Pw.nils (by intro f hf; simp only [List.mem_cons, List.not_mem_nil, or_false] at hf; rcases hf with rfl <;> exact no_none))) rfl ?_)
          rintro _ w303 ⟨rfl, hU304⟩
          replace hU304 := Upd.nils hU304 (by intro f hf; simp only [List.mem_cons, List.not_mem_nil, or_false] at hf; rcases hf with rfl <;> exact no_none)
          replace B := B.ext0 hU304
          clear hU304
          refine s_y (v := .int .i64 (1 + ((0 : Nat) : Int))) rfl (y_assign rfl) ?_
          refine s_nil ?_
          refine W_seq ?_
          refine W_region (by kernel_rfl) ?_
          refine s_y (v := .int .i64 1) rfl (y_assign rfl) ?_
          refine s_nil ?_
          refine W_seq ?_
          refine W_region (by kernel_rfl) ?_
          refine s_y (v := .slice none 0 0) rfl (y_move rfl) ?_
          refine s_y (v := .int .i64 1) rfl (y_move rfl) ?_
          refine s_k rfl (k_call T8.fn_58 (c_l_heldFloat32S (k := 1) (Rd.nil _ kF none : Rd _ kF none 0 (marks 1 0)) (by decide) (by omega) (by omega)) rfl ?_)
          rintro _ w305 ⟨rfl, e306⟩
          replace B := B.ext0 e306
          clear e306
          refine s_y (v := .int .i64 (1 + ((0 : Nat) : Int))) rfl (y_assign rfl) ?_
          refine s_nil ?_
          refine W_seq ?_
          refine W_seq ?_
          refine W_region (by kernel_rfl) ?_
          refine s_y (v := .int .i64 (1 + ((0 : Nat) : Int))) rfl (y_move rfl) ?_
          have hk307 : ¬ ((1 + ((0 : Nat) : Int)) < 0) := (by omega)
          refine s_y (v := .bool false) rfl (y_lss rfl rfl (decide_eq_false hk307)) ?_
          refine s_nil ?_
          refine W_if_f (by decide) rfl ?_
          refine W_skip ?_
          refine W_seq ?_
          refine W_seq ?_
          refine W_region (by kernel_rfl) ?_
          refine s_y (v := .int .i64 (1 + ((0 : Nat) : Int))) rfl (y_move rfl) ?_
          refine s_y (v := .int .i64 (1 + ((0 : Nat) : Int))) rfl (y_move rfl) ?_
          refine s_y (v := .bool false) rfl (y_neq rfl rfl (decide_eq_false (fun hq => hq rfl))) ?_
          refine s_nil ?_
          refine W_if_f (by decide) rfl ?_
          refine W_skip ?_
          refine W_seq ?_
          have B0_312 := B
          refine W_draw (no) T8.mx (by kernel_rfl) (fun w310 e311 => ?_)
          have R313 := Ext.refl (no) w305
          replace R313 := R313.trans (Ext0.any e311)
          replace B := B.ext0 e311
          clear e311
          refine m_y (v := .agg #[.int .i64 wd0, .int .i64 hi0, .bool wr0, .slice asp0 nsp0 csp0, .slice als0 nls0 cls0]) 0 rfl (by kernel_rfl) rfl rfl (fun w' e' => y_loadn (b := b1) (o := 0) (vs := [.int .i64 wd0, .int .i64 hi0, .bool wr0, .slice asp0 nsp0 csp0, .slice als0 nls0 cls0]) T8.agg_45_5 rfl rfl (((B0_312.b 21 rfl).ext0 e').cells (o := 0) rfl)) ?_
          refine m_y (v := .agg #[.slice afe1 nfe1 cfe1, .slice afx1 nfx1 cfx1, .slice afy1 nfy1 cfy1]) 2 rfl (by kernel_rfl) rfl rfl (fun w' e' => y_loadn (b := b4) (o := 0) (vs := [.slice afe1 nfe1 cfe1, .slice afx1 nfx1 cfx1, .slice afy1 nfy1 cfy1]) T8.agg_46_3 rfl rfl (((B0_312.b 20 rfl).ext0 e').cells (o := 0) rfl)) ?_
          refine m_y (v := .slice a2 n2 c2) 4 rfl (by kernel_rfl) rfl rfl (fun w' e' => y_move rfl) ?_
          refine m_k 1 [3, 5, 6, 7, 8, 9, 10, 11] rfl (by kernel_rfl) rfl rfl (fun w314 e315 => ?_)
          replace R313 := R313.trans (Ext0.any e315)
          replace B := B.ext0 e315
          clear e315
          refine k_call T8.fn_34 (c_l_toSheet (B.r 22 rfl) (B.r 23 rfl) (by omega) (by omega)) rfl ?_
          rintro _ w316 ⟨a317, c318, a319, c320, rfl, hN321⟩
          replace R313 := R313.trans (Ext0.any hN321.ext)
          replace B := B.new2 hN321
          clear hN321
          refine ⟨fun _ => R313, ?_⟩
          refine m_k 3 [5, 6, 7, 8, 9, 10, 11] rfl (by kernel_rfl) rfl rfl (fun w322 e323 => ?_)
          replace R313 := R313.trans (Ext0.any e323)
          replace B := B.ext0 e323
          clear e323
          refine k_call T8.fn_35 (c_l_toField (B.r 26 rfl) (B.r 27 rfl) (B.r 28 rfl) (by omega) (by omega) (by omega)) rfl ?_
          rintro _ w324 ⟨a325, c326, a327, c328, a329, c330, rfl, hN331⟩
          replace R313 := R313.trans (Ext0.any hN331.ext)
          replace B := B.new3 hN331
          clear hN331
          refine ⟨fun _ => R313, ?_⟩
          refine m_k 5 [6, 7, 8, 9, 10, 11] rfl (by kernel_rfl) rfl rfl (fun w332 e333 => ?_)
          replace R313 := R313.trans (Ext0.any e333)
          replace B := B.ext0 e333
          clear e333
          refine k_call T8.fn_52 (c_l_toProbeS (B.r 32 rfl) (by omega)) rfl ?_
          rintro _ w334 ⟨a335, c336, rfl, hN337⟩
          replace R313 := R313.trans (Ext0.any hN337.ext)
          replace B := B.new1 hN337
          clear hN337
          refine ⟨fun _ => R313, ?_⟩
          refine m_k 6 [7, 8, 9, 10, 11] rfl (by kernel_rfl) rfl rfl (fun w338 e339 => ?_)
          replace R313 := R313.trans (Ext0.any e339)
          replace B := B.ext0 e339
          clear e339
          refine k_call T8.fn_53 (c_i_ReadProbes ((B.o 4 rfl).rd) ((B.o 5 rfl).rd) ((B.o 1 rfl).rd) ((B.o 2 rfl).rd) ((B.o 3 rfl).rd) ((B.o 0 rfl).rd) (by omega) (by omega) (by omega) (by omega) (by omega)) rfl ?_
          rintro v342 w340 hx341
          obtain ⟨_, rfl, e343⟩ := hx341.resolve_left (fun hz => c60 hz.1)
          clear hx341
          replace R313 := R313.trans (Ext0.any e343)
          replace B := B.ext0 e343
          clear e343
          refine ⟨fun _ => R313, ?_⟩
          refine m_y (v := .tuple #[.slice none 0 0, .bool false]) 7 rfl (by kernel_rfl) rfl rfl (fun w' e' => y_move rfl) ?_
          refine m_y (v := .slice none 0 0) 8 rfl (by kernel_rfl) rfl rfl (fun w' e' => y_extract rfl rfl) ?_
          refine m_y (v := .bool false) 9 rfl (by kernel_rfl) rfl rfl (fun w' e' => y_extract rfl rfl) ?_
          refine m_y (v := .slice none 0 0) 10 rfl (by kernel_rfl) rfl rfl (fun w' e' => y_assign rfl) ?_
          refine m_y (v := .bool false) 11 rfl (by kernel_rfl) rfl rfl (fun w' e' => y_assign rfl) ?_
          refine m_done (by kernel_rfl) (fun w344 e345 => ?_)
          replace B := B.ext0 e345
          clear e345
          clear B0_312 R313
          refine W_seq ?_
          refine W_seq ?_
          refine W_region (by kernel_rfl) ?_
          refine s_y (v := .slice none 0 0) rfl (y_move rfl) ?_
          refine s_y (v := .slice none 0 0) rfl (y_move rfl) ?_
          refine s_k rfl (k_call T8.fn_54 (c_l_eqFloat32S (Rd.nil _ kF none) (Rd.nil _ kF none) (by omega)) rfl ?_)
          rintro _ w346 ⟨rfl, e347⟩
          replace B := B.ext0 e347
          clear e347
          refine s_y (v := .bool false) rfl (y_not rfl rfl) ?_
          refine s_y (v := .bool false) rfl (y_move rfl) ?_
          refine s_y (v := .bool false) rfl (y_move rfl) ?_
          refine s_y (v := .bool false) rfl (y_move rfl) ?_
          refine s_y (v := .bool false) rfl (y_bneq T8.bool_4 rfl rfl rfl) ?_
          refine s_y (v := .bool false) rfl (y_pick_f rfl rfl) ?_
          refine s_nil ?_
          refine W_if_f (by decide) rfl ?_
          refine W_skip ?_
          refine W_seq ?_
          refine W_region (by kernel_rfl) ?_
          refine s_y (v := .int .i64 1) rfl (y_assign rfl) ?_
          refine s_nil ?_
          refine W_seq ?_
          refine W_region (by kernel_rfl) ?_
          refine s_y (v := .slice none 0 0) rfl (y_move rfl) ?_
          refine s_y (v := .int .i64 1) rfl (y_move rfl) ?_
          refine s_k rfl (k_call T8.fn_58 (c_l_heldFloat32S (k := 1) (Rd.nil _ kF none : Rd _ kF none 0 (marks 1 0)) (by decide) (by omega) (by omega)) rfl ?_)
          rintro _ w348 ⟨rfl, e349⟩
          replace B := B.ext0 e349
          clear e349
          refine s_y (v := .int .i64 (1 + ((0 : Nat) : Int))) rfl (y_assign rfl) ?_
          refine s_nil ?_
          refine W_seq ?_
          refine W_seq ?_
          refine W_region (by kernel_rfl) ?_
          refine s_y (v := .int .i64 (1 + ((0 : Nat) : Int))) rfl (y_move rfl) ?_
          refine s_y (v := .bool false) rfl (y_lss rfl rfl (decide_eq_false hk307)) ?_
          refine s_nil ?_
          refine W_if_f (by decide) rfl ?_
          refine W_skip ?_
          refine W_seq ?_
          refine W_seq ?_
          refine W_region (by kernel_rfl) ?_
          refine s_y (v := .int .i64 (1 + ((0 : Nat) : Int))) rfl (y_move rfl) ?_
          refine s_y (v := .int .i64 (1 + ((0 : Nat) : Int))) rfl (y_move rfl) ?_
          refine s_y (v := .bool false) rfl (y_neq rfl rfl (decide_eq_false (fun hq => hq rfl))) ?_
          refine s_nil ?_
          refine W_if_f (by decide) rfl ?_
          refine W_skip ?_
          refine W_seq ?_
          refine W_region (by kernel_rfl) ?_
          refine s_y (v := .bool true) rfl (y_assign rfl) ?_
          refine s_nil ?_
          refine W_ret ?_
          refine ret1 (v := .bool true) rfl rfl rfl ⟨_, rfl, ?_⟩
          exact ⟨rfl, B.ext⟩
      · obtain rfl : v21 = .int .i64 (-1) := hv22.trans (congrArg _ (if_neg c23))
        refine s_y (v := .int .i64 (-1)) rfl (y_assign rfl) ?_
        refine s_nil ?_
        refine W_seq ?_
        refine W_seq ?_
        refine W_region (by kernel_rfl) ?_
        refine s_y (v := .int .i64 (-1)) rfl (y_move rfl) ?_
        have hk350 : (-1 : Int) < 0 := (by decide)
        refine s_y (v := .bool true) rfl (y_lss rfl rfl (decide_eq_true hk350)) ?_
        refine s_nil ?_
        refine W_if_t (by decide) rfl ?_
        refine W_seq ?_
        refine W_region (by kernel_rfl) ?_
        refine s_y (v := .bool true) rfl (y_assign rfl) ?_
        refine s_nil ?_
        refine W_ret ?_
        refine ret1 (v := .bool true) rfl rfl rfl ⟨_, rfl, ?_⟩
        exact ⟨rfl, B.ext⟩
    · obtain rfl : v15 = .int .i64 (-1) := hv16.trans (congrArg _ (if_neg c17))
      refine s_y (v := .int .i64 (-1)) rfl (y_assign rfl) ?_
      refine s_nil ?_
      refine W_seq ?_
      refine W_seq ?_
      refine W_region (by kernel_rfl) ?_
      refine s_y (v := .int .i64 (-1)) rfl (y_move rfl) ?_
      have hk351 : (-1 : Int) < 0 := (by decide)
      refine s_y (v := .bool true) rfl (y_lss rfl rfl (decide_eq_true hk351)) ?_
      refine s_nil ?_
      refine W_if_t (by decide) rfl ?_
      refine W_seq ?_
      refine W_region (by kernel_rfl) ?_
      refine s_y (v := .bool true) rfl (y_assign rfl) ?_
      refine s_nil ?_
      refine W_ret ?_
      refine ret1 (v := .bool true) rfl rfl rfl ⟨_, rfl, ?_⟩
      exact ⟨rfl, B.ext⟩
  · obtain rfl : v9 = .int .i64 (-1) := hv10.trans (congrArg _ (if_neg c11))
    refine s_y (v := .int .i64 (-1)) rfl (y_assign rfl) ?_
    refine s_nil ?_
    refine W_seq ?_
    refine W_seq ?_
    refine W_region (by kernel_rfl) ?_
    refine s_y (v := .int .i64 (-1)) rfl (y_move rfl) ?_
    have hk352 : (-1 : Int) < 0 := (by decide)
    refine s_y (v := .bool true) rfl (y_lss rfl rfl (decide_eq_true hk352)) ?_
    refine s_nil ?_
    refine W_if_t (by decide) rfl ?_
    refine W_seq ?_
    refine W_region (by kernel_rfl) ?_
    refine s_y (v := .bool true) rfl (y_assign rfl) ?_
    refine s_nil ?_
    refine W_ret ?_
    refine ret1 (v := .bool true) rfl rfl rfl ⟨_, rfl, ?_⟩
    exact ⟨rfl, B.ext⟩
end Go.Proofs.Ytmcldploldaceaa
