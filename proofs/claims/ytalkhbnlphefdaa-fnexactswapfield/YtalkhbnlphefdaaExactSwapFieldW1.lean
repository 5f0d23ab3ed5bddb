/- Walks: what the functions under FnExactSwapField do (part 2). Printed by a program of this claim's author. -/
import Derived.Test.YtalkhbnlphefdaaExactSwapFieldW0
set_option linter.unusedSimpArgs false
set_option linter.unusedVariables false
open Go.Wv
namespace Go.Proofs.Ytalkhbnlphefdaa
open Go.Proofs
namespace T59
theorem mx : Try.prog.follows .mixedOrders = true := by kernel_rfl
theorem agg_49_3 : aggB Try.prog 49 3 = true := by kernel_rfl
theorem fld_26_0_0 : fldB Try.prog 26 0 0 = true := by kernel_rfl
theorem fld_26_1_1 : fldB Try.prog 26 1 1 = true := by kernel_rfl
theorem fld_49_0_0 : fldB Try.prog 49 0 0 = true := by kernel_rfl
theorem fld_49_1_1 : fldB Try.prog 49 1 1 = true := by kernel_rfl
theorem fld_49_2_2 : fldB Try.prog 49 2 2 = true := by kernel_rfl
theorem fn_102 : fnB Try.prog 102 = true := by kernel_rfl
theorem fn_68 : fnB Try.prog 68 = true := by kernel_rfl
theorem fn_76 : fnB Try.prog 76 = true := by kernel_rfl
theorem fn_95 : fnB Try.prog 95 = true := by kernel_rfl
theorem one_2 : oneB Try.prog 2 = true := by kernel_rfl
theorem one_24 : oneB Try.prog 24 = true := by kernel_rfl
theorem sz_24_1 : szB Try.prog 24 1 = true := by kernel_rfl
theorem sz_49_3 : szB Try.prog 49 3 = true := by kernel_rfl
theorem zero_49 : zeroB Try.prog 49 (.agg #[.slice none 0 0, .slice none 0 0, .slice none 0 0]) := by unfold zeroB; kernel_rfl
end T59
set_option maxRecDepth 100000 in
set_option maxHeartbeats 4000000 in
theorem c_s_SwapField {wd : Int} {hi : Int} {wr : Bool} {asp : Option Addr} {nsp : Nat} {csp : Nat} {Xsp : List Nat} {als : Option Addr} {nls : Nat} {cls : Nat} {Xls : List Nat} {afe : Option Addr} {nfe : Nat} {cfe : Nat} {Xfe : List Nat} {afx : Option Addr} {nfx : Nat} {cfx : Nat} {Xfx : List Nat} {afy : Option Addr} {nfy : Nat} {cfy : Nat} {Xfy : List Nat} {w : World} (qsp : Rd w kF asp nsp Xsp) (qls : Rd w kF als nls Xls) (qfe : Rd w kF afe nfe Xfe) (qfx : Rd w kF afx nfx Xfx) (qfy : Rd w kF afy nfy Xfy) (hbsp : nsp ≤ 9223372036854775806) (hbls : nls ≤ 9223372036854775806) (hbfe : nfe ≤ 9223372036854775806) (hbfx : nfx ≤ 9223372036854775806) (hbfy : nfy ≤ 9223372036854775806) :
    Calls Try.prog 59 #[.agg #[.int .i64 wd, .int .i64 hi, .bool wr, .slice asp nsp csp, .slice als nls cls], .agg #[.slice afe nfe cfe, .slice afx nfx cfx, .slice afy nfy cfy]] w (Rt fun v w' => (fieldB wd hi wr Xsp Xls Xfe Xfx Xfy = true ∧ ∃ (a1 : Option Addr) (c1 : Nat) (a2 : Option Addr) (c2 : Nat) (a3 : Option Addr) (c3 : Nat), v = .tuple #[.agg #[.slice a1 ((wd * hi).toNat) c1, .slice a2 ((wd * hi).toNat) c2, .slice a3 ((wd * hi).toNat) c3], .bool true] ∧ New w w' [.ow kF a1 ((wd * hi).toNat) c1 56 (swpS wd hi Xfe), .ow kF a2 ((wd * hi).toNat) c2 56 (negL (wd * hi) (swpS wd hi Xfy)), .ow kF a3 ((wd * hi).toNat) c3 56 (negL (wd * hi) (swpS wd hi Xfx))]) ∨ (fieldB wd hi wr Xsp Xls Xfe Xfx Xfy = false ∧ v = .tuple #[.agg #[.slice none 0 0, .slice none 0 0, .slice none 0 0], .bool false] ∧ Ext0 w w')) := by
  have hlsp := qsp.len
  have hlls := qls.len
  have hlfe := qfe.len
  have hlfx := qfx.len
  have hlfy := qfy.len
  have B : Bu w no w [.rd kF asp nsp Xsp, .rd kF als nls Xls, .rd kF afe nfe Xfe, .rd kF afx nfx Xfx, .rd kF afy nfy Xfy] := Bu.ro (All.cons qsp (All.cons qls (All.cons qfe (All.cons qfx (All.cons qfy All.nil))))) rfl
  have hcm0 := Int.mul_comm hi wd
  refine calls_W (n := 41) Try.func59 rfl rfl (Nat.le_of_ble_eq_true rfl) ?_
  refine W_seq ?_
  refine W_region (by kernel_rfl) ?_
  refine s_k rfl (k_boxN (v := .agg #[.int .i64 wd, .int .i64 hi, .bool wr, .slice asp nsp csp, .slice als nls cls]) (cs := [.int .i64 wd, .int .i64 hi, .bool wr, .slice asp nsp csp, .slice als nls cls]) rfl rfl (fun b1 w2 hN3 => ?_))
  replace B := B.new1 hN3
  clear hN3
  refine s_k rfl (k_boxN (v := .agg #[.slice afe nfe cfe, .slice afx nfx cfx, .slice afy nfy cfy]) (cs := [.slice afe nfe cfe, .slice afx nfx cfx, .slice afy nfy cfy]) rfl rfl (fun b4 w5 hN6 => ?_))
  replace B := B.new1 hN6
  clear hN6
  refine s_k rfl (k_allocN (z := (.agg #[.slice none 0 0, .slice none 0 0, .slice none 0 0])) (cs := [.slice none 0 0, .slice none 0 0, .slice none 0 0]) T59.zero_49 rfl (fun b7 w8 hN9 => ?_))
  replace B := B.new1 hN9
  clear hN9
  refine s_y (v := .bool false) rfl (y_assign rfl) ?_
  refine s_nil ?_
  refine W_seq ?_
  refine W_seq ?_
  refine W_region (by kernel_rfl) ?_
  refine s_k rfl (k_call T59.fn_68 (c_s_l02Is (B.r 3 rfl) (B.r 4 rfl) ((B.b 2 rfl).sl) (by omega) (by omega)) rfl ?_)
  rintro v12 w10 ⟨hv13, e11⟩
  replace B := B.ext0 e11
  clear e11
  by_cases c14 : validS wd hi Xsp Xls = true
  · have hb15 := validS_b c14
    obtain rfl : v12 = .bool true := hv13.trans (congrArg Value.bool c14)
    refine s_y (v := .bool false) rfl (y_not rfl rfl) ?_
    refine s_y (v := .bool false) rfl (y_move rfl) ?_
    refine s_k rfl (k_call T59.fn_76 (c_s_l02Fits ((B.b 2 rfl).sl) (B.r 5 rfl) (B.r 6 rfl) (B.r 7 rfl) ((B.b 1 rfl).sl) (by omega) (by omega) (by omega) (by omega) (by omega) (by omega) (by omega)) rfl ?_)
    rintro v18 w16 ⟨hv19, e17⟩
    replace B := B.ext0 e17
    clear e17
    by_cases c20 : fitsB wd hi wr Xfe Xfx Xfy = true
    · have hb21 := fitsB_b c20
      obtain rfl : v18 = .bool true := hv19.trans (congrArg Value.bool c20)
      refine s_y (v := .bool false) rfl (y_not rfl rfl) ?_
      refine s_y (v := .bool false) rfl (y_pick_f rfl rfl) ?_
      refine s_nil ?_
      refine W_if_f (by decide) rfl ?_
      refine W_skip ?_
      refine W_seq ?_
      refine W_region (by kernel_rfl) ?_
      refine s_y (v := .pointer (some ⟨b4, 0, none⟩)) rfl (y_fld (o := 0) T59.fld_49_0_0 rfl) ?_
      refine s_y (v := .slice afe nfe cfe) rfl (y_load T59.one_24 rfl ((B.b 1 rfl).cell (j := 0) rfl)) ?_
      refine s_y (v := .pointer (some ⟨b1, 1, none⟩)) rfl (y_fld (o := 0) T59.fld_26_1_1 rfl) ?_
      refine s_y (v := .int .i64 hi) rfl (y_load T59.one_2 rfl ((B.b 2 rfl).cell (j := 1) rfl)) ?_
      refine s_y (v := .pointer (some ⟨b1, 0, none⟩)) rfl (y_fld (o := 0) T59.fld_26_0_0 rfl) ?_
      refine s_y (v := .int .i64 wd) rfl (y_load T59.one_2 rfl ((B.b 2 rfl).cell (j := 0) rfl)) ?_
      refine s_k rfl (k_call T59.fn_95 (c_s_l02Place (B.r 5 rfl) (by omega) (by omega) (by omega) (by omega) (by rw [Int.mul_comm]; omega) (by omega) (by omega) (by omega) (by omega)) rfl ?_)
      rintro _ w22 ⟨a23, c24, rfl, hN25⟩
      replace B := B.new1 hN25
      clear hN25
      refine s_y (v := .agg #[.slice a23 ((hi * wd).toNat) c24, .slice none 0 0, .slice none 0 0]) rfl (y_build (cells := #[.slice a23 ((hi * wd).toNat) c24, .slice none 0 0, .slice none 0 0]) (by kernel_rfl)) ?_
      refine s_k rfl (k_allocN (z := (.agg #[.slice none 0 0, .slice none 0 0, .slice none 0 0])) (cs := [.slice none 0 0, .slice none 0 0, .slice none 0 0]) T59.zero_49 rfl (fun b26 w27 hN28 => ?_))
      replace B := B.new1 hN28
      clear hN28
      refine s_k0 rfl (k_stB (v := .agg #[.slice a23 ((hi * wd).toNat) c24, .slice none 0 0, .slice none 0 0]) (n := 3) (cs' := [.slice a23 ((hi * wd).toNat) c24, .slice none 0 0, .slice none 0 0]) T59.sz_49_3 rfl rfl rfl (B.b 0 rfl) (by simp [Value.cells, Value.oneCell']) (Nat.le_of_ble_eq_true rfl) rfl (fun w29 hU30 => ?_))
      replace B : Bu w no w29 [.blk b26 [.slice a23 ((hi * wd).toNat) c24, .slice none 0 0, .slice none 0 0] 49, .ow kF a23 ((hi * wd).toNat) c24 56 (placeL Xfe hi wd 2 0 0), .blk b7 [.slice none 0 0, .slice none 0 0, .slice none 0 0] 49, .blk b4 [.slice afe nfe cfe, .slice afx nfx cfx, .slice afy nfy cfy] 49, .blk b1 [.int .i64 wd, .int .i64 hi, .bool wr, .slice asp nsp csp, .slice als nls cls] 26, .rd kF asp nsp Xsp, .rd kF als nls Xls, .rd kF afe nfe Xfe, .rd kF afx nfx Xfx, .rd kF afy nfy Xfy] := B.upd [0] rfl hU30
      clear hU30
      refine s_nil ?_
      refine W_seq ?_
      refine W_region (by kernel_rfl) ?_
      refine s_y (v := .pointer (some ⟨b4, 2, none⟩)) rfl (y_fld (o := 0) T59.fld_49_2_2 rfl) ?_
      refine s_y (v := .slice afy nfy cfy) rfl (y_load T59.one_24 rfl ((B.b 3 rfl).cell (j := 2) rfl)) ?_
      refine s_y (v := .pointer (some ⟨b1, 1, none⟩)) rfl (y_fld (o := 0) T59.fld_26_1_1 rfl) ?_
      refine s_y (v := .int .i64 hi) rfl (y_load T59.one_2 rfl ((B.b 4 rfl).cell (j := 1) rfl)) ?_
      refine s_y (v := .pointer (some ⟨b1, 0, none⟩)) rfl (y_fld (o := 0) T59.fld_26_0_0 rfl) ?_
      refine s_y (v := .int .i64 wd) rfl (y_load T59.one_2 rfl ((B.b 4 rfl).cell (j := 0) rfl)) ?_
      refine s_k rfl (k_call T59.fn_95 (c_s_l02Place (B.r 9 rfl) (by omega) (by omega) (by omega) (by omega) (by rw [Int.mul_comm]; omega) (by omega) (by omega) (by omega) (by omega)) rfl ?_)
      rintro _ w31 ⟨a32, c33, rfl, hN34⟩
      replace B := B.new1 hN34
      clear hN34
      refine s_k rfl (k_call T59.fn_102 (c_s_l02Turned ((B.o 0 rfl).rd) (by omega)) rfl ?_)
      rintro _ w35 ⟨a36, c37, rfl, hN38⟩
      replace B := B.new1 hN38
      clear hN38
      refine s_y (v := .pointer (some ⟨b26, 1, none⟩)) rfl (y_fld (o := 0) T59.fld_49_1_1 rfl) ?_
      refine s_k0 rfl (k_stB (v := .slice a36 ((hi * wd).toNat) c37) (n := 1) (cs' := [.slice a23 ((hi * wd).toNat) c24, .slice a36 ((hi * wd).toNat) c37, .slice none 0 0]) T59.sz_24_1 rfl rfl rfl (B.b 2 rfl) (by simp [Value.cells, Value.oneCell']) (Nat.le_of_ble_eq_true rfl) rfl (fun w39 hU40 => ?_))
      replace B : Bu w no w39 [.blk b26 [.slice a23 ((hi * wd).toNat) c24, .slice a36 ((hi * wd).toNat) c37, .slice none 0 0] 49, .ow kF a36 ((hi * wd).toNat) c37 56 (negL ((hi * wd).toNat) (placeL Xfy hi wd 2 0 0)), .ow kF a32 ((hi * wd).toNat) c33 56 (placeL Xfy hi wd 2 0 0), .ow kF a23 ((hi * wd).toNat) c24 56 (placeL Xfe hi wd 2 0 0), .blk b7 [.slice none 0 0, .slice none 0 0, .slice none 0 0] 49, .blk b4 [.slice afe nfe cfe, .slice afx nfx cfx, .slice afy nfy cfy] 49, .blk b1 [.int .i64 wd, .int .i64 hi, .bool wr, .slice asp nsp csp, .slice als nls cls] 26, .rd kF asp nsp Xsp, .rd kF als nls Xls, .rd kF afe nfe Xfe, .rd kF afx nfx Xfx, .rd kF afy nfy Xfy] := B.upd [2] rfl hU40
      clear hU40
      refine s_nil ?_
      refine W_seq ?_
      refine W_region (by kernel_rfl) ?_
      refine s_y (v := .pointer (some ⟨b4, 1, none⟩)) rfl (y_fld (o := 0) T59.fld_49_1_1 rfl) ?_
      refine s_y (v := .slice afx nfx cfx) rfl (y_load T59.one_24 rfl ((B.b 5 rfl).cell (j := 1) rfl)) ?_
      refine s_y (v := .pointer (some ⟨b1, 1, none⟩)) rfl (y_fld (o := 0) T59.fld_26_1_1 rfl) ?_
      refine s_y (v := .int .i64 hi) rfl (y_load T59.one_2 rfl ((B.b 6 rfl).cell (j := 1) rfl)) ?_
      refine s_y (v := .pointer (some ⟨b1, 0, none⟩)) rfl (y_fld (o := 0) T59.fld_26_0_0 rfl) ?_
      refine s_y (v := .int .i64 wd) rfl (y_load T59.one_2 rfl ((B.b 6 rfl).cell (j := 0) rfl)) ?_
      refine s_k rfl (k_call T59.fn_95 (c_s_l02Place (B.r 10 rfl) (by omega) (by omega) (by omega) (by omega) (by rw [Int.mul_comm]; omega) (by omega) (by omega) (by omega) (by omega)) rfl ?_)
      rintro _ w41 ⟨a42, c43, rfl, hN44⟩
      replace B := B.new1 hN44
      clear hN44
      refine s_k rfl (k_call T59.fn_102 (c_s_l02Turned ((B.o 0 rfl).rd) (by omega)) rfl ?_)
      rintro _ w45 ⟨a46, c47, rfl, hN48⟩
      replace B := B.new1 hN48
      clear hN48
      refine s_y (v := .pointer (some ⟨b26, 2, none⟩)) rfl (y_fld (o := 0) T59.fld_49_2_2 rfl) ?_
      refine s_k0 rfl (k_stB (v := .slice a46 ((hi * wd).toNat) c47) (n := 1) (cs' := [.slice a23 ((hi * wd).toNat) c24, .slice a36 ((hi * wd).toNat) c37, .slice a46 ((hi * wd).toNat) c47]) T59.sz_24_1 rfl rfl rfl (B.b 2 rfl) (by simp [Value.cells, Value.oneCell']) (Nat.le_of_ble_eq_true rfl) rfl (fun w49 hU50 => ?_))
      replace B : Bu w no w49 [.blk b26 [.slice a23 ((hi * wd).toNat) c24, .slice a36 ((hi * wd).toNat) c37, .slice a46 ((hi * wd).toNat) c47] 49, .ow kF a46 ((hi * wd).toNat) c47 56 (negL ((hi * wd).toNat) (placeL Xfx hi wd 2 0 0)), .ow kF a42 ((hi * wd).toNat) c43 56 (placeL Xfx hi wd 2 0 0), .ow kF a36 ((hi * wd).toNat) c37 56 (negL ((hi * wd).toNat) (placeL Xfy hi wd 2 0 0)), .ow kF a32 ((hi * wd).toNat) c33 56 (placeL Xfy hi wd 2 0 0), .ow kF a23 ((hi * wd).toNat) c24 56 (placeL Xfe hi wd 2 0 0), .blk b7 [.slice none 0 0, .slice none 0 0, .slice none 0 0] 49, .blk b4 [.slice afe nfe cfe, .slice afx nfx cfx, .slice afy nfy cfy] 49, .blk b1 [.int .i64 wd, .int .i64 hi, .bool wr, .slice asp nsp csp, .slice als nls cls] 26, .rd kF asp nsp Xsp, .rd kF als nls Xls, .rd kF afe nfe Xfe, .rd kF afx nfx Xfx, .rd kF afy nfy Xfy] := B.upd [2] rfl hU50
      clear hU50
      refine s_nil ?_
      refine W_seq ?_
      refine W_region (by kernel_rfl) ?_
      refine s_y (v := .agg #[.slice a23 ((hi * wd).toNat) c24, .slice a36 ((hi * wd).toNat) c37, .slice a46 ((hi * wd).toNat) c47]) rfl (y_loadn (b := b26) (o := 0) (vs := [.slice a23 ((hi * wd).toNat) c24, .slice a36 ((hi * wd).toNat) c37, .slice a46 ((hi * wd).toNat) c47]) T59.agg_49_3 rfl rfl ((B.b 0 rfl).cells (o := 0) rfl)) ?_
      refine s_k0 rfl (k_stB (v := .agg #[.slice a23 ((hi * wd).toNat) c24, .slice a36 ((hi * wd).toNat) c37, .slice a46 ((hi * wd).toNat) c47]) (n := 3) (cs' := [.slice a23 ((hi * wd).toNat) c24, .slice a36 ((hi * wd).toNat) c37, .slice a46 ((hi * wd).toNat) c47]) T59.sz_49_3 rfl rfl rfl (B.b 6 rfl) (by simp [Value.cells, Value.oneCell']) (Nat.le_of_ble_eq_true rfl) rfl (fun w51 hU52 => ?_))
      replace B : Bu w no w51 [.blk b7 [.slice a23 ((hi * wd).toNat) c24, .slice a36 ((hi * wd).toNat) c37, .slice a46 ((hi * wd).toNat) c47] 49, .blk b26 [.slice a23 ((hi * wd).toNat) c24, .slice a36 ((hi * wd).toNat) c37, .slice a46 ((hi * wd).toNat) c47] 49, .ow kF a46 ((hi * wd).toNat) c47 56 (negL ((hi * wd).toNat) (placeL Xfx hi wd 2 0 0)), .ow kF a42 ((hi * wd).toNat) c43 56 (placeL Xfx hi wd 2 0 0), .ow kF a36 ((hi * wd).toNat) c37 56 (negL ((hi * wd).toNat) (placeL Xfy hi wd 2 0 0)), .ow kF a32 ((hi * wd).toNat) c33 56 (placeL Xfy hi wd 2 0 0), .ow kF a23 ((hi * wd).toNat) c24 56 (placeL Xfe hi wd 2 0 0), .blk b4 [.slice afe nfe cfe, .slice afx nfx cfx, .slice afy nfy cfy] 49, .blk b1 [.int .i64 wd, .int .i64 hi, .bool wr, .slice asp nsp csp, .slice als nls cls] 26, .rd kF asp nsp Xsp, .rd kF als nls Xls, .rd kF afe nfe Xfe, .rd kF afx nfx Xfx, .rd kF afy nfy Xfy] := B.upd [6] rfl hU52
      clear hU52
      refine s_y (v := .bool true) rfl (y_assign rfl) ?_
      refine s_nil ?_
      refine W_ret ?_
      refine ret2 (v1 := .agg #[.slice a23 ((hi * wd).toNat) c24, .slice a36 ((hi * wd).toNat) c37, .slice a46 ((hi * wd).toNat) c47]) (v2 := .bool true) rfl rfl rfl ⟨_, [.slice a23 ((hi * wd).toNat) c24, .slice a36 ((hi * wd).toNat) c37, .slice a46 ((hi * wd).toNat) c47], _, rfl, (B.b 0 rfl), T59.agg_49_3, rfl⟩ rfl ⟨_, rfl, ?_⟩
      have hcond : fieldB wd hi wr Xsp Xls Xfe Xfx Xfy = true := by simp only [fieldB, c14, c20, Bool.and_true, Bool.true_and, Bool.and_false, Bool.false_and, Bool.not_true, Bool.not_false, Bool.or_true, Bool.true_or, Bool.or_false, Bool.false_or]
      replace B : Bu w no w51 [.blk b7 [.slice a23 ((hi * wd).toNat) c24, .slice a36 ((hi * wd).toNat) c37, .slice a46 ((hi * wd).toNat) c47] 49, .blk b26 [.slice a23 ((hi * wd).toNat) c24, .slice a36 ((hi * wd).toNat) c37, .slice a46 ((hi * wd).toNat) c47] 49, .ow kF a46 ((hi * wd).toNat) c47 56 (negL ((hi * wd).toNat) (placeL Xfx hi wd 2 0 0)), .ow kF a42 ((hi * wd).toNat) c43 56 (placeL Xfx hi wd 2 0 0), .ow kF a36 ((hi * wd).toNat) c37 56 (negL ((hi * wd).toNat) (placeL Xfy hi wd 2 0 0)), .ow kF a32 ((hi * wd).toNat) c33 56 (placeL Xfy hi wd 2 0 0), .ow kF a23 ((wd * hi).toNat) c24 56 (swpS wd hi Xfe), .blk b4 [.slice afe nfe cfe, .slice afx nfx cfx, .slice afy nfy cfy] 49, .blk b1 [.int .i64 wd, .int .i64 hi, .bool wr, .slice asp nsp csp, .slice als nls cls] 26, .rd kF asp nsp Xsp, .rd kF als nls Xls, .rd kF afe nfe Xfe, .rd kF afx nfx Xfx, .rd kF afy nfy Xfy] := B.castX 6 rfl (by rw [Int.mul_comm]) place_2
      replace B : Bu w no w51 [.blk b7 [.slice a23 ((hi * wd).toNat) c24, .slice a36 ((hi * wd).toNat) c37, .slice a46 ((hi * wd).toNat) c47] 49, .blk b26 [.slice a23 ((hi * wd).toNat) c24, .slice a36 ((hi * wd).toNat) c37, .slice a46 ((hi * wd).toNat) c47] 49, .ow kF a46 ((hi * wd).toNat) c47 56 (negL ((hi * wd).toNat) (placeL Xfx hi wd 2 0 0)), .ow kF a42 ((hi * wd).toNat) c43 56 (placeL Xfx hi wd 2 0 0), .ow kF a36 ((wd * hi).toNat) c37 56 (negL (wd * hi) (swpS wd hi Xfy)), .ow kF a32 ((hi * wd).toNat) c33 56 (placeL Xfy hi wd 2 0 0), .ow kF a23 ((wd * hi).toNat) c24 56 (swpS wd hi Xfe), .blk b4 [.slice afe nfe cfe, .slice afx nfx cfx, .slice afy nfy cfy] 49, .blk b1 [.int .i64 wd, .int .i64 hi, .bool wr, .slice asp nsp csp, .slice als nls cls] 26, .rd kF asp nsp Xsp, .rd kF als nls Xls, .rd kF afe nfe Xfe, .rd kF afx nfx Xfx, .rd kF afy nfy Xfy] := B.castX 4 rfl (by rw [Int.mul_comm]) (swpN_s (by omega))
      replace B : Bu w no w51 [.blk b7 [.slice a23 ((hi * wd).toNat) c24, .slice a36 ((hi * wd).toNat) c37, .slice a46 ((hi * wd).toNat) c47] 49, .blk b26 [.slice a23 ((hi * wd).toNat) c24, .slice a36 ((hi * wd).toNat) c37, .slice a46 ((hi * wd).toNat) c47] 49, .ow kF a46 ((wd * hi).toNat) c47 56 (negL (wd * hi) (swpS wd hi Xfx)), .ow kF a42 ((hi * wd).toNat) c43 56 (placeL Xfx hi wd 2 0 0), .ow kF a36 ((wd * hi).toNat) c37 56 (negL (wd * hi) (swpS wd hi Xfy)), .ow kF a32 ((hi * wd).toNat) c33 56 (placeL Xfy hi wd 2 0 0), .ow kF a23 ((wd * hi).toNat) c24 56 (swpS wd hi Xfe), .blk b4 [.slice afe nfe cfe, .slice afx nfx cfx, .slice afy nfy cfy] 49, .blk b1 [.int .i64 wd, .int .i64 hi, .bool wr, .slice asp nsp csp, .slice als nls cls] 26, .rd kF asp nsp Xsp, .rd kF als nls Xls, .rd kF afe nfe Xfe, .rd kF afx nfx Xfx, .rd kF afy nfy Xfy] := B.castX 2 rfl (by rw [Int.mul_comm]) (swpN_s (by omega))
      exact .inl ⟨hcond, ⟨_, _, _, _, _, _, (by rw [(show (hi * wd).toNat = (wd * hi).toNat from (by rw [Int.mul_comm]))]), B.give [6, 4, 2] rfl rfl rfl⟩⟩
    · obtain rfl : v18 = .bool false := hv19.trans (congrArg Value.bool (Bool.eq_false_iff.2 c20))
      refine s_y (v := .bool true) rfl (y_not rfl rfl) ?_
      refine s_y (v := .bool true) rfl (y_pick_f rfl rfl) ?_
      refine s_nil ?_
      refine W_if_t (by decide) rfl ?_
      refine W_seq ?_
      refine W_region (by kernel_rfl) ?_
      refine s_y (v := .agg #[.slice none 0 0, .slice none 0 0, .slice none 0 0]) rfl (y_build (cells := #[.slice none 0 0, .slice none 0 0, .slice none 0 0]) (by kernel_rfl)) ?_
      refine s_k0 rfl (k_stB (v := .agg #[.slice none 0 0, .slice none 0 0, .slice none 0 0]) (n := 3) (cs' := [.slice none 0 0, .slice none 0 0, .slice none 0 0]) T59.sz_49_3 rfl rfl rfl (B.b 0 rfl) (by simp [Value.cells, Value.oneCell']) (Nat.le_of_ble_eq_true rfl) rfl (fun w53 hU54 => ?_))
      replace B : Bu w no w53 [.blk b7 [.slice none 0 0, .slice none 0 0, .slice none 0 0] 49, .blk b4 [.slice afe nfe cfe, .slice afx nfx cfx, .slice afy nfy cfy] 49, .blk b1 [.int .i64 wd, .int .i64 hi, .bool wr, .slice asp nsp csp, .slice als nls cls] 26, .rd kF asp nsp Xsp, .rd kF als nls Xls, .rd kF afe nfe Xfe, .rd kF afx nfx Xfx, .rd kF afy nfy Xfy] := B.upd [0] rfl hU54
      clear hU54
      refine s_y (v := .bool false) rfl (y_assign rfl) ?_
      refine s_nil ?_
      refine W_ret ?_
      refine ret2 (v1 := .agg #[.slice none 0 0, .slice none 0 0, .slice none 0 0]) (v2 := .bool false) rfl rfl rfl ⟨_, [.slice none 0 0, .slice none 0 0, .slice none 0 0], _, rfl, (B.b 0 rfl), T59.agg_49_3, rfl⟩ rfl ⟨_, rfl, ?_⟩
      exact .inr ⟨by simp only [fieldB, c14, (Bool.eq_false_iff.2 c20), Bool.and_true, Bool.true_and, Bool.and_false, Bool.false_and, Bool.not_true, Bool.not_false, Bool.or_true, Bool.true_or, Bool.or_false, Bool.false_or], rfl, B.ext⟩
  · obtain rfl : v12 = .bool false := hv13.trans (congrArg Value.bool (Bool.eq_false_iff.2 c14))
    refine s_y (v := .bool true) rfl (y_not rfl rfl) ?_
    refine s_y (v := .bool true) rfl (y_move rfl) ?_
    refine s_skip rfl ?_
    refine s_skip rfl ?_
    refine s_y (v := .bool true) rfl (y_pick_t rfl rfl) ?_
    refine s_nil ?_
    refine W_if_t (by decide) rfl ?_
    refine W_seq ?_
    refine W_region (by kernel_rfl) ?_
    refine s_y (v := .agg #[.slice none 0 0, .slice none 0 0, .slice none 0 0]) rfl (y_build (cells := #[.slice none 0 0, .slice none 0 0, .slice none 0 0]) (by kernel_rfl)) ?_
    refine s_k0 rfl (k_stB (v := .agg #[.slice none 0 0, .slice none 0 0, .slice none 0 0]) (n := 3) (cs' := [.slice none 0 0, .slice none 0 0, .slice none 0 0]) T59.sz_49_3 rfl rfl rfl (B.b 0 rfl) (by simp [Value.cells, Value.oneCell']) (Nat.le_of_ble_eq_true rfl) rfl (fun w55 hU56 => ?_))
    replace B : Bu w no w55 [.blk b7 [.slice none 0 0, .slice none 0 0, .slice none 0 0] 49, .blk b4 [.slice afe nfe cfe, .slice afx nfx cfx, .slice afy nfy cfy] 49, .blk b1 [.int .i64 wd, .int .i64 hi, .bool wr, .slice asp nsp csp, .slice als nls cls] 26, .rd kF asp nsp Xsp, .rd kF als nls Xls, .rd kF afe nfe Xfe, .rd kF afx nfx Xfx, .rd kF afy nfy Xfy] := B.upd [0] rfl hU56
    clear hU56
    refine s_y (v := .bool false) rfl (y_assign rfl) ?_
    refine s_nil ?_
    refine W_ret ?_
    refine ret2 (v1 := .agg #[.slice none 0 0, .slice none 0 0, .slice none 0 0]) (v2 := .bool false) rfl rfl rfl ⟨_, [.slice none 0 0, .slice none 0 0, .slice none 0 0], _, rfl, (B.b 0 rfl), T59.agg_49_3, rfl⟩ rfl ⟨_, rfl, ?_⟩
    exact .inr ⟨by simp only [fieldB, (Bool.eq_false_iff.2 c14), Bool.and_true, Bool.true_and, Bool.and_false, Bool.false_and, Bool.not_true, Bool.not_false, Bool.or_true, Bool.true_or, Bool.or_false, Bool.false_or], rfl, B.ext⟩
namespace T64
theorem mx : Try.prog.follows .mixedOrders = true := by kernel_rfl
end T64
set_option maxRecDepth 100000 in
set_option maxHeartbeats 4000000 in
theorem c_i_within {n : Int} {lo : Int} {hi : Int} {w : World} :
    Calls Try.prog 64 #[.int .i64 n, .int .i64 lo, .int .i64 hi] w (Rt fun v w' => v = .bool (within n lo hi) ∧ Ext0 w w') := by
  have B : Bu w no w [] := Bu.ro All.nil rfl
  refine calls_W (n := 15) Try.func64 rfl rfl (Nat.le_of_ble_eq_true rfl) ?_
  refine W_seq ?_
  refine W_region (by kernel_rfl) ?_
  refine s_y (v := .bool false) rfl (y_assign rfl) ?_
  refine s_nil ?_
  refine W_seq ?_
  refine W_region (by kernel_rfl) ?_
  refine s_y (v := .int .i64 n) rfl (y_move rfl) ?_
  refine s_y (v := .int .i64 lo) rfl (y_move rfl) ?_
  by_cases c1 : lo ≤ n
  · refine s_y (v := .bool true) rfl (y_geq rfl rfl (decide_eq_true c1)) ?_
    refine s_y (v := .bool true) rfl (y_move rfl) ?_
    refine s_y (v := .int .i64 n) rfl (y_move rfl) ?_
    refine s_y (v := .int .i64 hi) rfl (y_move rfl) ?_
    by_cases c2 : n ≤ hi
    · refine s_y (v := .bool true) rfl (y_leq rfl rfl (decide_eq_true c2)) ?_
      refine s_y (v := .bool true) rfl (y_pick_t rfl rfl) ?_
      refine s_y (v := .bool true) rfl (y_assign rfl) ?_
      refine s_nil ?_
      refine W_ret ?_
      refine ret1 (v := .bool true) rfl rfl rfl ⟨_, rfl, ?_⟩
      exact ⟨congrArg Value.bool (by simp [within] <;> omega), B.ext⟩
    · refine s_y (v := .bool false) rfl (y_leq rfl rfl (decide_eq_false c2)) ?_
      refine s_y (v := .bool false) rfl (y_pick_t rfl rfl) ?_
      refine s_y (v := .bool false) rfl (y_assign rfl) ?_
      refine s_nil ?_
      refine W_ret ?_
      refine ret1 (v := .bool false) rfl rfl rfl ⟨_, rfl, ?_⟩
      exact ⟨congrArg Value.bool (by simp [within] <;> omega), B.ext⟩
  · refine s_y (v := .bool false) rfl (y_geq rfl rfl (decide_eq_false c1)) ?_
    refine s_y (v := .bool false) rfl (y_move rfl) ?_
    refine s_skip rfl ?_
    refine s_skip rfl ?_
    refine s_skip rfl ?_
    refine s_y (v := .bool false) rfl (y_pick_f rfl rfl) ?_
    refine s_y (v := .bool false) rfl (y_assign rfl) ?_
    refine s_nil ?_
    refine W_ret ?_
    refine ret1 (v := .bool false) rfl rfl rfl ⟨_, rfl, ?_⟩
    exact ⟨congrArg Value.bool (by simp [within] <;> omega), B.ext⟩
namespace T65
theorem mx : Try.prog.follows .mixedOrders = true := by kernel_rfl
theorem one_56 : oneB Try.prog 56 = true := by kernel_rfl
theorem sl_24_56_1 : slB Try.prog 24 56 1 = true := by kernel_rfl
end T65
set_option maxRecDepth 100000 in
set_option maxHeartbeats 4000000 in
theorem c_i_areBetween {a : Option Addr} {n : Nat} {c : Nat} {X : List Nat} {m : Nat} {M : Nat} {w : World} (q : Rd w kF a n X) (hm : can .f32 m = M) (hb : n ≤ 9223372036854775806) :
    Calls Try.prog 65 #[.slice a n c, .float .f32 m] w (Rt fun v w' => v = .bool (allI (n : Nat) (betw M X)) ∧ Ext0 w w') := by
  have hl := q.len
  have B : Bu w no w [.rd kF a n X] := Bu.ro (All.cons q All.nil) rfl
  refine calls_W (n := 22) Try.func65 rfl rfl (Nat.le_of_ble_eq_true rfl) ?_
  refine W_seq ?_
  refine W_region (by kernel_rfl) ?_
  refine s_y (v := .bool false) rfl (y_assign rfl) ?_
  refine s_nil ?_
  refine W_seq ?_
  refine W_seq ?_
  refine W_region (by kernel_rfl) ?_
  refine s_y (v := .slice a n c) rfl (y_move rfl) ?_
  refine s_y (v := .int .i64 ((n : Nat) : Int)) rfl (y_len T65.sl_24_56_1 rfl rfl) ?_
  refine s_y (v := .int .i64 0) rfl (y_move rfl) ?_
  refine s_nil ?_
  refine W_block ?_
  refine W_loop (fun ρ' w' => ∃ (ρ1 : Env) (k : Int), ρ' = updL ρ1 [(1, .float .f32 m), (7, .slice a n c), (8, .int .i64 ((n : Nat) : Int)), (9, .int .i64 k)] ∧ Bu w no w' [.rd kF a n X] ∧ (0 ≤ k) ∧ (k ≤ (n : Int)) ∧ (∀ i, 0 ≤ i → i < k → betw M X i = true)) (fun ρ' _ => ((n : Int) - iv (ρ' 9)).toNat) ?_ ?_
  · exact ⟨_, 0, Fits.eq ⟨rfl, rfl, rfl, rfl, trivial⟩, B, (Int.le_refl _), (by omega), (by intro i h0 h1; omega)⟩
  · clear B; rintro _ w1 ⟨ρ2, k, rfl, B, h0k, h1k, hq⟩
    refine W_seq ?_
    refine W_region (by kernel_rfl) ?_
    by_cases c3 : k < ((n : Nat) : Int)
    · refine s_y (v := .bool true) rfl (y_lss rfl rfl (decide_eq_true c3)) ?_
      refine s_nil ?_
      refine W_seq ?_
      refine W_if_t (by decide) rfl ?_
      refine W_skip ?_
      refine W_seq ?_
      refine W_block ?_
      refine W_seq ?_
      refine W_region (by kernel_rfl) ?_
      refine s_y (v := .pointer (some (sat a ((k).toNat * 1)))) rfl (y_idx T65.sl_24_56_1 rfl rfl ((B.r 0 rfl).addr (by omega)) (by omega) (by omega)) ?_
      obtain ⟨r5, hr6, hR4⟩ := Rd.atF (B.r 0 rfl) k (by omega) (by omega)
      refine s_y (v := .float .f32 r5) rfl (y_load T65.one_56 rfl (hR4.cell (i := 0) rfl)) ?_
      refine s_y (v := .float .f32 r5) rfl (y_assign rfl) ?_
      refine s_nil ?_
      refine W_seq ?_
      refine W_region (by kernel_rfl) ?_
      refine s_y (v := .float .f32 r5) rfl (y_move rfl) ?_
      by_cases c7 : fge .f32 (el X k) 0 = true
      · refine s_y (v := .bool true) rfl (y_fgeq rfl rfl (fgeC hr6 (show can .f32 0 = 0 by kernel_rfl) c7)) ?_
        refine s_y (v := .bool true) rfl (y_move rfl) ?_
        refine s_y (v := .float .f32 r5) rfl (y_move rfl) ?_
        refine s_y (v := .float .f32 m) rfl (y_move rfl) ?_
        by_cases c8 : fle .f32 (el X k) M = true
        · refine s_y (v := .bool true) rfl (y_fleq rfl rfl (fleC hr6 hm c8)) ?_
          refine s_y (v := .bool true) rfl (y_pick_t rfl rfl) ?_
          refine s_y (v := .bool false) rfl (y_not rfl rfl) ?_
          refine s_nil ?_
          refine W_if_f (by decide) rfl ?_
          refine W_skip ?_
          refine W_region (by kernel_rfl) ?_
          refine s_y (v := .int .i64 (k + 1)) rfl (y_add rfl rfl rfl (by omega)) ?_
          refine s_y (v := .int .i64 (k + 1)) rfl (y_move rfl) ?_
          refine s_nil ?_
          refine ⟨⟨_, k + 1, Fits.eq ⟨rfl, rfl, rfl, rfl, trivial⟩, B, (by omega), (by omega), (allI_more hq (betw_yes (by assumption) (by assumption)))⟩, ?_⟩
          show ((n : Int) - (k + 1)).toNat < ((n : Int) - k).toNat
          omega
        · refine s_y (v := .bool false) rfl (y_fleq rfl rfl (fleC hr6 hm (Bool.eq_false_iff.2 c8))) ?_
          refine s_y (v := .bool false) rfl (y_pick_t rfl rfl) ?_
          refine s_y (v := .bool true) rfl (y_not rfl rfl) ?_
          refine s_nil ?_
          refine W_if_t (by decide) rfl ?_
          refine W_seq ?_
          refine W_region (by kernel_rfl) ?_
          refine s_y (v := .bool false) rfl (y_assign rfl) ?_
          refine s_nil ?_
          refine W_ret ?_
          refine ret1 (v := .bool false) rfl rfl rfl ⟨_, rfl, ?_⟩
          exact ⟨congrArg Value.bool ((allI_false (by omega) (by omega) (by first | exact betw_no1 (by assumption) | exact betw_no2 (by assumption))).symm), B.ext⟩
      · refine s_y (v := .bool false) rfl (y_fgeq rfl rfl (fgeC hr6 (show can .f32 0 = 0 by kernel_rfl) (Bool.eq_false_iff.2 c7))) ?_
        refine s_y (v := .bool false) rfl (y_move rfl) ?_
        refine s_skip rfl ?_
        refine s_skip rfl ?_
        refine s_skip rfl ?_
        refine s_y (v := .bool false) rfl (y_pick_f rfl rfl) ?_
        refine s_y (v := .bool true) rfl (y_not rfl rfl) ?_
        refine s_nil ?_
        refine W_if_t (by decide) rfl ?_
        refine W_seq ?_
        refine W_region (by kernel_rfl) ?_
        refine s_y (v := .bool false) rfl (y_assign rfl) ?_
        refine s_nil ?_
        refine W_ret ?_
        refine ret1 (v := .bool false) rfl rfl rfl ⟨_, rfl, ?_⟩
        exact ⟨congrArg Value.bool ((allI_false (by omega) (by omega) (by first | exact betw_no1 (by assumption) | exact betw_no2 (by assumption))).symm), B.ext⟩
    · refine s_y (v := .bool false) rfl (y_lss rfl rfl (decide_eq_false c3)) ?_
      refine s_nil ?_
      refine W_seq ?_
      refine W_if_f (by decide) rfl ?_
      refine W_exit ?_
      refine W_seq ?_
      refine W_region (by kernel_rfl) ?_
      refine s_y (v := .bool true) rfl (y_assign rfl) ?_
      refine s_nil ?_
      refine W_ret ?_
      refine ret1 (v := .bool true) rfl rfl rfl ⟨_, rfl, ?_⟩
      exact ⟨congrArg Value.bool ((allI_true (fun i h0 h1 => hq i h0 (by omega))).symm), B.ext⟩
namespace T19
theorem mx : Try.prog.follows .mixedOrders = true := by kernel_rfl
theorem fld_26_0_0 : fldB Try.prog 26 0 0 = true := by kernel_rfl
theorem fld_26_1_1 : fldB Try.prog 26 1 1 = true := by kernel_rfl
theorem fld_26_3_3 : fldB Try.prog 26 3 3 = true := by kernel_rfl
theorem fld_26_4_4 : fldB Try.prog 26 4 4 = true := by kernel_rfl
theorem fn_64 : fnB Try.prog 64 = true := by kernel_rfl
theorem fn_65 : fnB Try.prog 65 = true := by kernel_rfl
theorem one_2 : oneB Try.prog 2 = true := by kernel_rfl
theorem one_24 : oneB Try.prog 24 = true := by kernel_rfl
theorem sl_24_56_1 : slB Try.prog 24 56 1 = true := by kernel_rfl
end T19
set_option maxRecDepth 100000 in
set_option maxHeartbeats 4000000 in
theorem c_i_ValidSheet {wd : Int} {hi : Int} {wr : Bool} {asp : Option Addr} {nsp : Nat} {csp : Nat} {Xsp : List Nat} {als : Option Addr} {nls : Nat} {cls : Nat} {Xls : List Nat} {w : World} (qsp : Rd w kF asp nsp Xsp) (qls : Rd w kF als nls Xls) (hbsp : nsp ≤ 9223372036854775806) (hbls : nls ≤ 9223372036854775806) :
    Calls Try.prog 19 #[.agg #[.int .i64 wd, .int .i64 hi, .bool wr, .slice asp nsp csp, .slice als nls cls]] w (Rt fun v w' => v = .bool (validS wd hi Xsp Xls) ∧ Ext0 w w') := by
  have hlsp := qsp.len
  have hlls := qls.len
  have B : Bu w no w [.rd kF asp nsp Xsp, .rd kF als nls Xls] := Bu.ro (All.cons qsp (All.cons qls All.nil)) rfl
  refine calls_W (n := 45) Try.func19 rfl rfl (Nat.le_of_ble_eq_true rfl) ?_
  refine W_seq ?_
  refine W_region (by kernel_rfl) ?_
  refine s_k rfl (k_boxN (v := .agg #[.int .i64 wd, .int .i64 hi, .bool wr, .slice asp nsp csp, .slice als nls cls]) (cs := [.int .i64 wd, .int .i64 hi, .bool wr, .slice asp nsp csp, .slice als nls cls]) rfl rfl (fun b1 w2 hN3 => ?_))
  replace B := B.new1 hN3
  clear hN3
  refine s_y (v := .bool false) rfl (y_assign rfl) ?_
  refine s_nil ?_
  refine W_seq ?_
  refine W_region (by kernel_rfl) ?_
  refine s_y (v := .pointer (some ⟨b1, 0, none⟩)) rfl (y_fld (o := 0) T19.fld_26_0_0 rfl) ?_
  refine s_y (v := .int .i64 wd) rfl (y_load T19.one_2 rfl ((B.b 0 rfl).cell (j := 0) rfl)) ?_
  refine s_y (v := .pointer (some ⟨b1, 1, none⟩)) rfl (y_fld (o := 0) T19.fld_26_1_1 rfl) ?_
  refine s_y (v := .int .i64 hi) rfl (y_load T19.one_2 rfl ((B.b 0 rfl).cell (j := 1) rfl)) ?_
  by_cases hr4 : -9223372036854775808 ≤ wd * hi ∧ wd * hi ≤ 9223372036854775807
  · refine s_y (v := .int .i64 (wd * hi)) rfl (y_mul rfl rfl rfl hr4) ?_
    refine s_y (v := .int .i64 (wd * hi)) rfl (y_assign rfl) ?_
    refine s_nil ?_
    refine W_seq ?_
    refine W_seq ?_
    refine W_region (by kernel_rfl) ?_
    refine s_y (v := .pointer (some ⟨b1, 0, none⟩)) rfl (y_fld (o := 0) T19.fld_26_0_0 rfl) ?_
    refine s_y (v := .int .i64 wd) rfl (y_load T19.one_2 rfl ((B.b 0 rfl).cell (j := 0) rfl)) ?_
    refine s_k rfl (k_call T19.fn_64 (c_i_within) rfl ?_)
    rintro v7 w5 ⟨hv8, e6⟩
    replace B := B.ext0 e6
    clear e6
    by_cases c9 : within wd 3 16 = true
    · have hb10 := within_b c9
      obtain rfl : v7 = .bool true := hv8.trans (congrArg Value.bool c9)
      refine s_y (v := .bool false) rfl (y_not rfl rfl) ?_
      refine s_y (v := .bool false) rfl (y_move rfl) ?_
      refine s_y (v := .pointer (some ⟨b1, 1, none⟩)) rfl (y_fld (o := 0) T19.fld_26_1_1 rfl) ?_
      refine s_y (v := .int .i64 hi) rfl (y_load T19.one_2 rfl ((B.b 0 rfl).cell (j := 1) rfl)) ?_
      refine s_k rfl (k_call T19.fn_64 (c_i_within) rfl ?_)
      rintro v13 w11 ⟨hv14, e12⟩
      replace B := B.ext0 e12
      clear e12
      by_cases c15 : within hi 3 16 = true
      · have hb16 := within_b c15
        obtain rfl : v13 = .bool true := hv14.trans (congrArg Value.bool c15)
        refine s_y (v := .bool false) rfl (y_not rfl rfl) ?_
        refine s_y (v := .bool false) rfl (y_pick_f rfl rfl) ?_
        refine s_y (v := .bool false) rfl (y_move rfl) ?_
        refine s_y (v := .int .i64 (wd * hi)) rfl (y_move rfl) ?_
        have hk17 : ¬ (256 < (wd * hi)) := (by have hz := mul16 (And.intro (within_b c9) (within_b c15)); omega)
        refine s_y (v := .bool false) rfl (y_gtr rfl rfl (decide_eq_false hk17)) ?_
        refine s_y (v := .bool false) rfl (y_pick_f rfl rfl) ?_
        refine s_nil ?_
        refine W_if_f (by decide) rfl ?_
        refine W_skip ?_
        refine W_seq ?_
        refine W_region (by kernel_rfl) ?_
        refine s_y (v := .pointer (some ⟨b1, 3, none⟩)) rfl (y_fld (o := 0) T19.fld_26_3_3 rfl) ?_
        refine s_y (v := .slice asp nsp csp) rfl (y_load T19.one_24 rfl ((B.b 0 rfl).cell (j := 3) rfl)) ?_
        refine s_y (v := .int .i64 ((nsp : Nat) : Int)) rfl (y_len T19.sl_24_56_1 rfl rfl) ?_
        refine s_y (v := .int .i64 (wd * hi)) rfl (y_move rfl) ?_
        by_cases c18 : ((nsp : Nat) : Int) = (wd * hi)
        · refine s_y (v := .bool true) rfl (y_eql rfl rfl (decide_eq_true c18)) ?_
          refine s_y (v := .bool true) rfl (y_move rfl) ?_
          refine s_y (v := .pointer (some ⟨b1, 4, none⟩)) rfl (y_fld (o := 0) T19.fld_26_4_4 rfl) ?_
          refine s_y (v := .slice als nls cls) rfl (y_load T19.one_24 rfl ((B.b 0 rfl).cell (j := 4) rfl)) ?_
          refine s_y (v := .int .i64 ((nls : Nat) : Int)) rfl (y_len T19.sl_24_56_1 rfl rfl) ?_
          refine s_y (v := .int .i64 (wd * hi)) rfl (y_move rfl) ?_
          by_cases c19 : ((nls : Nat) : Int) = (wd * hi)
          · refine s_y (v := .bool true) rfl (y_eql rfl rfl (decide_eq_true c19)) ?_
            refine s_y (v := .bool true) rfl (y_pick_t rfl rfl) ?_
            refine s_y (v := .bool true) rfl (y_move rfl) ?_
            refine s_y (v := .pointer (some ⟨b1, 3, none⟩)) rfl (y_fld (o := 0) T19.fld_26_3_3 rfl) ?_
            refine s_y (v := .slice asp nsp csp) rfl (y_load T19.one_24 rfl ((B.b 0 rfl).cell (j := 3) rfl)) ?_
            refine s_k rfl (k_call T19.fn_65 (c_i_areBetween (B.r 1 rfl) (show can .f32 1056964608 = 1056964608 by kernel_rfl) (by omega)) rfl ?_)
            rintro v22 w20 ⟨hv23, e21⟩
            replace B := B.ext0 e21
            clear e21
            by_cases c24 : allI (nsp : Nat) (betw 1056964608 Xsp) = true
            · obtain rfl : v22 = .bool true := hv23.trans (congrArg Value.bool c24)
              refine s_y (v := .bool true) rfl (y_pick_t rfl rfl) ?_
              refine s_y (v := .bool true) rfl (y_move rfl) ?_
              refine s_y (v := .pointer (some ⟨b1, 4, none⟩)) rfl (y_fld (o := 0) T19.fld_26_4_4 rfl) ?_
              refine s_y (v := .slice als nls cls) rfl (y_load T19.one_24 rfl ((B.b 0 rfl).cell (j := 4) rfl)) ?_
              refine s_k rfl (k_call T19.fn_65 (c_i_areBetween (B.r 2 rfl) (show can .f32 1065353216 = 1065353216 by kernel_rfl) (by omega)) rfl ?_)
              rintro v27 w25 ⟨hv28, e26⟩
              replace B := B.ext0 e26
              clear e26
              by_cases c29 : allI (nls : Nat) (betw 1065353216 Xls) = true
              · obtain rfl : v27 = .bool true := hv28.trans (congrArg Value.bool c29)
                refine s_y (v := .bool true) rfl (y_pick_t rfl rfl) ?_
                refine s_y (v := .bool true) rfl (y_assign rfl) ?_
                refine s_nil ?_
                refine W_ret ?_
                refine ret1 (v := .bool true) rfl rfl rfl ⟨_, rfl, ?_⟩
                exact ⟨congrArg Value.bool (by simp only [validS_eq hlsp hlls, c9, c15, (decide_eq_false hk17), (decide_eq_true c18), (decide_eq_true c19), c24, c29, Bool.and_true, Bool.true_and, Bool.and_false, Bool.false_and, Bool.not_true, Bool.not_false, Bool.or_true, Bool.true_or, Bool.or_false, Bool.false_or]), B.ext⟩
              · obtain rfl : v27 = .bool false := hv28.trans (congrArg Value.bool (Bool.eq_false_iff.2 c29))
                refine s_y (v := .bool false) rfl (y_pick_t rfl rfl) ?_
                refine s_y (v := .bool false) rfl (y_assign rfl) ?_
                refine s_nil ?_
                refine W_ret ?_
                refine ret1 (v := .bool false) rfl rfl rfl ⟨_, rfl, ?_⟩
                exact ⟨congrArg Value.bool (by simp only [validS_eq hlsp hlls, c9, c15, (decide_eq_false hk17), (decide_eq_true c18), (decide_eq_true c19), c24, (Bool.eq_false_iff.2 c29), Bool.and_true, Bool.true_and, Bool.and_false, Bool.false_and, Bool.not_true, Bool.not_false, Bool.or_true, Bool.true_or, Bool.or_false, Bool.false_or]), B.ext⟩
            · obtain rfl : v22 = .bool false := hv23.trans (congrArg Value.bool (Bool.eq_false_iff.2 c24))
              refine s_y (v := .bool false) rfl (y_pick_t rfl rfl) ?_
              refine s_y (v := .bool false) rfl (y_move rfl) ?_
              refine s_skip rfl ?_
              refine s_skip rfl ?_
              refine s_skip rfl ?_
              refine s_y (v := .bool false) rfl (y_pick_f rfl rfl) ?_
              refine s_y (v := .bool false) rfl (y_assign rfl) ?_
              refine s_nil ?_
              refine W_ret ?_
              refine ret1 (v := .bool false) rfl rfl rfl ⟨_, rfl, ?_⟩
              exact ⟨congrArg Value.bool (by simp only [validS_eq hlsp hlls, c9, c15, (decide_eq_false hk17), (decide_eq_true c18), (decide_eq_true c19), (Bool.eq_false_iff.2 c24), Bool.and_true, Bool.true_and, Bool.and_false, Bool.false_and, Bool.not_true, Bool.not_false, Bool.or_true, Bool.true_or, Bool.or_false, Bool.false_or]), B.ext⟩
          · refine s_y (v := .bool false) rfl (y_eql rfl rfl (decide_eq_false c19)) ?_
            refine s_y (v := .bool false) rfl (y_pick_t rfl rfl) ?_
            refine s_y (v := .bool false) rfl (y_move rfl) ?_
            refine s_skip rfl ?_
            refine s_skip rfl ?_
            refine s_skip rfl ?_
            refine s_y (v := .bool false) rfl (y_pick_f rfl rfl) ?_
            refine s_y (v := .bool false) rfl (y_move rfl) ?_
            refine s_skip rfl ?_
            refine s_skip rfl ?_
            refine s_skip rfl ?_
            refine s_y (v := .bool false) rfl (y_pick_f rfl rfl) ?_
            refine s_y (v := .bool false) rfl (y_assign rfl) ?_
            refine s_nil ?_
            refine W_ret ?_
            refine ret1 (v := .bool false) rfl rfl rfl ⟨_, rfl, ?_⟩
            exact ⟨congrArg Value.bool (by simp only [validS_eq hlsp hlls, c9, c15, (decide_eq_false hk17), (decide_eq_true c18), (decide_eq_false c19), Bool.and_true, Bool.true_and, Bool.and_false, Bool.false_and, Bool.not_true, Bool.not_false, Bool.or_true, Bool.true_or, Bool.or_false, Bool.false_or]), B.ext⟩
        · refine s_y (v := .bool false) rfl (y_eql rfl rfl (decide_eq_false c18)) ?_
          refine s_y (v := .bool false) rfl (y_move rfl) ?_
          refine s_skip rfl ?_
          refine s_skip rfl ?_
          refine s_skip rfl ?_
          refine s_skip rfl ?_
          refine s_skip rfl ?_
          refine s_y (v := .bool false) rfl (y_pick_f rfl rfl) ?_
          refine s_y (v := .bool false) rfl (y_move rfl) ?_
          refine s_skip rfl ?_
          refine s_skip rfl ?_
          refine s_skip rfl ?_
          refine s_y (v := .bool false) rfl (y_pick_f rfl rfl) ?_
          refine s_y (v := .bool false) rfl (y_move rfl) ?_
          refine s_skip rfl ?_
          refine s_skip rfl ?_
          refine s_skip rfl ?_
          refine s_y (v := .bool false) rfl (y_pick_f rfl rfl) ?_
          refine s_y (v := .bool false) rfl (y_assign rfl) ?_
          refine s_nil ?_
          refine W_ret ?_
          refine ret1 (v := .bool false) rfl rfl rfl ⟨_, rfl, ?_⟩
          exact ⟨congrArg Value.bool (by simp only [validS_eq hlsp hlls, c9, c15, (decide_eq_false hk17), (decide_eq_false c18), Bool.and_true, Bool.true_and, Bool.and_false, Bool.false_and, Bool.not_true, Bool.not_false, Bool.or_true, Bool.true_or, Bool.or_false, Bool.false_or]), B.ext⟩
      · obtain rfl : v13 = .bool false := hv14.trans (congrArg Value.bool (Bool.eq_false_iff.2 c15))
        refine s_y (v := .bool true) rfl (y_not rfl rfl) ?_
        refine s_y (v := .bool true) rfl (y_pick_f rfl rfl) ?_
        refine s_y (v := .bool true) rfl (y_move rfl) ?_
        refine s_skip rfl ?_
        refine s_skip rfl ?_
        refine s_y (v := .bool true) rfl (y_pick_t rfl rfl) ?_
        refine s_nil ?_
        refine W_if_t (by decide) rfl ?_
        refine W_seq ?_
        refine W_region (by kernel_rfl) ?_
        refine s_y (v := .bool false) rfl (y_assign rfl) ?_
        refine s_nil ?_
        refine W_ret ?_
        refine ret1 (v := .bool false) rfl rfl rfl ⟨_, rfl, ?_⟩
        exact ⟨congrArg Value.bool (by simp only [validS_eq hlsp hlls, c9, (Bool.eq_false_iff.2 c15), Bool.and_true, Bool.true_and, Bool.and_false, Bool.false_and, Bool.not_true, Bool.not_false, Bool.or_true, Bool.true_or, Bool.or_false, Bool.false_or]), B.ext⟩
    · obtain rfl : v7 = .bool false := hv8.trans (congrArg Value.bool (Bool.eq_false_iff.2 c9))
      refine s_y (v := .bool true) rfl (y_not rfl rfl) ?_
      refine s_y (v := .bool true) rfl (y_move rfl) ?_
      refine s_skip rfl ?_
      refine s_skip rfl ?_
      refine s_skip rfl ?_
      refine s_skip rfl ?_
      refine s_y (v := .bool true) rfl (y_pick_t rfl rfl) ?_
      refine s_y (v := .bool true) rfl (y_move rfl) ?_
      refine s_skip rfl ?_
      refine s_skip rfl ?_
      refine s_y (v := .bool true) rfl (y_pick_t rfl rfl) ?_
      refine s_nil ?_
      refine W_if_t (by decide) rfl ?_
      refine W_seq ?_
      refine W_region (by kernel_rfl) ?_
      refine s_y (v := .bool false) rfl (y_assign rfl) ?_
      refine s_nil ?_
      refine W_ret ?_
      refine ret1 (v := .bool false) rfl rfl rfl ⟨_, rfl, ?_⟩
      exact ⟨congrArg Value.bool (by simp only [validS_eq hlsp hlls, (Bool.eq_false_iff.2 c9), Bool.and_true, Bool.true_and, Bool.and_false, Bool.false_and, Bool.not_true, Bool.not_false, Bool.or_true, Bool.true_or, Bool.or_false, Bool.false_or]), B.ext⟩
  · have hw30 := wrap64_b (wd * hi)
    refine s_y (v := .int .i64 (IntKind.i64.wrap (wd * hi))) rfl (y_mulw rfl rfl) ?_
    refine s_y (v := .int .i64 (IntKind.i64.wrap (wd * hi))) rfl (y_assign rfl) ?_
    refine s_nil ?_
    refine W_seq ?_
    refine W_seq ?_
    refine W_region (by kernel_rfl) ?_
    refine s_y (v := .pointer (some ⟨b1, 0, none⟩)) rfl (y_fld (o := 0) T19.fld_26_0_0 rfl) ?_
    refine s_y (v := .int .i64 wd) rfl (y_load T19.one_2 rfl ((B.b 0 rfl).cell (j := 0) rfl)) ?_
    refine s_k rfl (k_call T19.fn_64 (c_i_within) rfl ?_)
    rintro v33 w31 ⟨hv34, e32⟩
    replace B := B.ext0 e32
    clear e32
    by_cases c35 : within wd 3 16 = true
    · have hb36 := within_b c35
      obtain rfl : v33 = .bool true := hv34.trans (congrArg Value.bool c35)
      refine s_y (v := .bool false) rfl (y_not rfl rfl) ?_
      refine s_y (v := .bool false) rfl (y_move rfl) ?_
      refine s_y (v := .pointer (some ⟨b1, 1, none⟩)) rfl (y_fld (o := 0) T19.fld_26_1_1 rfl) ?_
      refine s_y (v := .int .i64 hi) rfl (y_load T19.one_2 rfl ((B.b 0 rfl).cell (j := 1) rfl)) ?_
      refine s_k rfl (k_call T19.fn_64 (c_i_within) rfl ?_)
      rintro v39 w37 ⟨hv40, e38⟩
      replace B := B.ext0 e38
      clear e38
      have hk41 : ¬ (within hi 3 16 = true) := (fun hq => by have hz := mul16 (And.intro (within_b c35) (within_b hq)); omega)
      obtain rfl : v39 = .bool false := hv40.trans (congrArg Value.bool (Bool.eq_false_iff.2 hk41))
      refine s_y (v := .bool true) rfl (y_not rfl rfl) ?_
      refine s_y (v := .bool true) rfl (y_pick_f rfl rfl) ?_
      refine s_y (v := .bool true) rfl (y_move rfl) ?_
      refine s_skip rfl ?_
      refine s_skip rfl ?_
      refine s_y (v := .bool true) rfl (y_pick_t rfl rfl) ?_
      refine s_nil ?_
      refine W_if_t (by decide) rfl ?_
      refine W_seq ?_
      refine W_region (by kernel_rfl) ?_
      refine s_y (v := .bool false) rfl (y_assign rfl) ?_
      refine s_nil ?_
      refine W_ret ?_
      refine ret1 (v := .bool false) rfl rfl rfl ⟨_, rfl, ?_⟩
      exact ⟨congrArg Value.bool (by simp only [validS_eq hlsp hlls, c35, (Bool.eq_false_iff.2 hk41), Bool.and_true, Bool.true_and, Bool.and_false, Bool.false_and, Bool.not_true, Bool.not_false, Bool.or_true, Bool.true_or, Bool.or_false, Bool.false_or]), B.ext⟩
    · obtain rfl : v33 = .bool false := hv34.trans (congrArg Value.bool (Bool.eq_false_iff.2 c35))
      refine s_y (v := .bool true) rfl (y_not rfl rfl) ?_
      refine s_y (v := .bool true) rfl (y_move rfl) ?_
      refine s_skip rfl ?_
      refine s_skip rfl ?_
      refine s_skip rfl ?_
      refine s_skip rfl ?_
      refine s_y (v := .bool true) rfl (y_pick_t rfl rfl) ?_
      refine s_y (v := .bool true) rfl (y_move rfl) ?_
      refine s_skip rfl ?_
      refine s_skip rfl ?_
      refine s_y (v := .bool true) rfl (y_pick_t rfl rfl) ?_
      refine s_nil ?_
      refine W_if_t (by decide) rfl ?_
      refine W_seq ?_
      refine W_region (by kernel_rfl) ?_
      refine s_y (v := .bool false) rfl (y_assign rfl) ?_
      refine s_nil ?_
      refine W_ret ?_
      refine ret1 (v := .bool false) rfl rfl rfl ⟨_, rfl, ?_⟩
      exact ⟨congrArg Value.bool (by simp only [validS_eq hlsp hlls, (Bool.eq_false_iff.2 c35), Bool.and_true, Bool.true_and, Bool.and_false, Bool.false_and, Bool.not_true, Bool.not_false, Bool.or_true, Bool.true_or, Bool.or_false, Bool.false_or]), B.ext⟩
namespace T82
theorem mx : Try.prog.follows .mixedOrders = true := by kernel_rfl
theorem fld_26_0_0 : fldB Try.prog 26 0 0 = true := by kernel_rfl
theorem fld_26_1_1 : fldB Try.prog 26 1 1 = true := by kernel_rfl
theorem fld_26_2_2 : fldB Try.prog 26 2 2 = true := by kernel_rfl
theorem one_2 : oneB Try.prog 2 = true := by kernel_rfl
theorem one_4 : oneB Try.prog 4 = true := by kernel_rfl
end T82
set_option maxRecDepth 100000 in
set_option maxHeartbeats 4000000 in
theorem c_i_isBorder {wd : Int} {hi : Int} {wr : Bool} {asp : Option Addr} {nsp : Nat} {csp : Nat} {als : Option Addr} {nls : Nat} {cls : Nat} {x : Int} {y : Int} {w : World} (h1 : 3 ≤ wd) (h2 : wd ≤ 16) (h3 : 3 ≤ hi) (h4 : hi ≤ 16) :
    Calls Try.prog 82 #[.agg #[.int .i64 wd, .int .i64 hi, .bool wr, .slice asp nsp csp, .slice als nls cls], .int .i64 x, .int .i64 y] w (Rt fun v w' => v = .bool (bordB wd hi wr x y) ∧ Ext0 w w') := by
  have B : Bu w no w [] := Bu.ro All.nil rfl
  refine calls_W (n := 32) Try.func82 rfl rfl (Nat.le_of_ble_eq_true rfl) ?_
  refine W_seq ?_
  refine W_region (by kernel_rfl) ?_
  refine s_k rfl (k_boxN (v := .agg #[.int .i64 wd, .int .i64 hi, .bool wr, .slice asp nsp csp, .slice als nls cls]) (cs := [.int .i64 wd, .int .i64 hi, .bool wr, .slice asp nsp csp, .slice als nls cls]) rfl rfl (fun b1 w2 hN3 => ?_))
  replace B := B.new1 hN3
  clear hN3
  refine s_y (v := .bool false) rfl (y_assign rfl) ?_
  refine s_nil ?_
  refine W_seq ?_
  refine W_region (by kernel_rfl) ?_
  refine s_y (v := .pointer (some ⟨b1, 2, none⟩)) rfl (y_fld (o := 0) T82.fld_26_2_2 rfl) ?_
  refine s_y (v := .bool wr) rfl (y_load T82.one_4 rfl ((B.b 0 rfl).cell (j := 2) rfl)) ?_
  refine s_y (v := .bool (!wr)) rfl (y_not rfl rfl) ?_
  refine s_y (v := .bool (!wr)) rfl (y_move rfl) ?_
  cases wr
  · refine s_y (v := .int .i64 x) rfl (y_move rfl) ?_
    by_cases c4 : x = 0
    · refine s_y (v := .bool true) rfl (y_eql rfl rfl (decide_eq_true c4)) ?_
      refine s_y (v := .bool true) rfl (y_move rfl) ?_
      refine s_skip rfl ?_
      refine s_skip rfl ?_
      refine s_skip rfl ?_
      refine s_skip rfl ?_
      refine s_skip rfl ?_
      refine s_y (v := .bool true) rfl (y_pick_t rfl rfl) ?_
      refine s_y (v := .bool true) rfl (y_move rfl) ?_
      refine s_skip rfl ?_
      refine s_skip rfl ?_
      refine s_y (v := .bool true) rfl (y_pick_t rfl rfl) ?_
      refine s_y (v := .bool true) rfl (y_move rfl) ?_
      refine s_skip rfl ?_
      refine s_skip rfl ?_
      refine s_skip rfl ?_
      refine s_skip rfl ?_
      refine s_skip rfl ?_
      refine s_y (v := .bool true) rfl (y_pick_t rfl rfl) ?_
      refine s_y (v := .bool true) rfl (y_pick_t rfl rfl) ?_
      refine s_y (v := .bool true) rfl (y_assign rfl) ?_
      refine s_nil ?_
      refine W_ret ?_
      refine ret1 (v := .bool true) rfl rfl rfl ⟨_, rfl, ?_⟩
      exact ⟨congrArg Value.bool (by simp only [bordB, (decide_eq_true c4), Bool.and_true, Bool.true_and, Bool.and_false, Bool.false_and, Bool.not_true, Bool.not_false, Bool.or_true, Bool.true_or, Bool.or_false, Bool.false_or]), B.ext⟩
    · refine s_y (v := .bool false) rfl (y_eql rfl rfl (decide_eq_false c4)) ?_
      refine s_y (v := .bool false) rfl (y_move rfl) ?_
      refine s_y (v := .int .i64 x) rfl (y_move rfl) ?_
      refine s_y (v := .pointer (some ⟨b1, 0, none⟩)) rfl (y_fld (o := 0) T82.fld_26_0_0 rfl) ?_
      refine s_y (v := .int .i64 wd) rfl (y_load T82.one_2 rfl ((B.b 0 rfl).cell (j := 0) rfl)) ?_
      refine s_y (v := .int .i64 (wd - 1)) rfl (y_sub rfl rfl rfl (by omega)) ?_
      by_cases c5 : x = (wd - 1)
      · refine s_y (v := .bool true) rfl (y_eql rfl rfl (decide_eq_true c5)) ?_
        refine s_y (v := .bool true) rfl (y_pick_f rfl rfl) ?_
        refine s_y (v := .bool true) rfl (y_move rfl) ?_
        refine s_skip rfl ?_
        refine s_skip rfl ?_
        refine s_y (v := .bool true) rfl (y_pick_t rfl rfl) ?_
        refine s_y (v := .bool true) rfl (y_move rfl) ?_
        refine s_skip rfl ?_
        refine s_skip rfl ?_
        refine s_skip rfl ?_
        refine s_skip rfl ?_
        refine s_skip rfl ?_
        refine s_y (v := .bool true) rfl (y_pick_t rfl rfl) ?_
        refine s_y (v := .bool true) rfl (y_pick_t rfl rfl) ?_
        refine s_y (v := .bool true) rfl (y_assign rfl) ?_
        refine s_nil ?_
        refine W_ret ?_
        refine ret1 (v := .bool true) rfl rfl rfl ⟨_, rfl, ?_⟩
        exact ⟨congrArg Value.bool (by simp only [bordB, (decide_eq_false c4), (decide_eq_true c5), Bool.and_true, Bool.true_and, Bool.and_false, Bool.false_and, Bool.not_true, Bool.not_false, Bool.or_true, Bool.true_or, Bool.or_false, Bool.false_or]), B.ext⟩
      · refine s_y (v := .bool false) rfl (y_eql rfl rfl (decide_eq_false c5)) ?_
        refine s_y (v := .bool false) rfl (y_pick_f rfl rfl) ?_
        refine s_y (v := .bool false) rfl (y_move rfl) ?_
        refine s_y (v := .int .i64 y) rfl (y_move rfl) ?_
        by_cases c6 : y = 0
        · refine s_y (v := .bool true) rfl (y_eql rfl rfl (decide_eq_true c6)) ?_
          refine s_y (v := .bool true) rfl (y_pick_f rfl rfl) ?_
          refine s_y (v := .bool true) rfl (y_move rfl) ?_
          refine s_skip rfl ?_
          refine s_skip rfl ?_
          refine s_skip rfl ?_
          refine s_skip rfl ?_
          refine s_skip rfl ?_
          refine s_y (v := .bool true) rfl (y_pick_t rfl rfl) ?_
          refine s_y (v := .bool true) rfl (y_pick_t rfl rfl) ?_
          refine s_y (v := .bool true) rfl (y_assign rfl) ?_
          refine s_nil ?_
          refine W_ret ?_
          refine ret1 (v := .bool true) rfl rfl rfl ⟨_, rfl, ?_⟩
          exact ⟨congrArg Value.bool (by simp only [bordB, (decide_eq_false c4), (decide_eq_false c5), (decide_eq_true c6), Bool.and_true, Bool.true_and, Bool.and_false, Bool.false_and, Bool.not_true, Bool.not_false, Bool.or_true, Bool.true_or, Bool.or_false, Bool.false_or]), B.ext⟩
        · refine s_y (v := .bool false) rfl (y_eql rfl rfl (decide_eq_false c6)) ?_
          refine s_y (v := .bool false) rfl (y_pick_f rfl rfl) ?_
          refine s_y (v := .bool false) rfl (y_move rfl) ?_
          refine s_y (v := .int .i64 y) rfl (y_move rfl) ?_
          refine s_y (v := .pointer (some ⟨b1, 1, none⟩)) rfl (y_fld (o := 0) T82.fld_26_1_1 rfl) ?_
          refine s_y (v := .int .i64 hi) rfl (y_load T82.one_2 rfl ((B.b 0 rfl).cell (j := 1) rfl)) ?_
          refine s_y (v := .int .i64 (hi - 1)) rfl (y_sub rfl rfl rfl (by omega)) ?_
          by_cases c7 : y = (hi - 1)
          · refine s_y (v := .bool true) rfl (y_eql rfl rfl (decide_eq_true c7)) ?_
            refine s_y (v := .bool true) rfl (y_pick_f rfl rfl) ?_
            refine s_y (v := .bool true) rfl (y_pick_t rfl rfl) ?_
            refine s_y (v := .bool true) rfl (y_assign rfl) ?_
            refine s_nil ?_
            refine W_ret ?_
            refine ret1 (v := .bool true) rfl rfl rfl ⟨_, rfl, ?_⟩
            exact ⟨congrArg Value.bool (by simp only [bordB, (decide_eq_false c4), (decide_eq_false c5), (decide_eq_false c6), (decide_eq_true c7), Bool.and_true, Bool.true_and, Bool.and_false, Bool.false_and, Bool.not_true, Bool.not_false, Bool.or_true, Bool.true_or, Bool.or_false, Bool.false_or]), B.ext⟩
          · refine s_y (v := .bool false) rfl (y_eql rfl rfl (decide_eq_false c7)) ?_
            refine s_y (v := .bool false) rfl (y_pick_f rfl rfl) ?_
            refine s_y (v := .bool false) rfl (y_pick_t rfl rfl) ?_
            refine s_y (v := .bool false) rfl (y_assign rfl) ?_
            refine s_nil ?_
            refine W_ret ?_
            refine ret1 (v := .bool false) rfl rfl rfl ⟨_, rfl, ?_⟩
            exact ⟨congrArg Value.bool (by simp only [bordB, (decide_eq_false c4), (decide_eq_false c5), (decide_eq_false c6), (decide_eq_false c7), Bool.and_true, Bool.true_and, Bool.and_false, Bool.false_and, Bool.not_true, Bool.not_false, Bool.or_true, Bool.true_or, Bool.or_false, Bool.false_or]), B.ext⟩
  · refine s_skip rfl ?_
    refine s_skip rfl ?_
    refine s_skip rfl ?_
    refine s_skip rfl ?_
    refine s_skip rfl ?_
    refine s_skip rfl ?_
    refine s_skip rfl ?_
    refine s_skip rfl ?_
    refine s_skip rfl ?_
    refine s_skip rfl ?_
    refine s_skip rfl ?_
    refine s_skip rfl ?_
    refine s_skip rfl ?_
    refine s_skip rfl ?_
    refine s_skip rfl ?_
    refine s_skip rfl ?_
    refine s_skip rfl ?_
    refine s_skip rfl ?_
    refine s_skip rfl ?_
    refine s_skip rfl ?_
    refine s_y (v := .bool false) rfl (y_pick_f rfl rfl) ?_
    refine s_y (v := .bool false) rfl (y_assign rfl) ?_
    refine s_nil ?_
    refine W_ret ?_
    refine ret1 (v := .bool false) rfl rfl rfl ⟨_, rfl, ?_⟩
    exact ⟨congrArg Value.bool (by simp only [bordB, Bool.and_true, Bool.true_and, Bool.and_false, Bool.false_and, Bool.not_true, Bool.not_false, Bool.or_true, Bool.true_or, Bool.or_false, Bool.false_or]), B.ext⟩
namespace T74
theorem mx : Try.prog.follows .mixedOrders = true := by kernel_rfl
theorem agg_26_5 : aggB Try.prog 26 5 = true := by kernel_rfl
theorem fld_26_0_0 : fldB Try.prog 26 0 0 = true := by kernel_rfl
theorem fld_26_1_1 : fldB Try.prog 26 1 1 = true := by kernel_rfl
theorem fld_26_2_2 : fldB Try.prog 26 2 2 = true := by kernel_rfl
theorem fld_49_0_0 : fldB Try.prog 49 0 0 = true := by kernel_rfl
theorem fld_49_1_1 : fldB Try.prog 49 1 1 = true := by kernel_rfl
theorem fld_49_2_2 : fldB Try.prog 49 2 2 = true := by kernel_rfl
theorem fn_19 : fnB Try.prog 19 = true := by kernel_rfl
theorem fn_82 : fnB Try.prog 82 = true := by kernel_rfl
theorem one_2 : oneB Try.prog 2 = true := by kernel_rfl
theorem one_24 : oneB Try.prog 24 = true := by kernel_rfl
theorem one_4 : oneB Try.prog 4 = true := by kernel_rfl
theorem one_56 : oneB Try.prog 56 = true := by kernel_rfl
theorem sl_24_56_1 : slB Try.prog 24 56 1 = true := by kernel_rfl
end T74
set_option maxRecDepth 100000 in
set_option maxHeartbeats 4000000 in
theorem c_i_IsField {wd : Int} {hi : Int} {wr : Bool} {asp : Option Addr} {nsp : Nat} {csp : Nat} {Xsp : List Nat} {als : Option Addr} {nls : Nat} {cls : Nat} {Xls : List Nat} {afe : Option Addr} {nfe : Nat} {cfe : Nat} {Xfe : List Nat} {afx : Option Addr} {nfx : Nat} {cfx : Nat} {Xfx : List Nat} {afy : Option Addr} {nfy : Nat} {cfy : Nat} {Xfy : List Nat} {w : World} (qsp : Rd w kF asp nsp Xsp) (qls : Rd w kF als nls Xls) (qfe : Rd w kF afe nfe Xfe) (qfx : Rd w kF afx nfx Xfx) (qfy : Rd w kF afy nfy Xfy) (hbsp : nsp ≤ 9223372036854775806) (hbls : nls ≤ 9223372036854775806) (hbfe : nfe ≤ 9223372036854775806) (hbfx : nfx ≤ 9223372036854775806) (hbfy : nfy ≤ 9223372036854775806) :
    Calls Try.prog 74 #[.agg #[.int .i64 wd, .int .i64 hi, .bool wr, .slice asp nsp csp, .slice als nls cls], .agg #[.slice afe nfe cfe, .slice afx nfx cfx, .slice afy nfy cfy]] w (Rt fun v w' => v = .bool (fieldB wd hi wr Xsp Xls Xfe Xfx Xfy) ∧ Ext0 w w') := by
  have hlsp := qsp.len
  have hlls := qls.len
  have hlfe := qfe.len
  have hlfx := qfx.len
  have hlfy := qfy.len
  have B : Bu w no w [.rd kF asp nsp Xsp, .rd kF als nls Xls, .rd kF afe nfe Xfe, .rd kF afx nfx Xfx, .rd kF afy nfy Xfy] := Bu.ro (All.cons qsp (All.cons qls (All.cons qfe (All.cons qfx (All.cons qfy All.nil))))) rfl
  refine calls_W (n := 95) Try.func74 rfl rfl (Nat.le_of_ble_eq_true rfl) ?_
  refine W_seq ?_
  refine W_region (by kernel_rfl) ?_
  refine s_k rfl (k_boxN (v := .agg #[.int .i64 wd, .int .i64 hi, .bool wr, .slice asp nsp csp, .slice als nls cls]) (cs := [.int .i64 wd, .int .i64 hi, .bool wr, .slice asp nsp csp, .slice als nls cls]) rfl rfl (fun b1 w2 hN3 => ?_))
  replace B := B.new1 hN3
  clear hN3
  refine s_k rfl (k_boxN (v := .agg #[.slice afe nfe cfe, .slice afx nfx cfx, .slice afy nfy cfy]) (cs := [.slice afe nfe cfe, .slice afx nfx cfx, .slice afy nfy cfy]) rfl rfl (fun b4 w5 hN6 => ?_))
  replace B := B.new1 hN6
  clear hN6
  refine s_y (v := .bool false) rfl (y_assign rfl) ?_
  refine s_nil ?_
  refine W_seq ?_
  refine W_region (by kernel_rfl) ?_
  refine s_y (v := .pointer (some ⟨b1, 0, none⟩)) rfl (y_fld (o := 0) T74.fld_26_0_0 rfl) ?_
  refine s_y (v := .int .i64 wd) rfl (y_load T74.one_2 rfl ((B.b 1 rfl).cell (j := 0) rfl)) ?_
  refine s_y (v := .pointer (some ⟨b1, 1, none⟩)) rfl (y_fld (o := 0) T74.fld_26_1_1 rfl) ?_
  refine s_y (v := .int .i64 hi) rfl (y_load T74.one_2 rfl ((B.b 1 rfl).cell (j := 1) rfl)) ?_
  by_cases hr7 : -9223372036854775808 ≤ wd * hi ∧ wd * hi ≤ 9223372036854775807
  · refine s_y (v := .int .i64 (wd * hi)) rfl (y_mul rfl rfl rfl hr7) ?_
    refine s_y (v := .int .i64 (wd * hi)) rfl (y_assign rfl) ?_
    refine s_nil ?_
    refine W_seq ?_
    refine W_seq ?_
    refine W_region (by kernel_rfl) ?_
    refine s_y (v := .agg #[.int .i64 wd, .int .i64 hi, .bool wr, .slice asp nsp csp, .slice als nls cls]) rfl (y_loadn (b := b1) (o := 0) (vs := [.int .i64 wd, .int .i64 hi, .bool wr, .slice asp nsp csp, .slice als nls cls]) T74.agg_26_5 rfl rfl ((B.b 1 rfl).cells (o := 0) rfl)) ?_
    refine s_k rfl (k_call T74.fn_19 (c_i_ValidSheet (B.r 2 rfl) (B.r 3 rfl) (by omega) (by omega)) rfl ?_)
    rintro v10 w8 ⟨hv11, e9⟩
    replace B := B.ext0 e9
    clear e9
    by_cases c12 : validS wd hi Xsp Xls = true
    · have hb13 := validS_b c12
      obtain rfl : v10 = .bool true := hv11.trans (congrArg Value.bool c12)
      refine s_y (v := .bool false) rfl (y_not rfl rfl) ?_
      refine s_y (v := .bool false) rfl (y_move rfl) ?_
      refine s_y (v := .pointer (some ⟨b4, 0, none⟩)) rfl (y_fld (o := 0) T74.fld_49_0_0 rfl) ?_
      refine s_y (v := .slice afe nfe cfe) rfl (y_load T74.one_24 rfl ((B.b 0 rfl).cell (j := 0) rfl)) ?_
      refine s_y (v := .int .i64 ((nfe : Nat) : Int)) rfl (y_len T74.sl_24_56_1 rfl rfl) ?_
      refine s_y (v := .int .i64 (wd * hi)) rfl (y_move rfl) ?_
      by_cases c14 : ((nfe : Nat) : Int) ≠ (wd * hi)
      · refine s_y (v := .bool true) rfl (y_neq rfl rfl (decide_eq_true c14)) ?_
        refine s_y (v := .bool true) rfl (y_pick_f rfl rfl) ?_
        refine s_y (v := .bool true) rfl (y_move rfl) ?_
        refine s_skip rfl ?_
        refine s_skip rfl ?_
        refine s_skip rfl ?_
        refine s_skip rfl ?_
        refine s_skip rfl ?_
        refine s_y (v := .bool true) rfl (y_pick_t rfl rfl) ?_
        refine s_y (v := .bool true) rfl (y_move rfl) ?_
        refine s_skip rfl ?_
        refine s_skip rfl ?_
        refine s_skip rfl ?_
        refine s_skip rfl ?_
        refine s_skip rfl ?_
        refine s_y (v := .bool true) rfl (y_pick_t rfl rfl) ?_
        refine s_nil ?_
        refine W_if_t (by decide) rfl ?_
        refine W_seq ?_
        refine W_region (by kernel_rfl) ?_
        refine s_y (v := .bool false) rfl (y_assign rfl) ?_
        refine s_nil ?_
        refine W_ret ?_
        refine ret1 (v := .bool false) rfl rfl rfl ⟨_, rfl, ?_⟩
        exact ⟨congrArg Value.bool (by first | exact (field_n0 (by assumption)).symm | exact (field_n1 (by omega)).symm | exact (field_n2 (by omega)).symm | exact (field_n3 (by omega)).symm), B.ext⟩
      · refine s_y (v := .bool false) rfl (y_neq rfl rfl (decide_eq_false c14)) ?_
        refine s_y (v := .bool false) rfl (y_pick_f rfl rfl) ?_
        refine s_y (v := .bool false) rfl (y_move rfl) ?_
        refine s_y (v := .pointer (some ⟨b4, 1, none⟩)) rfl (y_fld (o := 0) T74.fld_49_1_1 rfl) ?_
        refine s_y (v := .slice afx nfx cfx) rfl (y_load T74.one_24 rfl ((B.b 0 rfl).cell (j := 1) rfl)) ?_
        refine s_y (v := .int .i64 ((nfx : Nat) : Int)) rfl (y_len T74.sl_24_56_1 rfl rfl) ?_
        refine s_y (v := .int .i64 (wd * hi)) rfl (y_move rfl) ?_
        by_cases c15 : ((nfx : Nat) : Int) ≠ (wd * hi)
        · refine s_y (v := .bool true) rfl (y_neq rfl rfl (decide_eq_true c15)) ?_
          refine s_y (v := .bool true) rfl (y_pick_f rfl rfl) ?_
          refine s_y (v := .bool true) rfl (y_move rfl) ?_
          refine s_skip rfl ?_
          refine s_skip rfl ?_
          refine s_skip rfl ?_
          refine s_skip rfl ?_
          refine s_skip rfl ?_
          refine s_y (v := .bool true) rfl (y_pick_t rfl rfl) ?_
          refine s_nil ?_
          refine W_if_t (by decide) rfl ?_
          refine W_seq ?_
          refine W_region (by kernel_rfl) ?_
          refine s_y (v := .bool false) rfl (y_assign rfl) ?_
          refine s_nil ?_
          refine W_ret ?_
          refine ret1 (v := .bool false) rfl rfl rfl ⟨_, rfl, ?_⟩
          exact ⟨congrArg Value.bool (by first | exact (field_n0 (by assumption)).symm | exact (field_n1 (by omega)).symm | exact (field_n2 (by omega)).symm | exact (field_n3 (by omega)).symm), B.ext⟩
        · refine s_y (v := .bool false) rfl (y_neq rfl rfl (decide_eq_false c15)) ?_
          refine s_y (v := .bool false) rfl (y_pick_f rfl rfl) ?_
          refine s_y (v := .bool false) rfl (y_move rfl) ?_
          refine s_y (v := .pointer (some ⟨b4, 2, none⟩)) rfl (y_fld (o := 0) T74.fld_49_2_2 rfl) ?_
          refine s_y (v := .slice afy nfy cfy) rfl (y_load T74.one_24 rfl ((B.b 0 rfl).cell (j := 2) rfl)) ?_
          refine s_y (v := .int .i64 ((nfy : Nat) : Int)) rfl (y_len T74.sl_24_56_1 rfl rfl) ?_
          refine s_y (v := .int .i64 (wd * hi)) rfl (y_move rfl) ?_
          by_cases c16 : ((nfy : Nat) : Int) ≠ (wd * hi)
          · refine s_y (v := .bool true) rfl (y_neq rfl rfl (decide_eq_true c16)) ?_
            refine s_y (v := .bool true) rfl (y_pick_f rfl rfl) ?_
            refine s_nil ?_
            refine W_if_t (by decide) rfl ?_
            refine W_seq ?_
            refine W_region (by kernel_rfl) ?_
            refine s_y (v := .bool false) rfl (y_assign rfl) ?_
            refine s_nil ?_
            refine W_ret ?_
            refine ret1 (v := .bool false) rfl rfl rfl ⟨_, rfl, ?_⟩
            exact ⟨congrArg Value.bool (by first | exact (field_n0 (by assumption)).symm | exact (field_n1 (by omega)).symm | exact (field_n2 (by omega)).symm | exact (field_n3 (by omega)).symm), B.ext⟩
          · refine s_y (v := .bool false) rfl (y_neq rfl rfl (decide_eq_false c16)) ?_
            refine s_y (v := .bool false) rfl (y_pick_f rfl rfl) ?_
            refine s_nil ?_
            refine W_if_f (by decide) rfl ?_
            refine W_skip ?_
            refine W_seq ?_
            refine W_seq ?_
            refine W_region (by kernel_rfl) ?_
            refine s_y (v := .pointer (some ⟨b1, 2, none⟩)) rfl (y_fld (o := 0) T74.fld_26_2_2 rfl) ?_
            refine s_y (v := .bool wr) rfl (y_load T74.one_4 rfl ((B.b 1 rfl).cell (j := 2) rfl)) ?_
            refine s_nil ?_
            cases wr
            · refine W_if_f (by decide) rfl ?_
              refine W_skip ?_
              refine W_seq ?_
              refine W_seq ?_
              refine W_region (by kernel_rfl) ?_
              refine s_y (v := .int .i64 (wd * hi)) rfl (y_move rfl) ?_
              refine s_y (v := .int .i64 0) rfl (y_move rfl) ?_
              refine s_nil ?_
              refine W_block ?_
              refine W_loop (fun ρ' w' => ∃ (ρ1 : Env) (i : Int), ρ' = updL ρ1 [(2, .pointer (some ⟨b1, 0, none⟩)), (3, .pointer (some ⟨b4, 0, none⟩)), (40, .int .i64 (wd * hi)), (41, .int .i64 i)] ∧ Bu w no w' [.blk b4 [.slice afe nfe cfe, .slice afx nfx cfx, .slice afy nfy cfy] 49, .blk b1 [.int .i64 wd, .int .i64 hi, .bool false, .slice asp nsp csp, .slice als nls cls] 26, .rd kF asp nsp Xsp, .rd kF als nls Xls, .rd kF afe nfe Xfe, .rd kF afx nfx Xfx, .rd kF afy nfy Xfy] ∧ (0 ≤ i) ∧ (i ≤ wd * hi) ∧ (∀ j, 0 ≤ j → j < i → edgeB wd hi Xfe Xfx Xfy (j % wd) (j / wd) j = false)) (fun ρ' _ => (wd * hi - iv (ρ' 41)).toNat) ?_ ?_
              · exact ⟨_, 0, Fits.eq ⟨rfl, rfl, rfl, rfl, trivial⟩, B, (Int.le_refl _), (by omega), (by intro j h0 h1; omega)⟩
              · clear B; rintro _ w17 ⟨ρ18, i, rfl, B, h0i, h1i, hq⟩
                refine W_seq ?_
                refine W_region (by kernel_rfl) ?_
                by_cases c19 : i < (wd * hi)
                · refine s_y (v := .bool true) rfl (y_lss rfl rfl (decide_eq_true c19)) ?_
                  refine s_nil ?_
                  refine W_seq ?_
                  refine W_if_t (by decide) rfl ?_
                  refine W_skip ?_
                  refine W_seq ?_
                  refine W_block ?_
                  refine W_seq ?_
                  refine W_region (by kernel_rfl) ?_
                  refine s_y (v := .int .i64 i) rfl (y_move rfl) ?_
                  refine s_y (v := .int .i64 i) rfl (y_assign rfl) ?_
                  refine s_nil ?_
                  refine W_seq ?_
                  have B0_24 := B
                  refine W_draw (no) T74.mx (by kernel_rfl) (fun w22 e23 => ?_)
                  have R25 := Ext.refl (no) w17
                  replace R25 := R25.trans (Ext0.any e23)
                  replace B := B.ext0 e23
                  clear e23
                  refine m_y (v := .int .i64 i) 0 rfl (by kernel_rfl) rfl rfl (fun w' e' => y_move rfl) ?_
                  refine m_y (v := .pointer (some ⟨b1, 0, none⟩)) 1 rfl (by kernel_rfl) rfl rfl (fun w' e' => y_fld (o := 0) T74.fld_26_0_0 rfl) ?_
                  refine m_y (v := .int .i64 wd) 2 rfl (by kernel_rfl) rfl rfl (fun w' e' => y_load T74.one_2 rfl (((B0_24.b 1 rfl).ext0 e').cell (j := 0) rfl)) ?_
                  have hm26 := rem_b (x := i) (m := wd) (by omega) (by omega)
                  refine m_y (v := .int .i64 (i % wd)) 3 rfl (by kernel_rfl) rfl rfl (fun w' e' => y_rem rfl rfl (by omega) (by omega) rfl) ?_
                  refine m_y (v := .int .i64 i) 4 rfl (by kernel_rfl) rfl rfl (fun w' e' => y_move rfl) ?_
                  refine m_y (v := .pointer (some ⟨b1, 0, none⟩)) 5 rfl (by kernel_rfl) rfl rfl (fun w' e' => y_fld (o := 0) T74.fld_26_0_0 rfl) ?_
                  refine m_y (v := .int .i64 wd) 6 rfl (by kernel_rfl) rfl rfl (fun w' e' => y_load T74.one_2 rfl (((B0_24.b 1 rfl).ext0 e').cell (j := 0) rfl)) ?_
                  have hm27 := quo_b (x := i) (m := wd) (by omega) (by omega)
                  refine m_y (v := .int .i64 (i / wd)) 7 rfl (by kernel_rfl) rfl rfl (fun w' e' => y_quo rfl rfl (by omega) (by omega) (by omega) rfl) ?_
                  refine m_y (v := .int .i64 (i % wd)) 8 rfl (by kernel_rfl) rfl rfl (fun w' e' => y_assign rfl) ?_
                  refine m_y (v := .int .i64 (i / wd)) 9 rfl (by kernel_rfl) rfl rfl (fun w' e' => y_assign rfl) ?_
                  refine m_done (by kernel_rfl) (fun w28 e29 => ?_)
                  replace B := B.ext0 e29
                  clear e29
                  clear B0_24 R25
                  refine W_seq ?_
                  refine W_region (by kernel_rfl) ?_
                  refine s_y (v := .agg #[.int .i64 wd, .int .i64 hi, .bool false, .slice asp nsp csp, .slice als nls cls]) rfl (y_loadn (b := b1) (o := 0) (vs := [.int .i64 wd, .int .i64 hi, .bool false, .slice asp nsp csp, .slice als nls cls]) T74.agg_26_5 rfl rfl ((B.b 1 rfl).cells (o := 0) rfl)) ?_
                  refine s_y (v := .int .i64 (i % wd)) rfl (y_move rfl) ?_
                  refine s_y (v := .int .i64 (i / wd)) rfl (y_move rfl) ?_
                  refine s_k rfl (k_call T74.fn_82 (c_i_isBorder (by omega) (by omega) (by omega) (by omega)) rfl ?_)
                  rintro v32 w30 ⟨hv33, e31⟩
                  replace B := B.ext0 e31
                  clear e31
                  by_cases c34 : bordB wd hi false (i % wd) (i / wd) = true
                  · obtain rfl : v32 = .bool true := hv33.trans (congrArg Value.bool c34)
                    refine s_y (v := .bool true) rfl (y_move rfl) ?_
                    refine s_y (v := .pointer (some ⟨b4, 0, none⟩)) rfl (y_fld (o := 0) T74.fld_49_0_0 rfl) ?_
                    refine s_y (v := .slice afe nfe cfe) rfl (y_load T74.one_24 rfl ((B.b 0 rfl).cell (j := 0) rfl)) ?_
                    refine s_y (v := .int .i64 i) rfl (y_move rfl) ?_
                    refine s_y (v := .pointer (some (sat afe ((i).toNat * 1)))) rfl (y_idx T74.sl_24_56_1 rfl rfl ((B.r 4 rfl).addr (by omega)) (by omega) (by omega)) ?_
                    obtain ⟨r36, hr37, hR35⟩ := Rd.atF (B.r 4 rfl) i (by omega) (by omega)
                    refine s_y (v := .float .f32 r36) rfl (y_load T74.one_56 rfl (hR35.cell (i := 0) rfl)) ?_
                    by_cases c38 : fne .f32 (el Xfe i) 0 = true
                    · refine s_y (v := .bool true) rfl (y_fneq rfl rfl (fneC hr37 (show can .f32 0 = 0 by kernel_rfl) c38)) ?_
                      refine s_y (v := .bool true) rfl (y_pick_t rfl rfl) ?_
                      refine s_y (v := .bool true) rfl (y_move rfl) ?_
                      refine s_skip rfl ?_
                      refine s_skip rfl ?_
                      refine s_skip rfl ?_
                      refine s_skip rfl ?_
                      refine s_skip rfl ?_
                      refine s_skip rfl ?_
                      refine s_skip rfl ?_
                      refine s_skip rfl ?_
                      refine s_skip rfl ?_
                      refine s_skip rfl ?_
                      refine s_skip rfl ?_
                      refine s_skip rfl ?_
                      refine s_skip rfl ?_
                      refine s_y (v := .bool true) rfl (y_pick_t rfl rfl) ?_
                      refine s_y (v := .bool true) rfl (y_move rfl) ?_
                      refine s_skip rfl ?_
                      refine s_skip rfl ?_
                      refine s_skip rfl ?_
                      refine s_skip rfl ?_
                      refine s_skip rfl ?_
                      refine s_skip rfl ?_
                      refine s_skip rfl ?_
                      refine s_skip rfl ?_
                      refine s_skip rfl ?_
                      refine s_skip rfl ?_
                      refine s_skip rfl ?_
                      refine s_skip rfl ?_
                      refine s_skip rfl ?_
                      refine s_y (v := .bool true) rfl (y_pick_t rfl rfl) ?_
                      refine s_nil ?_
                      refine W_if_t (by decide) rfl ?_
                      refine W_seq ?_
                      refine W_region (by kernel_rfl) ?_
                      refine s_y (v := .bool false) rfl (y_assign rfl) ?_
                      refine s_nil ?_
                      refine W_ret ?_
                      refine ret1 (v := .bool false) rfl rfl rfl ⟨_, rfl, ?_⟩
                      exact ⟨congrArg Value.bool ((field_no (i := i) (by omega) (by omega) (by simp only [edgeB, c12, (decide_eq_false c14), (decide_eq_false c15), (decide_eq_false c16), (decide_eq_true c19), c34, c38, Bool.and_true, Bool.true_and, Bool.and_false, Bool.false_and, Bool.not_true, Bool.not_false, Bool.or_true, Bool.true_or, Bool.or_false, Bool.false_or])).symm), B.ext⟩
                    · refine s_y (v := .bool false) rfl (y_fneq rfl rfl (fneC hr37 (show can .f32 0 = 0 by kernel_rfl) (Bool.eq_false_iff.2 c38))) ?_
                      refine s_y (v := .bool false) rfl (y_pick_t rfl rfl) ?_
                      refine s_y (v := .bool false) rfl (y_move rfl) ?_
                      refine s_y (v := .int .i64 (i / wd)) rfl (y_move rfl) ?_
                      refine s_y (v := .pointer (some ⟨b1, 1, none⟩)) rfl (y_fld (o := 0) T74.fld_26_1_1 rfl) ?_
                      refine s_y (v := .int .i64 hi) rfl (y_load T74.one_2 rfl ((B.b 1 rfl).cell (j := 1) rfl)) ?_
                      refine s_y (v := .int .i64 (hi - 1)) rfl (y_sub rfl rfl rfl (by omega)) ?_
                      by_cases c39 : (i / wd) = (hi - 1)
                      · refine s_y (v := .bool true) rfl (y_eql rfl rfl (decide_eq_true c39)) ?_
                        refine s_y (v := .bool true) rfl (y_move rfl) ?_
                        refine s_y (v := .pointer (some ⟨b4, 1, none⟩)) rfl (y_fld (o := 0) T74.fld_49_1_1 rfl) ?_
                        refine s_y (v := .slice afx nfx cfx) rfl (y_load T74.one_24 rfl ((B.b 0 rfl).cell (j := 1) rfl)) ?_
                        refine s_y (v := .int .i64 i) rfl (y_move rfl) ?_
                        refine s_y (v := .pointer (some (sat afx ((i).toNat * 1)))) rfl (y_idx T74.sl_24_56_1 rfl rfl ((B.r 5 rfl).addr (by omega)) (by omega) (by omega)) ?_
                        obtain ⟨r41, hr42, hR40⟩ := Rd.atF (B.r 5 rfl) i (by omega) (by omega)
                        refine s_y (v := .float .f32 r41) rfl (y_load T74.one_56 rfl (hR40.cell (i := 0) rfl)) ?_
                        by_cases c43 : fne .f32 (el Xfx i) 0 = true
                        · refine s_y (v := .bool true) rfl (y_fneq rfl rfl (fneC hr42 (show can .f32 0 = 0 by kernel_rfl) c43)) ?_
                          refine s_y (v := .bool true) rfl (y_pick_t rfl rfl) ?_
                          refine s_y (v := .bool true) rfl (y_pick_f rfl rfl) ?_
                          refine s_y (v := .bool true) rfl (y_move rfl) ?_
                          refine s_skip rfl ?_
                          refine s_skip rfl ?_
                          refine s_skip rfl ?_
                          refine s_skip rfl ?_
                          refine s_skip rfl ?_
                          refine s_skip rfl ?_
                          refine s_skip rfl ?_
                          refine s_skip rfl ?_
                          refine s_skip rfl ?_
                          refine s_skip rfl ?_
                          refine s_skip rfl ?_
                          refine s_skip rfl ?_
                          refine s_skip rfl ?_
                          refine s_y (v := .bool true) rfl (y_pick_t rfl rfl) ?_
                          refine s_nil ?_
                          refine W_if_t (by decide) rfl ?_
                          refine W_seq ?_
                          refine W_region (by kernel_rfl) ?_
                          refine s_y (v := .bool false) rfl (y_assign rfl) ?_
                          refine s_nil ?_
                          refine W_ret ?_
                          refine ret1 (v := .bool false) rfl rfl rfl ⟨_, rfl, ?_⟩
                          exact ⟨congrArg Value.bool ((field_no (i := i) (by omega) (by omega) (by simp only [edgeB, c12, (decide_eq_false c14), (decide_eq_false c15), (decide_eq_false c16), (decide_eq_true c19), c34, (Bool.eq_false_iff.2 c38), (decide_eq_true c39), c43, Bool.and_true, Bool.true_and, Bool.and_false, Bool.false_and, Bool.not_true, Bool.not_false, Bool.or_true, Bool.true_or, Bool.or_false, Bool.false_or])).symm), B.ext⟩
                        · refine s_y (v := .bool false) rfl (y_fneq rfl rfl (fneC hr42 (show can .f32 0 = 0 by kernel_rfl) (Bool.eq_false_iff.2 c43))) ?_
                          refine s_y (v := .bool false) rfl (y_pick_t rfl rfl) ?_
                          refine s_y (v := .bool false) rfl (y_pick_f rfl rfl) ?_
                          refine s_y (v := .bool false) rfl (y_move rfl) ?_
                          refine s_y (v := .int .i64 (i % wd)) rfl (y_move rfl) ?_
                          refine s_y (v := .pointer (some ⟨b1, 0, none⟩)) rfl (y_fld (o := 0) T74.fld_26_0_0 rfl) ?_
                          refine s_y (v := .int .i64 wd) rfl (y_load T74.one_2 rfl ((B.b 1 rfl).cell (j := 0) rfl)) ?_
                          refine s_y (v := .int .i64 (wd - 1)) rfl (y_sub rfl rfl rfl (by omega)) ?_
                          by_cases c44 : (i % wd) = (wd - 1)
                          · refine s_y (v := .bool true) rfl (y_eql rfl rfl (decide_eq_true c44)) ?_
                            refine s_y (v := .bool true) rfl (y_move rfl) ?_
                            refine s_y (v := .pointer (some ⟨b4, 2, none⟩)) rfl (y_fld (o := 0) T74.fld_49_2_2 rfl) ?_
                            refine s_y (v := .slice afy nfy cfy) rfl (y_load T74.one_24 rfl ((B.b 0 rfl).cell (j := 2) rfl)) ?_
                            refine s_y (v := .int .i64 i) rfl (y_move rfl) ?_
                            refine s_y (v := .pointer (some (sat afy ((i).toNat * 1)))) rfl (y_idx T74.sl_24_56_1 rfl rfl ((B.r 6 rfl).addr (by omega)) (by omega) (by omega)) ?_
                            obtain ⟨r46, hr47, hR45⟩ := Rd.atF (B.r 6 rfl) i (by omega) (by omega)
                            refine s_y (v := .float .f32 r46) rfl (y_load T74.one_56 rfl (hR45.cell (i := 0) rfl)) ?_
                            by_cases c48 : fne .f32 (el Xfy i) 0 = true
                            · refine s_y (v := .bool true) rfl (y_fneq rfl rfl (fneC hr47 (show can .f32 0 = 0 by kernel_rfl) c48)) ?_
                              refine s_y (v := .bool true) rfl (y_pick_t rfl rfl) ?_
                              refine s_y (v := .bool true) rfl (y_pick_f rfl rfl) ?_
                              refine s_nil ?_
                              refine W_if_t (by decide) rfl ?_
                              refine W_seq ?_
                              refine W_region (by kernel_rfl) ?_
                              refine s_y (v := .bool false) rfl (y_assign rfl) ?_
                              refine s_nil ?_
                              refine W_ret ?_
                              refine ret1 (v := .bool false) rfl rfl rfl ⟨_, rfl, ?_⟩
                              exact ⟨congrArg Value.bool ((field_no (i := i) (by omega) (by omega) (by simp only [edgeB, c12, (decide_eq_false c14), (decide_eq_false c15), (decide_eq_false c16), (decide_eq_true c19), c34, (Bool.eq_false_iff.2 c38), (decide_eq_true c39), (Bool.eq_false_iff.2 c43), (decide_eq_true c44), c48, Bool.and_true, Bool.true_and, Bool.and_false, Bool.false_and, Bool.not_true, Bool.not_false, Bool.or_true, Bool.true_or, Bool.or_false, Bool.false_or])).symm), B.ext⟩
                            · refine s_y (v := .bool false) rfl (y_fneq rfl rfl (fneC hr47 (show can .f32 0 = 0 by kernel_rfl) (Bool.eq_false_iff.2 c48))) ?_
                              refine s_y (v := .bool false) rfl (y_pick_t rfl rfl) ?_
                              refine s_y (v := .bool false) rfl (y_pick_f rfl rfl) ?_
                              refine s_nil ?_
                              refine W_if_f (by decide) rfl ?_
                              refine W_skip ?_
                              refine W_region (by kernel_rfl) ?_
                              refine s_y (v := .int .i64 (i + 1)) rfl (y_add rfl rfl rfl (by omega)) ?_
                              refine s_y (v := .int .i64 (i + 1)) rfl (y_move rfl) ?_
                              refine s_nil ?_
                              refine ⟨⟨_, i + 1, Fits.eq ⟨rfl, rfl, rfl, rfl, trivial⟩, B, (by omega), (by omega), (edge_more hq (by simp only [edgeB, c12, (decide_eq_false c14), (decide_eq_false c15), (decide_eq_false c16), (decide_eq_true c19), c34, (Bool.eq_false_iff.2 c38), (decide_eq_true c39), (Bool.eq_false_iff.2 c43), (decide_eq_true c44), (Bool.eq_false_iff.2 c48), Bool.and_true, Bool.true_and, Bool.and_false, Bool.false_and, Bool.not_true, Bool.not_false, Bool.or_true, Bool.true_or, Bool.or_false, Bool.false_or]))⟩, ?_⟩
                              show (wd * hi - (i + 1)).toNat < (wd * hi - i).toNat
                              omega
                          · refine s_y (v := .bool false) rfl (y_eql rfl rfl (decide_eq_false c44)) ?_
                            refine s_y (v := .bool false) rfl (y_move rfl) ?_
                            refine s_skip rfl ?_
                            refine s_skip rfl ?_
                            refine s_skip rfl ?_
                            refine s_skip rfl ?_
                            refine s_skip rfl ?_
                            refine s_skip rfl ?_
                            refine s_y (v := .bool false) rfl (y_pick_f rfl rfl) ?_
                            refine s_y (v := .bool false) rfl (y_pick_f rfl rfl) ?_
                            refine s_nil ?_
                            refine W_if_f (by decide) rfl ?_
                            refine W_skip ?_
                            refine W_region (by kernel_rfl) ?_
                            refine s_y (v := .int .i64 (i + 1)) rfl (y_add rfl rfl rfl (by omega)) ?_
                            refine s_y (v := .int .i64 (i + 1)) rfl (y_move rfl) ?_
                            refine s_nil ?_
                            refine ⟨⟨_, i + 1, Fits.eq ⟨rfl, rfl, rfl, rfl, trivial⟩, B, (by omega), (by omega), (edge_more hq (by simp only [edgeB, c12, (decide_eq_false c14), (decide_eq_false c15), (decide_eq_false c16), (decide_eq_true c19), c34, (Bool.eq_false_iff.2 c38), (decide_eq_true c39), (Bool.eq_false_iff.2 c43), (decide_eq_false c44), Bool.and_true, Bool.true_and, Bool.and_false, Bool.false_and, Bool.not_true, Bool.not_false, Bool.or_true, Bool.true_or, Bool.or_false, Bool.false_or]))⟩, ?_⟩
                            show (wd * hi - (i + 1)).toNat < (wd * hi - i).toNat
                            omega
                      · refine s_y (v := .bool false) rfl (y_eql rfl rfl (decide_eq_false c39)) ?_
                        refine s_y (v := .bool false) rfl (y_move rfl) ?_
                        refine s_skip rfl ?_
                        refine s_skip rfl ?_
                        refine s_skip rfl ?_
                        refine s_skip rfl ?_
                        refine s_skip rfl ?_
                        refine s_skip rfl ?_
                        refine s_y (v := .bool false) rfl (y_pick_f rfl rfl) ?_
                        refine s_y (v := .bool false) rfl (y_pick_f rfl rfl) ?_
                        refine s_y (v := .bool false) rfl (y_move rfl) ?_
                        refine s_y (v := .int .i64 (i % wd)) rfl (y_move rfl) ?_
                        refine s_y (v := .pointer (some ⟨b1, 0, none⟩)) rfl (y_fld (o := 0) T74.fld_26_0_0 rfl) ?_
                        refine s_y (v := .int .i64 wd) rfl (y_load T74.one_2 rfl ((B.b 1 rfl).cell (j := 0) rfl)) ?_
                        refine s_y (v := .int .i64 (wd - 1)) rfl (y_sub rfl rfl rfl (by omega)) ?_
                        by_cases c49 : (i % wd) = (wd - 1)
                        · refine s_y (v := .bool true) rfl (y_eql rfl rfl (decide_eq_true c49)) ?_
                          refine s_y (v := .bool true) rfl (y_move rfl) ?_
                          refine s_y (v := .pointer (some ⟨b4, 2, none⟩)) rfl (y_fld (o := 0) T74.fld_49_2_2 rfl) ?_
                          refine s_y (v := .slice afy nfy cfy) rfl (y_load T74.one_24 rfl ((B.b 0 rfl).cell (j := 2) rfl)) ?_
                          refine s_y (v := .int .i64 i) rfl (y_move rfl) ?_
                          refine s_y (v := .pointer (some (sat afy ((i).toNat * 1)))) rfl (y_idx T74.sl_24_56_1 rfl rfl ((B.r 6 rfl).addr (by omega)) (by omega) (by omega)) ?_
                          obtain ⟨r51, hr52, hR50⟩ := Rd.atF (B.r 6 rfl) i (by omega) (by omega)
                          refine s_y (v := .float .f32 r51) rfl (y_load T74.one_56 rfl (hR50.cell (i := 0) rfl)) ?_
                          by_cases c53 : fne .f32 (el Xfy i) 0 = true
                          · refine s_y (v := .bool true) rfl (y_fneq rfl rfl (fneC hr52 (show can .f32 0 = 0 by kernel_rfl) c53)) ?_
                            refine s_y (v := .bool true) rfl (y_pick_t rfl rfl) ?_
                            refine s_y (v := .bool true) rfl (y_pick_f rfl rfl) ?_
                            refine s_nil ?_
                            refine W_if_t (by decide) rfl ?_
                            refine W_seq ?_
                            refine W_region (by kernel_rfl) ?_
                            refine s_y (v := .bool false) rfl (y_assign rfl) ?_
                            refine s_nil ?_
                            refine W_ret ?_
                            refine ret1 (v := .bool false) rfl rfl rfl ⟨_, rfl, ?_⟩
                            exact ⟨congrArg Value.bool ((field_no (i := i) (by omega) (by omega) (by simp only [edgeB, c12, (decide_eq_false c14), (decide_eq_false c15), (decide_eq_false c16), (decide_eq_true c19), c34, (Bool.eq_false_iff.2 c38), (decide_eq_false c39), (decide_eq_true c49), c53, Bool.and_true, Bool.true_and, Bool.and_false, Bool.false_and, Bool.not_true, Bool.not_false, Bool.or_true, Bool.true_or, Bool.or_false, Bool.false_or])).symm), B.ext⟩
                          · refine s_y (v := .bool false) rfl (y_fneq rfl rfl (fneC hr52 (show can .f32 0 = 0 by kernel_rfl) (Bool.eq_false_iff.2 c53))) ?_
                            refine s_y (v := .bool false) rfl (y_pick_t rfl rfl) ?_
                            refine s_y (v := .bool false) rfl (y_pick_f rfl rfl) ?_
                            refine s_nil ?_
                            refine W_if_f (by decide) rfl ?_
                            refine W_skip ?_
                            refine W_region (by kernel_rfl) ?_
                            refine s_y (v := .int .i64 (i + 1)) rfl (y_add rfl rfl rfl (by omega)) ?_
                            refine s_y (v := .int .i64 (i + 1)) rfl (y_move rfl) ?_
                            refine s_nil ?_
                            refine ⟨⟨_, i + 1, Fits.eq ⟨rfl, rfl, rfl, rfl, trivial⟩, B, (by omega), (by omega), (edge_more hq (by simp only [edgeB, c12, (decide_eq_false c14), (decide_eq_false c15), (decide_eq_false c16), (decide_eq_true c19), c34, (Bool.eq_false_iff.2 c38), (decide_eq_false c39), (decide_eq_true c49), (Bool.eq_false_iff.2 c53), Bool.and_true, Bool.true_and, Bool.and_false, Bool.false_and, Bool.not_true, Bool.not_false, Bool.or_true, Bool.true_or, Bool.or_false, Bool.false_or]))⟩, ?_⟩
                            show (wd * hi - (i + 1)).toNat < (wd * hi - i).toNat
                            omega
                        · refine s_y (v := .bool false) rfl (y_eql rfl rfl (decide_eq_false c49)) ?_
                          refine s_y (v := .bool false) rfl (y_move rfl) ?_
                          refine s_skip rfl ?_
                          refine s_skip rfl ?_
                          refine s_skip rfl ?_
                          refine s_skip rfl ?_
                          refine s_skip rfl ?_
                          refine s_skip rfl ?_
                          refine s_y (v := .bool false) rfl (y_pick_f rfl rfl) ?_
                          refine s_y (v := .bool false) rfl (y_pick_f rfl rfl) ?_
                          refine s_nil ?_
                          refine W_if_f (by decide) rfl ?_
                          refine W_skip ?_
                          refine W_region (by kernel_rfl) ?_
                          refine s_y (v := .int .i64 (i + 1)) rfl (y_add rfl rfl rfl (by omega)) ?_
                          refine s_y (v := .int .i64 (i + 1)) rfl (y_move rfl) ?_
                          refine s_nil ?_
                          refine ⟨⟨_, i + 1, Fits.eq ⟨rfl, rfl, rfl, rfl, trivial⟩, B, (by omega), (by omega), (edge_more hq (by simp only [edgeB, c12, (decide_eq_false c14), (decide_eq_false c15), (decide_eq_false c16), (decide_eq_true c19), c34, (Bool.eq_false_iff.2 c38), (decide_eq_false c39), (decide_eq_false c49), Bool.and_true, Bool.true_and, Bool.and_false, Bool.false_and, Bool.not_true, Bool.not_false, Bool.or_true, Bool.true_or, Bool.or_false, Bool.false_or]))⟩, ?_⟩
                          show (wd * hi - (i + 1)).toNat < (wd * hi - i).toNat
                          omega
                  · obtain rfl : v32 = .bool false := hv33.trans (congrArg Value.bool (Bool.eq_false_iff.2 c34))
                    refine s_y (v := .bool false) rfl (y_move rfl) ?_
                    refine s_skip rfl ?_
                    refine s_skip rfl ?_
                    refine s_skip rfl ?_
                    refine s_skip rfl ?_
                    refine s_skip rfl ?_
                    refine s_skip rfl ?_
                    refine s_y (v := .bool false) rfl (y_pick_f rfl rfl) ?_
                    refine s_y (v := .bool false) rfl (y_move rfl) ?_
                    refine s_y (v := .int .i64 (i / wd)) rfl (y_move rfl) ?_
                    refine s_y (v := .pointer (some ⟨b1, 1, none⟩)) rfl (y_fld (o := 0) T74.fld_26_1_1 rfl) ?_
                    refine s_y (v := .int .i64 hi) rfl (y_load T74.one_2 rfl ((B.b 1 rfl).cell (j := 1) rfl)) ?_
                    refine s_y (v := .int .i64 (hi - 1)) rfl (y_sub rfl rfl rfl (by omega)) ?_
                    by_cases c54 : (i / wd) = (hi - 1)
                    · refine s_y (v := .bool true) rfl (y_eql rfl rfl (decide_eq_true c54)) ?_
                      refine s_y (v := .bool true) rfl (y_move rfl) ?_
                      refine s_y (v := .pointer (some ⟨b4, 1, none⟩)) rfl (y_fld (o := 0) T74.fld_49_1_1 rfl) ?_
                      refine s_y (v := .slice afx nfx cfx) rfl (y_load T74.one_24 rfl ((B.b 0 rfl).cell (j := 1) rfl)) ?_
                      refine s_y (v := .int .i64 i) rfl (y_move rfl) ?_
                      refine s_y (v := .pointer (some (sat afx ((i).toNat * 1)))) rfl (y_idx T74.sl_24_56_1 rfl rfl ((B.r 5 rfl).addr (by omega)) (by omega) (by omega)) ?_
                      obtain ⟨r56, hr57, hR55⟩ := Rd.atF (B.r 5 rfl) i (by omega) (by omega)
                      refine s_y (v := .float .f32 r56) rfl (y_load T74.one_56 rfl (hR55.cell (i := 0) rfl)) ?_
                      by_cases c58 : fne .f32 (el Xfx i) 0 = true
                      · refine s_y (v := .bool true) rfl (y_fneq rfl rfl (fneC hr57 (show can .f32 0 = 0 by kernel_rfl) c58)) ?_
                        refine s_y (v := .bool true) rfl (y_pick_t rfl rfl) ?_
                        refine s_y (v := .bool true) rfl (y_pick_f rfl rfl) ?_
                        refine s_y (v := .bool true) rfl (y_move rfl) ?_
                        refine s_skip rfl ?_
                        refine s_skip rfl ?_
                        refine s_skip rfl ?_
                        refine s_skip rfl ?_
                        refine s_skip rfl ?_
                        refine s_skip rfl ?_
                        refine s_skip rfl ?_
                        refine s_skip rfl ?_
                        refine s_skip rfl ?_
                        refine s_skip rfl ?_
                        refine s_skip rfl ?_
                        refine s_skip rfl ?_
                        refine s_skip rfl ?_
                        refine s_y (v := .bool true) rfl (y_pick_t rfl rfl) ?_
                        refine s_nil ?_
                        refine W_if_t (by decide) rfl ?_
                        refine W_seq ?_
                        refine W_region (by kernel_rfl) ?_
                        refine s_y (v := .bool false) rfl (y_assign rfl) ?_
                        refine s_nil ?_
                        refine W_ret ?_
                        refine ret1 (v := .bool false) rfl rfl rfl ⟨_, rfl, ?_⟩
                        exact ⟨congrArg Value.bool ((field_no (i := i) (by omega) (by omega) (by simp only [edgeB, c12, (decide_eq_false c14), (decide_eq_false c15), (decide_eq_false c16), (decide_eq_true c19), (Bool.eq_false_iff.2 c34), (decide_eq_true c54), c58, Bool.and_true, Bool.true_and, Bool.and_false, Bool.false_and, Bool.not_true, Bool.not_false, Bool.or_true, Bool.true_or, Bool.or_false, Bool.false_or])).symm), B.ext⟩
                      · refine s_y (v := .bool false) rfl (y_fneq rfl rfl (fneC hr57 (show can .f32 0 = 0 by kernel_rfl) (Bool.eq_false_iff.2 c58))) ?_
                        refine s_y (v := .bool false) rfl (y_pick_t rfl rfl) ?_
                        refine s_y (v := .bool false) rfl (y_pick_f rfl rfl) ?_
                        refine s_y (v := .bool false) rfl (y_move rfl) ?_
                        refine s_y (v := .int .i64 (i % wd)) rfl (y_move rfl) ?_
                        refine s_y (v := .pointer (some ⟨b1, 0, none⟩)) rfl (y_fld (o := 0) T74.fld_26_0_0 rfl) ?_
                        refine s_y (v := .int .i64 wd) rfl (y_load T74.one_2 rfl ((B.b 1 rfl).cell (j := 0) rfl)) ?_
                        refine s_y (v := .int .i64 (wd - 1)) rfl (y_sub rfl rfl rfl (by omega)) ?_
                        by_cases c59 : (i % wd) = (wd - 1)
                        · refine s_y (v := .bool true) rfl (y_eql rfl rfl (decide_eq_true c59)) ?_
                          refine s_y (v := .bool true) rfl (y_move rfl) ?_
                          refine s_y (v := .pointer (some ⟨b4, 2, none⟩)) rfl (y_fld (o := 0) T74.fld_49_2_2 rfl) ?_
                          refine s_y (v := .slice afy nfy cfy) rfl (y_load T74.one_24 rfl ((B.b 0 rfl).cell (j := 2) rfl)) ?_
                          refine s_y (v := .int .i64 i) rfl (y_move rfl) ?_
                          refine s_y (v := .pointer (some (sat afy ((i).toNat * 1)))) rfl (y_idx T74.sl_24_56_1 rfl rfl ((B.r 6 rfl).addr (by omega)) (by omega) (by omega)) ?_
                          obtain ⟨r61, hr62, hR60⟩ := Rd.atF (B.r 6 rfl) i (by omega) (by omega)
                          refine s_y (v := .float .f32 r61) rfl (y_load T74.one_56 rfl (hR60.cell (i := 0) rfl)) ?_
                          by_cases c63 : fne .f32 (el Xfy i) 0 = true
                          · refine s_y (v := .bool true) rfl (y_fneq rfl rfl (fneC hr62 (show can .f32 0 = 0 by kernel_rfl) c63)) ?_
                            refine s_y (v := .bool true) rfl (y_pick_t rfl rfl) ?_
                            refine s_y (v := .bool true) rfl (y_pick_f rfl rfl) ?_
                            refine s_nil ?_
                            refine W_if_t (by decide) rfl ?_
                            refine W_seq ?_
                            refine W_region (by kernel_rfl) ?_
                            refine s_y (v := .bool false) rfl (y_assign rfl) ?_
                            refine s_nil ?_
                            refine W_ret ?_
                            refine ret1 (v := .bool false) rfl rfl rfl ⟨_, rfl, ?_⟩
                            exact ⟨congrArg Value.bool ((field_no (i := i) (by omega) (by omega) (by simp only [edgeB, c12, (decide_eq_false c14), (decide_eq_false c15), (decide_eq_false c16), (decide_eq_true c19), (Bool.eq_false_iff.2 c34), (decide_eq_true c54), (Bool.eq_false_iff.2 c58), (decide_eq_true c59), c63, Bool.and_true, Bool.true_and, Bool.and_false, Bool.false_and, Bool.not_true, Bool.not_false, Bool.or_true, Bool.true_or, Bool.or_false, Bool.false_or])).symm), B.ext⟩
                          · refine s_y (v := .bool false) rfl (y_fneq rfl rfl (fneC hr62 (show can .f32 0 = 0 by kernel_rfl) (Bool.eq_false_iff.2 c63))) ?_
                            refine s_y (v := .bool false) rfl (y_pick_t rfl rfl) ?_
                            refine s_y (v := .bool false) rfl (y_pick_f rfl rfl) ?_
                            refine s_nil ?_
                            refine W_if_f (by decide) rfl ?_
                            refine W_skip ?_
                            refine W_region (by kernel_rfl) ?_
                            refine s_y (v := .int .i64 (i + 1)) rfl (y_add rfl rfl rfl (by omega)) ?_
                            refine s_y (v := .int .i64 (i + 1)) rfl (y_move rfl) ?_
                            refine s_nil ?_
                            refine ⟨⟨_, i + 1, Fits.eq ⟨rfl, rfl, rfl, rfl, trivial⟩, B, (by omega), (by omega), (edge_more hq (by simp only [edgeB, c12, (decide_eq_false c14), (decide_eq_false c15), (decide_eq_false c16), (decide_eq_true c19), (Bool.eq_false_iff.2 c34), (decide_eq_true c54), (Bool.eq_false_iff.2 c58), (decide_eq_true c59), (Bool.eq_false_iff.2 c63), Bool.and_true, Bool.true_and, Bool.and_false, Bool.false_and, Bool.not_true, Bool.not_false, Bool.or_true, Bool.true_or, Bool.or_false, Bool.false_or]))⟩, ?_⟩
                            show (wd * hi - (i + 1)).toNat < (wd * hi - i).toNat
                            omega
                        · refine s_y (v := .bool false) rfl (y_eql rfl rfl (decide_eq_false c59)) ?_
                          refine s_y (v := .bool false) rfl (y_move rfl) ?_
                          refine s_skip rfl ?_
                          refine s_skip rfl ?_
                          refine s_skip rfl ?_
                          refine s_skip rfl ?_
                          refine s_skip rfl ?_
                          refine s_skip rfl ?_
                          refine s_y (v := .bool false) rfl (y_pick_f rfl rfl) ?_
                          refine s_y (v := .bool false) rfl (y_pick_f rfl rfl) ?_
                          refine s_nil ?_
                          refine W_if_f (by decide) rfl ?_
                          refine W_skip ?_
                          refine W_region (by kernel_rfl) ?_
                          refine s_y (v := .int .i64 (i + 1)) rfl (y_add rfl rfl rfl (by omega)) ?_
                          refine s_y (v := .int .i64 (i + 1)) rfl (y_move rfl) ?_
                          refine s_nil ?_
                          refine ⟨⟨_, i + 1, Fits.eq ⟨rfl, rfl, rfl, rfl, trivial⟩, B, (by omega), (by omega), (edge_more hq (by simp only [edgeB, c12, (decide_eq_false c14), (decide_eq_false c15), (decide_eq_false c16), (decide_eq_true c19), (Bool.eq_false_iff.2 c34), (decide_eq_true c54), (Bool.eq_false_iff.2 c58), (decide_eq_false c59), Bool.and_true, Bool.true_and, Bool.and_false, Bool.false_and, Bool.not_true, Bool.not_false, Bool.or_true, Bool.true_or, Bool.or_false, Bool.false_or]))⟩, ?_⟩
                          show (wd * hi - (i + 1)).toNat < (wd * hi - i).toNat
                          omega
                    · refine s_y (v := .bool false) rfl (y_eql rfl rfl (decide_eq_false c54)) ?_
                      refine s_y (v := .bool false) rfl (y_move rfl) ?_
                      refine s_skip rfl ?_
                      refine s_skip rfl ?_
                      refine s_skip rfl ?_
                      refine s_skip rfl ?_
                      refine s_skip rfl ?_
                      refine s_skip rfl ?_
                      refine s_y (v := .bool false) rfl (y_pick_f rfl rfl) ?_
                      refine s_y (v := .bool false) rfl (y_pick_f rfl rfl) ?_
                      refine s_y (v := .bool false) rfl (y_move rfl) ?_
                      refine s_y (v := .int .i64 (i % wd)) rfl (y_move rfl) ?_
                      refine s_y (v := .pointer (some ⟨b1, 0, none⟩)) rfl (y_fld (o := 0) T74.fld_26_0_0 rfl) ?_
                      refine s_y (v := .int .i64 wd) rfl (y_load T74.one_2 rfl ((B.b 1 rfl).cell (j := 0) rfl)) ?_
                      refine s_y (v := .int .i64 (wd - 1)) rfl (y_sub rfl rfl rfl (by omega)) ?_
                      by_cases c64 : (i % wd) = (wd - 1)
                      · refine s_y (v := .bool true) rfl (y_eql rfl rfl (decide_eq_true c64)) ?_
                        refine s_y (v := .bool true) rfl (y_move rfl) ?_
                        refine s_y (v := .pointer (some ⟨b4, 2, none⟩)) rfl (y_fld (o := 0) T74.fld_49_2_2 rfl) ?_
                        refine s_y (v := .slice afy nfy cfy) rfl (y_load T74.one_24 rfl ((B.b 0 rfl).cell (j := 2) rfl)) ?_
                        refine s_y (v := .int .i64 i) rfl (y_move rfl) ?_
                        refine s_y (v := .pointer (some (sat afy ((i).toNat * 1)))) rfl (y_idx T74.sl_24_56_1 rfl rfl ((B.r 6 rfl).addr (by omega)) (by omega) (by omega)) ?_
                        obtain ⟨r66, hr67, hR65⟩ := Rd.atF (B.r 6 rfl) i (by omega) (by omega)
                        refine s_y (v := .float .f32 r66) rfl (y_load T74.one_56 rfl (hR65.cell (i := 0) rfl)) ?_
                        by_cases c68 : fne .f32 (el Xfy i) 0 = true
                        · refine s_y (v := .bool true) rfl (y_fneq rfl rfl (fneC hr67 (show can .f32 0 = 0 by kernel_rfl) c68)) ?_
                          refine s_y (v := .bool true) rfl (y_pick_t rfl rfl) ?_
                          refine s_y (v := .bool true) rfl (y_pick_f rfl rfl) ?_
                          refine s_nil ?_
                          refine W_if_t (by decide) rfl ?_
                          refine W_seq ?_
                          refine W_region (by kernel_rfl) ?_
                          refine s_y (v := .bool false) rfl (y_assign rfl) ?_
                          refine s_nil ?_
                          refine W_ret ?_
                          refine ret1 (v := .bool false) rfl rfl rfl ⟨_, rfl, ?_⟩
                          exact ⟨congrArg Value.bool ((field_no (i := i) (by omega) (by omega) (by simp only [edgeB, c12, (decide_eq_false c14), (decide_eq_false c15), (decide_eq_false c16), (decide_eq_true c19), (Bool.eq_false_iff.2 c34), (decide_eq_false c54), (decide_eq_true c64), c68, Bool.and_true, Bool.true_and, Bool.and_false, Bool.false_and, Bool.not_true, Bool.not_false, Bool.or_true, Bool.true_or, Bool.or_false, Bool.false_or])).symm), B.ext⟩
                        · refine s_y (v := .bool false) rfl (y_fneq rfl rfl (fneC hr67 (show can .f32 0 = 0 by kernel_rfl) (Bool.eq_false_iff.2 c68))) ?_
                          refine s_y (v := .bool false) rfl (y_pick_t rfl rfl) ?_
                          refine s_y (v := .bool false) rfl (y_pick_f rfl rfl) ?_
                          refine s_nil ?_
                          refine W_if_f (by decide) rfl ?_
                          refine W_skip ?_
                          refine W_region (by kernel_rfl) ?_
                          refine s_y (v := .int .i64 (i + 1)) rfl (y_add rfl rfl rfl (by omega)) ?_
                          refine s_y (v := .int .i64 (i + 1)) rfl (y_move rfl) ?_
                          refine s_nil ?_
                          refine ⟨⟨_, i + 1, Fits.eq ⟨rfl, rfl, rfl, rfl, trivial⟩, B, (by omega), (by omega), (edge_more hq (by simp only [edgeB, c12, (decide_eq_false c14), (decide_eq_false c15), (decide_eq_false c16), (decide_eq_true c19), (Bool.eq_false_iff.2 c34), (decide_eq_false c54), (decide_eq_true c64), (Bool.eq_false_iff.2 c68), Bool.and_true, Bool.true_and, Bool.and_false, Bool.false_and, Bool.not_true, Bool.not_false, Bool.or_true, Bool.true_or, Bool.or_false, Bool.false_or]))⟩, ?_⟩
                          show (wd * hi - (i + 1)).toNat < (wd * hi - i).toNat
                          omega
                      · refine s_y (v := .bool false) rfl (y_eql rfl rfl (decide_eq_false c64)) ?_
                        refine s_y (v := .bool false) rfl (y_move rfl) ?_
                        refine s_skip rfl ?_
                        refine s_skip rfl ?_
                        refine s_skip rfl ?_
                        refine s_skip rfl ?_
                        refine s_skip rfl ?_
                        refine s_skip rfl ?_
                        refine s_y (v := .bool false) rfl (y_pick_f rfl rfl) ?_
                        refine s_y (v := .bool false) rfl (y_pick_f rfl rfl) ?_
                        refine s_nil ?_
                        refine W_if_f (by decide) rfl ?_
                        refine W_skip ?_
                        refine W_region (by kernel_rfl) ?_
                        refine s_y (v := .int .i64 (i + 1)) rfl (y_add rfl rfl rfl (by omega)) ?_
                        refine s_y (v := .int .i64 (i + 1)) rfl (y_move rfl) ?_
                        refine s_nil ?_
                        refine ⟨⟨_, i + 1, Fits.eq ⟨rfl, rfl, rfl, rfl, trivial⟩, B, (by omega), (by omega), (edge_more hq (by simp only [edgeB, c12, (decide_eq_false c14), (decide_eq_false c15), (decide_eq_false c16), (decide_eq_true c19), (Bool.eq_false_iff.2 c34), (decide_eq_false c54), (decide_eq_false c64), Bool.and_true, Bool.true_and, Bool.and_false, Bool.false_and, Bool.not_true, Bool.not_false, Bool.or_true, Bool.true_or, Bool.or_false, Bool.false_or]))⟩, ?_⟩
                        show (wd * hi - (i + 1)).toNat < (wd * hi - i).toNat
                        omega
                · refine s_y (v := .bool false) rfl (y_lss rfl rfl (decide_eq_false c19)) ?_
                  refine s_nil ?_
                  refine W_seq ?_
                  refine W_if_f (by decide) rfl ?_
                  refine W_exit ?_
                  refine W_seq ?_
                  refine W_region (by kernel_rfl) ?_
                  refine s_y (v := .bool true) rfl (y_assign rfl) ?_
                  refine s_nil ?_
                  refine W_ret ?_
                  refine ret1 (v := .bool true) rfl rfl rfl ⟨_, rfl, ?_⟩
                  exact ⟨congrArg Value.bool ((field_yes (by assumption) (by omega) (by omega) (by omega) (fun j h0 h1 => hq j h0 (by omega))).symm), B.ext⟩
            · refine W_if_t (by decide) rfl ?_
              refine W_seq ?_
              refine W_region (by kernel_rfl) ?_
              refine s_y (v := .bool true) rfl (y_assign rfl) ?_
              refine s_nil ?_
              refine W_ret ?_
              refine ret1 (v := .bool true) rfl rfl rfl ⟨_, rfl, ?_⟩
              exact ⟨congrArg Value.bool ((field_wrap (by assumption) (by omega) (by omega) (by omega)).symm), B.ext⟩
    · obtain rfl : v10 = .bool false := hv11.trans (congrArg Value.bool (Bool.eq_false_iff.2 c12))
      refine s_y (v := .bool true) rfl (y_not rfl rfl) ?_
      refine s_y (v := .bool true) rfl (y_move rfl) ?_
      refine s_skip rfl ?_
      refine s_skip rfl ?_
      refine s_skip rfl ?_
      refine s_skip rfl ?_
      refine s_skip rfl ?_
      refine s_y (v := .bool true) rfl (y_pick_t rfl rfl) ?_
      refine s_y (v := .bool true) rfl (y_move rfl) ?_
      refine s_skip rfl ?_
      refine s_skip rfl ?_
      refine s_skip rfl ?_
      refine s_skip rfl ?_
      refine s_skip rfl ?_
      refine s_y (v := .bool true) rfl (y_pick_t rfl rfl) ?_
      refine s_y (v := .bool true) rfl (y_move rfl) ?_
      refine s_skip rfl ?_
      refine s_skip rfl ?_
      refine s_skip rfl ?_
      refine s_skip rfl ?_
      refine s_skip rfl ?_
      refine s_y (v := .bool true) rfl (y_pick_t rfl rfl) ?_
      refine s_nil ?_
      refine W_if_t (by decide) rfl ?_
      refine W_seq ?_
      refine W_region (by kernel_rfl) ?_
      refine s_y (v := .bool false) rfl (y_assign rfl) ?_
      refine s_nil ?_
      refine W_ret ?_
      refine ret1 (v := .bool false) rfl rfl rfl ⟨_, rfl, ?_⟩
      exact ⟨congrArg Value.bool (by first | exact (field_n0 (by assumption)).symm | exact (field_n1 (by omega)).symm | exact (field_n2 (by omega)).symm | exact (field_n3 (by omega)).symm), B.ext⟩
  · have hw69 := wrap64_b (wd * hi)
    refine s_y (v := .int .i64 (IntKind.i64.wrap (wd * hi))) rfl (y_mulw rfl rfl) ?_
    refine s_y (v := .int .i64 (IntKind.i64.wrap (wd * hi))) rfl (y_assign rfl) ?_
    refine s_nil ?_
    refine W_seq ?_
    refine W_seq ?_
    refine W_region (by kernel_rfl) ?_
    refine s_y (v := .agg #[.int .i64 wd, .int .i64 hi, .bool wr, .slice asp nsp csp, .slice als nls cls]) rfl (y_loadn (b := b1) (o := 0) (vs := [.int .i64 wd, .int .i64 hi, .bool wr, .slice asp nsp csp, .slice als nls cls]) T74.agg_26_5 rfl rfl ((B.b 1 rfl).cells (o := 0) rfl)) ?_
    refine s_k rfl (k_call T74.fn_19 (c_i_ValidSheet (B.r 2 rfl) (B.r 3 rfl) (by omega) (by omega)) rfl ?_)
    rintro v72 w70 ⟨hv73, e71⟩
    replace B := B.ext0 e71
    clear e71
    have hk74 : ¬ (validS wd hi Xsp Xls = true) := (fun hq => by have hz := (validS_b hq).1.2; omega)
    obtain rfl : v72 = .bool false := hv73.trans (congrArg Value.bool (Bool.eq_false_iff.2 hk74))
    refine s_y (v := .bool true) rfl (y_not rfl rfl) ?_
    refine s_y (v := .bool true) rfl (y_move rfl) ?_
    refine s_skip rfl ?_
    refine s_skip rfl ?_
    refine s_skip rfl ?_
    refine s_skip rfl ?_
    refine s_skip rfl ?_
    refine s_y (v := .bool true) rfl (y_pick_t rfl rfl) ?_
    refine s_y (v := .bool true) rfl (y_move rfl) ?_
    refine s_skip rfl ?_
    refine s_skip rfl ?_
    refine s_skip rfl ?_
    refine s_skip rfl ?_
    refine s_skip rfl ?_
    refine s_y (v := .bool true) rfl (y_pick_t rfl rfl) ?_
    refine s_y (v := .bool true) rfl (y_move rfl) ?_
    refine s_skip rfl ?_
    refine s_skip rfl ?_
    refine s_skip rfl ?_
    refine s_skip rfl ?_
    refine s_skip rfl ?_
    refine s_y (v := .bool true) rfl (y_pick_t rfl rfl) ?_
    refine s_nil ?_
    refine W_if_t (by decide) rfl ?_
    refine W_seq ?_
    refine W_region (by kernel_rfl) ?_
    refine s_y (v := .bool false) rfl (y_assign rfl) ?_
    refine s_nil ?_
    refine W_ret ?_
    refine ret1 (v := .bool false) rfl rfl rfl ⟨_, rfl, ?_⟩
    exact ⟨congrArg Value.bool (by first | exact (field_n0 (by assumption)).symm | exact (field_n1 (by omega)).symm | exact (field_n2 (by omega)).symm | exact (field_n3 (by omega)).symm), B.ext⟩
namespace T79
theorem mx : Try.prog.follows .mixedOrders = true := by kernel_rfl
theorem fld_26_0_0 : fldB Try.prog 26 0 0 = true := by kernel_rfl
theorem fld_26_1_1 : fldB Try.prog 26 1 1 = true := by kernel_rfl
theorem one_2 : oneB Try.prog 2 = true := by kernel_rfl
end T79
set_option maxRecDepth 100000 in
set_option maxHeartbeats 4000000 in
theorem c_i_at {wd : Int} {hi : Int} {wr : Bool} {asp : Option Addr} {nsp : Nat} {csp : Nat} {als : Option Addr} {nls : Nat} {cls : Nat} {x : Int} {y : Int} {w : World} (h1 : 3 ≤ wd) (h2 : wd ≤ 16) (h3 : 3 ≤ hi) (h4 : hi ≤ 16) (h5 : -wd ≤ x) (h6 : x ≤ 1000000) (h7 : -hi ≤ y) (h8 : y ≤ 1000000) :
    Calls Try.prog 79 #[.agg #[.int .i64 wd, .int .i64 hi, .bool wr, .slice asp nsp csp, .slice als nls cls], .int .i64 x, .int .i64 y] w (Rt fun v w' => v = .int .i64 (atI wd hi x y) ∧ Ext0 w w') := by
  have B : Bu w no w [] := Bu.ro All.nil rfl
  refine calls_W (n := 25) Try.func79 rfl rfl (Nat.le_of_ble_eq_true rfl) ?_
  refine W_seq ?_
  refine W_region (by kernel_rfl) ?_
  refine s_k rfl (k_boxN (v := .agg #[.int .i64 wd, .int .i64 hi, .bool wr, .slice asp nsp csp, .slice als nls cls]) (cs := [.int .i64 wd, .int .i64 hi, .bool wr, .slice asp nsp csp, .slice als nls cls]) rfl rfl (fun b1 w2 hN3 => ?_))
  replace B := B.new1 hN3
  clear hN3
  refine s_y (v := .int .i64 0) rfl (y_assign rfl) ?_
  refine s_nil ?_
  refine W_seq ?_
  have B0_8 := B
  refine W_draw (no) T79.mx (by kernel_rfl) (fun w6 e7 => ?_)
  have R9 := Ext.refl (no) w2
  replace R9 := R9.trans (Ext0.any e7)
  replace B := B.ext0 e7
  clear e7
  refine m_y (v := .int .i64 x) 0 rfl (by kernel_rfl) rfl rfl (fun w' e' => y_move rfl) ?_
  refine m_y (v := .pointer (some ⟨b1, 0, none⟩)) 1 rfl (by kernel_rfl) rfl rfl (fun w' e' => y_fld (o := 0) T79.fld_26_0_0 rfl) ?_
  refine m_y (v := .int .i64 wd) 2 rfl (by kernel_rfl) rfl rfl (fun w' e' => y_load T79.one_2 rfl (((B0_8.b 0 rfl).ext0 e').cell (j := 0) rfl)) ?_
  refine m_y (v := .int .i64 (x + wd)) 3 rfl (by kernel_rfl) rfl rfl (fun w' e' => y_add rfl rfl rfl (by omega)) ?_
  refine m_y (v := .pointer (some ⟨b1, 0, none⟩)) 4 rfl (by kernel_rfl) rfl rfl (fun w' e' => y_fld (o := 0) T79.fld_26_0_0 rfl) ?_
  refine m_y (v := .int .i64 wd) 5 rfl (by kernel_rfl) rfl rfl (fun w' e' => y_load T79.one_2 rfl (((B0_8.b 0 rfl).ext0 e').cell (j := 0) rfl)) ?_
  have hm10 := rem_b (x := x + wd) (m := wd) (by omega) (by omega)
  refine m_y (v := .int .i64 ((x + wd) % wd)) 6 rfl (by kernel_rfl) rfl rfl (fun w' e' => y_rem rfl rfl (by omega) (by omega) rfl) ?_
  refine m_y (v := .pointer (some ⟨b1, 0, none⟩)) 7 rfl (by kernel_rfl) rfl rfl (fun w' e' => y_fld (o := 0) T79.fld_26_0_0 rfl) ?_
  refine m_y (v := .int .i64 wd) 8 rfl (by kernel_rfl) rfl rfl (fun w' e' => y_load T79.one_2 rfl (((B0_8.b 0 rfl).ext0 e').cell (j := 0) rfl)) ?_
  refine m_y (v := .int .i64 y) 9 rfl (by kernel_rfl) rfl rfl (fun w' e' => y_move rfl) ?_
  refine m_y (v := .pointer (some ⟨b1, 1, none⟩)) 10 rfl (by kernel_rfl) rfl rfl (fun w' e' => y_fld (o := 0) T79.fld_26_1_1 rfl) ?_
  refine m_y (v := .int .i64 hi) 11 rfl (by kernel_rfl) rfl rfl (fun w' e' => y_load T79.one_2 rfl (((B0_8.b 0 rfl).ext0 e').cell (j := 1) rfl)) ?_
  refine m_y (v := .int .i64 (y + hi)) 12 rfl (by kernel_rfl) rfl rfl (fun w' e' => y_add rfl rfl rfl (by omega)) ?_
  refine m_y (v := .pointer (some ⟨b1, 1, none⟩)) 13 rfl (by kernel_rfl) rfl rfl (fun w' e' => y_fld (o := 0) T79.fld_26_1_1 rfl) ?_
  refine m_y (v := .int .i64 hi) 14 rfl (by kernel_rfl) rfl rfl (fun w' e' => y_load T79.one_2 rfl (((B0_8.b 0 rfl).ext0 e').cell (j := 1) rfl)) ?_
  have hm11 := rem_b (x := y + hi) (m := hi) (by omega) (by omega)
  refine m_y (v := .int .i64 ((y + hi) % hi)) 15 rfl (by kernel_rfl) rfl rfl (fun w' e' => y_rem rfl rfl (by omega) (by omega) rfl) ?_
  have hm12 := mul_rem (a := wd) (x := y + hi) (m := hi) (by omega) (by omega) (by omega) (by omega)
  refine m_y (v := .int .i64 (wd * ((y + hi) % hi))) 16 rfl (by kernel_rfl) rfl rfl (fun w' e' => y_mul rfl rfl rfl (by omega)) ?_
  refine m_y (v := .int .i64 (((x + wd) % wd) + (wd * ((y + hi) % hi)))) 17 rfl (by kernel_rfl) rfl rfl (fun w' e' => y_add rfl rfl rfl (by omega)) ?_
  refine m_y (v := .int .i64 (((x + wd) % wd) + (wd * ((y + hi) % hi)))) 18 rfl (by kernel_rfl) rfl rfl (fun w' e' => y_assign rfl) ?_
  refine m_done (by kernel_rfl) (fun w13 e14 => ?_)
  replace B := B.ext0 e14
  clear e14
  clear B0_8 R9
  refine W_ret ?_
  refine ret1 (v := .int .i64 (((x + wd) % wd) + (wd * ((y + hi) % hi)))) rfl rfl rfl ⟨_, rfl, ?_⟩
  exact ⟨rfl, B.ext⟩
namespace T98
theorem mx : Try.prog.follows .mixedOrders = true := by kernel_rfl
theorem agg_26_5 : aggB Try.prog 26 5 = true := by kernel_rfl
theorem fn_79 : fnB Try.prog 79 = true := by kernel_rfl
theorem one_56 : oneB Try.prog 56 = true := by kernel_rfl
theorem sl_24_56_1 : slB Try.prog 24 56 1 = true := by kernel_rfl
theorem slt_24 : SlT Try.prog 24 56 1 4 (.float .f32 0) := ⟨by kernel_rfl, by kernel_rfl, rfl, by decide⟩
end T98
set_option maxRecDepth 100000 in
set_option maxHeartbeats 4000000 in
theorem c_i_moved {wd : Int} {hi : Int} {wr : Bool} {asp : Option Addr} {nsp : Nat} {csp : Nat} {als : Option Addr} {nls : Nat} {cls : Nat} {a : Option Addr} {n : Nat} {c : Nat} {X : List Nat} {W : Int} {H : Int} {W H : Int} {f : Nat} {us xs : List Value} {FU FV : Int → Int → Int} {w : World} (q : Rd w kF a n X) (hfB : fnB Try.prog f = true) (hF : ∀ x y {w1}, Ext0 w w1 → 0 ≤ x → x < W → 0 ≤ y → y < H → Calls Try.prog f (us ++ ([.int .i64 x, .int .i64 y] : List Value) ++ xs).toArray w1 (Rt fun v w2 => v = .tuple #[.int .i64 (FU x y), .int .i64 (FV x y)] ∧ Ext0 w1 w2)) (hR : ∀ x y, 0 ≤ x → x < W → 0 ≤ y → y < H → (-wd ≤ FU x y ∧ FU x y ≤ 1000000) ∧ (-hi ≤ FV x y ∧ FV x y ≤ 1000000)) (h1 : 3 ≤ wd) (h2 : wd ≤ 16) (h3 : 3 ≤ hi) (h4 : hi ≤ 16) (h5 : 0 < W) (h6 : W ≤ 16) (h7 : 0 < H) (h8 : H ≤ 16) (hn : (n : Int) = wd * hi) :
    Calls Try.prog 98 #[.agg #[.int .i64 wd, .int .i64 hi, .bool wr, .slice asp nsp csp, .slice als nls cls], .slice a n c, .int .i64 W, .int .i64 H, .func (.func f) us.toArray xs.toArray] w (Rt fun v w' => ∃ (a1 : Option Addr) (c1 : Nat), v = .slice a1 ((W * H).toNat) c1 ∧ New w w' [.ow kF a1 ((W * H).toNat) c1 56 (movL W H (fun xp yp => atI wd hi (FU xp yp) (FV xp yp)) X)]) := by
  have hl := q.len
  have B : Bu w no w [.rd kF a n X] := Bu.ro (All.cons q All.nil) rfl
  have hwh := mul16 (And.intro (And.intro h1 h2) (And.intro h3 h4))
  refine calls_W (n := 45) Try.func98 rfl rfl (Nat.le_of_ble_eq_true rfl) ?_
  refine W_seq ?_
  refine W_region (by kernel_rfl) ?_
  refine s_k rfl (k_boxN (v := .agg #[.int .i64 wd, .int .i64 hi, .bool wr, .slice asp nsp csp, .slice als nls cls]) (cs := [.int .i64 wd, .int .i64 hi, .bool wr, .slice asp nsp csp, .slice als nls cls]) rfl rfl (fun b1 w2 hN3 => ?_))
  replace B := B.new1 hN3
  clear hN3
  refine s_y (v := .slice none 0 0) rfl (y_assign rfl) ?_
  refine s_nil ?_
  refine W_seq ?_
  refine W_region (by kernel_rfl) ?_
  refine s_k rfl (k_bsliceO (k := kF) (n := 0) (cells := #[]) (X := []) T98.slt_24 (by decide) (by first | rfl | kernel_rfl) (rfl : Reps kF [] []) rfl (fun b4 w5 hN6 => ?_))
  replace B := B.new1 hN6
  clear hN6
  refine s_y (v := .slice (some ⟨b4, 0, none⟩) 0 0) rfl (y_assign rfl) ?_
  refine s_nil ?_
  refine W_seq ?_
  refine W_seq ?_
  refine W_region (by kernel_rfl) ?_
  refine s_y (v := .int .i64 H) rfl (y_move rfl) ?_
  refine s_y (v := .int .i64 0) rfl (y_move rfl) ?_
  refine s_nil ?_
  refine W_block ?_
  refine W_loop (fun ρ' w' => ∃ (ρ1 : Env) (py : Int) (a0 : Option Addr) (cc0 : Nat) (nn0 : Nat), ρ' = updL ρ1 [(1, .slice a n c), (2, .int .i64 W), (4, .func (.func f) us.toArray xs.toArray), (5, .pointer (some ⟨b1, 0, none⟩)), (10, .slice none 0 0), (11, .slice a0 nn0 cc0), (17, .int .i64 H), (18, .int .i64 py)] ∧ Bu w no w' [.ow kF a0 nn0 cc0 56 (tab (W * py) (fun i => el X ((fun xp yp => atI wd hi (FU xp yp) (FV xp yp)) (i % W) (i / W)))), .blk b1 [.int .i64 wd, .int .i64 hi, .bool wr, .slice asp nsp csp, .slice als nls cls] 26, .rd kF a n X] ∧ (0 ≤ py) ∧ (py ≤ H)) (fun ρ' _ => (H - iv (ρ' 18)).toNat) ?_ ?_
  · replace B : Bu w no w5 [.ow kF (some ⟨b4, 0, none⟩) 0 0 56 (tab (W * 0) (fun i => el X ((fun xp yp => atI wd hi (FU xp yp) (FV xp yp)) (i % W) (i / W)))), .blk b1 [.int .i64 wd, .int .i64 hi, .bool wr, .slice asp nsp csp, .slice als nls cls] 26, .rd kF a n X] := B.castX 0 rfl rfl (by rw [Int.mul_zero]; rfl)
    exact ⟨_, 0, (some ⟨b4, 0, none⟩), 0, 0, Fits.eq ⟨rfl, rfl, rfl, rfl, rfl, rfl, rfl, rfl, trivial⟩, B, (Int.le_refl _), (by omega)⟩
  · clear B; rintro _ w7 ⟨ρ8, py, a0, cc0, nn0, rfl, B, h0py, h1py⟩
    have hnn0 := (B.o 0 rfl).len
    rw [tab_length] at hnn0
    have hwy := mulb (a := W) (b := py) (by omega) (by omega) (by omega) (by omega)
    refine W_seq ?_
    refine W_region (by kernel_rfl) ?_
    by_cases c9 : py < H
    · refine s_y (v := .bool true) rfl (y_lss rfl rfl (decide_eq_true c9)) ?_
      refine s_nil ?_
      refine W_seq ?_
      refine W_if_t (by decide) rfl ?_
      refine W_skip ?_
      refine W_seq ?_
      refine W_block ?_
      refine W_seq ?_
      refine W_region (by kernel_rfl) ?_
      refine s_y (v := .int .i64 py) rfl (y_move rfl) ?_
      refine s_y (v := .int .i64 py) rfl (y_assign rfl) ?_
      refine s_nil ?_
      refine W_seq ?_
      refine W_region (by kernel_rfl) ?_
      refine s_y (v := .int .i64 W) rfl (y_move rfl) ?_
      refine s_y (v := .int .i64 0) rfl (y_move rfl) ?_
      refine s_nil ?_
      refine W_block ?_
      refine W_loop (fun ρ' w' => ∃ (ρ1 : Env) (px : Int) (a9 : Option Addr) (cc9 : Nat) (nn9 : Nat), ρ' = updL ρ1 [(1, .slice a n c), (2, .int .i64 W), (4, .func (.func f) us.toArray xs.toArray), (5, .pointer (some ⟨b1, 0, none⟩)), (10, .slice none 0 0), (11, .slice a9 nn9 cc9), (12, .int .i64 py), (17, .int .i64 H), (18, .int .i64 py), (19, .bool true), (20, .int .i64 py), (21, .int .i64 W), (22, .int .i64 px)] ∧ Bu w no w' [.ow kF a9 nn9 cc9 56 (tab (W * py + px) (fun i => el X ((fun xp yp => atI wd hi (FU xp yp) (FV xp yp)) (i % W) (i / W)))), .blk b1 [.int .i64 wd, .int .i64 hi, .bool wr, .slice asp nsp csp, .slice als nls cls] 26, .rd kF a n X] ∧ (0 ≤ px) ∧ (px ≤ W)) (fun ρ' _ => (W - iv (ρ' 22)).toNat) ?_ ?_
      · replace B : Bu w no w7 [.ow kF a0 nn0 cc0 56 (tab (W * py + 0) (fun i => el X ((fun xp yp => atI wd hi (FU xp yp) (FV xp yp)) (i % W) (i / W)))), .blk b1 [.int .i64 wd, .int .i64 hi, .bool wr, .slice asp nsp csp, .slice als nls cls] 26, .rd kF a n X] := B.castX 0 rfl rfl (by rw [Int.add_zero])
        exact ⟨_, 0, a0, cc0, nn0, Fits.eq ⟨rfl, rfl, rfl, rfl, rfl, rfl, rfl, rfl, rfl, rfl, rfl, rfl, rfl, trivial⟩, B, (Int.le_refl _), (by omega)⟩
      · clear B; rintro _ w10 ⟨ρ11, px, a9, cc9, nn9, rfl, B, h0px, h1px⟩
        have hnn9 := (B.o 0 rfl).len
        rw [tab_length] at hnn9
        refine W_seq ?_
        refine W_region (by kernel_rfl) ?_
        by_cases c12 : px < W
        · refine s_y (v := .bool true) rfl (y_lss rfl rfl (decide_eq_true c12)) ?_
          refine s_nil ?_
          refine W_seq ?_
          refine W_if_t (by decide) rfl ?_
          refine W_skip ?_
          refine W_seq ?_
          refine W_block ?_
          refine W_seq ?_
          refine W_region (by kernel_rfl) ?_
          refine s_y (v := .int .i64 px) rfl (y_move rfl) ?_
          refine s_y (v := .int .i64 px) rfl (y_assign rfl) ?_
          refine s_nil ?_
          refine W_seq ?_
          refine W_region (by kernel_rfl) ?_
          refine s_y (v := .func (.func f) us.toArray xs.toArray) rfl (y_move rfl) ?_
          refine s_y (v := .int .i64 px) rfl (y_move rfl) ?_
          refine s_y (v := .int .i64 py) rfl (y_move rfl) ?_
          refine s_k rfl (k_callv hfB rfl (hF px py B.ext (by omega) (by omega) (by omega) (by omega)) rfl ?_)
          rintro _ w13 ⟨rfl, e14⟩
          replace B := B.ext0 e14
          clear e14
          have hr15 := hR px py (by omega) (by omega) (by omega) (by omega)
          refine s_y (v := .tuple #[.int .i64 (FU px py), .int .i64 (FV px py)]) rfl (y_move rfl) ?_
          refine s_y (v := .int .i64 (FU px py)) rfl (y_extract rfl rfl) ?_
          refine s_y (v := .int .i64 (FV px py)) rfl (y_extract rfl rfl) ?_
          refine s_y (v := .int .i64 (FU px py)) rfl (y_assign rfl) ?_
          refine s_y (v := .int .i64 (FV px py)) rfl (y_assign rfl) ?_
          refine s_nil ?_
          refine W_region (by kernel_rfl) ?_
          refine s_y (v := .slice a9 nn9 cc9) rfl (y_move rfl) ?_
          refine s_y (v := .slice a n c) rfl (y_move rfl) ?_
          refine s_y (v := .agg #[.int .i64 wd, .int .i64 hi, .bool wr, .slice asp nsp csp, .slice als nls cls]) rfl (y_loadn (b := b1) (o := 0) (vs := [.int .i64 wd, .int .i64 hi, .bool wr, .slice asp nsp csp, .slice als nls cls]) T98.agg_26_5 rfl rfl ((B.b 1 rfl).cells (o := 0) rfl)) ?_
          refine s_y (v := .int .i64 (FU px py)) rfl (y_move rfl) ?_
          refine s_y (v := .int .i64 (FV px py)) rfl (y_move rfl) ?_
          refine s_k rfl (k_call T98.fn_79 (c_i_at (by omega) (by omega) (by omega) (by omega) (by omega) (by omega) (by omega) (by omega)) rfl ?_)
          rintro _ w16 ⟨rfl, e17⟩
          replace B := B.ext0 e17
          clear e17
          have hat18 := atI_b (wd := wd) (hi := hi) (x := FU px py) (y := FV px py) (by omega) (by omega)
          refine s_y (v := .pointer (some (sat a ((atI wd hi (FU px py) (FV px py)).toNat * 1)))) rfl (y_idx T98.sl_24_56_1 rfl rfl ((B.r 2 rfl).addr (by omega)) (by omega) (by omega)) ?_
          obtain ⟨r20, hr21, hR19⟩ := Rd.atF (B.r 2 rfl) (atI wd hi (FU px py) (FV px py)) (by omega) (by omega)
          refine s_y (v := .float .f32 r20) rfl (y_load T98.one_56 rfl (hR19.cell (i := 0) rfl)) ?_
          refine s_k rfl (k_bsliceO (k := kF) (n := 1) (cells := #[.float .f32 r20]) (X := [el X (atI wd hi (FU px py) (FV px py))]) T98.slt_24 (by decide) (by first | rfl | kernel_rfl) (reps_cons (c := [.float .f32 r20]) ⟨_, rfl, hr21⟩ (rfl : Reps kF [] [])) rfl (fun b22 w23 hN24 => ?_))
          replace B := B.new1 hN24
          clear hN24
          refine s_k rfl (k_appO (k := kF) T98.slt_24 rfl rfl rfl (B.o 1 rfl) (B.o 0 rfl).rd (by omega) (by unfold maxLen; omega) (fun a25 c26 w27 hU28 => ?_))
          replace B : Bu w no w27 [.ow kF a25 (nn9 + 1) c26 56 ((tab (W * py + px) (fun i => el X ((fun xp yp => atI wd hi (FU xp yp) (FV xp yp)) (i % W) (i / W)))) ++ ([el X (atI wd hi (FU px py) (FV px py))])), .ow kF (some ⟨b22, 0, none⟩) 1 1 56 ([el X (atI wd hi (FU px py) (FV px py))]), .blk b1 [.int .i64 wd, .int .i64 hi, .bool wr, .slice asp nsp csp, .slice als nls cls] 26, .rd kF a n X] := B.upd [1] rfl hU28
          clear hU28
          refine s_y (v := .slice a25 (nn9 + 1) c26) rfl (y_assign rfl) ?_
          refine s_nil ?_
          refine W_region (by kernel_rfl) ?_
          refine s_y (v := .int .i64 (px + 1)) rfl (y_add rfl rfl rfl (by omega)) ?_
          refine s_y (v := .int .i64 (px + 1)) rfl (y_move rfl) ?_
          refine s_nil ?_
          replace B : Bu w no w27 [.ow kF a25 (nn9 + 1) c26 56 (tab (W * py + (px + 1)) (fun i => el X ((fun xp yp => atI wd hi (FU xp yp) (FV xp yp)) (i % W) (i / W)))), .ow kF (some ⟨b22, 0, none⟩) 1 1 56 ([el X (atI wd hi (FU px py) (FV px py))]), .blk b1 [.int .i64 wd, .int .i64 hi, .bool wr, .slice asp nsp csp, .slice als nls cls] 26, .rd kF a n X] := B.castX 0 rfl rfl (tab_row (g := fun p q => el X ((fun xp yp => atI wd hi (FU xp yp) (FV xp yp)) p q)) (by omega) (by omega) (by omega))
          refine ⟨⟨_, px + 1, a25, c26, nn9 + 1, Fits.eq ⟨rfl, rfl, rfl, rfl, rfl, rfl, rfl, rfl, rfl, rfl, rfl, rfl, rfl, trivial⟩, (B.pick [0, 2, 3] rfl rfl), (by omega), (by omega)⟩, ?_⟩
          show (W - (px + 1)).toNat < (W - px).toNat
          omega
        · refine s_y (v := .bool false) rfl (y_lss rfl rfl (decide_eq_false c12)) ?_
          refine s_nil ?_
          refine W_seq ?_
          refine W_if_f (by decide) rfl ?_
          refine W_exit ?_
          refine W_region (by kernel_rfl) ?_
          refine s_y (v := .int .i64 (py + 1)) rfl (y_add rfl rfl rfl (by omega)) ?_
          refine s_y (v := .int .i64 (py + 1)) rfl (y_move rfl) ?_
          refine s_nil ?_
          replace B : Bu w no w10 [.ow kF a9 nn9 cc9 56 (tab (W * (py + 1)) (fun i => el X ((fun xp yp => atI wd hi (FU xp yp) (FV xp yp)) (i % W) (i / W)))), .blk b1 [.int .i64 wd, .int .i64 hi, .bool wr, .slice asp nsp csp, .slice als nls cls] 26, .rd kF a n X] := B.castX 0 rfl rfl (congrArg (fun q => tab q _) (show W * py + px = W * (py + 1) by rw [Int.mul_add, Int.mul_one]; omega))
          refine ⟨⟨_, py + 1, a9, cc9, nn9, Fits.eq ⟨rfl, rfl, rfl, rfl, rfl, rfl, rfl, rfl, trivial⟩, B, (by omega), (by omega)⟩, ?_⟩
          show (H - (py + 1)).toNat < (H - py).toNat
          omega
    · refine s_y (v := .bool false) rfl (y_lss rfl rfl (decide_eq_false c9)) ?_
      refine s_nil ?_
      refine W_seq ?_
      refine W_if_f (by decide) rfl ?_
      refine W_exit ?_
      refine W_seq ?_
      refine W_region (by kernel_rfl) ?_
      refine s_y (v := .slice a0 nn0 cc0) rfl (y_move rfl) ?_
      refine s_y (v := .slice a0 nn0 cc0) rfl (y_assign rfl) ?_
      refine s_nil ?_
      refine W_ret ?_
      refine ret1 (v := .slice a0 nn0 cc0) rfl rfl rfl ⟨_, rfl, ?_⟩
      obtain rfl : H = py := by omega
      replace B : Bu w no w7 [.ow kF a0 ((W * H).toNat) cc0 56 (movL W H (fun xp yp => atI wd hi (FU xp yp) (FV xp yp)) X), .blk b1 [.int .i64 wd, .int .i64 hi, .bool wr, .slice asp nsp csp, .slice als nls cls] 26, .rd kF a n X] := B.castX 0 rfl (by omega) rfl
      exact ⟨_, _, (by rw [(show nn0 = (W * H).toNat from (by omega))]), B.give [0] rfl rfl rfl⟩
namespace T103
theorem mx : Try.prog.follows .mixedOrders = true := by kernel_rfl
end T103
set_option maxRecDepth 100000 in
set_option maxHeartbeats 4000000 in
theorem c_i_exchanged {x : Int} {y : Int} {w : World} :
    Calls Try.prog 103 #[.int .i64 x, .int .i64 y] w (Rt fun v w' => v = .tuple #[.int .i64 y, .int .i64 x] ∧ Ext0 w w') := by
  have B : Bu w no w [] := Bu.ro All.nil rfl
  refine calls_W (n := 8) Try.func103 rfl rfl (Nat.le_of_ble_eq_true rfl) ?_
  refine W_seq ?_
  refine W_region (by kernel_rfl) ?_
  refine s_y (v := .int .i64 0) rfl (y_assign rfl) ?_
  refine s_y (v := .int .i64 0) rfl (y_assign rfl) ?_
  refine s_nil ?_
  refine W_seq ?_
  refine W_region (by kernel_rfl) ?_
  refine s_y (v := .int .i64 y) rfl (y_move rfl) ?_
  refine s_y (v := .int .i64 x) rfl (y_move rfl) ?_
  refine s_y (v := .int .i64 y) rfl (y_assign rfl) ?_
  refine s_y (v := .int .i64 x) rfl (y_assign rfl) ?_
  refine s_nil ?_
  refine W_ret ?_
  refine ret2 (v1 := .int .i64 y) (v2 := .int .i64 x) rfl rfl rfl rfl rfl ⟨_, rfl, ?_⟩
  exact ⟨rfl, B.ext⟩
namespace T91
theorem mx : Try.prog.follows .mixedOrders = true := by kernel_rfl
theorem one_56 : oneB Try.prog 56 = true := by kernel_rfl
theorem sl_24_56_1 : slB Try.prog 24 56 1 = true := by kernel_rfl
theorem slt_24 : SlT Try.prog 24 56 1 4 (.float .f32 0) := ⟨by kernel_rfl, by kernel_rfl, rfl, by decide⟩
end T91
set_option maxRecDepth 100000 in
set_option maxHeartbeats 4000000 in
theorem c_i_both {aa : Option Addr} {na : Nat} {ca : Nat} {Xa : List Nat} {ab : Option Addr} {nb : Nat} {cb : Nat} {Xb : List Nat} {f : Nat} {us xs : List Value} {FM : Nat → Nat → Nat} {w : World} (qa : Rd w kF aa na Xa) (qb : Rd w kF ab nb Xb) (hfB : fnB Try.prog f = true) (hF : ∀ r R r2 R2 {w1}, Ext0 w w1 → can .f32 r = R → can .f32 r2 = R2 → Calls Try.prog f (us ++ ([.float .f32 r, .float .f32 r2] : List Value) ++ xs).toArray w1 (Rt fun v w2 => (∃ q, v = .float .f32 q ∧ can .f32 q = FM R R2) ∧ Ext0 w1 w2)) (hab : nb = na) (hb : na ≤ 1048576) :
    Calls Try.prog 91 #[.slice aa na ca, .slice ab nb cb, .func (.func f) us.toArray xs.toArray] w (Rt fun v w' => ∃ (a1 : Option Addr) (c1 : Nat), v = .slice a1 na c1 ∧ New w w' [.ow kF a1 na c1 56 (zipL na FM Xa Xb)]) := by
  have hla := qa.len
  have hlb := qb.len
  have B : Bu w no w [.rd kF aa na Xa, .rd kF ab nb Xb] := Bu.ro (All.cons qa (All.cons qb All.nil)) rfl
  refine calls_W (n := 30) Try.func91 rfl rfl (Nat.le_of_ble_eq_true rfl) ?_
  refine W_seq ?_
  refine W_region (by kernel_rfl) ?_
  refine s_y (v := .slice none 0 0) rfl (y_assign rfl) ?_
  refine s_nil ?_
  refine W_seq ?_
  refine W_region (by kernel_rfl) ?_
  refine s_k rfl (k_bsliceO (k := kF) (n := 0) (cells := #[]) (X := []) T91.slt_24 (by decide) (by first | rfl | kernel_rfl) (rfl : Reps kF [] []) rfl (fun b1 w2 hN3 => ?_))
  replace B := B.new1 hN3
  clear hN3
  refine s_y (v := .slice (some ⟨b1, 0, none⟩) 0 0) rfl (y_assign rfl) ?_
  refine s_nil ?_
  refine W_seq ?_
  refine W_seq ?_
  refine W_region (by kernel_rfl) ?_
  refine s_y (v := .slice aa na ca) rfl (y_move rfl) ?_
  refine s_y (v := .int .i64 ((na : Nat) : Int)) rfl (y_len T91.sl_24_56_1 rfl rfl) ?_
  refine s_y (v := .int .i64 0) rfl (y_move rfl) ?_
  refine s_nil ?_
  refine W_block ?_
  refine W_loop (fun ρ' w' => ∃ (ρ1 : Env) (k : Int) (a0 : Option Addr) (cc0 : Nat) (nn0 : Nat), ρ' = updL ρ1 [(1, .slice ab nb cb), (2, .func (.func f) us.toArray xs.toArray), (6, .slice none 0 0), (7, .slice a0 nn0 cc0), (11, .slice aa na ca), (12, .int .i64 ((na : Nat) : Int)), (13, .int .i64 k)] ∧ Bu w no w' [.ow kF a0 nn0 cc0 56 (tab k (fun i => FM (el Xa i) (el Xb i))), .rd kF aa na Xa, .rd kF ab nb Xb] ∧ (0 ≤ k) ∧ (k ≤ (na : Int))) (fun ρ' _ => ((na : Int) - iv (ρ' 13)).toNat) ?_ ?_
  · replace B : Bu w no w2 [.ow kF (some ⟨b1, 0, none⟩) 0 0 56 (tab 0 (fun i => FM (el Xa i) (el Xb i))), .rd kF aa na Xa, .rd kF ab nb Xb] := B.castX 0 rfl rfl rfl
    exact ⟨_, 0, (some ⟨b1, 0, none⟩), 0, 0, Fits.eq ⟨rfl, rfl, rfl, rfl, rfl, rfl, rfl, trivial⟩, B, (Int.le_refl _), (by omega)⟩
  · clear B; rintro _ w4 ⟨ρ5, k, a0, cc0, nn0, rfl, B, h0k, h1k⟩
    have hnn0 := (B.o 0 rfl).len
    rw [tab_length] at hnn0
    refine W_seq ?_
    refine W_region (by kernel_rfl) ?_
    by_cases c6 : k < ((na : Nat) : Int)
    · refine s_y (v := .bool true) rfl (y_lss rfl rfl (decide_eq_true c6)) ?_
      refine s_nil ?_
      refine W_seq ?_
      refine W_if_t (by decide) rfl ?_
      refine W_skip ?_
      refine W_seq ?_
      refine W_block ?_
      refine W_seq ?_
      refine W_region (by kernel_rfl) ?_
      refine s_y (v := .int .i64 k) rfl (y_move rfl) ?_
      refine s_y (v := .pointer (some (sat aa ((k).toNat * 1)))) rfl (y_idx T91.sl_24_56_1 rfl rfl ((B.r 1 rfl).addr (by omega)) (by omega) (by omega)) ?_
      obtain ⟨r8, hr9, hR7⟩ := Rd.atF (B.r 1 rfl) k (by omega) (by omega)
      refine s_y (v := .float .f32 r8) rfl (y_load T91.one_56 rfl (hR7.cell (i := 0) rfl)) ?_
      refine s_y (v := .int .i64 k) rfl (y_assign rfl) ?_
      refine s_y (v := .float .f32 r8) rfl (y_assign rfl) ?_
      refine s_nil ?_
      refine W_region (by kernel_rfl) ?_
      refine s_y (v := .slice a0 nn0 cc0) rfl (y_move rfl) ?_
      refine s_y (v := .func (.func f) us.toArray xs.toArray) rfl (y_move rfl) ?_
      refine s_y (v := .float .f32 r8) rfl (y_move rfl) ?_
      refine s_y (v := .slice ab nb cb) rfl (y_move rfl) ?_
      refine s_y (v := .int .i64 k) rfl (y_move rfl) ?_
      refine s_y (v := .pointer (some (sat ab ((k).toNat * 1)))) rfl (y_idx T91.sl_24_56_1 rfl rfl ((B.r 2 rfl).addr (by omega)) (by omega) (by omega)) ?_
      obtain ⟨r11, hr12, hR10⟩ := Rd.atF (B.r 2 rfl) k (by omega) (by omega)
      refine s_y (v := .float .f32 r11) rfl (y_load T91.one_56 rfl (hR10.cell (i := 0) rfl)) ?_
      refine s_k rfl (k_callv hfB rfl (hF r8 (el Xa k) r11 (el Xb k) B.ext hr9 hr12) rfl ?_)
      rintro _ w13 ⟨⟨r15, rfl, hr16⟩, e14⟩
      replace B := B.ext0 e14
      clear e14
      refine s_k rfl (k_bsliceO (k := kF) (n := 1) (cells := #[.float .f32 r15]) (X := [FM (el Xa k) (el Xb k)]) T91.slt_24 (by decide) (by first | rfl | kernel_rfl) (reps_cons (c := [.float .f32 r15]) ⟨_, rfl, hr16⟩ (rfl : Reps kF [] [])) rfl (fun b17 w18 hN19 => ?_))
      replace B := B.new1 hN19
      clear hN19
      refine s_k rfl (k_appO (k := kF) T91.slt_24 rfl rfl rfl (B.o 1 rfl) (B.o 0 rfl).rd (by omega) (by unfold maxLen; omega) (fun a20 c21 w22 hU23 => ?_))
      replace B : Bu w no w22 [.ow kF a20 (nn0 + 1) c21 56 ((tab k (fun i => FM (el Xa i) (el Xb i))) ++ ([FM (el Xa k) (el Xb k)])), .ow kF (some ⟨b17, 0, none⟩) 1 1 56 ([FM (el Xa k) (el Xb k)]), .rd kF aa na Xa, .rd kF ab nb Xb] := B.upd [1] rfl hU23
      clear hU23
      refine s_y (v := .slice a20 (nn0 + 1) c21) rfl (y_assign rfl) ?_
      refine s_nil ?_
      refine W_region (by kernel_rfl) ?_
      refine s_y (v := .int .i64 (k + 1)) rfl (y_add rfl rfl rfl (by omega)) ?_
      refine s_y (v := .int .i64 (k + 1)) rfl (y_move rfl) ?_
      refine s_nil ?_
      replace B : Bu w no w22 [.ow kF a20 (nn0 + 1) c21 56 (tab (k + 1) (fun i => FM (el Xa i) (el Xb i))), .ow kF (some ⟨b17, 0, none⟩) 1 1 56 ([FM (el Xa k) (el Xb k)]), .rd kF aa na Xa, .rd kF ab nb Xb] := B.castX 0 rfl rfl (tab_snoc (g := fun i => FM (el Xa i) (el Xb i)) (by omega) rfl)
      refine ⟨⟨_, k + 1, a20, c21, nn0 + 1, Fits.eq ⟨rfl, rfl, rfl, rfl, rfl, rfl, rfl, trivial⟩, (B.pick [0, 2, 3] rfl rfl), (by omega), (by omega)⟩, ?_⟩
      show ((na : Int) - (k + 1)).toNat < ((na : Int) - k).toNat
      omega
    · refine s_y (v := .bool false) rfl (y_lss rfl rfl (decide_eq_false c6)) ?_
      refine s_nil ?_
      refine W_seq ?_
      refine W_if_f (by decide) rfl ?_
      refine W_exit ?_
      refine W_seq ?_
      refine W_region (by kernel_rfl) ?_
      refine s_y (v := .slice a0 nn0 cc0) rfl (y_move rfl) ?_
      refine s_y (v := .slice a0 nn0 cc0) rfl (y_assign rfl) ?_
      refine s_nil ?_
      refine W_ret ?_
      refine ret1 (v := .slice a0 nn0 cc0) rfl rfl rfl ⟨_, rfl, ?_⟩
      obtain rfl : k = (na : Int) := by omega
      replace B : Bu w no w4 [.ow kF a0 na cc0 56 (zipL na FM Xa Xb), .rd kF aa na Xa, .rd kF ab nb Xb] := B.castX 0 rfl (by omega) rfl
      exact ⟨_, _, (by rw [(show nn0 = na from (by omega))]), B.give [0] rfl rfl rfl⟩
namespace T116
theorem mx : Try.prog.follows .mixedOrders = true := by kernel_rfl
end T116
set_option maxRecDepth 100000 in
set_option maxHeartbeats 4000000 in
theorem c_i_opposites_1 {r : Nat} {R : Nat} {r2 : Nat} {R2 : Nat} {w : World} (h1 : can .f32 r = R) (h2 : can .f32 r2 = R2) :
    Calls Try.prog 116 #[.float .f32 r, .float .f32 r2] w (Rt fun v w' => (∃ r, v = .float .f32 r ∧ can .f32 r = fneg .f32 R) ∧ Ext0 w w') := by
  have B : Bu w no w [] := Bu.ro All.nil rfl
  refine calls_W (n := 7) Try.func116 rfl rfl (Nat.le_of_ble_eq_true rfl) ?_
  refine W_seq ?_
  refine W_region (by kernel_rfl) ?_
  refine s_y (v := .float .f32 0) rfl (y_assign rfl) ?_
  refine s_nil ?_
  refine W_seq ?_
  refine W_region (by kernel_rfl) ?_
  refine s_y (v := .float .f32 r) rfl (y_move rfl) ?_
  refine s_y (v := .float .f32 (Op.negFloat .f32 r)) rfl (y_fneg rfl) ?_
  refine s_y (v := .float .f32 (Op.negFloat .f32 r)) rfl (y_assign rfl) ?_
  refine s_nil ?_
  refine W_ret ?_
  refine ret1 (v := .float .f32 (Op.negFloat .f32 r)) rfl rfl rfl ⟨_, rfl, ?_⟩
  exact ⟨⟨_, rfl, (negC h1)⟩, B.ext⟩
namespace T101
theorem mx : Try.prog.follows .mixedOrders = true := by kernel_rfl
theorem fn_116 : fnB Try.prog 116 = true := by kernel_rfl
theorem fn_91 : fnB Try.prog 91 = true := by kernel_rfl
end T101
set_option maxRecDepth 100000 in
set_option maxHeartbeats 4000000 in
theorem c_i_opposites {a : Option Addr} {n : Nat} {c : Nat} {X : List Nat} {w : World} (q : Rd w kF a n X) (hb : n ≤ 1048576) :
    Calls Try.prog 101 #[.slice a n c] w (Rt fun v w' => ∃ (a1 : Option Addr) (c1 : Nat), v = .slice a1 n c1 ∧ New w w' [.ow kF a1 n c1 56 (negL n X)]) := by
  have hl := q.len
  have B : Bu w no w [.rd kF a n X] := Bu.ro (All.cons q All.nil) rfl
  refine calls_W (n := 6) Try.func101 rfl rfl (Nat.le_of_ble_eq_true rfl) ?_
  refine W_seq ?_
  refine W_region (by kernel_rfl) ?_
  refine s_y (v := .slice none 0 0) rfl (y_assign rfl) ?_
  refine s_nil ?_
  refine W_seq ?_
  refine W_region (by kernel_rfl) ?_
  refine s_y (v := .slice a n c) rfl (y_move rfl) ?_
  refine s_y (v := .slice a n c) rfl (y_move rfl) ?_
  refine s_k rfl (k_call T101.fn_91 (c_i_both (f := 116) (us := []) (xs := []) (FM := (fun a _ => fneg .f32 a)) (B.r 0 rfl) (B.r 0 rfl) T101.fn_116 (fun r R r2 R2 w1 he h1 h2 => (c_i_opposites_1 h1 h2)) rfl (by omega)) rfl ?_)
  rintro _ w1 ⟨a2, c3, rfl, hN4⟩
  replace B := B.new1 hN4
  clear hN4
  refine s_y (v := .slice a2 n c3) rfl (y_assign rfl) ?_
  refine s_nil ?_
  refine W_ret ?_
  refine ret1 (v := .slice a2 n c3) rfl rfl rfl ⟨_, rfl, ?_⟩
  replace B : Bu w no w1 [.ow kF a2 n c3 56 (negL n X), .rd kF a n X] := B.castX 0 rfl rfl rfl
  exact ⟨_, _, rfl, B.give [0] rfl rfl rfl⟩
namespace T60
theorem mx : Try.prog.follows .mixedOrders = true := by kernel_rfl
theorem agg_26_5 : aggB Try.prog 26 5 = true := by kernel_rfl
theorem agg_49_3 : aggB Try.prog 49 3 = true := by kernel_rfl
theorem fld_26_0_0 : fldB Try.prog 26 0 0 = true := by kernel_rfl
theorem fld_26_1_1 : fldB Try.prog 26 1 1 = true := by kernel_rfl
theorem fld_49_0_0 : fldB Try.prog 49 0 0 = true := by kernel_rfl
theorem fld_49_1_1 : fldB Try.prog 49 1 1 = true := by kernel_rfl
theorem fld_49_2_2 : fldB Try.prog 49 2 2 = true := by kernel_rfl
theorem fn_101 : fnB Try.prog 101 = true := by kernel_rfl
theorem fn_103 : fnB Try.prog 103 = true := by kernel_rfl
theorem fn_74 : fnB Try.prog 74 = true := by kernel_rfl
theorem fn_98 : fnB Try.prog 98 = true := by kernel_rfl
theorem one_2 : oneB Try.prog 2 = true := by kernel_rfl
theorem one_24 : oneB Try.prog 24 = true := by kernel_rfl
theorem sz_49_3 : szB Try.prog 49 3 = true := by kernel_rfl
theorem zero_49 : zeroB Try.prog 49 (.agg #[.slice none 0 0, .slice none 0 0, .slice none 0 0]) := by unfold zeroB; kernel_rfl
end T60
set_option maxRecDepth 100000 in
set_option maxHeartbeats 4000000 in
theorem c_i_SwapField {wd : Int} {hi : Int} {wr : Bool} {asp : Option Addr} {nsp : Nat} {csp : Nat} {Xsp : List Nat} {als : Option Addr} {nls : Nat} {cls : Nat} {Xls : List Nat} {afe : Option Addr} {nfe : Nat} {cfe : Nat} {Xfe : List Nat} {afx : Option Addr} {nfx : Nat} {cfx : Nat} {Xfx : List Nat} {afy : Option Addr} {nfy : Nat} {cfy : Nat} {Xfy : List Nat} {w : World} (qsp : Rd w kF asp nsp Xsp) (qls : Rd w kF als nls Xls) (qfe : Rd w kF afe nfe Xfe) (qfx : Rd w kF afx nfx Xfx) (qfy : Rd w kF afy nfy Xfy) (hbsp : nsp ≤ 9223372036854775806) (hbls : nls ≤ 9223372036854775806) (hbfe : nfe ≤ 9223372036854775806) (hbfx : nfx ≤ 9223372036854775806) (hbfy : nfy ≤ 9223372036854775806) :
    Calls Try.prog 60 #[.agg #[.int .i64 wd, .int .i64 hi, .bool wr, .slice asp nsp csp, .slice als nls cls], .agg #[.slice afe nfe cfe, .slice afx nfx cfx, .slice afy nfy cfy]] w (Rt fun v w' => (fieldB wd hi wr Xsp Xls Xfe Xfx Xfy = true ∧ ∃ (a1 : Option Addr) (c1 : Nat) (a2 : Option Addr) (c2 : Nat) (a3 : Option Addr) (c3 : Nat), v = .tuple #[.agg #[.slice a1 ((wd * hi).toNat) c1, .slice a2 ((wd * hi).toNat) c2, .slice a3 ((wd * hi).toNat) c3], .bool true] ∧ New w w' [.ow kF a1 ((wd * hi).toNat) c1 56 (swpS wd hi Xfe), .ow kF a2 ((wd * hi).toNat) c2 56 (negL (wd * hi) (swpS wd hi Xfy)), .ow kF a3 ((wd * hi).toNat) c3 56 (negL (wd * hi) (swpS wd hi Xfx))]) ∨ (fieldB wd hi wr Xsp Xls Xfe Xfx Xfy = false ∧ v = .tuple #[.agg #[.slice none 0 0, .slice none 0 0, .slice none 0 0], .bool false] ∧ Ext0 w w')) := by
  have hlsp := qsp.len
  have hlls := qls.len
  have hlfe := qfe.len
  have hlfx := qfx.len
  have hlfy := qfy.len
  have B : Bu w no w [.rd kF asp nsp Xsp, .rd kF als nls Xls, .rd kF afe nfe Xfe, .rd kF afx nfx Xfx, .rd kF afy nfy Xfy] := Bu.ro (All.cons qsp (All.cons qls (All.cons qfe (All.cons qfx (All.cons qfy All.nil))))) rfl
  have hcm0 := Int.mul_comm hi wd
  refine calls_W (n := 38) Try.func60 rfl rfl (Nat.le_of_ble_eq_true rfl) ?_
  refine W_seq ?_
  refine W_region (by kernel_rfl) ?_
  refine s_k rfl (k_boxN (v := .agg #[.int .i64 wd, .int .i64 hi, .bool wr, .slice asp nsp csp, .slice als nls cls]) (cs := [.int .i64 wd, .int .i64 hi, .bool wr, .slice asp nsp csp, .slice als nls cls]) rfl rfl (fun b1 w2 hN3 => ?_))
  replace B := B.new1 hN3
  clear hN3
  refine s_k rfl (k_boxN (v := .agg #[.slice afe nfe cfe, .slice afx nfx cfx, .slice afy nfy cfy]) (cs := [.slice afe nfe cfe, .slice afx nfx cfx, .slice afy nfy cfy]) rfl rfl (fun b4 w5 hN6 => ?_))
  replace B := B.new1 hN6
  clear hN6
  refine s_k rfl (k_allocN (z := (.agg #[.slice none 0 0, .slice none 0 0, .slice none 0 0])) (cs := [.slice none 0 0, .slice none 0 0, .slice none 0 0]) T60.zero_49 rfl (fun b7 w8 hN9 => ?_))
  replace B := B.new1 hN9
  clear hN9
  refine s_y (v := .bool false) rfl (y_assign rfl) ?_
  refine s_nil ?_
  refine W_seq ?_
  refine W_seq ?_
  refine W_region (by kernel_rfl) ?_
  refine s_y (v := .agg #[.int .i64 wd, .int .i64 hi, .bool wr, .slice asp nsp csp, .slice als nls cls]) rfl (y_loadn (b := b1) (o := 0) (vs := [.int .i64 wd, .int .i64 hi, .bool wr, .slice asp nsp csp, .slice als nls cls]) T60.agg_26_5 rfl rfl ((B.b 2 rfl).cells (o := 0) rfl)) ?_
  refine s_y (v := .agg #[.slice afe nfe cfe, .slice afx nfx cfx, .slice afy nfy cfy]) rfl (y_loadn (b := b4) (o := 0) (vs := [.slice afe nfe cfe, .slice afx nfx cfx, .slice afy nfy cfy]) T60.agg_49_3 rfl rfl ((B.b 1 rfl).cells (o := 0) rfl)) ?_
  refine s_k rfl (k_call T60.fn_74 (c_i_IsField (B.r 3 rfl) (B.r 4 rfl) (B.r 5 rfl) (B.r 6 rfl) (B.r 7 rfl) (by omega) (by omega) (by omega) (by omega) (by omega)) rfl ?_)
  rintro v12 w10 ⟨hv13, e11⟩
  replace B := B.ext0 e11
  clear e11
  by_cases c14 : fieldB wd hi wr Xsp Xls Xfe Xfx Xfy = true
  · have hb15 := fieldB_b c14
    obtain rfl : v12 = .bool true := hv13.trans (congrArg Value.bool c14)
    refine s_y (v := .bool false) rfl (y_not rfl rfl) ?_
    refine s_nil ?_
    refine W_if_f (by decide) rfl ?_
    refine W_skip ?_
    refine W_seq ?_
    have B0_20 := B
    refine W_draw (at1 b7) T60.mx (by kernel_rfl) (fun w18 e19 => ?_)
    have R21 := Ext.refl (at1 b7) w10
    replace R21 := R21.trans (Ext0.any e19)
    replace B := B.ext0 e19
    clear e19
    refine m_y (v := .agg #[.int .i64 wd, .int .i64 hi, .bool wr, .slice asp nsp csp, .slice als nls cls]) 0 rfl (by kernel_rfl) rfl rfl (fun w' e' => y_loadn (b := b1) (o := 0) (vs := [.int .i64 wd, .int .i64 hi, .bool wr, .slice asp nsp csp, .slice als nls cls]) T60.agg_26_5 rfl rfl ((B0_20.bx 2 0 rfl rfl rfl e').cells (o := 0) rfl)) ?_
    refine m_y (v := .pointer (some ⟨b4, 0, none⟩)) 1 rfl (by kernel_rfl) rfl rfl (fun w' e' => y_fld (o := 0) T60.fld_49_0_0 rfl) ?_
    refine m_y (v := .slice afe nfe cfe) 2 rfl (by kernel_rfl) rfl rfl (fun w' e' => y_load T60.one_24 rfl ((B0_20.bx 1 0 rfl rfl rfl e').cell (j := 0) rfl)) ?_
    refine m_y (v := .pointer (some ⟨b1, 1, none⟩)) 3 rfl (by kernel_rfl) rfl rfl (fun w' e' => y_fld (o := 0) T60.fld_26_1_1 rfl) ?_
    refine m_y (v := .int .i64 hi) 4 rfl (by kernel_rfl) rfl rfl (fun w' e' => y_load T60.one_2 rfl ((B0_20.bx 2 0 rfl rfl rfl e').cell (j := 1) rfl)) ?_
    refine m_y (v := .pointer (some ⟨b1, 0, none⟩)) 5 rfl (by kernel_rfl) rfl rfl (fun w' e' => y_fld (o := 0) T60.fld_26_0_0 rfl) ?_
    refine m_y (v := .int .i64 wd) 6 rfl (by kernel_rfl) rfl rfl (fun w' e' => y_load T60.one_2 rfl ((B0_20.bx 2 0 rfl rfl rfl e').cell (j := 0) rfl)) ?_
    refine m_y (v := .agg #[.int .i64 wd, .int .i64 hi, .bool wr, .slice asp nsp csp, .slice als nls cls]) 8 rfl (by kernel_rfl) rfl rfl (fun w' e' => y_loadn (b := b1) (o := 0) (vs := [.int .i64 wd, .int .i64 hi, .bool wr, .slice asp nsp csp, .slice als nls cls]) T60.agg_26_5 rfl rfl ((B0_20.bx 2 0 rfl rfl rfl e').cells (o := 0) rfl)) ?_
    refine m_y (v := .pointer (some ⟨b4, 2, none⟩)) 9 rfl (by kernel_rfl) rfl rfl (fun w' e' => y_fld (o := 0) T60.fld_49_2_2 rfl) ?_
    refine m_y (v := .slice afy nfy cfy) 10 rfl (by kernel_rfl) rfl rfl (fun w' e' => y_load T60.one_24 rfl ((B0_20.bx 1 0 rfl rfl rfl e').cell (j := 2) rfl)) ?_
    refine m_y (v := .pointer (some ⟨b1, 1, none⟩)) 11 rfl (by kernel_rfl) rfl rfl (fun w' e' => y_fld (o := 0) T60.fld_26_1_1 rfl) ?_
    refine m_y (v := .int .i64 hi) 12 rfl (by kernel_rfl) rfl rfl (fun w' e' => y_load T60.one_2 rfl ((B0_20.bx 2 0 rfl rfl rfl e').cell (j := 1) rfl)) ?_
    refine m_y (v := .pointer (some ⟨b1, 0, none⟩)) 13 rfl (by kernel_rfl) rfl rfl (fun w' e' => y_fld (o := 0) T60.fld_26_0_0 rfl) ?_
    refine m_y (v := .int .i64 wd) 14 rfl (by kernel_rfl) rfl rfl (fun w' e' => y_load T60.one_2 rfl ((B0_20.bx 2 0 rfl rfl rfl e').cell (j := 0) rfl)) ?_
    refine m_y (v := .agg #[.int .i64 wd, .int .i64 hi, .bool wr, .slice asp nsp csp, .slice als nls cls]) 17 rfl (by kernel_rfl) rfl rfl (fun w' e' => y_loadn (b := b1) (o := 0) (vs := [.int .i64 wd, .int .i64 hi, .bool wr, .slice asp nsp csp, .slice als nls cls]) T60.agg_26_5 rfl rfl ((B0_20.bx 2 0 rfl rfl rfl e').cells (o := 0) rfl)) ?_
    refine m_y (v := .pointer (some ⟨b4, 1, none⟩)) 18 rfl (by kernel_rfl) rfl rfl (fun w' e' => y_fld (o := 0) T60.fld_49_1_1 rfl) ?_
    refine m_y (v := .slice afx nfx cfx) 19 rfl (by kernel_rfl) rfl rfl (fun w' e' => y_load T60.one_24 rfl ((B0_20.bx 1 0 rfl rfl rfl e').cell (j := 1) rfl)) ?_
    refine m_y (v := .pointer (some ⟨b1, 1, none⟩)) 20 rfl (by kernel_rfl) rfl rfl (fun w' e' => y_fld (o := 0) T60.fld_26_1_1 rfl) ?_
    refine m_y (v := .int .i64 hi) 21 rfl (by kernel_rfl) rfl rfl (fun w' e' => y_load T60.one_2 rfl ((B0_20.bx 2 0 rfl rfl rfl e').cell (j := 1) rfl)) ?_
    refine m_y (v := .pointer (some ⟨b1, 0, none⟩)) 22 rfl (by kernel_rfl) rfl rfl (fun w' e' => y_fld (o := 0) T60.fld_26_0_0 rfl) ?_
    refine m_y (v := .int .i64 wd) 23 rfl (by kernel_rfl) rfl rfl (fun w' e' => y_load T60.one_2 rfl ((B0_20.bx 2 0 rfl rfl rfl e').cell (j := 0) rfl)) ?_
    refine m_k 7 [15, 16, 24, 25, 26, 27, 28] rfl (by kernel_rfl) rfl rfl (fun w22 e23 => ?_)
    replace R21 := R21.trans (Ext0.any e23)
    replace B := B.ext0 e23
    clear e23
    refine k_call T60.fn_98 (c_i_moved (f := 103) (us := []) (xs := []) (FU := (fun _ y => y)) (FV := (fun x _ => x)) (W := hi) (H := wd) (B.r 5 rfl) T60.fn_103 (fun x y w1 he h0 h1 h2 h3 => c_i_exchanged) (fun x y h0 h1 h2 h3 => by first | omega | (simp only []; omega)) (by omega) (by omega) (by omega) (by omega) (by omega) (by omega) (by omega) (by omega) (by omega)) rfl ?_
    rintro _ w24 ⟨a25, c26, rfl, hN27⟩
    replace R21 := R21.trans (Ext0.any hN27.ext)
    replace B := B.new1 hN27
    clear hN27
    refine ⟨fun _ => R21, ?_⟩
    refine m_k 15 [16, 24, 25, 26, 27, 28] rfl (by kernel_rfl) rfl rfl (fun w28 e29 => ?_)
    replace R21 := R21.trans (Ext0.any e29)
    replace B := B.ext0 e29
    clear e29
    refine k_call T60.fn_98 (c_i_moved (f := 103) (us := []) (xs := []) (FU := (fun _ y => y)) (FV := (fun x _ => x)) (W := hi) (H := wd) (B.r 8 rfl) T60.fn_103 (fun x y w1 he h0 h1 h2 h3 => c_i_exchanged) (fun x y h0 h1 h2 h3 => by first | omega | (simp only []; omega)) (by omega) (by omega) (by omega) (by omega) (by omega) (by omega) (by omega) (by omega) (by omega)) rfl ?_
    rintro _ w30 ⟨a31, c32, rfl, hN33⟩
    replace R21 := R21.trans (Ext0.any hN33.ext)
    replace B := B.new1 hN33
    clear hN33
    refine ⟨fun _ => R21, ?_⟩
    refine m_k 16 [24, 25, 26, 27, 28] rfl (by kernel_rfl) rfl rfl (fun w34 e35 => ?_)
    replace R21 := R21.trans (Ext0.any e35)
    replace B := B.ext0 e35
    clear e35
    refine k_call T60.fn_101 (c_i_opposites ((B.o 0 rfl).rd) (by omega)) rfl ?_
    rintro _ w36 ⟨a37, c38, rfl, hN39⟩
    replace R21 := R21.trans (Ext0.any hN39.ext)
    replace B := B.new1 hN39
    clear hN39
    refine ⟨fun _ => R21, ?_⟩
    refine m_k 24 [25, 26, 27, 28] rfl (by kernel_rfl) rfl rfl (fun w40 e41 => ?_)
    replace R21 := R21.trans (Ext0.any e41)
    replace B := B.ext0 e41
    clear e41
    refine k_call T60.fn_98 (c_i_moved (f := 103) (us := []) (xs := []) (FU := (fun _ y => y)) (FV := (fun x _ => x)) (W := hi) (H := wd) (B.r 9 rfl) T60.fn_103 (fun x y w1 he h0 h1 h2 h3 => c_i_exchanged) (fun x y h0 h1 h2 h3 => by first | omega | (simp only []; omega)) (by omega) (by omega) (by omega) (by omega) (by omega) (by omega) (by omega) (by omega) (by omega)) rfl ?_
    rintro _ w42 ⟨a43, c44, rfl, hN45⟩
    replace R21 := R21.trans (Ext0.any hN45.ext)
    replace B := B.new1 hN45
    clear hN45
    refine ⟨fun _ => R21, ?_⟩
    refine m_k 25 [26, 27, 28] rfl (by kernel_rfl) rfl rfl (fun w46 e47 => ?_)
    replace R21 := R21.trans (Ext0.any e47)
    replace B := B.ext0 e47
    clear e47
    refine k_call T60.fn_101 (c_i_opposites ((B.o 0 rfl).rd) (by omega)) rfl ?_
    rintro _ w48 ⟨a49, c50, rfl, hN51⟩
    replace R21 := R21.trans (Ext0.any hN51.ext)
    replace B := B.new1 hN51
    clear hN51
    refine ⟨fun _ => R21, ?_⟩
    refine m_y (v := .agg #[.slice a25 ((hi * wd).toNat) c26, .slice a37 ((hi * wd).toNat) c38, .slice a49 ((hi * wd).toNat) c50]) 26 rfl (by kernel_rfl) rfl rfl (fun w' e' => y_build (cells := #[.slice a25 ((hi * wd).toNat) c26, .slice a37 ((hi * wd).toNat) c38, .slice a49 ((hi * wd).toNat) c50]) (by kernel_rfl)) ?_
    refine m_k 27 [28] rfl (by kernel_rfl) rfl rfl (fun w54 e55 => ?_)
    replace R21 := R21.trans (Ext0.any e55)
    replace B := B.ext0 e55
    clear e55
    refine k_stB (v := .agg #[.slice a25 ((hi * wd).toNat) c26, .slice a37 ((hi * wd).toNat) c38, .slice a49 ((hi * wd).toNat) c50]) (n := 3) (cs' := [.slice a25 ((hi * wd).toNat) c26, .slice a37 ((hi * wd).toNat) c38, .slice a49 ((hi * wd).toNat) c50]) T60.sz_49_3 rfl rfl rfl (B.b 5 rfl) (by simp [Value.cells, Value.oneCell']) (Nat.le_of_ble_eq_true rfl) rfl (fun w52 hU53 => ?_)
    replace R21 := R21.trans hU53.at1
    replace B : Bu w no w52 [.blk b7 [.slice a25 ((hi * wd).toNat) c26, .slice a37 ((hi * wd).toNat) c38, .slice a49 ((hi * wd).toNat) c50] 49, .ow kF a49 ((hi * wd).toNat) c50 56 (negL ((hi * wd).toNat) (movL hi wd (fun xp yp => atI wd hi ((fun _ y => y) xp yp) ((fun x _ => x) xp yp)) Xfx)), .ow kF a43 ((hi * wd).toNat) c44 56 (movL hi wd (fun xp yp => atI wd hi ((fun _ y => y) xp yp) ((fun x _ => x) xp yp)) Xfx), .ow kF a37 ((hi * wd).toNat) c38 56 (negL ((hi * wd).toNat) (movL hi wd (fun xp yp => atI wd hi ((fun _ y => y) xp yp) ((fun x _ => x) xp yp)) Xfy)), .ow kF a31 ((hi * wd).toNat) c32 56 (movL hi wd (fun xp yp => atI wd hi ((fun _ y => y) xp yp) ((fun x _ => x) xp yp)) Xfy), .ow kF a25 ((hi * wd).toNat) c26 56 (movL hi wd (fun xp yp => atI wd hi ((fun _ y => y) xp yp) ((fun x _ => x) xp yp)) Xfe), .blk b4 [.slice afe nfe cfe, .slice afx nfx cfx, .slice afy nfy cfy] 49, .blk b1 [.int .i64 wd, .int .i64 hi, .bool wr, .slice asp nsp csp, .slice als nls cls] 26, .rd kF asp nsp Xsp, .rd kF als nls Xls, .rd kF afe nfe Xfe, .rd kF afx nfx Xfx, .rd kF afy nfy Xfy] := B.upd [5] rfl hU53
    clear hU53
    refine ⟨fun _ => R21, ?_⟩
    refine m_y (v := .bool true) 28 rfl (by kernel_rfl) rfl rfl (fun w' e' => y_assign rfl) ?_
    refine m_done (by kernel_rfl) (fun w56 e57 => ?_)
    replace B := B.ext0 e57
    clear e57
    clear B0_20 R21
    refine W_ret ?_
    refine ret2 (v1 := .agg #[.slice a25 ((hi * wd).toNat) c26, .slice a37 ((hi * wd).toNat) c38, .slice a49 ((hi * wd).toNat) c50]) (v2 := .bool true) rfl rfl rfl ⟨_, [.slice a25 ((hi * wd).toNat) c26, .slice a37 ((hi * wd).toNat) c38, .slice a49 ((hi * wd).toNat) c50], _, rfl, (B.b 0 rfl), T60.agg_49_3, rfl⟩ rfl ⟨_, rfl, ?_⟩
    have hcond : fieldB wd hi wr Xsp Xls Xfe Xfx Xfy = true := by simp only [c14, Bool.and_true, Bool.true_and, Bool.and_false, Bool.false_and, Bool.not_true, Bool.not_false, Bool.or_true, Bool.true_or, Bool.or_false, Bool.false_or]
    replace B : Bu w no w56 [.blk b7 [.slice a25 ((hi * wd).toNat) c26, .slice a37 ((hi * wd).toNat) c38, .slice a49 ((hi * wd).toNat) c50] 49, .ow kF a49 ((hi * wd).toNat) c50 56 (negL ((hi * wd).toNat) (movL hi wd (fun xp yp => atI wd hi ((fun _ y => y) xp yp) ((fun x _ => x) xp yp)) Xfx)), .ow kF a43 ((hi * wd).toNat) c44 56 (movL hi wd (fun xp yp => atI wd hi ((fun _ y => y) xp yp) ((fun x _ => x) xp yp)) Xfx), .ow kF a37 ((hi * wd).toNat) c38 56 (negL ((hi * wd).toNat) (movL hi wd (fun xp yp => atI wd hi ((fun _ y => y) xp yp) ((fun x _ => x) xp yp)) Xfy)), .ow kF a31 ((hi * wd).toNat) c32 56 (movL hi wd (fun xp yp => atI wd hi ((fun _ y => y) xp yp) ((fun x _ => x) xp yp)) Xfy), .ow kF a25 ((wd * hi).toNat) c26 56 (swpS wd hi Xfe), .blk b4 [.slice afe nfe cfe, .slice afx nfx cfx, .slice afy nfy cfy] 49, .blk b1 [.int .i64 wd, .int .i64 hi, .bool wr, .slice asp nsp csp, .slice als nls cls] 26, .rd kF asp nsp Xsp, .rd kF als nls Xls, .rd kF afe nfe Xfe, .rd kF afx nfx Xfx, .rd kF afy nfy Xfy] := B.castX 5 rfl (by rw [Int.mul_comm]) (swp_i (by omega))
    replace B : Bu w no w56 [.blk b7 [.slice a25 ((hi * wd).toNat) c26, .slice a37 ((hi * wd).toNat) c38, .slice a49 ((hi * wd).toNat) c50] 49, .ow kF a49 ((hi * wd).toNat) c50 56 (negL ((hi * wd).toNat) (movL hi wd (fun xp yp => atI wd hi ((fun _ y => y) xp yp) ((fun x _ => x) xp yp)) Xfx)), .ow kF a43 ((hi * wd).toNat) c44 56 (movL hi wd (fun xp yp => atI wd hi ((fun _ y => y) xp yp) ((fun x _ => x) xp yp)) Xfx), .ow kF a37 ((wd * hi).toNat) c38 56 (negL (wd * hi) (swpS wd hi Xfy)), .ow kF a31 ((hi * wd).toNat) c32 56 (movL hi wd (fun xp yp => atI wd hi ((fun _ y => y) xp yp) ((fun x _ => x) xp yp)) Xfy), .ow kF a25 ((wd * hi).toNat) c26 56 (swpS wd hi Xfe), .blk b4 [.slice afe nfe cfe, .slice afx nfx cfx, .slice afy nfy cfy] 49, .blk b1 [.int .i64 wd, .int .i64 hi, .bool wr, .slice asp nsp csp, .slice als nls cls] 26, .rd kF asp nsp Xsp, .rd kF als nls Xls, .rd kF afe nfe Xfe, .rd kF afx nfx Xfx, .rd kF afy nfy Xfy] := B.castX 3 rfl (by rw [Int.mul_comm]) (swpN_i (by omega) (by omega))
    replace B : Bu w no w56 [.blk b7 [.slice a25 ((hi * wd).toNat) c26, .slice a37 ((hi * wd).toNat) c38, .slice a49 ((hi * wd).toNat) c50] 49, .ow kF a49 ((wd * hi).toNat) c50 56 (negL (wd * hi) (swpS wd hi Xfx)), .ow kF a43 ((hi * wd).toNat) c44 56 (movL hi wd (fun xp yp => atI wd hi ((fun _ y => y) xp yp) ((fun x _ => x) xp yp)) Xfx), .ow kF a37 ((wd * hi).toNat) c38 56 (negL (wd * hi) (swpS wd hi Xfy)), .ow kF a31 ((hi * wd).toNat) c32 56 (movL hi wd (fun xp yp => atI wd hi ((fun _ y => y) xp yp) ((fun x _ => x) xp yp)) Xfy), .ow kF a25 ((wd * hi).toNat) c26 56 (swpS wd hi Xfe), .blk b4 [.slice afe nfe cfe, .slice afx nfx cfx, .slice afy nfy cfy] 49, .blk b1 [.int .i64 wd, .int .i64 hi, .bool wr, .slice asp nsp csp, .slice als nls cls] 26, .rd kF asp nsp Xsp, .rd kF als nls Xls, .rd kF afe nfe Xfe, .rd kF afx nfx Xfx, .rd kF afy nfy Xfy] := B.castX 1 rfl (by rw [Int.mul_comm]) (swpN_i (by omega) (by omega))
    exact .inl ⟨hcond, ⟨_, _, _, _, _, _, (by rw [(show (hi * wd).toNat = (wd * hi).toNat from (by rw [Int.mul_comm]))]), B.give [5, 3, 1] rfl rfl rfl⟩⟩
  · obtain rfl : v12 = .bool false := hv13.trans (congrArg Value.bool (Bool.eq_false_iff.2 c14))
    refine s_y (v := .bool true) rfl (y_not rfl rfl) ?_
    refine s_nil ?_
    refine W_if_t (by decide) rfl ?_
    refine W_seq ?_
    refine W_region (by kernel_rfl) ?_
    refine s_y (v := .agg #[.slice none 0 0, .slice none 0 0, .slice none 0 0]) rfl (y_build (cells := #[.slice none 0 0, .slice none 0 0, .slice none 0 0]) (by kernel_rfl)) ?_
    refine s_k0 rfl (k_stB (v := .agg #[.slice none 0 0, .slice none 0 0, .slice none 0 0]) (n := 3) (cs' := [.slice none 0 0, .slice none 0 0, .slice none 0 0]) T60.sz_49_3 rfl rfl rfl (B.b 0 rfl) (by simp [Value.cells, Value.oneCell']) (Nat.le_of_ble_eq_true rfl) rfl (fun w58 hU59 => ?_))
    replace B : Bu w no w58 [.blk b7 [.slice none 0 0, .slice none 0 0, .slice none 0 0] 49, .blk b4 [.slice afe nfe cfe, .slice afx nfx cfx, .slice afy nfy cfy] 49, .blk b1 [.int .i64 wd, .int .i64 hi, .bool wr, .slice asp nsp csp, .slice als nls cls] 26, .rd kF asp nsp Xsp, .rd kF als nls Xls, .rd kF afe nfe Xfe, .rd kF afx nfx Xfx, .rd kF afy nfy Xfy] := B.upd [0] rfl hU59
    clear hU59
    refine s_y (v := .bool false) rfl (y_assign rfl) ?_
    refine s_nil ?_
    refine W_ret ?_
    refine ret2 (v1 := .agg #[.slice none 0 0, .slice none 0 0, .slice none 0 0]) (v2 := .bool false) rfl rfl rfl ⟨_, [.slice none 0 0, .slice none 0 0, .slice none 0 0], _, rfl, (B.b 0 rfl), T60.agg_49_3, rfl⟩ rfl ⟨_, rfl, ?_⟩
    exact .inr ⟨by simp only [(Bool.eq_false_iff.2 c14), Bool.and_true, Bool.true_and, Bool.and_false, Bool.false_and, Bool.not_true, Bool.not_false, Bool.or_true, Bool.true_or, Bool.or_false, Bool.false_or], rfl, B.ext⟩
namespace T40
theorem mx : Try.prog.follows .mixedOrders = true := by kernel_rfl
theorem bool_4 : Try.prog.underlying 4 = some .bool := by kernel_rfl
end T40
set_option maxRecDepth 100000 in
set_option maxHeartbeats 4000000 in
theorem c_l_sameFloat {a : Nat} {A : Nat} {b : Nat} {w : World} (ha : can .f64 a = A) (hb : can .f64 b = A) :
    Calls Try.prog 40 #[.float .f64 a, .float .f64 b] w (Rt fun v w' => v = .bool true ∧ Ext0 w w') := by
  have B : Bu w no w [] := Bu.ro All.nil rfl
  refine calls_W (n := 37) Try.func40 rfl rfl (Nat.le_of_ble_eq_true rfl) ?_
  refine W_seq ?_
  refine W_region (by kernel_rfl) ?_
  refine s_y (v := .bool false) rfl (y_assign rfl) ?_
  refine s_nil ?_
  refine W_seq ?_
  refine W_seq ?_
  refine W_region (by kernel_rfl) ?_
  refine s_y (v := .float .f64 a) rfl (y_move rfl) ?_
  refine s_y (v := .float .f64 a) rfl (y_move rfl) ?_
  by_cases c1 : fne .f64 A A = true
  · refine s_y (v := .bool true) rfl (y_fneq rfl rfl (fneC ha ha c1)) ?_
    refine s_y (v := .bool true) rfl (y_move rfl) ?_
    refine s_skip rfl ?_
    refine s_skip rfl ?_
    refine s_skip rfl ?_
    refine s_y (v := .bool true) rfl (y_pick_t rfl rfl) ?_
    refine s_nil ?_
    refine W_if_t (by decide) rfl ?_
    refine W_seq ?_
    refine W_region (by kernel_rfl) ?_
    refine s_y (v := .float .f64 a) rfl (y_move rfl) ?_
    refine s_y (v := .float .f64 a) rfl (y_move rfl) ?_
    refine s_y (v := .bool true) rfl (y_fneq rfl rfl (fneC ha ha c1)) ?_
    refine s_y (v := .bool true) rfl (y_move rfl) ?_
    refine s_y (v := .float .f64 b) rfl (y_move rfl) ?_
    refine s_y (v := .float .f64 b) rfl (y_move rfl) ?_
    refine s_y (v := .bool true) rfl (y_fneq rfl rfl (fneC hb hb c1)) ?_
    refine s_y (v := .bool true) rfl (y_pick_t rfl rfl) ?_
    refine s_y (v := .bool true) rfl (y_assign rfl) ?_
    refine s_nil ?_
    refine W_ret ?_
    refine ret1 (v := .bool true) rfl rfl rfl ⟨_, rfl, ?_⟩
    exact ⟨rfl, B.ext⟩
  · refine s_y (v := .bool false) rfl (y_fneq rfl rfl (fneC ha ha (Bool.eq_false_iff.2 c1))) ?_
    refine s_y (v := .bool false) rfl (y_move rfl) ?_
    refine s_y (v := .float .f64 b) rfl (y_move rfl) ?_
    refine s_y (v := .float .f64 b) rfl (y_move rfl) ?_
    refine s_y (v := .bool false) rfl (y_fneq rfl rfl (fneC hb hb (Bool.eq_false_iff.2 c1))) ?_
    refine s_y (v := .bool false) rfl (y_pick_f rfl rfl) ?_
    refine s_nil ?_
    refine W_if_f (by decide) rfl ?_
    refine W_skip ?_
    refine W_seq ?_
    refine W_seq ?_
    refine W_region (by kernel_rfl) ?_
    refine s_y (v := .float .f64 a) rfl (y_move rfl) ?_
    by_cases c2 : feq .f64 A 0 = true
    · refine s_y (v := .bool true) rfl (y_feql rfl rfl (feqC ha (show can .f64 0 = 0 by kernel_rfl) c2)) ?_
      refine s_y (v := .bool true) rfl (y_move rfl) ?_
      refine s_y (v := .float .f64 b) rfl (y_move rfl) ?_
      refine s_y (v := .bool true) rfl (y_feql rfl rfl (feqC hb (show can .f64 0 = 0 by kernel_rfl) c2)) ?_
      refine s_y (v := .bool true) rfl (y_pick_t rfl rfl) ?_
      refine s_nil ?_
      refine W_if_t (by decide) rfl ?_
      refine W_seq ?_
      refine W_region (by kernel_rfl) ?_
      refine s_y (v := .float .f64 a) rfl (y_move rfl) ?_
      refine s_n rfl (n_arith (by decide) rfl rfl) ?_
      rintro _ w6 e7 ⟨r4, rfl, hr5⟩
      replace B := B.ext0 e7
      clear e7
      have hc8 := fopC hr5 (show can .f64 4607182418800017408 = 4607182418800017408 by kernel_rfl) ha
      by_cases c9 : fgt .f64 (fop .quo .f64 4607182418800017408 A) 0 = true
      · refine s_y (v := .bool true) rfl (y_fgtr rfl rfl (fgtC hc8 (show can .f64 0 = 0 by kernel_rfl) c9)) ?_
        refine s_y (v := .float .f64 b) rfl (y_move rfl) ?_
        refine s_n rfl (n_arith (by decide) rfl rfl) ?_
        rintro _ w13 e14 ⟨r11, rfl, hr12⟩
        replace B := B.ext0 e14
        clear e14
        have hc15 := fopC hr12 (show can .f64 4607182418800017408 = 4607182418800017408 by kernel_rfl) hb
        refine s_y (v := .bool true) rfl (y_fgtr rfl rfl (fgtC hc15 (show can .f64 0 = 0 by kernel_rfl) c9)) ?_
        refine s_y (v := .bool true) rfl (y_beql T40.bool_4 rfl rfl rfl) ?_
        refine s_y (v := .bool true) rfl (y_assign rfl) ?_
        refine s_nil ?_
        refine W_ret ?_
        refine ret1 (v := .bool true) rfl rfl rfl ⟨_, rfl, ?_⟩
        exact ⟨rfl, B.ext⟩
      · refine s_y (v := .bool false) rfl (y_fgtr rfl rfl (fgtC hc8 (show can .f64 0 = 0 by kernel_rfl) (Bool.eq_false_iff.2 c9))) ?_
        refine s_y (v := .float .f64 b) rfl (y_move rfl) ?_
        refine s_n rfl (n_arith (by decide) rfl rfl) ?_
        rintro _ w19 e20 ⟨r17, rfl, hr18⟩
        replace B := B.ext0 e20
        clear e20
        have hc21 := fopC hr18 (show can .f64 4607182418800017408 = 4607182418800017408 by kernel_rfl) hb
        refine s_y (v := .bool false) rfl (y_fgtr rfl rfl (fgtC hc21 (show can .f64 0 = 0 by kernel_rfl) (Bool.eq_false_iff.2 c9))) ?_
        refine s_y (v := .bool true) rfl (y_beql T40.bool_4 rfl rfl rfl) ?_
        refine s_y (v := .bool true) rfl (y_assign rfl) ?_
        refine s_nil ?_
        refine W_ret ?_
        refine ret1 (v := .bool true) rfl rfl rfl ⟨_, rfl, ?_⟩
        exact ⟨rfl, B.ext⟩
    · refine s_y (v := .bool false) rfl (y_feql rfl rfl (feqC ha (show can .f64 0 = 0 by kernel_rfl) (Bool.eq_false_iff.2 c2))) ?_
      refine s_y (v := .bool false) rfl (y_move rfl) ?_
      refine s_skip rfl ?_
      refine s_skip rfl ?_
      refine s_y (v := .bool false) rfl (y_pick_f rfl rfl) ?_
      refine s_nil ?_
      refine W_if_f (by decide) rfl ?_
      refine W_skip ?_
      refine W_seq ?_
      refine W_region (by kernel_rfl) ?_
      refine s_y (v := .float .f64 a) rfl (y_move rfl) ?_
      refine s_y (v := .float .f64 b) rfl (y_move rfl) ?_
      by_cases c22 : feq .f64 A A = true
      · refine s_y (v := .bool true) rfl (y_feql rfl rfl (feqC ha hb c22)) ?_
        refine s_y (v := .bool true) rfl (y_assign rfl) ?_
        refine s_nil ?_
        refine W_ret ?_
        refine ret1 (v := .bool true) rfl rfl rfl ⟨_, rfl, ?_⟩
        exact ⟨rfl, B.ext⟩
      · refine s_y (v := .bool false) rfl (y_feql rfl rfl (feqC ha hb (Bool.eq_false_iff.2 c22))) ?_
        refine s_y (v := .bool false) rfl (y_assign rfl) ?_
        refine s_nil ?_
        refine W_ret ?_
        refine ret1 (v := .bool false) rfl rfl rfl ⟨_, rfl, ?_⟩
        exfalso; simp_all [fne, feq]
namespace T33
theorem mx : Try.prog.follows .mixedOrders = true := by kernel_rfl
theorem flt_60_f64 : Try.prog.underlying 60 = some (.float .f64) := by kernel_rfl
theorem fn_40 : fnB Try.prog 40 = true := by kernel_rfl
theorem one_56 : oneB Try.prog 56 = true := by kernel_rfl
theorem sl_24_56_1 : slB Try.prog 24 56 1 = true := by kernel_rfl
theorem und_56 : (Try.prog.underlying 56).isSome = true := by kernel_rfl
end T33
set_option maxRecDepth 100000 in
set_option maxHeartbeats 4000000 in
theorem c_l_eqFloat32S {a : Option Addr} {n : Nat} {c : Nat} {X : List Nat} {a2 : Option Addr} {n2 : Nat} {c2 : Nat} {w : World} (q : Rd w kF a n X) (q2 : Rd w kF a2 n2 X) (hb : n ≤ 9223372036854775806) :
    Calls Try.prog 33 #[.slice a n c, .slice a2 n2 c2] w (Rt fun v w' => v = .bool true ∧ Ext0 w w') := by
  have hl := q.len
  have hl2 := q2.len
  have B : Bu w no w [.rd kF a n X, .rd kF a2 n2 X] := Bu.ro (All.cons q (All.cons q2 All.nil)) rfl
  refine calls_W (n := 29) Try.func33 rfl rfl (Nat.le_of_ble_eq_true rfl) ?_
  refine W_seq ?_
  refine W_region (by kernel_rfl) ?_
  refine s_y (v := .bool false) rfl (y_assign rfl) ?_
  refine s_nil ?_
  refine W_seq ?_
  refine W_seq ?_
  refine W_region (by kernel_rfl) ?_
  refine s_y (v := .slice a n c) rfl (y_move rfl) ?_
  refine s_y (v := .int .i64 ((n : Nat) : Int)) rfl (y_len T33.sl_24_56_1 rfl rfl) ?_
  refine s_y (v := .slice a2 n2 c2) rfl (y_move rfl) ?_
  refine s_y (v := .int .i64 ((n2 : Nat) : Int)) rfl (y_len T33.sl_24_56_1 rfl rfl) ?_
  by_cases c1 : ((n : Nat) : Int) ≠ ((n2 : Nat) : Int)
  · refine s_y (v := .bool true) rfl (y_neq rfl rfl (decide_eq_true c1)) ?_
    refine s_nil ?_
    refine W_if_t (by decide) rfl ?_
    refine W_seq ?_
    refine W_region (by kernel_rfl) ?_
    refine s_y (v := .bool false) rfl (y_assign rfl) ?_
    refine s_nil ?_
    refine W_ret ?_
    refine ret1 (v := .bool false) rfl rfl rfl ⟨_, rfl, ?_⟩
    exfalso; omega
  · refine s_y (v := .bool false) rfl (y_neq rfl rfl (decide_eq_false c1)) ?_
    refine s_nil ?_
    refine W_if_f (by decide) rfl ?_
    refine W_skip ?_
    refine W_seq ?_
    refine W_seq ?_
    refine W_region (by kernel_rfl) ?_
    refine s_y (v := .int .i64 0) rfl (y_assign rfl) ?_
    refine s_nil ?_
    refine W_block ?_
    refine W_loop (fun ρ' w' => ∃ (ρ1 : Env) (k : Int), ρ' = updL ρ1 [(0, .slice a n c), (1, .slice a2 n2 c2), (5, .int .i64 k)] ∧ Bu w no w' [.rd kF a n X, .rd kF a2 n2 X] ∧ (0 ≤ k) ∧ (k ≤ (n : Int))) (fun ρ' _ => ((n : Int) - iv (ρ' 5)).toNat) ?_ ?_
    · exact ⟨_, 0, Fits.eq ⟨rfl, rfl, rfl, trivial⟩, B, (Int.le_refl _), (by omega)⟩
    · clear B; rintro _ w2 ⟨ρ3, k, rfl, B, h0k, h1k⟩
      refine W_seq ?_
      refine W_seq ?_
      refine W_region (by kernel_rfl) ?_
      refine s_y (v := .int .i64 k) rfl (y_move rfl) ?_
      refine s_y (v := .slice a n c) rfl (y_move rfl) ?_
      refine s_y (v := .int .i64 ((n : Nat) : Int)) rfl (y_len T33.sl_24_56_1 rfl rfl) ?_
      by_cases c4 : k < ((n : Nat) : Int)
      · refine s_y (v := .bool true) rfl (y_lss rfl rfl (decide_eq_true c4)) ?_
        refine s_nil ?_
        refine W_if_t (by decide) rfl ?_
        refine W_skip ?_
        refine W_seq ?_
        refine W_block ?_
        refine W_seq ?_
        have B0_9 := B
        refine W_draw (no) T33.mx (by kernel_rfl) (fun w7 e8 => ?_)
        have R10 := Ext.refl (no) w2
        replace R10 := R10.trans (Ext0.any e8)
        replace B := B.ext0 e8
        clear e8
        refine m_y (v := .slice a n c) 0 rfl (by kernel_rfl) rfl rfl (fun w' e' => y_move rfl) ?_
        refine m_y (v := .int .i64 k) 1 rfl (by kernel_rfl) rfl rfl (fun w' e' => y_move rfl) ?_
        refine m_y (v := .pointer (some (sat a ((k).toNat * 1)))) 2 rfl (by kernel_rfl) rfl rfl (fun w' e' => y_idx T33.sl_24_56_1 rfl rfl ((B.r 0 rfl).addr (by omega)) (by omega) (by omega)) ?_
        obtain ⟨r12, hr13, hR11⟩ := Rd.atF (B0_9.r 0 rfl) k (by omega) (by omega)
        refine m_y (v := .float .f32 r12) 3 rfl (by kernel_rfl) rfl rfl (fun w' e' => y_load T33.one_56 rfl ((hR11.ext0 e').cell (i := 0) rfl)) ?_
        refine m_y (v := .slice a2 n2 c2) 5 rfl (by kernel_rfl) rfl rfl (fun w' e' => y_move rfl) ?_
        refine m_y (v := .int .i64 k) 6 rfl (by kernel_rfl) rfl rfl (fun w' e' => y_move rfl) ?_
        refine m_y (v := .pointer (some (sat a2 ((k).toNat * 1)))) 7 rfl (by kernel_rfl) rfl rfl (fun w' e' => y_idx T33.sl_24_56_1 rfl rfl ((B.r 1 rfl).addr (by omega)) (by omega) (by omega)) ?_
        obtain ⟨r15, hr16, hR14⟩ := Rd.atF (B0_9.r 1 rfl) k (by omega) (by omega)
        refine m_y (v := .float .f32 r15) 8 rfl (by kernel_rfl) rfl rfl (fun w' e' => y_load T33.one_56 rfl ((hR14.ext0 e').cell (i := 0) rfl)) ?_
        refine m_n 4 [10, 11] rfl (by kernel_rfl) rfl rfl (fun w' e' => n_wide T33.und_56 T33.flt_60_f64 rfl) ?_
        rintro _ ⟨r17, rfl, hr18⟩
        have hc21 := wideC hr18 hr13
        refine m_n 9 [10, 11] rfl (by kernel_rfl) rfl rfl (fun w' e' => n_wide T33.und_56 T33.flt_60_f64 rfl) ?_
        rintro _ ⟨r22, rfl, hr23⟩
        have hc26 := wideC hr23 hr16
        refine m_k 10 [11] rfl (by kernel_rfl) rfl rfl (fun w27 e28 => ?_)
        replace R10 := R10.trans (Ext0.any e28)
        replace B := B.ext0 e28
        clear e28
        refine k_call T33.fn_40 (c_l_sameFloat hc21 hc26) rfl ?_
        rintro _ w29 ⟨rfl, e30⟩
        replace R10 := R10.trans (Ext0.any e30)
        replace B := B.ext0 e30
        clear e30
        refine ⟨fun _ => R10, ?_⟩
        refine m_y (v := .bool false) 11 rfl (by kernel_rfl) rfl rfl (fun w' e' => y_not rfl rfl) ?_
        refine m_done (by kernel_rfl) (fun w31 e32 => ?_)
        replace B := B.ext0 e32
        clear e32
        clear B0_9 R10
        refine W_if_f (by decide) rfl ?_
        refine W_skip ?_
        refine W_region (by kernel_rfl) ?_
        refine s_y (v := .int .i64 k) rfl (y_move rfl) ?_
        refine s_y (v := .int .i64 (k + 1)) rfl (y_add rfl rfl rfl (by omega)) ?_
        refine s_y (v := .int .i64 (k + 1)) rfl (y_assign rfl) ?_
        refine s_nil ?_
        refine ⟨⟨_, k + 1, Fits.eq ⟨rfl, rfl, rfl, trivial⟩, B, (by omega), (by omega)⟩, ?_⟩
        show ((n : Int) - (k + 1)).toNat < ((n : Int) - k).toNat
        omega
      · refine s_y (v := .bool false) rfl (y_lss rfl rfl (decide_eq_false c4)) ?_
        refine s_nil ?_
        refine W_if_f (by decide) rfl ?_
        refine W_exit ?_
        refine W_seq ?_
        refine W_region (by kernel_rfl) ?_
        refine s_y (v := .bool true) rfl (y_assign rfl) ?_
        refine s_nil ?_
        refine W_ret ?_
        refine ret1 (v := .bool true) rfl rfl rfl ⟨_, rfl, ?_⟩
        exact ⟨rfl, B.ext⟩
namespace T34
theorem mx : Try.prog.follows .mixedOrders = true := by kernel_rfl
theorem fld_49_0_0 : fldB Try.prog 49 0 0 = true := by kernel_rfl
theorem fld_49_1_1 : fldB Try.prog 49 1 1 = true := by kernel_rfl
theorem fld_49_2_2 : fldB Try.prog 49 2 2 = true := by kernel_rfl
theorem fn_33 : fnB Try.prog 33 = true := by kernel_rfl
theorem one_24 : oneB Try.prog 24 = true := by kernel_rfl
end T34
set_option maxRecDepth 100000 in
set_option maxHeartbeats 4000000 in
theorem c_l_eqField {afe : Option Addr} {nfe : Nat} {cfe : Nat} {Xfe : List Nat} {afx : Option Addr} {nfx : Nat} {cfx : Nat} {Xfx : List Nat} {afy : Option Addr} {nfy : Nat} {cfy : Nat} {Xfy : List Nat} {afe2 : Option Addr} {nfe2 : Nat} {cfe2 : Nat} {afx2 : Option Addr} {nfx2 : Nat} {cfx2 : Nat} {afy2 : Option Addr} {nfy2 : Nat} {cfy2 : Nat} {w : World} (qfe : Rd w kF afe nfe Xfe) (qfx : Rd w kF afx nfx Xfx) (qfy : Rd w kF afy nfy Xfy) (qfe2 : Rd w kF afe2 nfe2 Xfe) (qfx2 : Rd w kF afx2 nfx2 Xfx) (qfy2 : Rd w kF afy2 nfy2 Xfy) (hbnfe : nfe ≤ 9223372036854775806) (hbnfx : nfx ≤ 9223372036854775806) (hbnfy : nfy ≤ 9223372036854775806) :
    Calls Try.prog 34 #[.agg #[.slice afe nfe cfe, .slice afx nfx cfx, .slice afy nfy cfy], .agg #[.slice afe2 nfe2 cfe2, .slice afx2 nfx2 cfx2, .slice afy2 nfy2 cfy2]] w (Rt fun v w' => v = .bool true ∧ Ext0 w w') := by
  have hlfe := qfe.len
  have hlfx := qfx.len
  have hlfy := qfy.len
  have hlfe2 := qfe2.len
  have hlfx2 := qfx2.len
  have hlfy2 := qfy2.len
  have B : Bu w no w [.rd kF afe nfe Xfe, .rd kF afx nfx Xfx, .rd kF afy nfy Xfy, .rd kF afe2 nfe2 Xfe, .rd kF afx2 nfx2 Xfx, .rd kF afy2 nfy2 Xfy] := Bu.ro (All.cons qfe (All.cons qfx (All.cons qfy (All.cons qfe2 (All.cons qfx2 (All.cons qfy2 All.nil)))))) rfl
  refine calls_W (n := 23) Try.func34 rfl rfl (Nat.le_of_ble_eq_true rfl) ?_
  refine W_seq ?_
  refine W_region (by kernel_rfl) ?_
  refine s_k rfl (k_boxN (v := .agg #[.slice afe nfe cfe, .slice afx nfx cfx, .slice afy nfy cfy]) (cs := [.slice afe nfe cfe, .slice afx nfx cfx, .slice afy nfy cfy]) rfl rfl (fun b1 w2 hN3 => ?_))
  replace B := B.new1 hN3
  clear hN3
  refine s_k rfl (k_boxN (v := .agg #[.slice afe2 nfe2 cfe2, .slice afx2 nfx2 cfx2, .slice afy2 nfy2 cfy2]) (cs := [.slice afe2 nfe2 cfe2, .slice afx2 nfx2 cfx2, .slice afy2 nfy2 cfy2]) rfl rfl (fun b4 w5 hN6 => ?_))
  replace B := B.new1 hN6
  clear hN6
  refine s_y (v := .bool false) rfl (y_assign rfl) ?_
  refine s_nil ?_
  refine W_seq ?_
  refine W_seq ?_
  refine W_region (by kernel_rfl) ?_
  refine s_y (v := .pointer (some ⟨b1, 0, none⟩)) rfl (y_fld (o := 0) T34.fld_49_0_0 rfl) ?_
  refine s_y (v := .slice afe nfe cfe) rfl (y_load T34.one_24 rfl ((B.b 1 rfl).cell (j := 0) rfl)) ?_
  refine s_y (v := .pointer (some ⟨b4, 0, none⟩)) rfl (y_fld (o := 0) T34.fld_49_0_0 rfl) ?_
  refine s_y (v := .slice afe2 nfe2 cfe2) rfl (y_load T34.one_24 rfl ((B.b 0 rfl).cell (j := 0) rfl)) ?_
  refine s_k rfl (k_call T34.fn_33 (c_l_eqFloat32S (B.r 2 rfl) (B.r 5 rfl) (by omega)) rfl ?_)
  rintro _ w7 ⟨rfl, e8⟩
  replace B := B.ext0 e8
  clear e8
  refine s_y (v := .bool false) rfl (y_not rfl rfl) ?_
  refine s_nil ?_
  refine W_if_f (by decide) rfl ?_
  refine W_skip ?_
  refine W_seq ?_
  refine W_seq ?_
  refine W_region (by kernel_rfl) ?_
  refine s_y (v := .pointer (some ⟨b1, 1, none⟩)) rfl (y_fld (o := 0) T34.fld_49_1_1 rfl) ?_
  refine s_y (v := .slice afx nfx cfx) rfl (y_load T34.one_24 rfl ((B.b 1 rfl).cell (j := 1) rfl)) ?_
  refine s_y (v := .pointer (some ⟨b4, 1, none⟩)) rfl (y_fld (o := 0) T34.fld_49_1_1 rfl) ?_
  refine s_y (v := .slice afx2 nfx2 cfx2) rfl (y_load T34.one_24 rfl ((B.b 0 rfl).cell (j := 1) rfl)) ?_
  refine s_k rfl (k_call T34.fn_33 (c_l_eqFloat32S (B.r 3 rfl) (B.r 6 rfl) (by omega)) rfl ?_)
  rintro _ w9 ⟨rfl, e10⟩
  replace B := B.ext0 e10
  clear e10
  refine s_y (v := .bool false) rfl (y_not rfl rfl) ?_
  refine s_nil ?_
  refine W_if_f (by decide) rfl ?_
  refine W_skip ?_
  refine W_seq ?_
  refine W_seq ?_
  refine W_region (by kernel_rfl) ?_
  refine s_y (v := .pointer (some ⟨b1, 2, none⟩)) rfl (y_fld (o := 0) T34.fld_49_2_2 rfl) ?_
  refine s_y (v := .slice afy nfy cfy) rfl (y_load T34.one_24 rfl ((B.b 1 rfl).cell (j := 2) rfl)) ?_
  refine s_y (v := .pointer (some ⟨b4, 2, none⟩)) rfl (y_fld (o := 0) T34.fld_49_2_2 rfl) ?_
  refine s_y (v := .slice afy2 nfy2 cfy2) rfl (y_load T34.one_24 rfl ((B.b 0 rfl).cell (j := 2) rfl)) ?_
  refine s_k rfl (k_call T34.fn_33 (c_l_eqFloat32S (B.r 4 rfl) (B.r 7 rfl) (by omega)) rfl ?_)
  rintro _ w11 ⟨rfl, e12⟩
  replace B := B.ext0 e12
  clear e12
  refine s_y (v := .bool false) rfl (y_not rfl rfl) ?_
  refine s_nil ?_
  refine W_if_f (by decide) rfl ?_
  refine W_skip ?_
  refine W_seq ?_
  refine W_region (by kernel_rfl) ?_
  refine s_y (v := .bool true) rfl (y_assign rfl) ?_
  refine s_nil ?_
  refine W_ret ?_
  refine ret1 (v := .bool true) rfl rfl rfl ⟨_, rfl, ?_⟩
  exact ⟨rfl, B.ext⟩
end Go.Proofs.Ytalkhbnlphefdaa
