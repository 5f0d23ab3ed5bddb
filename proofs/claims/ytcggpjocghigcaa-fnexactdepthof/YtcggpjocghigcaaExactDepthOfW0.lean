/- Walks: what the functions under FnExactDepthOf do (part 1). Printed by a program of this claim's author. -/
import Derived.Test.YtcggpjocghigcaaL3
import Derived.Test.YtcggpjocghigcaaModel
import Derived.Test.YtcggpjocghigcaaM2
import Derived.Test.YtcggpjocghigcaaM3
import Derived.Test.YtcggpjocghigcaaM4
import Derived.Test.YtcggpjocghigcaaM5
import Derived.Test.YtcggpjocghigcaaProg
set_option linter.unusedSimpArgs false
set_option linter.unusedVariables false
open Go.Wv
namespace Go.Proofs.Ytcggpjocghigcaa
open Go.Proofs
namespace T68
theorem mx : Try.prog.follows .mixedOrders = true := by kernel_rfl
theorem sl_24_62_1 : slB Try.prog 24 62 1 = true := by kernel_rfl
end T68
set_option maxRecDepth 100000 in
set_option maxHeartbeats 4000000 in
theorem c_l_szFloat32S {a : Option Addr} {n cc : Nat} {left : Int} (w : World) (h0 : 0 ≤ left) (h1 : left ≤ 1048576) (h2 : n ≤ 9223372036854775807) :
    Calls Try.prog 68 #[.slice a n cc, .int .i64 left] w (Rt fun v w' => v = .int .i64 (if (n : Int) ≤ left then left - n else -1) ∧ Ext0 w w') := by
  have E0 : Ext no w w := Ext.refl _ _
  refine calls_W (n := 12) Try.func68 rfl rfl (Nat.le_of_ble_eq_true rfl) ?_
  refine W_seq ?_
  refine W_region (by kernel_rfl) ?_
  refine s_y (v := .int .i64 0) rfl (y_assign rfl) ?_
  refine s_nil ?_
  refine W_seq ?_
  refine W_region (by kernel_rfl) ?_
  refine s_y (v := .int .i64 left) rfl (y_move rfl) ?_
  refine s_y (v := .slice a n cc) rfl (y_move rfl) ?_
  refine s_y (v := .int .i64 ((n : Nat) : Int)) rfl (y_len T68.sl_24_62_1 rfl rfl) ?_
  refine s_y (v := .int .i64 (left - ((n : Nat) : Int))) rfl (y_sub rfl rfl rfl (by omega)) ?_
  refine s_y (v := .int .i64 (left - ((n : Nat) : Int))) rfl (y_assign rfl) ?_
  refine s_nil ?_
  refine W_seq ?_
  refine W_seq ?_
  refine W_region (by kernel_rfl) ?_
  refine s_y (v := .int .i64 (left - ((n : Nat) : Int))) rfl (y_move rfl) ?_
  by_cases c1 : (left - ((n : Nat) : Int)) < 0
  · refine s_y (v := .bool true) rfl (y_lss rfl rfl (decide_eq_true c1)) ?_
    refine s_nil ?_
    refine W_if_t (by decide) rfl ?_
    refine W_seq ?_
    refine W_region (by kernel_rfl) ?_
    refine s_y (v := .int .i64 (-1)) rfl (y_assign rfl) ?_
    refine s_nil ?_
    refine W_ret ?_
    refine ret1 rfl rfl rfl ⟨_, rfl, ?_⟩
    exact ⟨congrArg (Value.int .i64) (if_neg (by omega)).symm, E0⟩
  · refine s_y (v := .bool false) rfl (y_lss rfl rfl (decide_eq_false c1)) ?_
    refine s_nil ?_
    refine W_if_f (by decide) rfl ?_
    refine W_skip ?_
    refine W_seq ?_
    refine W_region (by kernel_rfl) ?_
    refine s_y (v := .int .i64 (left - ((n : Nat) : Int))) rfl (y_move rfl) ?_
    refine s_y (v := .int .i64 (left - ((n : Nat) : Int))) rfl (y_assign rfl) ?_
    refine s_nil ?_
    refine W_ret ?_
    refine ret1 rfl rfl rfl ⟨_, rfl, ?_⟩
    exact ⟨congrArg (Value.int .i64) (if_pos (by omega)).symm, E0⟩
namespace T21
theorem mx : Try.prog.follows .mixedOrders = true := by kernel_rfl
theorem fld_36_3_3 : fldB Try.prog 36 3 3 = true := by kernel_rfl
theorem fld_36_4_4 : fldB Try.prog 36 4 4 = true := by kernel_rfl
theorem fn_68 : fnB Try.prog 68 = true := by kernel_rfl
theorem one_24 : oneB Try.prog 24 = true := by kernel_rfl
end T21
set_option maxRecDepth 100000 in
set_option maxHeartbeats 4000000 in
theorem c_l_szSheet {wd hi : Int} {wr : Bool} {asp als : Option Addr} {nsp nls csp cls : Nat} {left : Int} (w : World) (h0 : 0 ≤ left) (h1 : left ≤ 1048576) (hnsp : nsp ≤ 9223372036854775807) (hnls : nls ≤ 9223372036854775807) :
    Calls Try.prog 21 #[.agg #[.int .i64 wd, .int .i64 hi, .bool wr, .slice asp nsp csp, .slice als nls cls], .int .i64 left] w (Rt fun v w' => v = .int .i64 (if ((nsp : Nat) : Int) + ((nls : Nat) : Int) ≤ left then left - ((nsp : Nat) : Int) - ((nls : Nat) : Int) else -1) ∧ Ext0 w w') := by
  have E0 : Ext no w w := Ext.refl _ _
  refine calls_W (n := 18) Try.func21 rfl rfl (Nat.le_of_ble_eq_true rfl) ?_
  refine W_seq ?_
  refine W_region (by kernel_rfl) ?_
  refine s_k rfl (k_box (v := .agg #[.int .i64 wd, .int .i64 hi, .bool wr, .slice asp nsp csp, .slice als nls cls]) (cs := [.int .i64 wd, .int .i64 hi, .bool wr, .slice asp nsp csp, .slice als nls cls]) rfl rfl (fun b1 w2 q4 e3 hB5 => ?_))
  have E6 := E0.fresh e3 (fun _ h _ => h.elim)
  have fr7 : NotLt b1 w.heap.size := fun h => Nat.not_lt.2 (Nat.le_trans E0.size (Nat.le_of_eq q4.symm)) h
  clear q4
  refine s_y (v := .int .i64 0) rfl (y_assign rfl) ?_
  refine s_nil ?_
  refine W_seq ?_
  refine W_region (by kernel_rfl) ?_
  refine s_y (v := .pointer (some ⟨b1, 3, none⟩)) rfl (y_fld (o := 0) T21.fld_36_3_3 rfl) ?_
  refine s_y (v := .slice asp nsp csp) rfl (y_load T21.one_24 rfl (hB5.cell (j := 3) rfl)) ?_
  refine s_y (v := .int .i64 left) rfl (y_move rfl) ?_
  refine s_k rfl (k_call T21.fn_68 (c_l_szFloat32S _ (by omega) (by omega) (by omega)) rfl ?_)
  rintro v10 w8 ⟨hv11, e9⟩
  have hB12 := hB5.ext0 e9
  have E13 := E6.fresh e9 (fun _ h _ => h.elim)
  by_cases c14 : ((nsp : Nat) : Int) ≤ left
  · obtain rfl : v10 = .int .i64 (left - (nsp : Nat)) := hv11.trans (congrArg _ (if_pos c14))
    have hk15 : ¬ (left - (nsp : Nat)) < 0 := by omega
    refine s_y (v := .int .i64 (left - (nsp : Nat))) rfl (y_assign rfl) ?_
    refine s_nil ?_
    refine W_seq ?_
    refine W_seq ?_
    refine W_region (by kernel_rfl) ?_
    refine s_y (v := .int .i64 (left - (nsp : Nat))) rfl (y_move rfl) ?_
    refine s_y (v := .bool false) rfl (y_lss rfl rfl (decide_eq_false hk15)) ?_
    refine s_nil ?_
    refine W_if_f (by decide) rfl ?_
    refine W_skip ?_
    refine W_seq ?_
    refine W_region (by kernel_rfl) ?_
    refine s_y (v := .pointer (some ⟨b1, 4, none⟩)) rfl (y_fld (o := 0) T21.fld_36_4_4 rfl) ?_
    refine s_y (v := .slice als nls cls) rfl (y_load T21.one_24 rfl (hB12.cell (j := 4) rfl)) ?_
    refine s_y (v := .int .i64 (left - (nsp : Nat))) rfl (y_move rfl) ?_
    refine s_k rfl (k_call T21.fn_68 (c_l_szFloat32S _ (by omega) (by omega) (by omega)) rfl ?_)
    rintro v18 w16 ⟨hv19, e17⟩
    have hB20 := hB12.ext0 e17
    have E21 := E13.fresh e17 (fun _ h _ => h.elim)
    by_cases c22 : ((nls : Nat) : Int) ≤ left - (nsp : Nat)
    · obtain rfl : v18 = .int .i64 ((left - (nsp : Nat)) - (nls : Nat)) := hv19.trans (congrArg _ (if_pos c22))
      have hk23 : ¬ ((left - (nsp : Nat)) - (nls : Nat)) < 0 := by omega
      refine s_y (v := .int .i64 ((left - (nsp : Nat)) - (nls : Nat))) rfl (y_assign rfl) ?_
      refine s_nil ?_
      refine W_seq ?_
      refine W_seq ?_
      refine W_region (by kernel_rfl) ?_
      refine s_y (v := .int .i64 ((left - (nsp : Nat)) - (nls : Nat))) rfl (y_move rfl) ?_
      refine s_y (v := .bool false) rfl (y_lss rfl rfl (decide_eq_false hk23)) ?_
      refine s_nil ?_
      refine W_if_f (by decide) rfl ?_
      refine W_skip ?_
      refine W_seq ?_
      refine W_region (by kernel_rfl) ?_
      refine s_y (v := .int .i64 ((left - (nsp : Nat)) - (nls : Nat))) rfl (y_move rfl) ?_
      refine s_y (v := .int .i64 ((left - (nsp : Nat)) - (nls : Nat))) rfl (y_assign rfl) ?_
      refine s_nil ?_
      refine W_ret ?_
      refine ret1 rfl rfl rfl ⟨_, rfl, ?_⟩
      exact ⟨congrArg (Value.int .i64) (if_pos (by omega)).symm, E21⟩
    · obtain rfl : v18 = .int .i64 (-1) := hv19.trans (congrArg _ (if_neg c22))
      refine s_y (v := .int .i64 (-1)) rfl (y_assign rfl) ?_
      refine s_nil ?_
      refine W_seq ?_
      refine W_seq ?_
      refine W_region (by kernel_rfl) ?_
      refine s_y (v := .int .i64 (-1)) rfl (y_move rfl) ?_
      have hk24 : (-1 : Int) < 0 := (by decide)
      refine s_y (v := .bool true) rfl (y_lss rfl rfl (decide_eq_true hk24)) ?_
      refine s_nil ?_
      refine W_if_t (by decide) rfl ?_
      refine W_seq ?_
      refine W_region (by kernel_rfl) ?_
      refine s_y (v := .int .i64 (-1)) rfl (y_assign rfl) ?_
      refine s_nil ?_
      refine W_ret ?_
      refine ret1 rfl rfl rfl ⟨_, rfl, ?_⟩
      exact ⟨congrArg (Value.int .i64) (if_neg (by omega)).symm, E21⟩
  · obtain rfl : v10 = .int .i64 (-1) := hv11.trans (congrArg _ (if_neg c14))
    refine s_y (v := .int .i64 (-1)) rfl (y_assign rfl) ?_
    refine s_nil ?_
    refine W_seq ?_
    refine W_seq ?_
    refine W_region (by kernel_rfl) ?_
    refine s_y (v := .int .i64 (-1)) rfl (y_move rfl) ?_
    have hk25 : (-1 : Int) < 0 := (by decide)
    refine s_y (v := .bool true) rfl (y_lss rfl rfl (decide_eq_true hk25)) ?_
    refine s_nil ?_
    refine W_if_t (by decide) rfl ?_
    refine W_seq ?_
    refine W_region (by kernel_rfl) ?_
    refine s_y (v := .int .i64 (-1)) rfl (y_assign rfl) ?_
    refine s_nil ?_
    refine W_ret ?_
    refine ret1 rfl rfl rfl ⟨_, rfl, ?_⟩
    exact ⟨congrArg (Value.int .i64) (if_neg (by omega)).symm, E13⟩
namespace T70
theorem mx : Try.prog.follows .mixedOrders = true := by kernel_rfl
theorem one_62 : oneB Try.prog 62 = true := by kernel_rfl
theorem sl_24_62_1 : slB Try.prog 24 62 1 = true := by kernel_rfl
theorem slt_24 : SlT Try.prog 24 62 1 4 (.float .f32 0) := ⟨by kernel_rfl, by kernel_rfl, rfl, by decide⟩
theorem sz_62_1 : szB Try.prog 62 1 = true := by kernel_rfl
end T70
set_option maxRecDepth 100000 in
set_option maxHeartbeats 4000000 in
theorem c_l_toFloat32S {a : Option Addr} {n c : Nat} {x X : List Nat} (w : World) (qs : Sl w a (flts x)) (ql : x.length = n) (qk : cn x = X) (hl : n ≤ 1048576) :
    Calls Try.prog 70 #[.slice a n c] w (Rt fun v w' => ∃ a', v = .slice a' n n ∧ Own w' w.heap.size a' n n 62 1 (flts x) ∧ Ext0 w w') := by
  have E0 : Ext no w w := Ext.refl _ _
  have lo_a := Sl.low qs
  refine calls_W (n := 22) Try.func70 rfl rfl (Nat.le_of_ble_eq_true rfl) ?_
  refine W_seq ?_
  refine W_region (by kernel_rfl) ?_
  refine s_y (v := .slice none 0 0) rfl (y_assign rfl) ?_
  refine s_nil ?_
  refine W_seq ?_
  refine W_region (by kernel_rfl) ?_
  refine s_y (v := .slice a n c) rfl (y_move rfl) ?_
  refine s_y (v := .int .i64 ((n : Nat) : Int)) rfl (y_len T70.sl_24_62_1 rfl rfl) ?_
  refine s_k rfl (k_mk T70.slt_24 rfl rfl (by omega) (by omega) (by omega) (fun b1 w2 q4 e3 hO5 => ?_))
  have hS6 := qs.ext0 e3
  have E7 := E0.fresh e3 (fun _ h _ => h.elim)
  have d8 : ∀ k, inA (some ⟨b1, 0, none⟩) k → w.heap.size ≤ k := fun kx hk => (hO5.blk kx hk).1
  have fr9 : ∀ k, inA (some ⟨b1, 0, none⟩) k → k < w.heap.size → False := fun kx h1 h2 => Nat.not_lt.2 (Nat.le_trans E0.size (d8 kx h1)) h2
  have hO10 := hO5.base E0.size
  have hO11 := hO10.cast rfl (made_flts ((((n : Nat) : Int)).toNat) rfl)
  have hl12 : (List.replicate ((((n : Nat) : Int)).toNat) 0).length = (((n : Nat) : Int)).toNat := List.length_replicate ..
  have hc13 := cn_zeros ((((n : Nat) : Int)).toNat)
  refine s_y (v := .slice (some ⟨b1, 0, none⟩) ((((n : Nat) : Int)).toNat) ((((n : Nat) : Int)).toNat)) rfl (y_assign rfl) ?_
  refine s_nil ?_
  refine W_seq ?_
  refine W_seq ?_
  refine W_region (by kernel_rfl) ?_
  refine s_y (v := .int .i64 0) rfl (y_assign rfl) ?_
  refine s_nil ?_
  refine W_block ?_
  refine W_loop (fun ρ' w' => ∃ (ρ1 : Env) (k : Int) (zs : List Nat), ρ' = updL ρ1 [(0, .slice a n c), (2, .slice none 0 0), (3, .slice (some ⟨b1, 0, none⟩) ((((n : Nat) : Int)).toNat) ((((n : Nat) : Int)).toNat)), (4, .int .i64 k)] ∧ Ext no w w' ∧ Sl w' a (flts x) ∧ Own w' w.heap.size (some ⟨b1, 0, none⟩) n n 62 1 (flts zs) ∧ (0 ≤ k) ∧ (k ≤ (n : Int)) ∧ (zs.length = n) ∧ (∀ i, 0 ≤ i → i < k → el zs i = el x i)) (fun ρ' _ => ((n : Int) - iv (ρ' 4)).toNat) ?_ ?_
  · exact ⟨_, 0, _, Fits.eq ⟨rfl, rfl, rfl, rfl, trivial⟩, E7, hS6, hO11, (Int.le_refl _), (by omega), (by simp), (by intro i h0 h1; omega)⟩
  · rintro _ w14 ⟨ρ18, k, zs, rfl, E15, hS16, hO17, h0k, h1k, hz, hq⟩
    refine W_seq ?_
    refine W_seq ?_
    refine W_region (by kernel_rfl) ?_
    refine s_y (v := .int .i64 k) rfl (y_move rfl) ?_
    refine s_y (v := .slice a n c) rfl (y_move rfl) ?_
    refine s_y (v := .int .i64 ((n : Nat) : Int)) rfl (y_len T70.sl_24_62_1 rfl rfl) ?_
    by_cases c19 : k < ((n : Nat) : Int)
    · refine s_y (v := .bool true) rfl (y_lss rfl rfl (decide_eq_true c19)) ?_
      refine s_nil ?_
      refine W_if_t (by decide) rfl ?_
      refine W_skip ?_
      refine W_seq ?_
      refine W_block ?_
      refine W_region (by kernel_rfl) ?_
      refine s_y (v := .slice (some ⟨b1, 0, none⟩) ((((n : Nat) : Int)).toNat) ((((n : Nat) : Int)).toNat)) rfl (y_move rfl) ?_
      refine s_y (v := .int .i64 k) rfl (y_move rfl) ?_
      refine s_y (v := .slice a n c) rfl (y_move rfl) ?_
      refine s_y (v := .int .i64 k) rfl (y_move rfl) ?_
      refine s_y (v := .pointer (some (sat a ((k).toNat * 1)))) rfl (y_idx T70.sl_24_62_1 rfl rfl (hS16.addr (by rw [flts_length]; omega)) (by omega) (by omega)) ?_
      refine s_y (v := .float .f32 (el x k)) rfl (y_load T70.one_62 rfl (hS16.cell (fl_at (by omega) (by omega)))) ?_
      refine s_y (v := .pointer (some (sat (some ⟨b1, 0, none⟩) ((k).toNat * 1)))) rfl (y_idx T70.sl_24_62_1 rfl rfl (hO17.sl.addr (by rw [flts_length]; omega)) (by omega) (by omega)) ?_
      refine s_k0 rfl (k_storeEl (v := .float .f32 (el x k)) T70.sz_62_1 rfl rfl rfl rfl hO17 (by rw [flts_length]; omega) (fun w20 e21 z22 hO23 => ?_))
      clear z22
      have hS24 := hS16.extL lo_a e21 (fun kx hs hl => (fun hs => fr9 kx hs hl) hs)
      have E25 := E15.fresh e21 (fun kx hs hl => (fun hs => (fr9 kx hs hl).elim) hs)
      have hO26 := hO23.cast rfl (flts_put zs k (el x k))
      have hl27 := (put_length zs k (el x k)).trans hz
      have hc28 := cn_put (rfl : cn zs = cn zs) (cn_el qk k) k
      refine s_nil ?_
      refine W_region (by kernel_rfl) ?_
      refine s_y (v := .int .i64 k) rfl (y_move rfl) ?_
      refine s_y (v := .int .i64 (k + 1)) rfl (y_add rfl rfl rfl (by omega)) ?_
      refine s_y (v := .int .i64 (k + 1)) rfl (y_assign rfl) ?_
      refine s_nil ?_
      refine ⟨⟨_, k + 1, _, Fits.eq ⟨rfl, rfl, rfl, rfl, trivial⟩, E25, hS24, hO26, (by omega), (by omega), hl27, (el_same (by omega) (by omega) (by omega) hq)⟩, ?_⟩
      show ((n : Int) - (k + 1)).toNat < ((n : Int) - k).toNat
      omega
    · refine s_y (v := .bool false) rfl (y_lss rfl rfl (decide_eq_false c19)) ?_
      refine s_nil ?_
      refine W_if_f (by decide) rfl ?_
      refine W_exit ?_
      refine W_seq ?_
      refine W_region (by kernel_rfl) ?_
      refine s_y (v := .slice (some ⟨b1, 0, none⟩) ((((n : Nat) : Int)).toNat) ((((n : Nat) : Int)).toNat)) rfl (y_move rfl) ?_
      refine s_y (v := .slice (some ⟨b1, 0, none⟩) ((((n : Nat) : Int)).toNat) ((((n : Nat) : Int)).toNat)) rfl (y_assign rfl) ?_
      refine s_nil ?_
      refine W_ret ?_
      refine ret1 rfl rfl rfl ⟨_, rfl, ?_⟩
      obtain rfl : zs = x := ext_el (by omega) (fun i h0 h1 => hq i h0 (by omega))
      exact ⟨_, rfl, hO17, E15⟩
namespace T23
theorem mx : Try.prog.follows .mixedOrders = true := by kernel_rfl
theorem agg_26_5 : aggB Try.prog 26 5 = true := by kernel_rfl
theorem fld_26_0_0 : fldB Try.prog 26 0 0 = true := by kernel_rfl
theorem fld_26_1_1 : fldB Try.prog 26 1 1 = true := by kernel_rfl
theorem fld_26_2_2 : fldB Try.prog 26 2 2 = true := by kernel_rfl
theorem fld_26_3_3 : fldB Try.prog 26 3 3 = true := by kernel_rfl
theorem fld_26_4_4 : fldB Try.prog 26 4 4 = true := by kernel_rfl
theorem fld_36_0_0 : fldB Try.prog 36 0 0 = true := by kernel_rfl
theorem fld_36_1_1 : fldB Try.prog 36 1 1 = true := by kernel_rfl
theorem fld_36_2_2 : fldB Try.prog 36 2 2 = true := by kernel_rfl
theorem fld_36_3_3 : fldB Try.prog 36 3 3 = true := by kernel_rfl
theorem fld_36_4_4 : fldB Try.prog 36 4 4 = true := by kernel_rfl
theorem fn_70 : fnB Try.prog 70 = true := by kernel_rfl
theorem one_2 : oneB Try.prog 2 = true := by kernel_rfl
theorem one_24 : oneB Try.prog 24 = true := by kernel_rfl
theorem one_4 : oneB Try.prog 4 = true := by kernel_rfl
theorem sz_2_1 : szB Try.prog 2 1 = true := by kernel_rfl
theorem sz_24_1 : szB Try.prog 24 1 = true := by kernel_rfl
theorem sz_26_5 : szB Try.prog 26 5 = true := by kernel_rfl
theorem sz_4_1 : szB Try.prog 4 1 = true := by kernel_rfl
theorem zero_26 : zeroB Try.prog 26 (.agg #[.int .i64 0, .int .i64 0, .bool false, .slice none 0 0, .slice none 0 0]) := by unfold zeroB; kernel_rfl
end T23
set_option maxRecDepth 100000 in
set_option maxHeartbeats 4000000 in
theorem c_l_toSheet {wd hi : Int} {wr : Bool} {asp : Option Addr} {nsp csp : Nat} {xsp Xsp : List Nat} {als : Option Addr} {nls cls : Nat} {xls Xls : List Nat} (w : World) (qssp : Sl w asp (flts xsp)) (qlsp : xsp.length = nsp) (qksp : cn xsp = Xsp) (qsls : Sl w als (flts xls)) (qlls : xls.length = nls) (qkls : cn xls = Xls) (b1 : nsp ≤ 1048576) (b2 : nls ≤ 1048576) :
    Calls Try.prog 23 #[.agg #[.int .i64 wd, .int .i64 hi, .bool wr, .slice asp nsp csp, .slice als nls cls]] w (Rt fun v w' => (∃ (a1 : Option Addr) (c1 : Nat) (z1 : List Nat) (a2 : Option Addr) (c2 : Nat) (z2 : List Nat), v = .agg #[.int .i64 wd, .int .i64 hi, .bool wr, .slice a1 nsp c1, .slice a2 nls c2] ∧ Own w' w.heap.size a1 nsp c1 62 1 (flts z1) ∧ z1.length = nsp ∧ cn z1 = Xsp ∧ Own w' w.heap.size a2 nls c2 62 1 (flts z2) ∧ z2.length = nls ∧ cn z2 = Xls ∧ (∀ k, inA a1 k → inA a2 k → False)) ∧ Ext0 w w') := by
  have E0 : Ext no w w := Ext.refl _ _
  have hlP : Xsp.length = nsp := (cn_lenX qksp).trans qlsp
  have hlL : Xls.length = nls := (cn_lenX qkls).trans qlls
  have lo_asp := Sl.low qssp
  have lo_als := Sl.low qsls
  refine calls_W (n := 22) Try.func23 rfl rfl (Nat.le_of_ble_eq_true rfl) ?_
  refine W_seq ?_
  refine W_region (by kernel_rfl) ?_
  refine s_k rfl (k_box (v := .agg #[.int .i64 wd, .int .i64 hi, .bool wr, .slice asp nsp csp, .slice als nls cls]) (cs := [.int .i64 wd, .int .i64 hi, .bool wr, .slice asp nsp csp, .slice als nls cls]) rfl rfl (fun b1 w2 q4 e3 hB5 => ?_))
  have hS6 := qssp.ext0 e3
  have hS7 := qsls.ext0 e3
  have E8 := E0.fresh e3 (fun _ h _ => h.elim)
  have fr9 : NotLt b1 w.heap.size := fun h => Nat.not_lt.2 (Nat.le_trans E0.size (Nat.le_of_eq q4.symm)) h
  clear q4
  refine s_k rfl (k_alloc (z := (.agg #[.int .i64 0, .int .i64 0, .bool false, .slice none 0 0, .slice none 0 0])) (cs := [.int .i64 0, .int .i64 0, .bool false, .slice none 0 0, .slice none 0 0]) T23.zero_26 rfl (fun b10 w11 q13 e12 hB14 => ?_))
  have hB15 := hB5.ext0 e12
  have hS16 := hS6.ext0 e12
  have hS17 := hS7.ext0 e12
  have E18 := E8.fresh e12 (fun _ h _ => h.elim)
  have dj19 : NeB b1 b10 := fun h => Nat.ne_of_lt hB5.lt (h.trans q13)
  have fr20 : NotLt b10 w.heap.size := fun h => Nat.not_lt.2 (Nat.le_trans E8.size (Nat.le_of_eq q13.symm)) h
  clear q13
  refine s_nil ?_
  refine W_seq ?_
  refine W_region (by kernel_rfl) ?_
  refine s_k rfl (k_alloc (z := (.agg #[.int .i64 0, .int .i64 0, .bool false, .slice none 0 0, .slice none 0 0])) (cs := [.int .i64 0, .int .i64 0, .bool false, .slice none 0 0, .slice none 0 0]) T23.zero_26 rfl (fun b21 w22 q24 e23 hB25 => ?_))
  have hB26 := hB15.ext0 e23
  have hB27 := hB14.ext0 e23
  have hS28 := hS16.ext0 e23
  have hS29 := hS17.ext0 e23
  have E30 := E18.fresh e23 (fun _ h _ => h.elim)
  have dj31 : NeB b1 b21 := fun h => Nat.ne_of_lt hB15.lt (h.trans q24)
  have dj32 : NeB b10 b21 := fun h => Nat.ne_of_lt hB14.lt (h.trans q24)
  have fr33 : NotLt b21 w.heap.size := fun h => Nat.not_lt.2 (Nat.le_trans E18.size (Nat.le_of_eq q24.symm)) h
  clear q24
  refine s_nil ?_
  refine W_seq ?_
  refine W_region (by kernel_rfl) ?_
  refine s_y (v := .pointer (some ⟨b1, 0, none⟩)) rfl (y_fld (o := 0) T23.fld_36_0_0 rfl) ?_
  refine s_y (v := .int .i64 wd) rfl (y_load T23.one_2 rfl (hB26.cell (j := 0) rfl)) ?_
  refine s_y (v := .pointer (some ⟨b21, 0, none⟩)) rfl (y_fld (o := 0) T23.fld_26_0_0 rfl) ?_
  refine s_k0 rfl (k_store (v := .int .i64 wd) (n := 1) (cs' := [.int .i64 wd, .int .i64 0, .bool false, .slice none 0 0, .slice none 0 0]) T23.sz_2_1 rfl rfl rfl hB25 (by simp [Value.cells, Value.oneCell']) (Nat.le_of_ble_eq_true rfl) rfl (fun w34 e35 z36 hB37 => ?_))
  clear z36
  have hB38 := hB26.ext e35 dj31
  have hB39 := hB27.ext e35 dj32
  have hS40 := hS28.extL lo_asp e35 (fun kx (hs : kx = b21) hl => fr33 (hs ▸ hl))
  have hS41 := hS29.extL lo_als e35 (fun kx (hs : kx = b21) hl => fr33 (hs ▸ hl))
  have E42 := E30.fresh e35 (fun kx (hs : kx = b21) hl => (fr33 (hs ▸ hl)).elim)
  refine s_nil ?_
  refine W_seq ?_
  refine W_region (by kernel_rfl) ?_
  refine s_y (v := .pointer (some ⟨b1, 1, none⟩)) rfl (y_fld (o := 0) T23.fld_36_1_1 rfl) ?_
  refine s_y (v := .int .i64 hi) rfl (y_load T23.one_2 rfl (hB38.cell (j := 1) rfl)) ?_
  refine s_y (v := .pointer (some ⟨b21, 1, none⟩)) rfl (y_fld (o := 0) T23.fld_26_1_1 rfl) ?_
  refine s_k0 rfl (k_store (v := .int .i64 hi) (n := 1) (cs' := [.int .i64 wd, .int .i64 hi, .bool false, .slice none 0 0, .slice none 0 0]) T23.sz_2_1 rfl rfl rfl hB37 (by simp [Value.cells, Value.oneCell']) (Nat.le_of_ble_eq_true rfl) rfl (fun w43 e44 z45 hB46 => ?_))
  clear z45
  have hB47 := hB38.ext e44 dj31
  have hB48 := hB39.ext e44 dj32
  have hS49 := hS40.extL lo_asp e44 (fun kx (hs : kx = b21) hl => fr33 (hs ▸ hl))
  have hS50 := hS41.extL lo_als e44 (fun kx (hs : kx = b21) hl => fr33 (hs ▸ hl))
  have E51 := E42.fresh e44 (fun kx (hs : kx = b21) hl => (fr33 (hs ▸ hl)).elim)
  refine s_nil ?_
  refine W_seq ?_
  refine W_region (by kernel_rfl) ?_
  refine s_y (v := .pointer (some ⟨b1, 2, none⟩)) rfl (y_fld (o := 0) T23.fld_36_2_2 rfl) ?_
  refine s_y (v := .bool wr) rfl (y_load T23.one_4 rfl (hB47.cell (j := 2) rfl)) ?_
  refine s_y (v := .pointer (some ⟨b21, 2, none⟩)) rfl (y_fld (o := 0) T23.fld_26_2_2 rfl) ?_
  refine s_k0 rfl (k_store (v := .bool wr) (n := 1) (cs' := [.int .i64 wd, .int .i64 hi, .bool wr, .slice none 0 0, .slice none 0 0]) T23.sz_4_1 rfl rfl rfl hB46 (by simp [Value.cells, Value.oneCell']) (Nat.le_of_ble_eq_true rfl) rfl (fun w52 e53 z54 hB55 => ?_))
  clear z54
  have hB56 := hB47.ext e53 dj31
  have hB57 := hB48.ext e53 dj32
  have hS58 := hS49.extL lo_asp e53 (fun kx (hs : kx = b21) hl => fr33 (hs ▸ hl))
  have hS59 := hS50.extL lo_als e53 (fun kx (hs : kx = b21) hl => fr33 (hs ▸ hl))
  have E60 := E51.fresh e53 (fun kx (hs : kx = b21) hl => (fr33 (hs ▸ hl)).elim)
  refine s_nil ?_
  refine W_seq ?_
  refine W_region (by kernel_rfl) ?_
  refine s_y (v := .pointer (some ⟨b1, 3, none⟩)) rfl (y_fld (o := 0) T23.fld_36_3_3 rfl) ?_
  refine s_y (v := .slice asp nsp csp) rfl (y_load T23.one_24 rfl (hB56.cell (j := 3) rfl)) ?_
  refine s_k rfl (k_call T23.fn_70 (c_l_toFloat32S _ hS58 qlsp rfl (by omega)) rfl ?_)
  rintro _ w61 ⟨a63, rfl, hO64, e62⟩
  have hB65 := hB56.ext0 e62
  have hB66 := hB57.ext0 e62
  have hB67 := hB55.ext0 e62
  have hS68 := hS58.ext0 e62
  have hS69 := hS59.ext0 e62
  have E70 := E60.fresh e62 (fun _ h _ => h.elim)
  have d71 : ∀ k, inA a63 k → w52.heap.size ≤ k := fun kx hk => (hO64.blk kx hk).1
  have dj72 : inA a63 b1 → False := fun h => Nat.not_lt.2 (d71 _ h) hB56.lt
  have dj73 : inA a63 b10 → False := fun h => Nat.not_lt.2 (d71 _ h) hB57.lt
  have dj74 : inA a63 b21 → False := fun h => Nat.not_lt.2 (d71 _ h) hB55.lt
  have fr75 : ∀ k, inA a63 k → k < w.heap.size → False := fun kx h1 h2 => Nat.not_lt.2 (Nat.le_trans E60.size (d71 kx h1)) h2
  have hO76 := hO64.base E60.size
  refine s_y (v := .pointer (some ⟨b21, 3, none⟩)) rfl (y_fld (o := 0) T23.fld_26_3_3 rfl) ?_
  refine s_k0 rfl (k_store (v := .slice a63 nsp nsp) (n := 1) (cs' := [.int .i64 wd, .int .i64 hi, .bool wr, .slice a63 nsp nsp, .slice none 0 0]) T23.sz_24_1 rfl rfl rfl hB67 (by simp [Value.cells, Value.oneCell']) (Nat.le_of_ble_eq_true rfl) rfl (fun w77 e78 z79 hB80 => ?_))
  clear z79
  have hB81 := hB65.ext e78 dj31
  have hB82 := hB66.ext e78 dj32
  have hS83 := hS68.extL lo_asp e78 (fun kx (hs : kx = b21) hl => fr33 (hs ▸ hl))
  have hS84 := hS69.extL lo_als e78 (fun kx (hs : kx = b21) hl => fr33 (hs ▸ hl))
  have hO85 := hO76.ext e78 (fun kx hk (hs : kx = b21) => dj74 (hs ▸ hk))
  have E86 := E70.fresh e78 (fun kx (hs : kx = b21) hl => (fr33 (hs ▸ hl)).elim)
  refine s_nil ?_
  refine W_seq ?_
  refine W_region (by kernel_rfl) ?_
  refine s_y (v := .pointer (some ⟨b1, 4, none⟩)) rfl (y_fld (o := 0) T23.fld_36_4_4 rfl) ?_
  refine s_y (v := .slice als nls cls) rfl (y_load T23.one_24 rfl (hB81.cell (j := 4) rfl)) ?_
  refine s_k rfl (k_call T23.fn_70 (c_l_toFloat32S _ hS84 qlls rfl (by omega)) rfl ?_)
  rintro _ w87 ⟨a89, rfl, hO90, e88⟩
  have hB91 := hB81.ext0 e88
  have hB92 := hB82.ext0 e88
  have hB93 := hB80.ext0 e88
  have hS94 := hS83.ext0 e88
  have hS95 := hS84.ext0 e88
  have hO96 := hO85.ext0 e88
  have E97 := E86.fresh e88 (fun _ h _ => h.elim)
  have d98 : ∀ k, inA a89 k → w77.heap.size ≤ k := fun kx hk => (hO90.blk kx hk).1
  have dj99 : inA a89 b1 → False := fun h => Nat.not_lt.2 (d98 _ h) hB81.lt
  have dj100 : inA a89 b10 → False := fun h => Nat.not_lt.2 (d98 _ h) hB82.lt
  have dj101 : inA a89 b21 → False := fun h => Nat.not_lt.2 (d98 _ h) hB80.lt
  have dj102 : ∀ k, inA a63 k → inA a89 k → False := fun kx h1 h2 => Nat.not_lt.2 (d98 kx h2) (hO85.blk kx h1).2
  have fr103 : ∀ k, inA a89 k → k < w.heap.size → False := fun kx h1 h2 => Nat.not_lt.2 (Nat.le_trans E86.size (d98 kx h1)) h2
  have hO104 := hO90.base E86.size
  refine s_y (v := .pointer (some ⟨b21, 4, none⟩)) rfl (y_fld (o := 0) T23.fld_26_4_4 rfl) ?_
  refine s_k0 rfl (k_store (v := .slice a89 nls nls) (n := 1) (cs' := [.int .i64 wd, .int .i64 hi, .bool wr, .slice a63 nsp nsp, .slice a89 nls nls]) T23.sz_24_1 rfl rfl rfl hB93 (by simp [Value.cells, Value.oneCell']) (Nat.le_of_ble_eq_true rfl) rfl (fun w105 e106 z107 hB108 => ?_))
  clear z107
  have hB109 := hB91.ext e106 dj31
  have hB110 := hB92.ext e106 dj32
  have hS111 := hS94.extL lo_asp e106 (fun kx (hs : kx = b21) hl => fr33 (hs ▸ hl))
  have hS112 := hS95.extL lo_als e106 (fun kx (hs : kx = b21) hl => fr33 (hs ▸ hl))
  have hO113 := hO96.ext e106 (fun kx hk (hs : kx = b21) => dj74 (hs ▸ hk))
  have hO114 := hO104.ext e106 (fun kx hk (hs : kx = b21) => dj101 (hs ▸ hk))
  have E115 := E97.fresh e106 (fun kx (hs : kx = b21) hl => (fr33 (hs ▸ hl)).elim)
  refine s_nil ?_
  refine W_seq ?_
  refine W_region (by kernel_rfl) ?_
  refine s_y (v := .agg #[.int .i64 wd, .int .i64 hi, .bool wr, .slice a63 nsp nsp, .slice a89 nls nls]) rfl (y_loadn (b := b21) (o := 0) (vs := [.int .i64 wd, .int .i64 hi, .bool wr, .slice a63 nsp nsp, .slice a89 nls nls]) T23.agg_26_5 rfl rfl (hB108.cells (o := 0) rfl)) ?_
  refine s_k0 rfl (k_store (v := .agg #[.int .i64 wd, .int .i64 hi, .bool wr, .slice a63 nsp nsp, .slice a89 nls nls]) (n := 5) (cs' := [.int .i64 wd, .int .i64 hi, .bool wr, .slice a63 nsp nsp, .slice a89 nls nls]) T23.sz_26_5 rfl rfl rfl hB110 (by simp [Value.cells, Value.oneCell']) (Nat.le_of_ble_eq_true rfl) rfl (fun w116 e117 z118 hB119 => ?_))
  clear z118
  have hB120 := hB109.ext e117 dj19
  have hB121 := hB108.ext e117 (fun h => dj32 h.symm)
  have hS122 := hS111.extL lo_asp e117 (fun kx (hs : kx = b10) hl => fr20 (hs ▸ hl))
  have hS123 := hS112.extL lo_als e117 (fun kx (hs : kx = b10) hl => fr20 (hs ▸ hl))
  have hO124 := hO113.ext e117 (fun kx hk (hs : kx = b10) => dj73 (hs ▸ hk))
  have hO125 := hO114.ext e117 (fun kx hk (hs : kx = b10) => dj100 (hs ▸ hk))
  have E126 := E115.fresh e117 (fun kx (hs : kx = b10) hl => (fr20 (hs ▸ hl)).elim)
  refine s_nil ?_
  refine W_ret ?_
  refine ret1 rfl rfl ⟨_, [.int .i64 wd, .int .i64 hi, .bool wr, .slice a63 nsp nsp, .slice a89 nls nls], _, rfl, hB119, T23.agg_26_5, rfl⟩ ⟨_, rfl, ?_⟩
  exact ⟨⟨_, _, _, _, _, _, rfl, hO124, qlsp, qksp, hO125, qlls, qkls, dj102⟩, E126⟩
namespace T88
theorem mx : Try.prog.follows .mixedOrders = true := by kernel_rfl
end T88
set_option maxRecDepth 100000 in
set_option maxHeartbeats 4000000 in
theorem c_s_l00In (n lo hi : Int) (w : World) :
    Calls Try.prog 88 #[.int .i64 n, .int .i64 lo, .int .i64 hi] w (Rt fun v w' => v = .bool (within n lo hi) ∧ Ext0 w w') := by
  have E0 : Ext no w w := Ext.refl _ _
  refine calls_W (n := 15) Try.func88 rfl rfl (Nat.le_of_ble_eq_true rfl) ?_
  refine W_seq ?_
  refine W_region (by kernel_rfl) ?_
  refine s_y (v := .bool false) rfl (y_assign rfl) ?_
  refine s_nil ?_
  refine W_seq ?_
  refine W_region (by kernel_rfl) ?_
  refine s_y (v := .int .i64 n) rfl (y_move rfl) ?_
  refine s_y (v := .int .i64 lo) rfl (y_move rfl) ?_
  by_cases c1 : lo ≤ n
  · refine s_y (v := .bool true) rfl (y_geq rfl rfl (decide_eq_true c1)) ?_
    refine s_y (v := .bool true) rfl (y_move rfl) ?_
    refine s_y (v := .int .i64 n) rfl (y_move rfl) ?_
    refine s_y (v := .int .i64 hi) rfl (y_move rfl) ?_
    by_cases c2 : n ≤ hi
    · refine s_y (v := .bool true) rfl (y_leq rfl rfl (decide_eq_true c2)) ?_
      refine s_y (v := .bool true) rfl (y_pick_t rfl rfl) ?_
      refine s_y (v := .bool true) rfl (y_assign rfl) ?_
      refine s_nil ?_
      refine W_ret ?_
      refine ret1 rfl rfl rfl ⟨_, rfl, ?_⟩
      exact ⟨congrArg Value.bool (by simp [within] <;> omega), E0⟩
    · refine s_y (v := .bool false) rfl (y_leq rfl rfl (decide_eq_false c2)) ?_
      refine s_y (v := .bool false) rfl (y_pick_t rfl rfl) ?_
      refine s_y (v := .bool false) rfl (y_assign rfl) ?_
      refine s_nil ?_
      refine W_ret ?_
      refine ret1 rfl rfl rfl ⟨_, rfl, ?_⟩
      exact ⟨congrArg Value.bool (by simp [within] <;> omega), E0⟩
  · refine s_y (v := .bool false) rfl (y_geq rfl rfl (decide_eq_false c1)) ?_
    refine s_y (v := .bool false) rfl (y_move rfl) ?_
    refine s_skip rfl ?_
    refine s_skip rfl ?_
    refine s_skip rfl ?_
    refine s_y (v := .bool false) rfl (y_pick_f rfl rfl) ?_
    refine s_y (v := .bool false) rfl (y_assign rfl) ?_
    refine s_nil ?_
    refine W_ret ?_
    refine ret1 rfl rfl rfl ⟨_, rfl, ?_⟩
    exact ⟨congrArg Value.bool (by simp [within] <;> omega), E0⟩
namespace T103
theorem mx : Try.prog.follows .mixedOrders = true := by kernel_rfl
theorem fn_88 : fnB Try.prog 88 = true := by kernel_rfl
end T103
set_option maxRecDepth 100000 in
set_option maxHeartbeats 4000000 in
theorem c_s_l02Sides {wd hi : Int} (w : World) :
    Calls Try.prog 103 #[.int .i64 wd, .int .i64 hi] w (Rt fun v w' => v = .bool (sidesB wd hi) ∧ Ext0 w w') := by
  have E0 : Ext no w w := Ext.refl _ _
  refine calls_W (n := 17) Try.func103 rfl rfl (Nat.le_of_ble_eq_true rfl) ?_
  refine W_seq ?_
  refine W_region (by kernel_rfl) ?_
  refine s_y (v := .bool false) rfl (y_assign rfl) ?_
  refine s_nil ?_
  refine W_seq ?_
  refine W_region (by kernel_rfl) ?_
  refine s_y (v := .int .i64 wd) rfl (y_move rfl) ?_
  refine s_k rfl (k_call T103.fn_88 (c_s_l00In _ _ _ _) rfl ?_)
  rintro v3 w1 ⟨hv4, e2⟩
  have E5 := E0.fresh e2 (fun _ h _ => h.elim)
  by_cases c6 : within wd 3 16 = true
  · have hb7 := within_b c6
    obtain rfl : v3 = .bool true := hv4.trans (congrArg Value.bool c6)
    refine s_y (v := .bool true) rfl (y_move rfl) ?_
    refine s_y (v := .int .i64 hi) rfl (y_move rfl) ?_
    refine s_k rfl (k_call T103.fn_88 (c_s_l00In _ _ _ _) rfl ?_)
    rintro v10 w8 ⟨hv11, e9⟩
    have E12 := E5.fresh e9 (fun _ h _ => h.elim)
    by_cases c13 : within hi 3 16 = true
    · have hb14 := within_b c13
      obtain rfl : v10 = .bool true := hv11.trans (congrArg Value.bool c13)
      refine s_y (v := .bool true) rfl (y_pick_t rfl rfl) ?_
      refine s_y (v := .bool true) rfl (y_move rfl) ?_
      refine s_y (v := .int .i64 wd) rfl (y_move rfl) ?_
      refine s_y (v := .int .i64 hi) rfl (y_move rfl) ?_
      have hm15 := mulb (a := wd) (b := hi) (by omega) (by omega) (by omega) (by omega)
      refine s_y (v := .int .i64 (wd * hi)) rfl (y_mul rfl rfl rfl (by omega)) ?_
      have hk16 : (wd * hi) ≤ 256 := (mul16 (And.intro (within_b c6) (within_b c13))).2
      refine s_y (v := .bool true) rfl (y_leq rfl rfl (decide_eq_true hk16)) ?_
      refine s_y (v := .bool true) rfl (y_pick_t rfl rfl) ?_
      refine s_y (v := .bool true) rfl (y_assign rfl) ?_
      refine s_nil ?_
      refine W_ret ?_
      refine ret1 rfl rfl rfl ⟨_, rfl, ?_⟩
      exact ⟨congrArg Value.bool (by simp only [sidesB, c6, c13, (decide_eq_true hk16), Bool.and_true, Bool.true_and, Bool.and_false, Bool.false_and, Bool.not_true, Bool.not_false, Bool.or_true, Bool.true_or, Bool.or_false, Bool.false_or]), E12⟩
    · obtain rfl : v10 = .bool false := hv11.trans (congrArg Value.bool (Bool.eq_false_iff.2 c13))
      refine s_y (v := .bool false) rfl (y_pick_t rfl rfl) ?_
      refine s_y (v := .bool false) rfl (y_move rfl) ?_
      refine s_skip rfl ?_
      refine s_skip rfl ?_
      refine s_skip rfl ?_
      refine s_skip rfl ?_
      refine s_y (v := .bool false) rfl (y_pick_f rfl rfl) ?_
      refine s_y (v := .bool false) rfl (y_assign rfl) ?_
      refine s_nil ?_
      refine W_ret ?_
      refine ret1 rfl rfl rfl ⟨_, rfl, ?_⟩
      exact ⟨congrArg Value.bool (by simp only [sidesB, c6, (Bool.eq_false_iff.2 c13), Bool.and_true, Bool.true_and, Bool.and_false, Bool.false_and, Bool.not_true, Bool.not_false, Bool.or_true, Bool.true_or, Bool.or_false, Bool.false_or]), E12⟩
  · obtain rfl : v3 = .bool false := hv4.trans (congrArg Value.bool (Bool.eq_false_iff.2 c6))
    refine s_y (v := .bool false) rfl (y_move rfl) ?_
    refine s_skip rfl ?_
    refine s_skip rfl ?_
    refine s_y (v := .bool false) rfl (y_pick_f rfl rfl) ?_
    refine s_y (v := .bool false) rfl (y_move rfl) ?_
    refine s_skip rfl ?_
    refine s_skip rfl ?_
    refine s_skip rfl ?_
    refine s_skip rfl ?_
    refine s_y (v := .bool false) rfl (y_pick_f rfl rfl) ?_
    refine s_y (v := .bool false) rfl (y_assign rfl) ?_
    refine s_nil ?_
    refine W_ret ?_
    refine ret1 rfl rfl rfl ⟨_, rfl, ?_⟩
    exact ⟨congrArg Value.bool (by simp only [sidesB, (Bool.eq_false_iff.2 c6), Bool.and_true, Bool.true_and, Bool.and_false, Bool.false_and, Bool.not_true, Bool.not_false, Bool.or_true, Bool.true_or, Bool.or_false, Bool.false_or]), E5⟩
namespace T69
theorem mx : Try.prog.follows .mixedOrders = true := by kernel_rfl
theorem fld_26_0_0 : fldB Try.prog 26 0 0 = true := by kernel_rfl
theorem fld_26_1_1 : fldB Try.prog 26 1 1 = true := by kernel_rfl
theorem fld_26_3_3 : fldB Try.prog 26 3 3 = true := by kernel_rfl
theorem fld_26_4_4 : fldB Try.prog 26 4 4 = true := by kernel_rfl
theorem fn_103 : fnB Try.prog 103 = true := by kernel_rfl
theorem one_2 : oneB Try.prog 2 = true := by kernel_rfl
theorem one_24 : oneB Try.prog 24 = true := by kernel_rfl
theorem one_62 : oneB Try.prog 62 = true := by kernel_rfl
theorem sl_24_62_1 : slB Try.prog 24 62 1 = true := by kernel_rfl
end T69
set_option maxRecDepth 100000 in
set_option maxHeartbeats 4000000 in
theorem c_s_l02Is {wd hi : Int} {wr : Bool} {asp : Option Addr} {nsp csp : Nat} {xsp Xsp : List Nat} {als : Option Addr} {nls cls : Nat} {xls Xls : List Nat} {b o : Nat} (w : World) (qssp : Sl w asp (flts xsp)) (qlsp : xsp.length = nsp) (qksp : cn xsp = Xsp) (qsls : Sl w als (flts xls)) (qlls : xls.length = nls) (qkls : cn xls = Xls) (hP : Sl w (some ⟨b, o, none⟩) [.int .i64 wd, .int .i64 hi, .bool wr, .slice asp nsp csp, .slice als nls cls]) (hb1 : nsp ≤ 9223372036854775806) (hb2 : nls ≤ 9223372036854775806) :
    Calls Try.prog 69 #[.pointer (some ⟨b, o, none⟩)] w (Rt fun v w' => v = .bool (validS wd hi Xsp Xls) ∧ Ext0 w w') := by
  have E0 : Ext no w w := Ext.refl _ _
  have hlP : Xsp.length = nsp := (cn_lenX qksp).trans qlsp
  have hlL : Xls.length = nls := (cn_lenX qkls).trans qlls
  have lo_asp := Sl.low qssp
  have lo_als := Sl.low qsls
  have lo_some_b_o_none := Sl.low hP
  refine calls_W (n := 97) Try.func69 rfl rfl (Nat.le_of_ble_eq_true rfl) ?_
  refine W_seq ?_
  refine W_region (by kernel_rfl) ?_
  refine s_y (v := .bool false) rfl (y_assign rfl) ?_
  refine s_nil ?_
  refine W_seq ?_
  refine W_seq ?_
  refine W_draw (no) T69.mx (by kernel_rfl) (fun w1 e2 => ?_)
  have hS3 := qssp.ext0 e2
  have hS4 := qsls.ext0 e2
  have hS5 := hP.ext0 e2
  have E6 := E0.fresh e2 (fun _ h _ => h.elim)
  have R7 := (Ext.refl (no) w).trans (Ext0.any e2)
  refine m_y (v := .pointer (some ⟨b, o, none⟩)) 0 rfl (by kernel_rfl) rfl rfl (fun w' e' => y_move rfl) ?_
  refine m_y (v := .pointer (some ⟨b, o, none⟩)) 1 rfl (by kernel_rfl) rfl rfl (fun w' e' => y_nil rfl) ?_
  refine m_y (v := .pointer (some ⟨b, o, none⟩)) 2 rfl (by kernel_rfl) rfl rfl (fun w' e' => y_fld (o := o + 0) T69.fld_26_0_0 rfl) ?_
  refine m_y (v := .int .i64 wd) 3 rfl (by kernel_rfl) rfl rfl (fun w' e' => y_load T69.one_2 rfl ((hP.ext0 e').cell (j := 0) rfl)) ?_
  refine m_y (v := .pointer (some ⟨b, o, none⟩)) 4 rfl (by kernel_rfl) rfl rfl (fun w' e' => y_move rfl) ?_
  refine m_y (v := .pointer (some ⟨b, o, none⟩)) 5 rfl (by kernel_rfl) rfl rfl (fun w' e' => y_nil rfl) ?_
  refine m_y (v := .pointer (some ⟨b, o + 1, none⟩)) 6 rfl (by kernel_rfl) rfl rfl (fun w' e' => y_fld (o := o + 0) T69.fld_26_1_1 rfl) ?_
  refine m_y (v := .int .i64 hi) 7 rfl (by kernel_rfl) rfl rfl (fun w' e' => y_load T69.one_2 rfl ((hP.ext0 e').cell (j := 1) rfl)) ?_
  refine m_k 8 [9, 10, 11, 12, 13, 14, 15, 16, 17, 18, 19, 20, 21, 22, 23, 24, 25, 26, 27, 28, 29, 30, 31, 32, 33, 34, 35, 36, 37, 38, 39, 40, 41, 42, 43] rfl (by kernel_rfl) rfl rfl (fun w8 e9 => ?_)
  have hS10 := hS3.ext0 e9
  have hS11 := hS4.ext0 e9
  have hS12 := hS5.ext0 e9
  have E13 := E6.fresh e9 (fun _ h _ => h.elim)
  have R14 := R7.trans (Ext0.any e9)
  refine k_call T69.fn_103 (c_s_l02Sides _) rfl ?_
  rintro v17 w15 ⟨hv18, e16⟩
  have hS19 := hS10.ext0 e16
  have hS20 := hS11.ext0 e16
  have hS21 := hS12.ext0 e16
  have E22 := E13.fresh e16 (fun _ h _ => h.elim)
  have R23 := R14.trans (Ext0.any e16)
  refine ⟨fun _ => R23, ?_⟩
  by_cases c24 : sidesB wd hi = true
  · have hb25 := sides_b c24
    obtain rfl : v17 = .bool true := hv18.trans (congrArg Value.bool c24)
    refine m_y (v := .bool false) 9 rfl (by kernel_rfl) rfl rfl (fun w' e' => y_not rfl rfl) ?_
    refine m_y (v := .bool false) 10 rfl (by kernel_rfl) rfl rfl (fun w' e' => y_move rfl) ?_
    refine m_y (v := .pointer (some ⟨b, o, none⟩)) 11 rfl (by kernel_rfl) rfl rfl (fun w' e' => y_move rfl) ?_
    refine m_y (v := .pointer (some ⟨b, o, none⟩)) 12 rfl (by kernel_rfl) rfl rfl (fun w' e' => y_nil rfl) ?_
    refine m_y (v := .pointer (some ⟨b, o + 3, none⟩)) 13 rfl (by kernel_rfl) rfl rfl (fun w' e' => y_fld (o := o + 0) T69.fld_26_3_3 rfl) ?_
    refine m_y (v := .slice asp nsp csp) 14 rfl (by kernel_rfl) rfl rfl (fun w' e' => y_load T69.one_24 rfl ((hP.ext0 e').cell (j := 3) rfl)) ?_
    refine m_y (v := .int .i64 ((nsp : Nat) : Int)) 15 rfl (by kernel_rfl) rfl rfl (fun w' e' => y_len T69.sl_24_62_1 rfl rfl) ?_
    refine m_y (v := .pointer (some ⟨b, o, none⟩)) 16 rfl (by kernel_rfl) rfl rfl (fun w' e' => y_move rfl) ?_
    refine m_y (v := .pointer (some ⟨b, o, none⟩)) 17 rfl (by kernel_rfl) rfl rfl (fun w' e' => y_nil rfl) ?_
    refine m_y (v := .pointer (some ⟨b, o, none⟩)) 18 rfl (by kernel_rfl) rfl rfl (fun w' e' => y_fld (o := o + 0) T69.fld_26_0_0 rfl) ?_
    refine m_y (v := .int .i64 wd) 19 rfl (by kernel_rfl) rfl rfl (fun w' e' => y_load T69.one_2 rfl ((hP.ext0 e').cell (j := 0) rfl)) ?_
    refine m_y (v := .pointer (some ⟨b, o, none⟩)) 20 rfl (by kernel_rfl) rfl rfl (fun w' e' => y_move rfl) ?_
    refine m_y (v := .pointer (some ⟨b, o, none⟩)) 21 rfl (by kernel_rfl) rfl rfl (fun w' e' => y_nil rfl) ?_
    refine m_y (v := .pointer (some ⟨b, o + 1, none⟩)) 22 rfl (by kernel_rfl) rfl rfl (fun w' e' => y_fld (o := o + 0) T69.fld_26_1_1 rfl) ?_
    refine m_y (v := .int .i64 hi) 23 rfl (by kernel_rfl) rfl rfl (fun w' e' => y_load T69.one_2 rfl ((hP.ext0 e').cell (j := 1) rfl)) ?_
    refine m_y (v := .int .i64 (wd * hi)) 24 rfl (by kernel_rfl) rfl rfl (fun w' e' => y_mul rfl rfl rfl (by omega)) ?_
    by_cases c27 : ((nsp : Nat) : Int) ≠ (wd * hi)
    · refine m_y (v := .bool true) 25 rfl (by kernel_rfl) rfl rfl (fun w' e' => y_neq rfl rfl (decide_eq_true c27)) ?_
      refine m_y (v := .bool true) 26 rfl (by kernel_rfl) rfl rfl (fun w' e' => y_pick_f rfl rfl) ?_
      refine m_y (v := .bool true) 27 rfl (by kernel_rfl) rfl rfl (fun w' e' => y_move rfl) ?_
      refine m_skip 28 rfl (by kernel_rfl) rfl ?_
      refine m_skip 29 rfl (by kernel_rfl) rfl ?_
      refine m_skip 30 rfl (by kernel_rfl) rfl ?_
      refine m_skip 31 rfl (by kernel_rfl) rfl ?_
      refine m_skip 32 rfl (by kernel_rfl) rfl ?_
      refine m_skip 33 rfl (by kernel_rfl) rfl ?_
      refine m_skip 34 rfl (by kernel_rfl) rfl ?_
      refine m_skip 35 rfl (by kernel_rfl) rfl ?_
      refine m_skip 36 rfl (by kernel_rfl) rfl ?_
      refine m_skip 37 rfl (by kernel_rfl) rfl ?_
      refine m_skip 38 rfl (by kernel_rfl) rfl ?_
      refine m_skip 39 rfl (by kernel_rfl) rfl ?_
      refine m_skip 40 rfl (by kernel_rfl) rfl ?_
      refine m_skip 41 rfl (by kernel_rfl) rfl ?_
      refine m_skip 42 rfl (by kernel_rfl) rfl ?_
      refine m_y (v := .bool true) 43 rfl (by kernel_rfl) rfl rfl (fun w' e' => y_pick_t rfl rfl) ?_
      refine m_done (by kernel_rfl) (fun w28 e29 => ?_)
      have hS30 := hS19.ext0 e29
      have hS31 := hS20.ext0 e29
      have hS32 := hS21.ext0 e29
      have E33 := E22.fresh e29 (fun _ h _ => h.elim)
      have R34 := R23.trans (Ext0.any e29)
      refine W_if_t (by decide) rfl ?_
      refine W_seq ?_
      refine W_region (by kernel_rfl) ?_
      refine s_y (v := .bool false) rfl (y_assign rfl) ?_
      refine s_nil ?_
      refine W_ret ?_
      refine ret1 rfl rfl rfl ⟨_, rfl, ?_⟩
      exact ⟨congrArg Value.bool (by simp [validS, hlP, hlL, *]), E33⟩
    · refine m_y (v := .bool false) 25 rfl (by kernel_rfl) rfl rfl (fun w' e' => y_neq rfl rfl (decide_eq_false c27)) ?_
      refine m_y (v := .bool false) 26 rfl (by kernel_rfl) rfl rfl (fun w' e' => y_pick_f rfl rfl) ?_
      refine m_y (v := .bool false) 27 rfl (by kernel_rfl) rfl rfl (fun w' e' => y_move rfl) ?_
      refine m_y (v := .pointer (some ⟨b, o, none⟩)) 28 rfl (by kernel_rfl) rfl rfl (fun w' e' => y_move rfl) ?_
      refine m_y (v := .pointer (some ⟨b, o, none⟩)) 29 rfl (by kernel_rfl) rfl rfl (fun w' e' => y_nil rfl) ?_
      refine m_y (v := .pointer (some ⟨b, o + 4, none⟩)) 30 rfl (by kernel_rfl) rfl rfl (fun w' e' => y_fld (o := o + 0) T69.fld_26_4_4 rfl) ?_
      refine m_y (v := .slice als nls cls) 31 rfl (by kernel_rfl) rfl rfl (fun w' e' => y_load T69.one_24 rfl ((hP.ext0 e').cell (j := 4) rfl)) ?_
      refine m_y (v := .int .i64 ((nls : Nat) : Int)) 32 rfl (by kernel_rfl) rfl rfl (fun w' e' => y_len T69.sl_24_62_1 rfl rfl) ?_
      refine m_y (v := .pointer (some ⟨b, o, none⟩)) 33 rfl (by kernel_rfl) rfl rfl (fun w' e' => y_move rfl) ?_
      refine m_y (v := .pointer (some ⟨b, o, none⟩)) 34 rfl (by kernel_rfl) rfl rfl (fun w' e' => y_nil rfl) ?_
      refine m_y (v := .pointer (some ⟨b, o, none⟩)) 35 rfl (by kernel_rfl) rfl rfl (fun w' e' => y_fld (o := o + 0) T69.fld_26_0_0 rfl) ?_
      refine m_y (v := .int .i64 wd) 36 rfl (by kernel_rfl) rfl rfl (fun w' e' => y_load T69.one_2 rfl ((hP.ext0 e').cell (j := 0) rfl)) ?_
      refine m_y (v := .pointer (some ⟨b, o, none⟩)) 37 rfl (by kernel_rfl) rfl rfl (fun w' e' => y_move rfl) ?_
      refine m_y (v := .pointer (some ⟨b, o, none⟩)) 38 rfl (by kernel_rfl) rfl rfl (fun w' e' => y_nil rfl) ?_
      refine m_y (v := .pointer (some ⟨b, o + 1, none⟩)) 39 rfl (by kernel_rfl) rfl rfl (fun w' e' => y_fld (o := o + 0) T69.fld_26_1_1 rfl) ?_
      refine m_y (v := .int .i64 hi) 40 rfl (by kernel_rfl) rfl rfl (fun w' e' => y_load T69.one_2 rfl ((hP.ext0 e').cell (j := 1) rfl)) ?_
      refine m_y (v := .int .i64 (wd * hi)) 41 rfl (by kernel_rfl) rfl rfl (fun w' e' => y_mul rfl rfl rfl (by omega)) ?_
      by_cases c36 : ((nls : Nat) : Int) ≠ (wd * hi)
      · refine m_y (v := .bool true) 42 rfl (by kernel_rfl) rfl rfl (fun w' e' => y_neq rfl rfl (decide_eq_true c36)) ?_
        refine m_y (v := .bool true) 43 rfl (by kernel_rfl) rfl rfl (fun w' e' => y_pick_f rfl rfl) ?_
        refine m_done (by kernel_rfl) (fun w37 e38 => ?_)
        have hS39 := hS19.ext0 e38
        have hS40 := hS20.ext0 e38
        have hS41 := hS21.ext0 e38
        have E42 := E22.fresh e38 (fun _ h _ => h.elim)
        have R43 := R23.trans (Ext0.any e38)
        refine W_if_t (by decide) rfl ?_
        refine W_seq ?_
        refine W_region (by kernel_rfl) ?_
        refine s_y (v := .bool false) rfl (y_assign rfl) ?_
        refine s_nil ?_
        refine W_ret ?_
        refine ret1 rfl rfl rfl ⟨_, rfl, ?_⟩
        exact ⟨congrArg Value.bool (by simp [validS, hlP, hlL, *]), E42⟩
      · refine m_y (v := .bool false) 42 rfl (by kernel_rfl) rfl rfl (fun w' e' => y_neq rfl rfl (decide_eq_false c36)) ?_
        refine m_y (v := .bool false) 43 rfl (by kernel_rfl) rfl rfl (fun w' e' => y_pick_f rfl rfl) ?_
        refine m_done (by kernel_rfl) (fun w44 e45 => ?_)
        have hS46 := hS19.ext0 e45
        have hS47 := hS20.ext0 e45
        have hS48 := hS21.ext0 e45
        have E49 := E22.fresh e45 (fun _ h _ => h.elim)
        have R50 := R23.trans (Ext0.any e45)
        refine W_if_f (by decide) rfl ?_
        refine W_skip ?_
        refine W_seq ?_
        refine W_seq ?_
        refine W_region (by kernel_rfl) ?_
        refine s_y (v := .int .i64 0) rfl (y_assign rfl) ?_
        refine s_nil ?_
        refine W_block ?_
-- loop drops slots [2]
        refine W_loop (fun ρ' w' => ∃ (ρ1 : Env) (k : Int), ρ' = updL ρ1 [(0, .pointer (some ⟨b, o, none⟩)), (3, .int .i64 k)] ∧ Ext no w w' ∧ Sl w' asp (flts xsp) ∧ Sl w' als (flts xls) ∧ Sl w' (some ⟨b, o, none⟩) [.int .i64 wd, .int .i64 hi, .bool wr, .slice asp nsp csp, .slice als nls cls] ∧ (0 ≤ k) ∧ (k ≤ wd * hi) ∧ (∀ i, 0 ≤ i → i < k → (betw 1056964608 Xsp i && betw 1065353216 Xls i) = true)) (fun ρ' _ => (wd * hi - iv (ρ' 3)).toNat) ?_ ?_
        · exact ⟨_, 0, Fits.eq ⟨rfl, rfl, trivial⟩, E49, hS46, hS47, hS48, (Int.le_refl _), (by omega), (by intro i h0 h1; omega)⟩
        · rintro _ w51 ⟨ρ56, k, rfl, E52, hS53, hS54, hS55, h0k, h1k, hq⟩
          refine W_seq ?_
          refine W_seq ?_
          refine W_region (by kernel_rfl) ?_
          refine s_y (v := .int .i64 k) rfl (y_move rfl) ?_
          refine s_y (v := .pointer (some ⟨b, o, none⟩)) rfl (y_move rfl) ?_
          refine s_y (v := .pointer (some ⟨b, o, none⟩)) rfl (y_nil rfl) ?_
          refine s_y (v := .pointer (some ⟨b, o + 3, none⟩)) rfl (y_fld (o := o + 0) T69.fld_26_3_3 rfl) ?_
          refine s_y (v := .slice asp nsp csp) rfl (y_load T69.one_24 rfl (hS55.cell (j := 3) rfl)) ?_
          refine s_y (v := .int .i64 ((nsp : Nat) : Int)) rfl (y_len T69.sl_24_62_1 rfl rfl) ?_
          by_cases c57 : k < ((nsp : Nat) : Int)
          · refine s_y (v := .bool true) rfl (y_lss rfl rfl (decide_eq_true c57)) ?_
            refine s_nil ?_
            refine W_if_t (by decide) rfl ?_
            refine W_skip ?_
            refine W_seq ?_
            refine W_block ?_
            refine W_seq ?_
            refine W_region (by kernel_rfl) ?_
            refine s_y (v := .pointer (some ⟨b, o, none⟩)) rfl (y_move rfl) ?_
            refine s_y (v := .pointer (some ⟨b, o, none⟩)) rfl (y_nil rfl) ?_
            refine s_y (v := .pointer (some ⟨b, o + 3, none⟩)) rfl (y_fld (o := o + 0) T69.fld_26_3_3 rfl) ?_
            refine s_y (v := .slice asp nsp csp) rfl (y_load T69.one_24 rfl (hS55.cell (j := 3) rfl)) ?_
            refine s_y (v := .int .i64 k) rfl (y_move rfl) ?_
            refine s_y (v := .pointer (some (sat asp ((k).toNat * 1)))) rfl (y_idx T69.sl_24_62_1 rfl rfl (hS53.addr (by rw [flts_length]; omega)) (by omega) (by omega)) ?_
            refine s_y (v := .float .f32 (el xsp k)) rfl (y_load T69.one_62 rfl (hS53.cell (fl_at (by omega) (by omega)))) ?_
            by_cases c58 : fge .f32 (el Xsp k) 0 = true
            · refine s_y (v := .bool true) rfl (y_fgeq rfl rfl (fgeC (cn_el qksp k) (show can .f32 0 = 0 by kernel_rfl) c58)) ?_
              refine s_y (v := .bool false) rfl (y_not rfl rfl) ?_
              refine s_y (v := .bool false) rfl (y_move rfl) ?_
              refine s_y (v := .pointer (some ⟨b, o, none⟩)) rfl (y_move rfl) ?_
              refine s_y (v := .pointer (some ⟨b, o, none⟩)) rfl (y_nil rfl) ?_
              refine s_y (v := .pointer (some ⟨b, o + 3, none⟩)) rfl (y_fld (o := o + 0) T69.fld_26_3_3 rfl) ?_
              refine s_y (v := .slice asp nsp csp) rfl (y_load T69.one_24 rfl (hS55.cell (j := 3) rfl)) ?_
              refine s_y (v := .int .i64 k) rfl (y_move rfl) ?_
              refine s_y (v := .pointer (some (sat asp ((k).toNat * 1)))) rfl (y_idx T69.sl_24_62_1 rfl rfl (hS53.addr (by rw [flts_length]; omega)) (by omega) (by omega)) ?_
              refine s_y (v := .float .f32 (el xsp k)) rfl (y_load T69.one_62 rfl (hS53.cell (fl_at (by omega) (by omega)))) ?_
              by_cases c59 : fgt .f32 (el Xsp k) 1056964608 = true
              · refine s_y (v := .bool true) rfl (y_fgtr rfl rfl (fgtC (cn_el qksp k) (show can .f32 1056964608 = 1056964608 by kernel_rfl) c59)) ?_
                refine s_y (v := .bool true) rfl (y_pick_f rfl rfl) ?_
                refine s_y (v := .bool true) rfl (y_move rfl) ?_
                refine s_skip rfl ?_
                refine s_skip rfl ?_
                refine s_skip rfl ?_
                refine s_skip rfl ?_
                refine s_skip rfl ?_
                refine s_skip rfl ?_
                refine s_skip rfl ?_
                refine s_skip rfl ?_
                refine s_skip rfl ?_
                refine s_y (v := .bool true) rfl (y_pick_t rfl rfl) ?_
                refine s_y (v := .bool true) rfl (y_move rfl) ?_
                refine s_skip rfl ?_
                refine s_skip rfl ?_
                refine s_skip rfl ?_
                refine s_skip rfl ?_
                refine s_skip rfl ?_
                refine s_skip rfl ?_
                refine s_skip rfl ?_
                refine s_skip rfl ?_
                refine s_y (v := .bool true) rfl (y_pick_t rfl rfl) ?_
                refine s_nil ?_
                refine W_if_t (by decide) rfl ?_
                refine W_seq ?_
                refine W_region (by kernel_rfl) ?_
                refine s_y (v := .bool false) rfl (y_assign rfl) ?_
                refine s_nil ?_
                refine W_ret ?_
                refine ret1 rfl rfl rfl ⟨_, rfl, ?_⟩
                exact ⟨congrArg Value.bool (validS_no (i := k) (by omega) (by omega) (by omega) (by first | exact .inl (betw_no1 (by assumption)) | exact .inl (betw_ng half_not (by assumption) (by assumption)) | exact .inr (betw_no1 (by assumption)) | exact .inr (betw_ng one_not (by assumption) (by assumption)))).symm, E52⟩
              · refine s_y (v := .bool false) rfl (y_fgtr rfl rfl (fgtC (cn_el qksp k) (show can .f32 1056964608 = 1056964608 by kernel_rfl) (Bool.eq_false_iff.2 c59))) ?_
                refine s_y (v := .bool false) rfl (y_pick_f rfl rfl) ?_
                refine s_y (v := .bool false) rfl (y_move rfl) ?_
                refine s_y (v := .pointer (some ⟨b, o, none⟩)) rfl (y_move rfl) ?_
                refine s_y (v := .pointer (some ⟨b, o, none⟩)) rfl (y_nil rfl) ?_
                refine s_y (v := .pointer (some ⟨b, o + 4, none⟩)) rfl (y_fld (o := o + 0) T69.fld_26_4_4 rfl) ?_
                refine s_y (v := .slice als nls cls) rfl (y_load T69.one_24 rfl (hS55.cell (j := 4) rfl)) ?_
                refine s_y (v := .int .i64 k) rfl (y_move rfl) ?_
                refine s_y (v := .pointer (some (sat als ((k).toNat * 1)))) rfl (y_idx T69.sl_24_62_1 rfl rfl (hS54.addr (by rw [flts_length]; omega)) (by omega) (by omega)) ?_
                refine s_y (v := .float .f32 (el xls k)) rfl (y_load T69.one_62 rfl (hS54.cell (fl_at (by omega) (by omega)))) ?_
                by_cases c60 : fge .f32 (el Xls k) 0 = true
                · refine s_y (v := .bool true) rfl (y_fgeq rfl rfl (fgeC (cn_el qkls k) (show can .f32 0 = 0 by kernel_rfl) c60)) ?_
                  refine s_y (v := .bool false) rfl (y_not rfl rfl) ?_
                  refine s_y (v := .bool false) rfl (y_pick_f rfl rfl) ?_
                  refine s_y (v := .bool false) rfl (y_move rfl) ?_
                  refine s_y (v := .pointer (some ⟨b, o, none⟩)) rfl (y_move rfl) ?_
                  refine s_y (v := .pointer (some ⟨b, o, none⟩)) rfl (y_nil rfl) ?_
                  refine s_y (v := .pointer (some ⟨b, o + 4, none⟩)) rfl (y_fld (o := o + 0) T69.fld_26_4_4 rfl) ?_
                  refine s_y (v := .slice als nls cls) rfl (y_load T69.one_24 rfl (hS55.cell (j := 4) rfl)) ?_
                  refine s_y (v := .int .i64 k) rfl (y_move rfl) ?_
                  refine s_y (v := .pointer (some (sat als ((k).toNat * 1)))) rfl (y_idx T69.sl_24_62_1 rfl rfl (hS54.addr (by rw [flts_length]; omega)) (by omega) (by omega)) ?_
                  refine s_y (v := .float .f32 (el xls k)) rfl (y_load T69.one_62 rfl (hS54.cell (fl_at (by omega) (by omega)))) ?_
                  by_cases c61 : fgt .f32 (el Xls k) 1065353216 = true
                  · refine s_y (v := .bool true) rfl (y_fgtr rfl rfl (fgtC (cn_el qkls k) (show can .f32 1065353216 = 1065353216 by kernel_rfl) c61)) ?_
                    refine s_y (v := .bool true) rfl (y_pick_f rfl rfl) ?_
                    refine s_nil ?_
                    refine W_if_t (by decide) rfl ?_
                    refine W_seq ?_
                    refine W_region (by kernel_rfl) ?_
                    refine s_y (v := .bool false) rfl (y_assign rfl) ?_
                    refine s_nil ?_
                    refine W_ret ?_
                    refine ret1 rfl rfl rfl ⟨_, rfl, ?_⟩
                    exact ⟨congrArg Value.bool (validS_no (i := k) (by omega) (by omega) (by omega) (by first | exact .inl (betw_no1 (by assumption)) | exact .inl (betw_ng half_not (by assumption) (by assumption)) | exact .inr (betw_no1 (by assumption)) | exact .inr (betw_ng one_not (by assumption) (by assumption)))).symm, E52⟩
                  · refine s_y (v := .bool false) rfl (y_fgtr rfl rfl (fgtC (cn_el qkls k) (show can .f32 1065353216 = 1065353216 by kernel_rfl) (Bool.eq_false_iff.2 c61))) ?_
                    refine s_y (v := .bool false) rfl (y_pick_f rfl rfl) ?_
                    refine s_nil ?_
                    refine W_if_f (by decide) rfl ?_
                    refine W_skip ?_
                    refine W_region (by kernel_rfl) ?_
                    refine s_y (v := .int .i64 k) rfl (y_move rfl) ?_
                    refine s_y (v := .int .i64 (k + 1)) rfl (y_add rfl rfl rfl (by omega)) ?_
                    refine s_y (v := .int .i64 (k + 1)) rfl (y_assign rfl) ?_
                    refine s_nil ?_
                    refine ⟨⟨_, k + 1, Fits.eq ⟨rfl, rfl, trivial⟩, E52, hS53, hS54, hS55, (by omega), (by omega), (allI_more hq (by simp only [Bool.and_eq_true]; exact ⟨betw_g half_not (by assumption) (by assumption), betw_g one_not (by assumption) (by assumption)⟩))⟩, ?_⟩
                    show (wd * hi - (k + 1)).toNat < (wd * hi - k).toNat
                    omega
                · refine s_y (v := .bool false) rfl (y_fgeq rfl rfl (fgeC (cn_el qkls k) (show can .f32 0 = 0 by kernel_rfl) (Bool.eq_false_iff.2 c60))) ?_
                  refine s_y (v := .bool true) rfl (y_not rfl rfl) ?_
                  refine s_y (v := .bool true) rfl (y_pick_f rfl rfl) ?_
                  refine s_y (v := .bool true) rfl (y_move rfl) ?_
                  refine s_skip rfl ?_
                  refine s_skip rfl ?_
                  refine s_skip rfl ?_
                  refine s_skip rfl ?_
                  refine s_skip rfl ?_
                  refine s_skip rfl ?_
                  refine s_skip rfl ?_
                  refine s_skip rfl ?_
                  refine s_y (v := .bool true) rfl (y_pick_t rfl rfl) ?_
                  refine s_nil ?_
                  refine W_if_t (by decide) rfl ?_
                  refine W_seq ?_
                  refine W_region (by kernel_rfl) ?_
                  refine s_y (v := .bool false) rfl (y_assign rfl) ?_
                  refine s_nil ?_
                  refine W_ret ?_
                  refine ret1 rfl rfl rfl ⟨_, rfl, ?_⟩
                  exact ⟨congrArg Value.bool (validS_no (i := k) (by omega) (by omega) (by omega) (by first | exact .inl (betw_no1 (by assumption)) | exact .inl (betw_ng half_not (by assumption) (by assumption)) | exact .inr (betw_no1 (by assumption)) | exact .inr (betw_ng one_not (by assumption) (by assumption)))).symm, E52⟩
            · refine s_y (v := .bool false) rfl (y_fgeq rfl rfl (fgeC (cn_el qksp k) (show can .f32 0 = 0 by kernel_rfl) (Bool.eq_false_iff.2 c58))) ?_
              refine s_y (v := .bool true) rfl (y_not rfl rfl) ?_
              refine s_y (v := .bool true) rfl (y_move rfl) ?_
              refine s_skip rfl ?_
              refine s_skip rfl ?_
              refine s_skip rfl ?_
              refine s_skip rfl ?_
              refine s_skip rfl ?_
              refine s_skip rfl ?_
              refine s_skip rfl ?_
              refine s_skip rfl ?_
              refine s_y (v := .bool true) rfl (y_pick_t rfl rfl) ?_
              refine s_y (v := .bool true) rfl (y_move rfl) ?_
              refine s_skip rfl ?_
              refine s_skip rfl ?_
              refine s_skip rfl ?_
              refine s_skip rfl ?_
              refine s_skip rfl ?_
              refine s_skip rfl ?_
              refine s_skip rfl ?_
              refine s_skip rfl ?_
              refine s_skip rfl ?_
              refine s_y (v := .bool true) rfl (y_pick_t rfl rfl) ?_
              refine s_y (v := .bool true) rfl (y_move rfl) ?_
              refine s_skip rfl ?_
              refine s_skip rfl ?_
              refine s_skip rfl ?_
              refine s_skip rfl ?_
              refine s_skip rfl ?_
              refine s_skip rfl ?_
              refine s_skip rfl ?_
              refine s_skip rfl ?_
              refine s_y (v := .bool true) rfl (y_pick_t rfl rfl) ?_
              refine s_nil ?_
              refine W_if_t (by decide) rfl ?_
              refine W_seq ?_
              refine W_region (by kernel_rfl) ?_
              refine s_y (v := .bool false) rfl (y_assign rfl) ?_
              refine s_nil ?_
              refine W_ret ?_
              refine ret1 rfl rfl rfl ⟨_, rfl, ?_⟩
              exact ⟨congrArg Value.bool (validS_no (i := k) (by omega) (by omega) (by omega) (by first | exact .inl (betw_no1 (by assumption)) | exact .inl (betw_ng half_not (by assumption) (by assumption)) | exact .inr (betw_no1 (by assumption)) | exact .inr (betw_ng one_not (by assumption) (by assumption)))).symm, E52⟩
          · refine s_y (v := .bool false) rfl (y_lss rfl rfl (decide_eq_false c57)) ?_
            refine s_nil ?_
            refine W_if_f (by decide) rfl ?_
            refine W_exit ?_
            refine W_seq ?_
            refine W_region (by kernel_rfl) ?_
            refine s_y (v := .bool true) rfl (y_assign rfl) ?_
            refine s_nil ?_
            refine W_ret ?_
            refine ret1 rfl rfl rfl ⟨_, rfl, ?_⟩
            exact ⟨congrArg Value.bool (validS_yes (by assumption) (by omega) (by omega) (fun i h0 h1 => hq i h0 (by omega))).symm, E52⟩
  · obtain rfl : v17 = .bool false := hv18.trans (congrArg Value.bool (Bool.eq_false_iff.2 c24))
    refine m_y (v := .bool true) 9 rfl (by kernel_rfl) rfl rfl (fun w' e' => y_not rfl rfl) ?_
    refine m_y (v := .bool true) 10 rfl (by kernel_rfl) rfl rfl (fun w' e' => y_move rfl) ?_
    refine m_skip 11 rfl (by kernel_rfl) rfl ?_
    refine m_skip 12 rfl (by kernel_rfl) rfl ?_
    refine m_skip 13 rfl (by kernel_rfl) rfl ?_
    refine m_skip 14 rfl (by kernel_rfl) rfl ?_
    refine m_skip 15 rfl (by kernel_rfl) rfl ?_
    refine m_skip 16 rfl (by kernel_rfl) rfl ?_
    refine m_skip 17 rfl (by kernel_rfl) rfl ?_
    refine m_skip 18 rfl (by kernel_rfl) rfl ?_
    refine m_skip 19 rfl (by kernel_rfl) rfl ?_
    refine m_skip 20 rfl (by kernel_rfl) rfl ?_
    refine m_skip 21 rfl (by kernel_rfl) rfl ?_
    refine m_skip 22 rfl (by kernel_rfl) rfl ?_
    refine m_skip 23 rfl (by kernel_rfl) rfl ?_
    refine m_skip 24 rfl (by kernel_rfl) rfl ?_
    refine m_skip 25 rfl (by kernel_rfl) rfl ?_
    refine m_y (v := .bool true) 26 rfl (by kernel_rfl) rfl rfl (fun w' e' => y_pick_t rfl rfl) ?_
    refine m_y (v := .bool true) 27 rfl (by kernel_rfl) rfl rfl (fun w' e' => y_move rfl) ?_
    refine m_skip 28 rfl (by kernel_rfl) rfl ?_
    refine m_skip 29 rfl (by kernel_rfl) rfl ?_
    refine m_skip 30 rfl (by kernel_rfl) rfl ?_
    refine m_skip 31 rfl (by kernel_rfl) rfl ?_
    refine m_skip 32 rfl (by kernel_rfl) rfl ?_
    refine m_skip 33 rfl (by kernel_rfl) rfl ?_
    refine m_skip 34 rfl (by kernel_rfl) rfl ?_
    refine m_skip 35 rfl (by kernel_rfl) rfl ?_
    refine m_skip 36 rfl (by kernel_rfl) rfl ?_
    refine m_skip 37 rfl (by kernel_rfl) rfl ?_
    refine m_skip 38 rfl (by kernel_rfl) rfl ?_
    refine m_skip 39 rfl (by kernel_rfl) rfl ?_
    refine m_skip 40 rfl (by kernel_rfl) rfl ?_
    refine m_skip 41 rfl (by kernel_rfl) rfl ?_
    refine m_skip 42 rfl (by kernel_rfl) rfl ?_
    refine m_y (v := .bool true) 43 rfl (by kernel_rfl) rfl rfl (fun w' e' => y_pick_t rfl rfl) ?_
    refine m_done (by kernel_rfl) (fun w62 e63 => ?_)
    have hS64 := hS19.ext0 e63
    have hS65 := hS20.ext0 e63
    have hS66 := hS21.ext0 e63
    have E67 := E22.fresh e63 (fun _ h _ => h.elim)
    have R68 := R23.trans (Ext0.any e63)
    refine W_if_t (by decide) rfl ?_
    refine W_seq ?_
    refine W_region (by kernel_rfl) ?_
    refine s_y (v := .bool false) rfl (y_assign rfl) ?_
    refine s_nil ?_
    refine W_ret ?_
    refine ret1 rfl rfl rfl ⟨_, rfl, ?_⟩
    exact ⟨congrArg Value.bool (by simp [validS, hlP, hlL, *]), E67⟩
namespace T73
theorem mx : Try.prog.follows .mixedOrders = true := by kernel_rfl
theorem fld_26_0_0 : fldB Try.prog 26 0 0 = true := by kernel_rfl
theorem fld_26_1_1 : fldB Try.prog 26 1 1 = true := by kernel_rfl
theorem fn_88 : fnB Try.prog 88 = true := by kernel_rfl
theorem one_2 : oneB Try.prog 2 = true := by kernel_rfl
end T73
set_option maxRecDepth 100000 in
set_option maxHeartbeats 4000000 in
theorem c_s_l02Cell {wd hi : Int} {wr : Bool} {asp als : Option Addr} {nsp nls csp cls : Nat} {x : Int} {y : Int} {b o : Nat} (w : World) (hP : Sl w (some ⟨b, o, none⟩) [.int .i64 wd, .int .i64 hi, .bool wr, .slice asp nsp csp, .slice als nls cls]) (h1 : 3 ≤ wd) (h2 : wd ≤ 16) (h3 : 3 ≤ hi) (h4 : hi ≤ 16) :
    Calls Try.prog 73 #[.pointer (some ⟨b, o, none⟩), .int .i64 x, .int .i64 y] w (Rt fun v w' => v = .bool (cellB wd hi x y) ∧ Ext0 w w') := by
  have E0 : Ext no w w := Ext.refl _ _
  have lo_some_b_o_none := Sl.low hP
  refine calls_W (n := 23) Try.func73 rfl rfl (Nat.le_of_ble_eq_true rfl) ?_
  refine W_seq ?_
  refine W_region (by kernel_rfl) ?_
  refine s_y (v := .bool false) rfl (y_assign rfl) ?_
  refine s_nil ?_
  refine W_seq ?_
  refine W_region (by kernel_rfl) ?_
  refine s_y (v := .int .i64 x) rfl (y_move rfl) ?_
  refine s_y (v := .pointer (some ⟨b, o, none⟩)) rfl (y_move rfl) ?_
  refine s_y (v := .pointer (some ⟨b, o, none⟩)) rfl (y_nil rfl) ?_
  refine s_y (v := .pointer (some ⟨b, o, none⟩)) rfl (y_fld (o := o + 0) T73.fld_26_0_0 rfl) ?_
  refine s_y (v := .int .i64 wd) rfl (y_load T73.one_2 rfl (hP.cell (j := 0) rfl)) ?_
  refine s_y (v := .int .i64 (wd - 1)) rfl (y_sub rfl rfl rfl (by omega)) ?_
  refine s_k rfl (k_call T73.fn_88 (c_s_l00In _ _ _ _) rfl ?_)
  rintro v3 w1 ⟨hv4, e2⟩
  have hS5 := hP.ext0 e2
  have E6 := E0.fresh e2 (fun _ h _ => h.elim)
  by_cases c7 : within x 0 (wd - 1) = true
  · have hb8 := within_b c7
    obtain rfl : v3 = .bool true := hv4.trans (congrArg Value.bool c7)
    refine s_y (v := .bool true) rfl (y_move rfl) ?_
    refine s_y (v := .int .i64 y) rfl (y_move rfl) ?_
    refine s_y (v := .pointer (some ⟨b, o, none⟩)) rfl (y_move rfl) ?_
    refine s_y (v := .pointer (some ⟨b, o, none⟩)) rfl (y_nil rfl) ?_
    refine s_y (v := .pointer (some ⟨b, o + 1, none⟩)) rfl (y_fld (o := o + 0) T73.fld_26_1_1 rfl) ?_
    refine s_y (v := .int .i64 hi) rfl (y_load T73.one_2 rfl (hS5.cell (j := 1) rfl)) ?_
    refine s_y (v := .int .i64 (hi - 1)) rfl (y_sub rfl rfl rfl (by omega)) ?_
    refine s_k rfl (k_call T73.fn_88 (c_s_l00In _ _ _ _) rfl ?_)
    rintro v11 w9 ⟨hv12, e10⟩
    have hS13 := hS5.ext0 e10
    have E14 := E6.fresh e10 (fun _ h _ => h.elim)
    by_cases c15 : within y 0 (hi - 1) = true
    · have hb16 := within_b c15
      obtain rfl : v11 = .bool true := hv12.trans (congrArg Value.bool c15)
      refine s_y (v := .bool true) rfl (y_pick_t rfl rfl) ?_
      refine s_y (v := .bool true) rfl (y_assign rfl) ?_
      refine s_nil ?_
      refine W_ret ?_
      refine ret1 rfl rfl rfl ⟨_, rfl, ?_⟩
      exact ⟨congrArg Value.bool (by simp only [cellB, c7, c15, Bool.and_true, Bool.true_and, Bool.and_false, Bool.false_and, Bool.not_true, Bool.not_false, Bool.or_true, Bool.true_or, Bool.or_false, Bool.false_or]), E14⟩
    · obtain rfl : v11 = .bool false := hv12.trans (congrArg Value.bool (Bool.eq_false_iff.2 c15))
      refine s_y (v := .bool false) rfl (y_pick_t rfl rfl) ?_
      refine s_y (v := .bool false) rfl (y_assign rfl) ?_
      refine s_nil ?_
      refine W_ret ?_
      refine ret1 rfl rfl rfl ⟨_, rfl, ?_⟩
      exact ⟨congrArg Value.bool (by simp only [cellB, c7, (Bool.eq_false_iff.2 c15), Bool.and_true, Bool.true_and, Bool.and_false, Bool.false_and, Bool.not_true, Bool.not_false, Bool.or_true, Bool.true_or, Bool.or_false, Bool.false_or]), E14⟩
  · obtain rfl : v3 = .bool false := hv4.trans (congrArg Value.bool (Bool.eq_false_iff.2 c7))
    refine s_y (v := .bool false) rfl (y_move rfl) ?_
    refine s_skip rfl ?_
    refine s_skip rfl ?_
    refine s_skip rfl ?_
    refine s_skip rfl ?_
    refine s_skip rfl ?_
    refine s_skip rfl ?_
    refine s_skip rfl ?_
    refine s_y (v := .bool false) rfl (y_pick_f rfl rfl) ?_
    refine s_y (v := .bool false) rfl (y_assign rfl) ?_
    refine s_nil ?_
    refine W_ret ?_
    refine ret1 rfl rfl rfl ⟨_, rfl, ?_⟩
    exact ⟨congrArg Value.bool (by simp only [cellB, (Bool.eq_false_iff.2 c7), Bool.and_true, Bool.true_and, Bool.and_false, Bool.false_and, Bool.not_true, Bool.not_false, Bool.or_true, Bool.true_or, Bool.or_false, Bool.false_or]), E6⟩
namespace T104
theorem mx : Try.prog.follows .mixedOrders = true := by kernel_rfl
end T104
set_option maxRecDepth 100000 in
set_option maxHeartbeats 4000000 in
theorem c_s_l00Min {a b : Int} (w : World) :
    Calls Try.prog 104 #[.int .i64 a, .int .i64 b] w (Rt fun v w' => v = .int .i64 (min a b) ∧ Ext0 w w') := by
  have E0 : Ext no w w := Ext.refl _ _
  refine calls_W (n := 10) Try.func104 rfl rfl (Nat.le_of_ble_eq_true rfl) ?_
  refine W_seq ?_
  refine W_region (by kernel_rfl) ?_
  refine s_y (v := .int .i64 0) rfl (y_assign rfl) ?_
  refine s_nil ?_
  refine W_seq ?_
  refine W_seq ?_
  refine W_region (by kernel_rfl) ?_
  refine s_y (v := .int .i64 a) rfl (y_move rfl) ?_
  refine s_y (v := .int .i64 b) rfl (y_move rfl) ?_
  by_cases c1 : a < b
  · refine s_y (v := .bool true) rfl (y_lss rfl rfl (decide_eq_true c1)) ?_
    refine s_nil ?_
    refine W_if_t (by decide) rfl ?_
    refine W_seq ?_
    refine W_region (by kernel_rfl) ?_
    refine s_y (v := .int .i64 a) rfl (y_move rfl) ?_
    refine s_y (v := .int .i64 a) rfl (y_assign rfl) ?_
    refine s_nil ?_
    refine W_ret ?_
    refine ret1 rfl rfl rfl ⟨_, rfl, ?_⟩
    exact ⟨congrArg (Value.int .i64) (by omega), E0⟩
  · refine s_y (v := .bool false) rfl (y_lss rfl rfl (decide_eq_false c1)) ?_
    refine s_nil ?_
    refine W_if_f (by decide) rfl ?_
    refine W_skip ?_
    refine W_seq ?_
    refine W_region (by kernel_rfl) ?_
    refine s_y (v := .int .i64 b) rfl (y_move rfl) ?_
    refine s_y (v := .int .i64 b) rfl (y_assign rfl) ?_
    refine s_nil ?_
    refine W_ret ?_
    refine ret1 rfl rfl rfl ⟨_, rfl, ?_⟩
    exact ⟨congrArg (Value.int .i64) (by omega), E0⟩
namespace T74
theorem mx : Try.prog.follows .mixedOrders = true := by kernel_rfl
theorem fld_26_0_0 : fldB Try.prog 26 0 0 = true := by kernel_rfl
theorem fld_26_1_1 : fldB Try.prog 26 1 1 = true := by kernel_rfl
theorem fn_104 : fnB Try.prog 104 = true := by kernel_rfl
theorem one_2 : oneB Try.prog 2 = true := by kernel_rfl
end T74
set_option maxRecDepth 100000 in
set_option maxHeartbeats 4000000 in
theorem c_s_l05Depth {wd hi : Int} {wr : Bool} {asp als : Option Addr} {nsp nls csp cls : Nat} {i : Int} {b o : Nat} (w : World) (hP : Sl w (some ⟨b, o, none⟩) [.int .i64 wd, .int .i64 hi, .bool wr, .slice asp nsp csp, .slice als nls cls]) (h1 : 3 ≤ wd) (h2 : wd ≤ 16) (h3 : 3 ≤ hi) (h4 : hi ≤ 16) (g1 : 0 ≤ i) (g2 : i ≤ 2000000) :
    Calls Try.prog 74 #[.pointer (some ⟨b, o, none⟩), .int .i64 i] w (Rt fun v w' => v = .int .i64 (min (min (i % wd) (wd - 1 - i % wd)) (min (i / wd) (hi - 1 - i / wd))) ∧ Ext0 w w') := by
  have E0 : Ext no w w := Ext.refl _ _
  have lo_some_b_o_none := Sl.low hP
  refine calls_W (n := 38) Try.func74 rfl rfl (Nat.le_of_ble_eq_true rfl) ?_
  refine W_seq ?_
  refine W_region (by kernel_rfl) ?_
  refine s_y (v := .int .i64 0) rfl (y_assign rfl) ?_
  refine s_nil ?_
  refine W_seq ?_
  refine W_region (by kernel_rfl) ?_
  refine s_y (v := .int .i64 i) rfl (y_move rfl) ?_
  refine s_y (v := .pointer (some ⟨b, o, none⟩)) rfl (y_move rfl) ?_
  refine s_y (v := .pointer (some ⟨b, o, none⟩)) rfl (y_nil rfl) ?_
  refine s_y (v := .pointer (some ⟨b, o, none⟩)) rfl (y_fld (o := o + 0) T74.fld_26_0_0 rfl) ?_
  refine s_y (v := .int .i64 wd) rfl (y_load T74.one_2 rfl (hP.cell (j := 0) rfl)) ?_
  have hm1 := rem_b (x := i) (m := wd) (by omega) (by omega)
  refine s_y (v := .int .i64 (i % wd)) rfl (y_rem rfl rfl (by omega) (by omega) rfl) ?_
  refine s_y (v := .int .i64 (i % wd)) rfl (y_assign rfl) ?_
  refine s_nil ?_
  refine W_seq ?_
  refine W_region (by kernel_rfl) ?_
  refine s_y (v := .int .i64 i) rfl (y_move rfl) ?_
  refine s_y (v := .pointer (some ⟨b, o, none⟩)) rfl (y_move rfl) ?_
  refine s_y (v := .pointer (some ⟨b, o, none⟩)) rfl (y_nil rfl) ?_
  refine s_y (v := .pointer (some ⟨b, o, none⟩)) rfl (y_fld (o := o + 0) T74.fld_26_0_0 rfl) ?_
  refine s_y (v := .int .i64 wd) rfl (y_load T74.one_2 rfl (hP.cell (j := 0) rfl)) ?_
  have hm2 := quo_b (x := i) (m := wd) (by omega) (by omega)
  refine s_y (v := .int .i64 (i / wd)) rfl (y_quo rfl rfl (by omega) (by omega) (by omega) rfl) ?_
  refine s_y (v := .int .i64 (i / wd)) rfl (y_assign rfl) ?_
  refine s_nil ?_
  refine W_seq ?_
  refine W_draw (no) T74.mx (by kernel_rfl) (fun w3 e4 => ?_)
  have hS5 := hP.ext0 e4
  have E6 := E0.fresh e4 (fun _ h _ => h.elim)
  have R7 := (Ext.refl (no) w).trans (Ext0.any e4)
  refine m_y (v := .int .i64 (i % wd)) 0 rfl (by kernel_rfl) rfl rfl (fun w' e' => y_move rfl) ?_
  refine m_y (v := .pointer (some ⟨b, o, none⟩)) 1 rfl (by kernel_rfl) rfl rfl (fun w' e' => y_move rfl) ?_
  refine m_y (v := .pointer (some ⟨b, o, none⟩)) 2 rfl (by kernel_rfl) rfl rfl (fun w' e' => y_nil rfl) ?_
  refine m_y (v := .pointer (some ⟨b, o, none⟩)) 3 rfl (by kernel_rfl) rfl rfl (fun w' e' => y_fld (o := o + 0) T74.fld_26_0_0 rfl) ?_
  refine m_y (v := .int .i64 wd) 4 rfl (by kernel_rfl) rfl rfl (fun w' e' => y_load T74.one_2 rfl ((hP.ext0 e').cell (j := 0) rfl)) ?_
  refine m_y (v := .int .i64 (wd - 1)) 5 rfl (by kernel_rfl) rfl rfl (fun w' e' => y_sub rfl rfl rfl (by omega)) ?_
  refine m_y (v := .int .i64 (i % wd)) 6 rfl (by kernel_rfl) rfl rfl (fun w' e' => y_move rfl) ?_
  refine m_y (v := .int .i64 ((wd - 1) - (i % wd))) 7 rfl (by kernel_rfl) rfl rfl (fun w' e' => y_sub rfl rfl rfl (by omega)) ?_
  refine m_y (v := .int .i64 (i / wd)) 9 rfl (by kernel_rfl) rfl rfl (fun w' e' => y_move rfl) ?_
  refine m_y (v := .pointer (some ⟨b, o, none⟩)) 10 rfl (by kernel_rfl) rfl rfl (fun w' e' => y_move rfl) ?_
  refine m_y (v := .pointer (some ⟨b, o, none⟩)) 11 rfl (by kernel_rfl) rfl rfl (fun w' e' => y_nil rfl) ?_
  refine m_y (v := .pointer (some ⟨b, o + 1, none⟩)) 12 rfl (by kernel_rfl) rfl rfl (fun w' e' => y_fld (o := o + 0) T74.fld_26_1_1 rfl) ?_
  refine m_y (v := .int .i64 hi) 13 rfl (by kernel_rfl) rfl rfl (fun w' e' => y_load T74.one_2 rfl ((hP.ext0 e').cell (j := 1) rfl)) ?_
  refine m_y (v := .int .i64 (hi - 1)) 14 rfl (by kernel_rfl) rfl rfl (fun w' e' => y_sub rfl rfl rfl (by omega)) ?_
  refine m_y (v := .int .i64 (i / wd)) 15 rfl (by kernel_rfl) rfl rfl (fun w' e' => y_move rfl) ?_
  refine m_y (v := .int .i64 ((hi - 1) - (i / wd))) 16 rfl (by kernel_rfl) rfl rfl (fun w' e' => y_sub rfl rfl rfl (by omega)) ?_
  refine m_k 8 [17, 18, 19] rfl (by kernel_rfl) rfl rfl (fun w8 e9 => ?_)
  have hS10 := hS5.ext0 e9
  have E11 := E6.fresh e9 (fun _ h _ => h.elim)
  have R12 := R7.trans (Ext0.any e9)
  refine k_call T74.fn_104 (c_s_l00Min _) rfl ?_
  rintro _ w13 ⟨rfl, e14⟩
  have hS15 := hS10.ext0 e14
  have E16 := E11.fresh e14 (fun _ h _ => h.elim)
  have R17 := R12.trans (Ext0.any e14)
  refine ⟨fun _ => R17, ?_⟩
  refine m_k 17 [18, 19] rfl (by kernel_rfl) rfl rfl (fun w18 e19 => ?_)
  have hS20 := hS15.ext0 e19
  have E21 := E16.fresh e19 (fun _ h _ => h.elim)
  have R22 := R17.trans (Ext0.any e19)
  refine k_call T74.fn_104 (c_s_l00Min _) rfl ?_
  rintro _ w23 ⟨rfl, e24⟩
  have hS25 := hS20.ext0 e24
  have E26 := E21.fresh e24 (fun _ h _ => h.elim)
  have R27 := R22.trans (Ext0.any e24)
  refine ⟨fun _ => R27, ?_⟩
  refine m_k 18 [19] rfl (by kernel_rfl) rfl rfl (fun w28 e29 => ?_)
  have hS30 := hS25.ext0 e29
  have E31 := E26.fresh e29 (fun _ h _ => h.elim)
  have R32 := R27.trans (Ext0.any e29)
  refine k_call T74.fn_104 (c_s_l00Min _) rfl ?_
  rintro _ w33 ⟨rfl, e34⟩
  have hS35 := hS30.ext0 e34
  have E36 := E31.fresh e34 (fun _ h _ => h.elim)
  have R37 := R32.trans (Ext0.any e34)
  refine ⟨fun _ => R37, ?_⟩
  refine m_y (v := .int .i64 (min (min (i % wd) ((wd - 1) - (i % wd))) (min (i / wd) ((hi - 1) - (i / wd))))) 19 rfl (by kernel_rfl) rfl rfl (fun w' e' => y_assign rfl) ?_
  refine m_done (by kernel_rfl) (fun w38 e39 => ?_)
  have hS40 := hS35.ext0 e39
  have E41 := E36.fresh e39 (fun _ h _ => h.elim)
  have R42 := R37.trans (Ext0.any e39)
  refine W_ret ?_
  refine ret1 rfl rfl rfl ⟨_, rfl, ?_⟩
  exact ⟨congrArg (Value.int .i64) (rfl), E41⟩
namespace T29
theorem mx : Try.prog.follows .mixedOrders = true := by kernel_rfl
theorem fld_26_0_0 : fldB Try.prog 26 0 0 = true := by kernel_rfl
theorem fn_69 : fnB Try.prog 69 = true := by kernel_rfl
theorem fn_73 : fnB Try.prog 73 = true := by kernel_rfl
theorem fn_74 : fnB Try.prog 74 = true := by kernel_rfl
theorem one_2 : oneB Try.prog 2 = true := by kernel_rfl
end T29
set_option maxRecDepth 100000 in
set_option maxHeartbeats 4000000 in
theorem c_s_DepthOf {wd hi : Int} {wr : Bool} {asp : Option Addr} {nsp csp : Nat} {xsp Xsp : List Nat} {als : Option Addr} {nls cls : Nat} {xls Xls : List Nat} {x y : Int} (w : World) (qssp : Sl w asp (flts xsp)) (qlsp : xsp.length = nsp) (qksp : cn xsp = Xsp) (qsls : Sl w als (flts xls)) (qlls : xls.length = nls) (qkls : cn xls = Xls) (hb1 : nsp ≤ 9223372036854775806) (hb2 : nls ≤ 9223372036854775806) :
    Calls Try.prog 29 #[.agg #[.int .i64 wd, .int .i64 hi, .bool wr, .slice asp nsp csp, .slice als nls cls], .int .i64 x, .int .i64 y] w (Rt fun v w' => v = (if vcellB wd hi Xsp Xls x y = true then .tuple #[.int .i64 (depI wd hi x y), .bool true] else .tuple #[.int .i64 0, .bool false]) ∧ Ext0 w w') := by
  have E0 : Ext no w w := Ext.refl _ _
  have hlP : Xsp.length = nsp := (cn_lenX qksp).trans qlsp
  have hlL : Xls.length = nls := (cn_lenX qkls).trans qlls
  have lo_asp := Sl.low qssp
  have lo_als := Sl.low qsls
  refine calls_W (n := 23) Try.func29 rfl rfl (Nat.le_of_ble_eq_true rfl) ?_
  refine W_seq ?_
  refine W_region (by kernel_rfl) ?_
  refine s_k rfl (k_box (v := .agg #[.int .i64 wd, .int .i64 hi, .bool wr, .slice asp nsp csp, .slice als nls cls]) (cs := [.int .i64 wd, .int .i64 hi, .bool wr, .slice asp nsp csp, .slice als nls cls]) rfl rfl (fun b1 w2 q4 e3 hB5 => ?_))
  have hS6 := qssp.ext0 e3
  have hS7 := qsls.ext0 e3
  have E8 := E0.fresh e3 (fun _ h _ => h.elim)
  have fr9 : NotLt b1 w.heap.size := fun h => Nat.not_lt.2 (Nat.le_trans E0.size (Nat.le_of_eq q4.symm)) h
  clear q4
  refine s_y (v := .int .i64 0) rfl (y_assign rfl) ?_
  refine s_y (v := .bool false) rfl (y_assign rfl) ?_
  refine s_nil ?_
  refine W_seq ?_
  refine W_seq ?_
  refine W_region (by kernel_rfl) ?_
  refine s_k rfl (k_call T29.fn_69 (c_s_l02Is _ hS6 qlsp qksp hS7 qlls qkls hB5.sl (by omega) (by omega)) rfl ?_)
  rintro v12 w10 ⟨hv13, e11⟩
  have hB14 := hB5.ext0 e11
  have hS15 := hS6.ext0 e11
  have hS16 := hS7.ext0 e11
  have E17 := E8.fresh e11 (fun _ h _ => h.elim)
  by_cases c18 : validS wd hi Xsp Xls = true
  · have hb19 := validS_b c18
    obtain rfl : v12 = .bool true := hv13.trans (congrArg Value.bool c18)
    refine s_y (v := .bool false) rfl (y_not rfl rfl) ?_
    refine s_y (v := .bool false) rfl (y_move rfl) ?_
    refine s_y (v := .int .i64 x) rfl (y_move rfl) ?_
    refine s_y (v := .int .i64 y) rfl (y_move rfl) ?_
    refine s_k rfl (k_call T29.fn_73 (c_s_l02Cell _ hB14.sl (by omega) (by omega) (by omega) (by omega)) rfl ?_)
    rintro v22 w20 ⟨hv23, e21⟩
    have hB24 := hB14.ext0 e21
    have hS25 := hS15.ext0 e21
    have hS26 := hS16.ext0 e21
    have E27 := E17.fresh e21 (fun _ h _ => h.elim)
    by_cases c28 : cellB wd hi x y = true
    · have hb29 := cellB_b c28
      obtain rfl : v22 = .bool true := hv23.trans (congrArg Value.bool c28)
      refine s_y (v := .bool false) rfl (y_not rfl rfl) ?_
      refine s_y (v := .bool false) rfl (y_pick_f rfl rfl) ?_
      refine s_nil ?_
      refine W_if_f (by decide) rfl ?_
      refine W_skip ?_
      refine W_seq ?_
      refine W_region (by kernel_rfl) ?_
      refine s_y (v := .int .i64 x) rfl (y_move rfl) ?_
      refine s_y (v := .pointer (some ⟨b1, 0, none⟩)) rfl (y_fld (o := 0) T29.fld_26_0_0 rfl) ?_
      refine s_y (v := .int .i64 wd) rfl (y_load T29.one_2 rfl (hB24.cell (j := 0) rfl)) ?_
      refine s_y (v := .int .i64 y) rfl (y_move rfl) ?_
      have hm30 := mulb (a := wd) (b := y) (by omega) (by omega) (by omega) (by omega)
      refine s_y (v := .int .i64 (wd * y)) rfl (y_mul rfl rfl rfl (by omega)) ?_
      refine s_y (v := .int .i64 (x + (wd * y))) rfl (y_add rfl rfl rfl (by omega)) ?_
      refine s_k rfl (k_call T29.fn_74 (c_s_l05Depth _ hB24.sl (by omega) (by omega) (by omega) (by omega) (by omega) (by omega)) rfl ?_)
      rintro _ w31 ⟨rfl, e32⟩
      have hB33 := hB24.ext0 e32
      have hS34 := hS25.ext0 e32
      have hS35 := hS26.ext0 e32
      have E36 := E27.fresh e32 (fun _ h _ => h.elim)
      refine s_y (v := .int .i64 (min (min ((x + (wd * y)) % wd) (wd - 1 - (x + (wd * y)) % wd)) (min ((x + (wd * y)) / wd) (hi - 1 - (x + (wd * y)) / wd)))) rfl (y_assign rfl) ?_
      refine s_y (v := .bool true) rfl (y_assign rfl) ?_
      refine s_nil ?_
      refine W_ret ?_
      refine ret2 rfl rfl rfl rfl rfl ⟨_, rfl, ?_⟩
      have hcd : vcellB wd hi Xsp Xls x y = true := by simp only [vcellB, c18, c28, Bool.and_true, Bool.true_and, Bool.and_false, Bool.false_and, Bool.not_true, Bool.not_false, Bool.or_true, Bool.true_or, Bool.or_false, Bool.false_or]
      exact ⟨(congrArg (fun q => Value.tuple #[.int .i64 q, .bool true]) (by have hz := divmod_row (wd := wd) (x := x) (y := y) (by omega) (by omega); rw [hz.1, hz.2]; unfold depI; omega)).trans (if_pos hcd).symm, E36⟩
    · obtain rfl : v22 = .bool false := hv23.trans (congrArg Value.bool (Bool.eq_false_iff.2 c28))
      refine s_y (v := .bool true) rfl (y_not rfl rfl) ?_
      refine s_y (v := .bool true) rfl (y_pick_f rfl rfl) ?_
      refine s_nil ?_
      refine W_if_t (by decide) rfl ?_
      refine W_seq ?_
      refine W_region (by kernel_rfl) ?_
      refine s_y (v := .int .i64 0) rfl (y_assign rfl) ?_
      refine s_y (v := .bool false) rfl (y_assign rfl) ?_
      refine s_nil ?_
      refine W_ret ?_
      refine ret2 rfl rfl rfl rfl rfl ⟨_, rfl, ?_⟩
      exact ⟨(if_neg (Bool.eq_false_iff.1 (by simp only [vcellB, c18, (Bool.eq_false_iff.2 c28), Bool.and_true, Bool.true_and, Bool.and_false, Bool.false_and, Bool.not_true, Bool.not_false, Bool.or_true, Bool.true_or, Bool.or_false, Bool.false_or]))).symm, E27⟩
  · obtain rfl : v12 = .bool false := hv13.trans (congrArg Value.bool (Bool.eq_false_iff.2 c18))
    refine s_y (v := .bool true) rfl (y_not rfl rfl) ?_
    refine s_y (v := .bool true) rfl (y_move rfl) ?_
    refine s_skip rfl ?_
    refine s_skip rfl ?_
    refine s_skip rfl ?_
    refine s_skip rfl ?_
    refine s_y (v := .bool true) rfl (y_pick_t rfl rfl) ?_
    refine s_nil ?_
    refine W_if_t (by decide) rfl ?_
    refine W_seq ?_
    refine W_region (by kernel_rfl) ?_
    refine s_y (v := .int .i64 0) rfl (y_assign rfl) ?_
    refine s_y (v := .bool false) rfl (y_assign rfl) ?_
    refine s_nil ?_
    refine W_ret ?_
    refine ret2 rfl rfl rfl rfl rfl ⟨_, rfl, ?_⟩
    exact ⟨(if_neg (Bool.eq_false_iff.1 (by simp only [vcellB, (Bool.eq_false_iff.2 c18), Bool.and_true, Bool.true_and, Bool.and_false, Bool.false_and, Bool.not_true, Bool.not_false, Bool.or_true, Bool.true_or, Bool.or_false, Bool.false_or]))).symm, E17⟩
namespace T65
theorem mx : Try.prog.follows .mixedOrders = true := by kernel_rfl
end T65
set_option maxRecDepth 100000 in
set_option maxHeartbeats 4000000 in
theorem c_i_within (n lo hi : Int) (w : World) :
    Calls Try.prog 65 #[.int .i64 n, .int .i64 lo, .int .i64 hi] w (Rt fun v w' => v = .bool (within n lo hi) ∧ Ext0 w w') := by
  have E0 : Ext no w w := Ext.refl _ _
  refine calls_W (n := 15) Try.func65 rfl rfl (Nat.le_of_ble_eq_true rfl) ?_
  refine W_seq ?_
  refine W_region (by kernel_rfl) ?_
  refine s_y (v := .bool false) rfl (y_assign rfl) ?_
  refine s_nil ?_
  refine W_seq ?_
  refine W_region (by kernel_rfl) ?_
  refine s_y (v := .int .i64 n) rfl (y_move rfl) ?_
  refine s_y (v := .int .i64 lo) rfl (y_move rfl) ?_
  by_cases c1 : lo ≤ n
  · refine s_y (v := .bool true) rfl (y_geq rfl rfl (decide_eq_true c1)) ?_
    refine s_y (v := .bool true) rfl (y_move rfl) ?_
    refine s_y (v := .int .i64 n) rfl (y_move rfl) ?_
    refine s_y (v := .int .i64 hi) rfl (y_move rfl) ?_
    by_cases c2 : n ≤ hi
    · refine s_y (v := .bool true) rfl (y_leq rfl rfl (decide_eq_true c2)) ?_
      refine s_y (v := .bool true) rfl (y_pick_t rfl rfl) ?_
      refine s_y (v := .bool true) rfl (y_assign rfl) ?_
      refine s_nil ?_
      refine W_ret ?_
      refine ret1 rfl rfl rfl ⟨_, rfl, ?_⟩
      exact ⟨congrArg Value.bool (by simp [within] <;> omega), E0⟩
    · refine s_y (v := .bool false) rfl (y_leq rfl rfl (decide_eq_false c2)) ?_
      refine s_y (v := .bool false) rfl (y_pick_t rfl rfl) ?_
      refine s_y (v := .bool false) rfl (y_assign rfl) ?_
      refine s_nil ?_
      refine W_ret ?_
      refine ret1 rfl rfl rfl ⟨_, rfl, ?_⟩
      exact ⟨congrArg Value.bool (by simp [within] <;> omega), E0⟩
  · refine s_y (v := .bool false) rfl (y_geq rfl rfl (decide_eq_false c1)) ?_
    refine s_y (v := .bool false) rfl (y_move rfl) ?_
    refine s_skip rfl ?_
    refine s_skip rfl ?_
    refine s_skip rfl ?_
    refine s_y (v := .bool false) rfl (y_pick_f rfl rfl) ?_
    refine s_y (v := .bool false) rfl (y_assign rfl) ?_
    refine s_nil ?_
    refine W_ret ?_
    refine ret1 rfl rfl rfl ⟨_, rfl, ?_⟩
    exact ⟨congrArg Value.bool (by simp [within] <;> omega), E0⟩
namespace T66
theorem mx : Try.prog.follows .mixedOrders = true := by kernel_rfl
theorem one_62 : oneB Try.prog 62 = true := by kernel_rfl
theorem sl_24_62_1 : slB Try.prog 24 62 1 = true := by kernel_rfl
end T66
set_option maxRecDepth 100000 in
set_option maxHeartbeats 4000000 in
theorem c_i_areBetween {a : Option Addr} {n c : Nat} {x X : List Nat} {m M : Nat} (w : World) (qs : Sl w a (flts x)) (ql : x.length = n) (qk : cn x = X) (hm : can .f32 m = M) (hb : n ≤ 9223372036854775806) :
    Calls Try.prog 66 #[.slice a n c, .float .f32 m] w (Rt fun v w' => v = .bool (allI (n : Nat) (betw M X)) ∧ Ext0 w w') := by
  have E0 : Ext no w w := Ext.refl _ _
  have lo_a := Sl.low qs
  refine calls_W (n := 22) Try.func66 rfl rfl (Nat.le_of_ble_eq_true rfl) ?_
  refine W_seq ?_
  refine W_region (by kernel_rfl) ?_
  refine s_y (v := .bool false) rfl (y_assign rfl) ?_
  refine s_nil ?_
  refine W_seq ?_
  refine W_seq ?_
  refine W_region (by kernel_rfl) ?_
  refine s_y (v := .slice a n c) rfl (y_move rfl) ?_
  refine s_y (v := .int .i64 ((n : Nat) : Int)) rfl (y_len T66.sl_24_62_1 rfl rfl) ?_
  refine s_y (v := .int .i64 0) rfl (y_move rfl) ?_
  refine s_nil ?_
  refine W_block ?_
-- loop drops slots [4]
  refine W_loop (fun ρ' w' => ∃ (ρ1 : Env) (k : Int), ρ' = updL ρ1 [(1, .float .f32 m), (7, .slice a n c), (8, .int .i64 ((n : Nat) : Int)), (9, .int .i64 k)] ∧ Ext no w w' ∧ Sl w' a (flts x) ∧ (0 ≤ k) ∧ (k ≤ (n : Int)) ∧ (∀ i, 0 ≤ i → i < k → betw M X i = true)) (fun ρ' _ => ((n : Int) - iv (ρ' 9)).toNat) ?_ ?_
  · exact ⟨_, 0, Fits.eq ⟨rfl, rfl, rfl, rfl, trivial⟩, E0, qs, (Int.le_refl _), (by omega), (by intro i h0 h1; omega)⟩
  · rintro _ w1 ⟨ρ4, k, rfl, E2, hS3, h0k, h1k, hq⟩
    refine W_seq ?_
    refine W_region (by kernel_rfl) ?_
    by_cases c5 : k < ((n : Nat) : Int)
    · refine s_y (v := .bool true) rfl (y_lss rfl rfl (decide_eq_true c5)) ?_
      refine s_nil ?_
      refine W_seq ?_
      refine W_if_t (by decide) rfl ?_
      refine W_skip ?_
      refine W_seq ?_
      refine W_block ?_
      refine W_seq ?_
      refine W_region (by kernel_rfl) ?_
      refine s_y (v := .pointer (some (sat a ((k).toNat * 1)))) rfl (y_idx T66.sl_24_62_1 rfl rfl (hS3.addr (by rw [flts_length]; omega)) (by omega) (by omega)) ?_
      refine s_y (v := .float .f32 (el x k)) rfl (y_load T66.one_62 rfl (hS3.cell (fl_at (by omega) (by omega)))) ?_
      refine s_y (v := .float .f32 (el x k)) rfl (y_assign rfl) ?_
      refine s_nil ?_
      refine W_seq ?_
      refine W_region (by kernel_rfl) ?_
      refine s_y (v := .float .f32 (el x k)) rfl (y_move rfl) ?_
      by_cases c6 : fge .f32 (el X k) 0 = true
      · refine s_y (v := .bool true) rfl (y_fgeq rfl rfl (fgeC (cn_el qk k) (show can .f32 0 = 0 by kernel_rfl) c6)) ?_
        refine s_y (v := .bool true) rfl (y_move rfl) ?_
        refine s_y (v := .float .f32 (el x k)) rfl (y_move rfl) ?_
        refine s_y (v := .float .f32 m) rfl (y_move rfl) ?_
        by_cases c7 : fle .f32 (el X k) M = true
        · refine s_y (v := .bool true) rfl (y_fleq rfl rfl (fleC (cn_el qk k) hm c7)) ?_
          refine s_y (v := .bool true) rfl (y_pick_t rfl rfl) ?_
          refine s_y (v := .bool false) rfl (y_not rfl rfl) ?_
          refine s_nil ?_
          refine W_if_f (by decide) rfl ?_
          refine W_skip ?_
          refine W_region (by kernel_rfl) ?_
          refine s_y (v := .int .i64 (k + 1)) rfl (y_add rfl rfl rfl (by omega)) ?_
          refine s_y (v := .int .i64 (k + 1)) rfl (y_move rfl) ?_
          refine s_nil ?_
          refine ⟨⟨_, k + 1, Fits.eq ⟨rfl, rfl, rfl, rfl, trivial⟩, E2, hS3, (by omega), (by omega), (allI_more hq (betw_yes (by assumption) (by assumption)))⟩, ?_⟩
          show ((n : Int) - (k + 1)).toNat < ((n : Int) - k).toNat
          omega
        · refine s_y (v := .bool false) rfl (y_fleq rfl rfl (fleC (cn_el qk k) hm (Bool.eq_false_iff.2 c7))) ?_
          refine s_y (v := .bool false) rfl (y_pick_t rfl rfl) ?_
          refine s_y (v := .bool true) rfl (y_not rfl rfl) ?_
          refine s_nil ?_
          refine W_if_t (by decide) rfl ?_
          refine W_seq ?_
          refine W_region (by kernel_rfl) ?_
          refine s_y (v := .bool false) rfl (y_assign rfl) ?_
          refine s_nil ?_
          refine W_ret ?_
          refine ret1 rfl rfl rfl ⟨_, rfl, ?_⟩
          exact ⟨congrArg Value.bool (allI_false (by omega) (by omega) (by first | exact betw_no1 (by assumption) | exact betw_no2 (by assumption))).symm, E2⟩
      · refine s_y (v := .bool false) rfl (y_fgeq rfl rfl (fgeC (cn_el qk k) (show can .f32 0 = 0 by kernel_rfl) (Bool.eq_false_iff.2 c6))) ?_
        refine s_y (v := .bool false) rfl (y_move rfl) ?_
        refine s_skip rfl ?_
        refine s_skip rfl ?_
        refine s_skip rfl ?_
        refine s_y (v := .bool false) rfl (y_pick_f rfl rfl) ?_
        refine s_y (v := .bool true) rfl (y_not rfl rfl) ?_
        refine s_nil ?_
        refine W_if_t (by decide) rfl ?_
        refine W_seq ?_
        refine W_region (by kernel_rfl) ?_
        refine s_y (v := .bool false) rfl (y_assign rfl) ?_
        refine s_nil ?_
        refine W_ret ?_
        refine ret1 rfl rfl rfl ⟨_, rfl, ?_⟩
        exact ⟨congrArg Value.bool (allI_false (by omega) (by omega) (by first | exact betw_no1 (by assumption) | exact betw_no2 (by assumption))).symm, E2⟩
    · refine s_y (v := .bool false) rfl (y_lss rfl rfl (decide_eq_false c5)) ?_
      refine s_nil ?_
      refine W_seq ?_
      refine W_if_f (by decide) rfl ?_
      refine W_exit ?_
      refine W_seq ?_
      refine W_region (by kernel_rfl) ?_
      refine s_y (v := .bool true) rfl (y_assign rfl) ?_
      refine s_nil ?_
      refine W_ret ?_
      refine ret1 rfl rfl rfl ⟨_, rfl, ?_⟩
      exact ⟨congrArg Value.bool (allI_true (fun i h0 h1 => hq i h0 (by omega))).symm, E2⟩
namespace T19
theorem mx : Try.prog.follows .mixedOrders = true := by kernel_rfl
theorem fld_26_0_0 : fldB Try.prog 26 0 0 = true := by kernel_rfl
theorem fld_26_1_1 : fldB Try.prog 26 1 1 = true := by kernel_rfl
theorem fld_26_3_3 : fldB Try.prog 26 3 3 = true := by kernel_rfl
theorem fld_26_4_4 : fldB Try.prog 26 4 4 = true := by kernel_rfl
theorem fn_65 : fnB Try.prog 65 = true := by kernel_rfl
theorem fn_66 : fnB Try.prog 66 = true := by kernel_rfl
theorem one_2 : oneB Try.prog 2 = true := by kernel_rfl
theorem one_24 : oneB Try.prog 24 = true := by kernel_rfl
theorem sl_24_62_1 : slB Try.prog 24 62 1 = true := by kernel_rfl
end T19
set_option maxRecDepth 100000 in
set_option maxHeartbeats 4000000 in
theorem c_i_ValidSheet {wd hi : Int} {wr : Bool} {asp : Option Addr} {nsp csp : Nat} {xsp Xsp : List Nat} {als : Option Addr} {nls cls : Nat} {xls Xls : List Nat} (w : World) (qssp : Sl w asp (flts xsp)) (qlsp : xsp.length = nsp) (qksp : cn xsp = Xsp) (qsls : Sl w als (flts xls)) (qlls : xls.length = nls) (qkls : cn xls = Xls) (hb1 : nsp ≤ 9223372036854775806) (hb2 : nls ≤ 9223372036854775806) :
    Calls Try.prog 19 #[.agg #[.int .i64 wd, .int .i64 hi, .bool wr, .slice asp nsp csp, .slice als nls cls]] w (Rt fun v w' => v = .bool (validS wd hi Xsp Xls) ∧ Ext0 w w') := by
  have E0 : Ext no w w := Ext.refl _ _
  have hlP : Xsp.length = nsp := (cn_lenX qksp).trans qlsp
  have hlL : Xls.length = nls := (cn_lenX qkls).trans qlls
  have lo_asp := Sl.low qssp
  have lo_als := Sl.low qsls
  refine calls_W (n := 45) Try.func19 rfl rfl (Nat.le_of_ble_eq_true rfl) ?_
  refine W_seq ?_
  refine W_region (by kernel_rfl) ?_
  refine s_k rfl (k_box (v := .agg #[.int .i64 wd, .int .i64 hi, .bool wr, .slice asp nsp csp, .slice als nls cls]) (cs := [.int .i64 wd, .int .i64 hi, .bool wr, .slice asp nsp csp, .slice als nls cls]) rfl rfl (fun b1 w2 q4 e3 hB5 => ?_))
  have hS6 := qssp.ext0 e3
  have hS7 := qsls.ext0 e3
  have E8 := E0.fresh e3 (fun _ h _ => h.elim)
  have fr9 : NotLt b1 w.heap.size := fun h => Nat.not_lt.2 (Nat.le_trans E0.size (Nat.le_of_eq q4.symm)) h
  clear q4
  refine s_y (v := .bool false) rfl (y_assign rfl) ?_
  refine s_nil ?_
  refine W_seq ?_
  refine W_region (by kernel_rfl) ?_
  refine s_y (v := .pointer (some ⟨b1, 0, none⟩)) rfl (y_fld (o := 0) T19.fld_26_0_0 rfl) ?_
  refine s_y (v := .int .i64 wd) rfl (y_load T19.one_2 rfl (hB5.cell (j := 0) rfl)) ?_
  refine s_y (v := .pointer (some ⟨b1, 1, none⟩)) rfl (y_fld (o := 0) T19.fld_26_1_1 rfl) ?_
  refine s_y (v := .int .i64 hi) rfl (y_load T19.one_2 rfl (hB5.cell (j := 1) rfl)) ?_
  by_cases hr10 : -9223372036854775808 ≤ wd * hi ∧ wd * hi ≤ 9223372036854775807
  · refine s_y (v := .int .i64 (wd * hi)) rfl (y_mul rfl rfl rfl hr10) ?_
    refine s_y (v := .int .i64 (wd * hi)) rfl (y_assign rfl) ?_
    refine s_nil ?_
    refine W_seq ?_
    refine W_seq ?_
    refine W_region (by kernel_rfl) ?_
    refine s_y (v := .pointer (some ⟨b1, 0, none⟩)) rfl (y_fld (o := 0) T19.fld_26_0_0 rfl) ?_
    refine s_y (v := .int .i64 wd) rfl (y_load T19.one_2 rfl (hB5.cell (j := 0) rfl)) ?_
    refine s_k rfl (k_call T19.fn_65 (c_i_within _ _ _ _) rfl ?_)
    rintro v13 w11 ⟨hv14, e12⟩
    have hB15 := hB5.ext0 e12
    have hS16 := hS6.ext0 e12
    have hS17 := hS7.ext0 e12
    have E18 := E8.fresh e12 (fun _ h _ => h.elim)
    by_cases c19 : within wd 3 16 = true
    · have hb20 := within_b c19
      obtain rfl : v13 = .bool true := hv14.trans (congrArg Value.bool c19)
      refine s_y (v := .bool false) rfl (y_not rfl rfl) ?_
      refine s_y (v := .bool false) rfl (y_move rfl) ?_
      refine s_y (v := .pointer (some ⟨b1, 1, none⟩)) rfl (y_fld (o := 0) T19.fld_26_1_1 rfl) ?_
      refine s_y (v := .int .i64 hi) rfl (y_load T19.one_2 rfl (hB15.cell (j := 1) rfl)) ?_
      refine s_k rfl (k_call T19.fn_65 (c_i_within _ _ _ _) rfl ?_)
      rintro v23 w21 ⟨hv24, e22⟩
      have hB25 := hB15.ext0 e22
      have hS26 := hS16.ext0 e22
      have hS27 := hS17.ext0 e22
      have E28 := E18.fresh e22 (fun _ h _ => h.elim)
      by_cases c29 : within hi 3 16 = true
      · have hb30 := within_b c29
        obtain rfl : v23 = .bool true := hv24.trans (congrArg Value.bool c29)
        refine s_y (v := .bool false) rfl (y_not rfl rfl) ?_
        refine s_y (v := .bool false) rfl (y_pick_f rfl rfl) ?_
        refine s_y (v := .bool false) rfl (y_move rfl) ?_
        refine s_y (v := .int .i64 (wd * hi)) rfl (y_move rfl) ?_
        have hk31 : ¬ (256 < (wd * hi)) := (by have hz := mul16 (And.intro (within_b c19) (within_b c29)); omega)
        refine s_y (v := .bool false) rfl (y_gtr rfl rfl (decide_eq_false hk31)) ?_
        refine s_y (v := .bool false) rfl (y_pick_f rfl rfl) ?_
        refine s_nil ?_
        refine W_if_f (by decide) rfl ?_
        refine W_skip ?_
        refine W_seq ?_
        refine W_region (by kernel_rfl) ?_
        refine s_y (v := .pointer (some ⟨b1, 3, none⟩)) rfl (y_fld (o := 0) T19.fld_26_3_3 rfl) ?_
        refine s_y (v := .slice asp nsp csp) rfl (y_load T19.one_24 rfl (hB25.cell (j := 3) rfl)) ?_
        refine s_y (v := .int .i64 ((nsp : Nat) : Int)) rfl (y_len T19.sl_24_62_1 rfl rfl) ?_
        refine s_y (v := .int .i64 (wd * hi)) rfl (y_move rfl) ?_
        by_cases c32 : ((nsp : Nat) : Int) = (wd * hi)
        · refine s_y (v := .bool true) rfl (y_eql rfl rfl (decide_eq_true c32)) ?_
          refine s_y (v := .bool true) rfl (y_move rfl) ?_
          refine s_y (v := .pointer (some ⟨b1, 4, none⟩)) rfl (y_fld (o := 0) T19.fld_26_4_4 rfl) ?_
          refine s_y (v := .slice als nls cls) rfl (y_load T19.one_24 rfl (hB25.cell (j := 4) rfl)) ?_
          refine s_y (v := .int .i64 ((nls : Nat) : Int)) rfl (y_len T19.sl_24_62_1 rfl rfl) ?_
          refine s_y (v := .int .i64 (wd * hi)) rfl (y_move rfl) ?_
          by_cases c33 : ((nls : Nat) : Int) = (wd * hi)
          · refine s_y (v := .bool true) rfl (y_eql rfl rfl (decide_eq_true c33)) ?_
            refine s_y (v := .bool true) rfl (y_pick_t rfl rfl) ?_
            refine s_y (v := .bool true) rfl (y_move rfl) ?_
            refine s_y (v := .pointer (some ⟨b1, 3, none⟩)) rfl (y_fld (o := 0) T19.fld_26_3_3 rfl) ?_
            refine s_y (v := .slice asp nsp csp) rfl (y_load T19.one_24 rfl (hB25.cell (j := 3) rfl)) ?_
            refine s_k rfl (k_call T19.fn_66 (c_i_areBetween _ hS26 qlsp qksp (show can .f32 1056964608 = 1056964608 by kernel_rfl) (by omega)) rfl ?_)
            rintro v36 w34 ⟨hv37, e35⟩
            have hB38 := hB25.ext0 e35
            have hS39 := hS26.ext0 e35
            have hS40 := hS27.ext0 e35
            have E41 := E28.fresh e35 (fun _ h _ => h.elim)
            by_cases c42 : allI (nsp : Nat) (betw 1056964608 Xsp) = true
            · obtain rfl : v36 = .bool true := hv37.trans (congrArg Value.bool c42)
              refine s_y (v := .bool true) rfl (y_pick_t rfl rfl) ?_
              refine s_y (v := .bool true) rfl (y_move rfl) ?_
              refine s_y (v := .pointer (some ⟨b1, 4, none⟩)) rfl (y_fld (o := 0) T19.fld_26_4_4 rfl) ?_
              refine s_y (v := .slice als nls cls) rfl (y_load T19.one_24 rfl (hB38.cell (j := 4) rfl)) ?_
              refine s_k rfl (k_call T19.fn_66 (c_i_areBetween _ hS40 qlls qkls (show can .f32 1065353216 = 1065353216 by kernel_rfl) (by omega)) rfl ?_)
              rintro v45 w43 ⟨hv46, e44⟩
              have hB47 := hB38.ext0 e44
              have hS48 := hS39.ext0 e44
              have hS49 := hS40.ext0 e44
              have E50 := E41.fresh e44 (fun _ h _ => h.elim)
              by_cases c51 : allI (nls : Nat) (betw 1065353216 Xls) = true
              · obtain rfl : v45 = .bool true := hv46.trans (congrArg Value.bool c51)
                refine s_y (v := .bool true) rfl (y_pick_t rfl rfl) ?_
                refine s_y (v := .bool true) rfl (y_assign rfl) ?_
                refine s_nil ?_
                refine W_ret ?_
                refine ret1 rfl rfl rfl ⟨_, rfl, ?_⟩
                exact ⟨congrArg Value.bool (by simp only [validS_eq hlP hlL, c19, c29, (decide_eq_false hk31), (decide_eq_true c32), (decide_eq_true c33), c42, c51, Bool.and_true, Bool.true_and, Bool.and_false, Bool.false_and, Bool.not_true, Bool.not_false, Bool.or_true, Bool.true_or, Bool.or_false, Bool.false_or]), E50⟩
              · obtain rfl : v45 = .bool false := hv46.trans (congrArg Value.bool (Bool.eq_false_iff.2 c51))
                refine s_y (v := .bool false) rfl (y_pick_t rfl rfl) ?_
                refine s_y (v := .bool false) rfl (y_assign rfl) ?_
                refine s_nil ?_
                refine W_ret ?_
                refine ret1 rfl rfl rfl ⟨_, rfl, ?_⟩
                exact ⟨congrArg Value.bool (by simp only [validS_eq hlP hlL, c19, c29, (decide_eq_false hk31), (decide_eq_true c32), (decide_eq_true c33), c42, (Bool.eq_false_iff.2 c51), Bool.and_true, Bool.true_and, Bool.and_false, Bool.false_and, Bool.not_true, Bool.not_false, Bool.or_true, Bool.true_or, Bool.or_false, Bool.false_or]), E50⟩
            · obtain rfl : v36 = .bool false := hv37.trans (congrArg Value.bool (Bool.eq_false_iff.2 c42))
              refine s_y (v := .bool false) rfl (y_pick_t rfl rfl) ?_
              refine s_y (v := .bool false) rfl (y_move rfl) ?_
              refine s_skip rfl ?_
              refine s_skip rfl ?_
              refine s_skip rfl ?_
              refine s_y (v := .bool false) rfl (y_pick_f rfl rfl) ?_
              refine s_y (v := .bool false) rfl (y_assign rfl) ?_
              refine s_nil ?_
              refine W_ret ?_
              refine ret1 rfl rfl rfl ⟨_, rfl, ?_⟩
              exact ⟨congrArg Value.bool (by simp only [validS_eq hlP hlL, c19, c29, (decide_eq_false hk31), (decide_eq_true c32), (decide_eq_true c33), (Bool.eq_false_iff.2 c42), Bool.and_true, Bool.true_and, Bool.and_false, Bool.false_and, Bool.not_true, Bool.not_false, Bool.or_true, Bool.true_or, Bool.or_false, Bool.false_or]), E41⟩
          · refine s_y (v := .bool false) rfl (y_eql rfl rfl (decide_eq_false c33)) ?_
            refine s_y (v := .bool false) rfl (y_pick_t rfl rfl) ?_
            refine s_y (v := .bool false) rfl (y_move rfl) ?_
            refine s_skip rfl ?_
            refine s_skip rfl ?_
            refine s_skip rfl ?_
            refine s_y (v := .bool false) rfl (y_pick_f rfl rfl) ?_
            refine s_y (v := .bool false) rfl (y_move rfl) ?_
            refine s_skip rfl ?_
            refine s_skip rfl ?_
            refine s_skip rfl ?_
            refine s_y (v := .bool false) rfl (y_pick_f rfl rfl) ?_
            refine s_y (v := .bool false) rfl (y_assign rfl) ?_
            refine s_nil ?_
            refine W_ret ?_
            refine ret1 rfl rfl rfl ⟨_, rfl, ?_⟩
            exact ⟨congrArg Value.bool (by simp only [validS_eq hlP hlL, c19, c29, (decide_eq_false hk31), (decide_eq_true c32), (decide_eq_false c33), Bool.and_true, Bool.true_and, Bool.and_false, Bool.false_and, Bool.not_true, Bool.not_false, Bool.or_true, Bool.true_or, Bool.or_false, Bool.false_or]), E28⟩
        · refine s_y (v := .bool false) rfl (y_eql rfl rfl (decide_eq_false c32)) ?_
          refine s_y (v := .bool false) rfl (y_move rfl) ?_
          refine s_skip rfl ?_
          refine s_skip rfl ?_
          refine s_skip rfl ?_
          refine s_skip rfl ?_
          refine s_skip rfl ?_
          refine s_y (v := .bool false) rfl (y_pick_f rfl rfl) ?_
          refine s_y (v := .bool false) rfl (y_move rfl) ?_
          refine s_skip rfl ?_
          refine s_skip rfl ?_
          refine s_skip rfl ?_
          refine s_y (v := .bool false) rfl (y_pick_f rfl rfl) ?_
          refine s_y (v := .bool false) rfl (y_move rfl) ?_
          refine s_skip rfl ?_
          refine s_skip rfl ?_
          refine s_skip rfl ?_
          refine s_y (v := .bool false) rfl (y_pick_f rfl rfl) ?_
          refine s_y (v := .bool false) rfl (y_assign rfl) ?_
          refine s_nil ?_
          refine W_ret ?_
          refine ret1 rfl rfl rfl ⟨_, rfl, ?_⟩
          exact ⟨congrArg Value.bool (by simp only [validS_eq hlP hlL, c19, c29, (decide_eq_false hk31), (decide_eq_false c32), Bool.and_true, Bool.true_and, Bool.and_false, Bool.false_and, Bool.not_true, Bool.not_false, Bool.or_true, Bool.true_or, Bool.or_false, Bool.false_or]), E28⟩
      · obtain rfl : v23 = .bool false := hv24.trans (congrArg Value.bool (Bool.eq_false_iff.2 c29))
        refine s_y (v := .bool true) rfl (y_not rfl rfl) ?_
        refine s_y (v := .bool true) rfl (y_pick_f rfl rfl) ?_
        refine s_y (v := .bool true) rfl (y_move rfl) ?_
        refine s_skip rfl ?_
        refine s_skip rfl ?_
        refine s_y (v := .bool true) rfl (y_pick_t rfl rfl) ?_
        refine s_nil ?_
        refine W_if_t (by decide) rfl ?_
        refine W_seq ?_
        refine W_region (by kernel_rfl) ?_
        refine s_y (v := .bool false) rfl (y_assign rfl) ?_
        refine s_nil ?_
        refine W_ret ?_
        refine ret1 rfl rfl rfl ⟨_, rfl, ?_⟩
        exact ⟨congrArg Value.bool (by simp only [validS_eq hlP hlL, c19, (Bool.eq_false_iff.2 c29), Bool.and_true, Bool.true_and, Bool.and_false, Bool.false_and, Bool.not_true, Bool.not_false, Bool.or_true, Bool.true_or, Bool.or_false, Bool.false_or]), E28⟩
    · obtain rfl : v13 = .bool false := hv14.trans (congrArg Value.bool (Bool.eq_false_iff.2 c19))
      refine s_y (v := .bool true) rfl (y_not rfl rfl) ?_
      refine s_y (v := .bool true) rfl (y_move rfl) ?_
      refine s_skip rfl ?_
      refine s_skip rfl ?_
      refine s_skip rfl ?_
      refine s_skip rfl ?_
      refine s_y (v := .bool true) rfl (y_pick_t rfl rfl) ?_
      refine s_y (v := .bool true) rfl (y_move rfl) ?_
      refine s_skip rfl ?_
      refine s_skip rfl ?_
      refine s_y (v := .bool true) rfl (y_pick_t rfl rfl) ?_
      refine s_nil ?_
      refine W_if_t (by decide) rfl ?_
      refine W_seq ?_
      refine W_region (by kernel_rfl) ?_
      refine s_y (v := .bool false) rfl (y_assign rfl) ?_
      refine s_nil ?_
      refine W_ret ?_
      refine ret1 rfl rfl rfl ⟨_, rfl, ?_⟩
      exact ⟨congrArg Value.bool (by simp only [validS_eq hlP hlL, (Bool.eq_false_iff.2 c19), Bool.and_true, Bool.true_and, Bool.and_false, Bool.false_and, Bool.not_true, Bool.not_false, Bool.or_true, Bool.true_or, Bool.or_false, Bool.false_or]), E18⟩
  · have hw52 := wrap64_b (wd * hi)
    refine s_y (v := .int .i64 (IntKind.i64.wrap (wd * hi))) rfl (y_mulw rfl rfl) ?_
    refine s_y (v := .int .i64 (IntKind.i64.wrap (wd * hi))) rfl (y_assign rfl) ?_
    refine s_nil ?_
    refine W_seq ?_
    refine W_seq ?_
    refine W_region (by kernel_rfl) ?_
    refine s_y (v := .pointer (some ⟨b1, 0, none⟩)) rfl (y_fld (o := 0) T19.fld_26_0_0 rfl) ?_
    refine s_y (v := .int .i64 wd) rfl (y_load T19.one_2 rfl (hB5.cell (j := 0) rfl)) ?_
    refine s_k rfl (k_call T19.fn_65 (c_i_within _ _ _ _) rfl ?_)
    rintro v55 w53 ⟨hv56, e54⟩
    have hB57 := hB5.ext0 e54
    have hS58 := hS6.ext0 e54
    have hS59 := hS7.ext0 e54
    have E60 := E8.fresh e54 (fun _ h _ => h.elim)
    by_cases c61 : within wd 3 16 = true
    · have hb62 := within_b c61
      obtain rfl : v55 = .bool true := hv56.trans (congrArg Value.bool c61)
      refine s_y (v := .bool false) rfl (y_not rfl rfl) ?_
      refine s_y (v := .bool false) rfl (y_move rfl) ?_
      refine s_y (v := .pointer (some ⟨b1, 1, none⟩)) rfl (y_fld (o := 0) T19.fld_26_1_1 rfl) ?_
      refine s_y (v := .int .i64 hi) rfl (y_load T19.one_2 rfl (hB57.cell (j := 1) rfl)) ?_
      refine s_k rfl (k_call T19.fn_65 (c_i_within _ _ _ _) rfl ?_)
      rintro v65 w63 ⟨hv66, e64⟩
      have hB67 := hB57.ext0 e64
      have hS68 := hS58.ext0 e64
      have hS69 := hS59.ext0 e64
      have E70 := E60.fresh e64 (fun _ h _ => h.elim)
      have hk71 : ¬ (within hi 3 16 = true) := (fun hq => by have hz := mul16 (And.intro (within_b c61) (within_b hq)); omega)
      obtain rfl : v65 = .bool false := hv66.trans (congrArg Value.bool (Bool.eq_false_iff.2 hk71))
      refine s_y (v := .bool true) rfl (y_not rfl rfl) ?_
      refine s_y (v := .bool true) rfl (y_pick_f rfl rfl) ?_
      refine s_y (v := .bool true) rfl (y_move rfl) ?_
      refine s_skip rfl ?_
      refine s_skip rfl ?_
      refine s_y (v := .bool true) rfl (y_pick_t rfl rfl) ?_
      refine s_nil ?_
      refine W_if_t (by decide) rfl ?_
      refine W_seq ?_
      refine W_region (by kernel_rfl) ?_
      refine s_y (v := .bool false) rfl (y_assign rfl) ?_
      refine s_nil ?_
      refine W_ret ?_
      refine ret1 rfl rfl rfl ⟨_, rfl, ?_⟩
      exact ⟨congrArg Value.bool (by simp only [validS_eq hlP hlL, c61, (Bool.eq_false_iff.2 hk71), Bool.and_true, Bool.true_and, Bool.and_false, Bool.false_and, Bool.not_true, Bool.not_false, Bool.or_true, Bool.true_or, Bool.or_false, Bool.false_or]), E70⟩
    · obtain rfl : v55 = .bool false := hv56.trans (congrArg Value.bool (Bool.eq_false_iff.2 c61))
      refine s_y (v := .bool true) rfl (y_not rfl rfl) ?_
      refine s_y (v := .bool true) rfl (y_move rfl) ?_
      refine s_skip rfl ?_
      refine s_skip rfl ?_
      refine s_skip rfl ?_
      refine s_skip rfl ?_
      refine s_y (v := .bool true) rfl (y_pick_t rfl rfl) ?_
      refine s_y (v := .bool true) rfl (y_move rfl) ?_
      refine s_skip rfl ?_
      refine s_skip rfl ?_
      refine s_y (v := .bool true) rfl (y_pick_t rfl rfl) ?_
      refine s_nil ?_
      refine W_if_t (by decide) rfl ?_
      refine W_seq ?_
      refine W_region (by kernel_rfl) ?_
      refine s_y (v := .bool false) rfl (y_assign rfl) ?_
      refine s_nil ?_
      refine W_ret ?_
      refine ret1 rfl rfl rfl ⟨_, rfl, ?_⟩
      exact ⟨congrArg Value.bool (by simp only [validS_eq hlP hlL, (Bool.eq_false_iff.2 c61), Bool.and_true, Bool.true_and, Bool.and_false, Bool.false_and, Bool.not_true, Bool.not_false, Bool.or_true, Bool.true_or, Bool.or_false, Bool.false_or]), E60⟩
namespace T67
theorem mx : Try.prog.follows .mixedOrders = true := by kernel_rfl
theorem fld_26_0_0 : fldB Try.prog 26 0 0 = true := by kernel_rfl
theorem fld_26_1_1 : fldB Try.prog 26 1 1 = true := by kernel_rfl
theorem fn_65 : fnB Try.prog 65 = true := by kernel_rfl
theorem one_2 : oneB Try.prog 2 = true := by kernel_rfl
end T67
set_option maxRecDepth 100000 in
set_option maxHeartbeats 4000000 in
theorem c_i_isCell {wd hi : Int} {wr : Bool} {asp als : Option Addr} {nsp nls csp cls : Nat} {x : Int} {y : Int} (w : World) (h1 : 3 ≤ wd) (h2 : wd ≤ 16) (h3 : 3 ≤ hi) (h4 : hi ≤ 16) :
    Calls Try.prog 67 #[.agg #[.int .i64 wd, .int .i64 hi, .bool wr, .slice asp nsp csp, .slice als nls cls], .int .i64 x, .int .i64 y] w (Rt fun v w' => v = .bool (cellB wd hi x y) ∧ Ext0 w w') := by
  have E0 : Ext no w w := Ext.refl _ _
  refine calls_W (n := 19) Try.func67 rfl rfl (Nat.le_of_ble_eq_true rfl) ?_
  refine W_seq ?_
  refine W_region (by kernel_rfl) ?_
  refine s_k rfl (k_box (v := .agg #[.int .i64 wd, .int .i64 hi, .bool wr, .slice asp nsp csp, .slice als nls cls]) (cs := [.int .i64 wd, .int .i64 hi, .bool wr, .slice asp nsp csp, .slice als nls cls]) rfl rfl (fun b1 w2 q4 e3 hB5 => ?_))
  have E6 := E0.fresh e3 (fun _ h _ => h.elim)
  have fr7 : NotLt b1 w.heap.size := fun h => Nat.not_lt.2 (Nat.le_trans E0.size (Nat.le_of_eq q4.symm)) h
  clear q4
  refine s_y (v := .bool false) rfl (y_assign rfl) ?_
  refine s_nil ?_
  refine W_seq ?_
  refine W_region (by kernel_rfl) ?_
  refine s_y (v := .int .i64 x) rfl (y_move rfl) ?_
  refine s_y (v := .pointer (some ⟨b1, 0, none⟩)) rfl (y_fld (o := 0) T67.fld_26_0_0 rfl) ?_
  refine s_y (v := .int .i64 wd) rfl (y_load T67.one_2 rfl (hB5.cell (j := 0) rfl)) ?_
  refine s_y (v := .int .i64 (wd - 1)) rfl (y_sub rfl rfl rfl (by omega)) ?_
  refine s_k rfl (k_call T67.fn_65 (c_i_within _ _ _ _) rfl ?_)
  rintro v10 w8 ⟨hv11, e9⟩
  have hB12 := hB5.ext0 e9
  have E13 := E6.fresh e9 (fun _ h _ => h.elim)
  by_cases c14 : within x 0 (wd - 1) = true
  · have hb15 := within_b c14
    obtain rfl : v10 = .bool true := hv11.trans (congrArg Value.bool c14)
    refine s_y (v := .bool true) rfl (y_move rfl) ?_
    refine s_y (v := .int .i64 y) rfl (y_move rfl) ?_
    refine s_y (v := .pointer (some ⟨b1, 1, none⟩)) rfl (y_fld (o := 0) T67.fld_26_1_1 rfl) ?_
    refine s_y (v := .int .i64 hi) rfl (y_load T67.one_2 rfl (hB12.cell (j := 1) rfl)) ?_
    refine s_y (v := .int .i64 (hi - 1)) rfl (y_sub rfl rfl rfl (by omega)) ?_
    refine s_k rfl (k_call T67.fn_65 (c_i_within _ _ _ _) rfl ?_)
    rintro v18 w16 ⟨hv19, e17⟩
    have hB20 := hB12.ext0 e17
    have E21 := E13.fresh e17 (fun _ h _ => h.elim)
    by_cases c22 : within y 0 (hi - 1) = true
    · have hb23 := within_b c22
      obtain rfl : v18 = .bool true := hv19.trans (congrArg Value.bool c22)
      refine s_y (v := .bool true) rfl (y_pick_t rfl rfl) ?_
      refine s_y (v := .bool true) rfl (y_assign rfl) ?_
      refine s_nil ?_
      refine W_ret ?_
      refine ret1 rfl rfl rfl ⟨_, rfl, ?_⟩
      exact ⟨congrArg Value.bool (by simp only [cellB, c14, c22, Bool.and_true, Bool.true_and, Bool.and_false, Bool.false_and, Bool.not_true, Bool.not_false, Bool.or_true, Bool.true_or, Bool.or_false, Bool.false_or]), E21⟩
    · obtain rfl : v18 = .bool false := hv19.trans (congrArg Value.bool (Bool.eq_false_iff.2 c22))
      refine s_y (v := .bool false) rfl (y_pick_t rfl rfl) ?_
      refine s_y (v := .bool false) rfl (y_assign rfl) ?_
      refine s_nil ?_
      refine W_ret ?_
      refine ret1 rfl rfl rfl ⟨_, rfl, ?_⟩
      exact ⟨congrArg Value.bool (by simp only [cellB, c14, (Bool.eq_false_iff.2 c22), Bool.and_true, Bool.true_and, Bool.and_false, Bool.false_and, Bool.not_true, Bool.not_false, Bool.or_true, Bool.true_or, Bool.or_false, Bool.false_or]), E21⟩
  · obtain rfl : v10 = .bool false := hv11.trans (congrArg Value.bool (Bool.eq_false_iff.2 c14))
    refine s_y (v := .bool false) rfl (y_move rfl) ?_
    refine s_skip rfl ?_
    refine s_skip rfl ?_
    refine s_skip rfl ?_
    refine s_skip rfl ?_
    refine s_skip rfl ?_
    refine s_y (v := .bool false) rfl (y_pick_f rfl rfl) ?_
    refine s_y (v := .bool false) rfl (y_assign rfl) ?_
    refine s_nil ?_
    refine W_ret ?_
    refine ret1 rfl rfl rfl ⟨_, rfl, ?_⟩
    exact ⟨congrArg Value.bool (by simp only [cellB, (Bool.eq_false_iff.2 c14), Bool.and_true, Bool.true_and, Bool.and_false, Bool.false_and, Bool.not_true, Bool.not_false, Bool.or_true, Bool.true_or, Bool.or_false, Bool.false_or]), E13⟩
namespace T64
theorem mx : Try.prog.follows .mixedOrders = true := by kernel_rfl
theorem agg_26_5 : aggB Try.prog 26 5 = true := by kernel_rfl
theorem fn_19 : fnB Try.prog 19 = true := by kernel_rfl
theorem fn_67 : fnB Try.prog 67 = true := by kernel_rfl
end T64
set_option maxRecDepth 100000 in
set_option maxHeartbeats 4000000 in
theorem c_i_isValidCell {wd hi : Int} {wr : Bool} {asp : Option Addr} {nsp csp : Nat} {xsp Xsp : List Nat} {als : Option Addr} {nls cls : Nat} {xls Xls : List Nat} {x : Int} {y : Int} (w : World) (qssp : Sl w asp (flts xsp)) (qlsp : xsp.length = nsp) (qksp : cn xsp = Xsp) (qsls : Sl w als (flts xls)) (qlls : xls.length = nls) (qkls : cn xls = Xls) (hb1 : nsp ≤ 9223372036854775806) (hb2 : nls ≤ 9223372036854775806) :
    Calls Try.prog 64 #[.agg #[.int .i64 wd, .int .i64 hi, .bool wr, .slice asp nsp csp, .slice als nls cls], .int .i64 x, .int .i64 y] w (Rt fun v w' => v = .bool (vcellB wd hi Xsp Xls x y) ∧ Ext0 w w') := by
  have E0 : Ext no w w := Ext.refl _ _
  have hlP : Xsp.length = nsp := (cn_lenX qksp).trans qlsp
  have hlL : Xls.length = nls := (cn_lenX qkls).trans qlls
  have lo_asp := Sl.low qssp
  have lo_als := Sl.low qsls
  refine calls_W (n := 15) Try.func64 rfl rfl (Nat.le_of_ble_eq_true rfl) ?_
  refine W_seq ?_
  refine W_region (by kernel_rfl) ?_
  refine s_k rfl (k_box (v := .agg #[.int .i64 wd, .int .i64 hi, .bool wr, .slice asp nsp csp, .slice als nls cls]) (cs := [.int .i64 wd, .int .i64 hi, .bool wr, .slice asp nsp csp, .slice als nls cls]) rfl rfl (fun b1 w2 q4 e3 hB5 => ?_))
  have hS6 := qssp.ext0 e3
  have hS7 := qsls.ext0 e3
  have E8 := E0.fresh e3 (fun _ h _ => h.elim)
  have fr9 : NotLt b1 w.heap.size := fun h => Nat.not_lt.2 (Nat.le_trans E0.size (Nat.le_of_eq q4.symm)) h
  clear q4
  refine s_y (v := .bool false) rfl (y_assign rfl) ?_
  refine s_nil ?_
  refine W_seq ?_
  refine W_region (by kernel_rfl) ?_
  refine s_y (v := .agg #[.int .i64 wd, .int .i64 hi, .bool wr, .slice asp nsp csp, .slice als nls cls]) rfl (y_loadn (b := b1) (o := 0) (vs := [.int .i64 wd, .int .i64 hi, .bool wr, .slice asp nsp csp, .slice als nls cls]) T64.agg_26_5 rfl rfl (hB5.cells (o := 0) rfl)) ?_
  refine s_k rfl (k_call T64.fn_19 (c_i_ValidSheet _ hS6 qlsp qksp hS7 qlls qkls (by omega) (by omega)) rfl ?_)
  rintro v12 w10 ⟨hv13, e11⟩
  have hB14 := hB5.ext0 e11
  have hS15 := hS6.ext0 e11
  have hS16 := hS7.ext0 e11
  have E17 := E8.fresh e11 (fun _ h _ => h.elim)
  by_cases c18 : validS wd hi Xsp Xls = true
  · have hb19 := validS_b c18
    obtain rfl : v12 = .bool true := hv13.trans (congrArg Value.bool c18)
    refine s_y (v := .bool true) rfl (y_move rfl) ?_
    refine s_y (v := .agg #[.int .i64 wd, .int .i64 hi, .bool wr, .slice asp nsp csp, .slice als nls cls]) rfl (y_loadn (b := b1) (o := 0) (vs := [.int .i64 wd, .int .i64 hi, .bool wr, .slice asp nsp csp, .slice als nls cls]) T64.agg_26_5 rfl rfl (hB14.cells (o := 0) rfl)) ?_
    refine s_y (v := .int .i64 x) rfl (y_move rfl) ?_
    refine s_y (v := .int .i64 y) rfl (y_move rfl) ?_
    refine s_k rfl (k_call T64.fn_67 (c_i_isCell _ (by omega) (by omega) (by omega) (by omega)) rfl ?_)
    rintro v22 w20 ⟨hv23, e21⟩
    have hB24 := hB14.ext0 e21
    have hS25 := hS15.ext0 e21
    have hS26 := hS16.ext0 e21
    have E27 := E17.fresh e21 (fun _ h _ => h.elim)
    by_cases c28 : cellB wd hi x y = true
    · have hb29 := cellB_b c28
      obtain rfl : v22 = .bool true := hv23.trans (congrArg Value.bool c28)
      refine s_y (v := .bool true) rfl (y_pick_t rfl rfl) ?_
      refine s_y (v := .bool true) rfl (y_assign rfl) ?_
      refine s_nil ?_
      refine W_ret ?_
      refine ret1 rfl rfl rfl ⟨_, rfl, ?_⟩
      exact ⟨congrArg Value.bool (by simp only [vcellB, c18, c28, Bool.and_true, Bool.true_and, Bool.and_false, Bool.false_and, Bool.not_true, Bool.not_false, Bool.or_true, Bool.true_or, Bool.or_false, Bool.false_or]), E27⟩
    · obtain rfl : v22 = .bool false := hv23.trans (congrArg Value.bool (Bool.eq_false_iff.2 c28))
      refine s_y (v := .bool false) rfl (y_pick_t rfl rfl) ?_
      refine s_y (v := .bool false) rfl (y_assign rfl) ?_
      refine s_nil ?_
      refine W_ret ?_
      refine ret1 rfl rfl rfl ⟨_, rfl, ?_⟩
      exact ⟨congrArg Value.bool (by simp only [vcellB, c18, (Bool.eq_false_iff.2 c28), Bool.and_true, Bool.true_and, Bool.and_false, Bool.false_and, Bool.not_true, Bool.not_false, Bool.or_true, Bool.true_or, Bool.or_false, Bool.false_or]), E27⟩
  · obtain rfl : v12 = .bool false := hv13.trans (congrArg Value.bool (Bool.eq_false_iff.2 c18))
    refine s_y (v := .bool false) rfl (y_move rfl) ?_
    refine s_skip rfl ?_
    refine s_skip rfl ?_
    refine s_skip rfl ?_
    refine s_skip rfl ?_
    refine s_y (v := .bool false) rfl (y_pick_f rfl rfl) ?_
    refine s_y (v := .bool false) rfl (y_assign rfl) ?_
    refine s_nil ?_
    refine W_ret ?_
    refine ret1 rfl rfl rfl ⟨_, rfl, ?_⟩
    exact ⟨congrArg Value.bool (by simp only [vcellB, (Bool.eq_false_iff.2 c18), Bool.and_true, Bool.true_and, Bool.and_false, Bool.false_and, Bool.not_true, Bool.not_false, Bool.or_true, Bool.true_or, Bool.or_false, Bool.false_or]), E17⟩
namespace T75
theorem mx : Try.prog.follows .mixedOrders = true := by kernel_rfl
theorem fld_26_0_0 : fldB Try.prog 26 0 0 = true := by kernel_rfl
theorem fld_26_1_1 : fldB Try.prog 26 1 1 = true := by kernel_rfl
theorem one_2 : oneB Try.prog 2 = true := by kernel_rfl
end T75
set_option maxRecDepth 100000 in
set_option maxHeartbeats 4000000 in
theorem c_i_depth {wd hi : Int} {wr : Bool} {asp als : Option Addr} {nsp nls csp cls : Nat} {x y : Int} (w : World) (h1 : 3 ≤ wd) (h2 : wd ≤ 16) (h3 : 3 ≤ hi) (h4 : hi ≤ 16) (g1 : 0 ≤ x) (g2 : x ≤ 1000000) (g3 : 0 ≤ y) (g4 : y ≤ 1000000) :
    Calls Try.prog 75 #[.agg #[.int .i64 wd, .int .i64 hi, .bool wr, .slice asp nsp csp, .slice als nls cls], .int .i64 x, .int .i64 y] w (Rt fun v w' => v = .int .i64 (depI wd hi x y) ∧ Ext0 w w') := by
  have E0 : Ext no w w := Ext.refl _ _
  refine calls_W (n := 20) Try.func75 rfl rfl (Nat.le_of_ble_eq_true rfl) ?_
  refine W_seq ?_
  refine W_region (by kernel_rfl) ?_
  refine s_k rfl (k_box (v := .agg #[.int .i64 wd, .int .i64 hi, .bool wr, .slice asp nsp csp, .slice als nls cls]) (cs := [.int .i64 wd, .int .i64 hi, .bool wr, .slice asp nsp csp, .slice als nls cls]) rfl rfl (fun b1 w2 q4 e3 hB5 => ?_))
  have E6 := E0.fresh e3 (fun _ h _ => h.elim)
  have fr7 : NotLt b1 w.heap.size := fun h => Nat.not_lt.2 (Nat.le_trans E0.size (Nat.le_of_eq q4.symm)) h
  clear q4
  refine s_y (v := .int .i64 0) rfl (y_assign rfl) ?_
  refine s_nil ?_
  refine W_seq ?_
  refine W_region (by kernel_rfl) ?_
  refine s_y (v := .int .i64 x) rfl (y_move rfl) ?_
  refine s_y (v := .int .i64 y) rfl (y_move rfl) ?_
  refine s_y (v := .pointer (some ⟨b1, 0, none⟩)) rfl (y_fld (o := 0) T75.fld_26_0_0 rfl) ?_
  refine s_y (v := .int .i64 wd) rfl (y_load T75.one_2 rfl (hB5.cell (j := 0) rfl)) ?_
  refine s_y (v := .int .i64 (wd - 1)) rfl (y_sub rfl rfl rfl (by omega)) ?_
  refine s_y (v := .int .i64 x) rfl (y_move rfl) ?_
  refine s_y (v := .int .i64 ((wd - 1) - x)) rfl (y_sub rfl rfl rfl (by omega)) ?_
  refine s_y (v := .pointer (some ⟨b1, 1, none⟩)) rfl (y_fld (o := 0) T75.fld_26_1_1 rfl) ?_
  refine s_y (v := .int .i64 hi) rfl (y_load T75.one_2 rfl (hB5.cell (j := 1) rfl)) ?_
  refine s_y (v := .int .i64 (hi - 1)) rfl (y_sub rfl rfl rfl (by omega)) ?_
  refine s_y (v := .int .i64 y) rfl (y_move rfl) ?_
  refine s_y (v := .int .i64 ((hi - 1) - y)) rfl (y_sub rfl rfl rfl (by omega)) ?_
  refine s_y (v := .int .i64 (min (min (min x y) ((wd - 1) - x)) ((hi - 1) - y))) rfl (y_min4 rfl rfl rfl rfl rfl) ?_
  refine s_y (v := .int .i64 (min (min (min x y) ((wd - 1) - x)) ((hi - 1) - y))) rfl (y_assign rfl) ?_
  refine s_nil ?_
  refine W_ret ?_
  refine ret1 rfl rfl rfl ⟨_, rfl, ?_⟩
  exact ⟨congrArg (Value.int .i64) (rfl), E6⟩
namespace T30
theorem mx : Try.prog.follows .mixedOrders = true := by kernel_rfl
theorem agg_26_5 : aggB Try.prog 26 5 = true := by kernel_rfl
theorem fn_64 : fnB Try.prog 64 = true := by kernel_rfl
theorem fn_75 : fnB Try.prog 75 = true := by kernel_rfl
end T30
set_option maxRecDepth 100000 in
set_option maxHeartbeats 4000000 in
theorem c_i_DepthOf {wd hi : Int} {wr : Bool} {asp : Option Addr} {nsp csp : Nat} {xsp Xsp : List Nat} {als : Option Addr} {nls cls : Nat} {xls Xls : List Nat} {x y : Int} (w : World) (qssp : Sl w asp (flts xsp)) (qlsp : xsp.length = nsp) (qksp : cn xsp = Xsp) (qsls : Sl w als (flts xls)) (qlls : xls.length = nls) (qkls : cn xls = Xls) (hb1 : nsp ≤ 9223372036854775806) (hb2 : nls ≤ 9223372036854775806) :
    Calls Try.prog 30 #[.agg #[.int .i64 wd, .int .i64 hi, .bool wr, .slice asp nsp csp, .slice als nls cls], .int .i64 x, .int .i64 y] w (Rt fun v w' => v = (if vcellB wd hi Xsp Xls x y = true then .tuple #[.int .i64 (depI wd hi x y), .bool true] else .tuple #[.int .i64 0, .bool false]) ∧ Ext0 w w') := by
  have E0 : Ext no w w := Ext.refl _ _
  have hlP : Xsp.length = nsp := (cn_lenX qksp).trans qlsp
  have hlL : Xls.length = nls := (cn_lenX qkls).trans qlls
  have lo_asp := Sl.low qssp
  have lo_als := Sl.low qsls
  refine calls_W (n := 17) Try.func30 rfl rfl (Nat.le_of_ble_eq_true rfl) ?_
  refine W_seq ?_
  refine W_region (by kernel_rfl) ?_
  refine s_k rfl (k_box (v := .agg #[.int .i64 wd, .int .i64 hi, .bool wr, .slice asp nsp csp, .slice als nls cls]) (cs := [.int .i64 wd, .int .i64 hi, .bool wr, .slice asp nsp csp, .slice als nls cls]) rfl rfl (fun b1 w2 q4 e3 hB5 => ?_))
  have hS6 := qssp.ext0 e3
  have hS7 := qsls.ext0 e3
  have E8 := E0.fresh e3 (fun _ h _ => h.elim)
  have fr9 : NotLt b1 w.heap.size := fun h => Nat.not_lt.2 (Nat.le_trans E0.size (Nat.le_of_eq q4.symm)) h
  clear q4
  refine s_y (v := .int .i64 0) rfl (y_assign rfl) ?_
  refine s_y (v := .bool false) rfl (y_assign rfl) ?_
  refine s_nil ?_
  refine W_seq ?_
  refine W_seq ?_
  refine W_region (by kernel_rfl) ?_
  refine s_y (v := .agg #[.int .i64 wd, .int .i64 hi, .bool wr, .slice asp nsp csp, .slice als nls cls]) rfl (y_loadn (b := b1) (o := 0) (vs := [.int .i64 wd, .int .i64 hi, .bool wr, .slice asp nsp csp, .slice als nls cls]) T30.agg_26_5 rfl rfl (hB5.cells (o := 0) rfl)) ?_
  refine s_y (v := .int .i64 x) rfl (y_move rfl) ?_
  refine s_y (v := .int .i64 y) rfl (y_move rfl) ?_
  refine s_k rfl (k_call T30.fn_64 (c_i_isValidCell _ hS6 qlsp qksp hS7 qlls qkls (by omega) (by omega)) rfl ?_)
  rintro v12 w10 ⟨hv13, e11⟩
  have hB14 := hB5.ext0 e11
  have hS15 := hS6.ext0 e11
  have hS16 := hS7.ext0 e11
  have E17 := E8.fresh e11 (fun _ h _ => h.elim)
  by_cases c18 : vcellB wd hi Xsp Xls x y = true
  · have hb19 := vcellB_b c18
    obtain rfl : v12 = .bool true := hv13.trans (congrArg Value.bool c18)
    refine s_y (v := .bool false) rfl (y_not rfl rfl) ?_
    refine s_nil ?_
    refine W_if_f (by decide) rfl ?_
    refine W_skip ?_
    refine W_seq ?_
    refine W_region (by kernel_rfl) ?_
    refine s_y (v := .agg #[.int .i64 wd, .int .i64 hi, .bool wr, .slice asp nsp csp, .slice als nls cls]) rfl (y_loadn (b := b1) (o := 0) (vs := [.int .i64 wd, .int .i64 hi, .bool wr, .slice asp nsp csp, .slice als nls cls]) T30.agg_26_5 rfl rfl (hB14.cells (o := 0) rfl)) ?_
    refine s_y (v := .int .i64 x) rfl (y_move rfl) ?_
    refine s_y (v := .int .i64 y) rfl (y_move rfl) ?_
    refine s_k rfl (k_call T30.fn_75 (c_i_depth _ (by omega) (by omega) (by omega) (by omega) (by omega) (by omega) (by omega) (by omega)) rfl ?_)
    rintro _ w20 ⟨rfl, e21⟩
    have hB22 := hB14.ext0 e21
    have hS23 := hS15.ext0 e21
    have hS24 := hS16.ext0 e21
    have E25 := E17.fresh e21 (fun _ h _ => h.elim)
    refine s_y (v := .int .i64 (depI wd hi x y)) rfl (y_assign rfl) ?_
    refine s_y (v := .bool true) rfl (y_assign rfl) ?_
    refine s_nil ?_
    refine W_ret ?_
    refine ret2 rfl rfl rfl rfl rfl ⟨_, rfl, ?_⟩
    have hcd : vcellB wd hi Xsp Xls x y = true := by simp only [c18, Bool.and_true, Bool.true_and, Bool.and_false, Bool.false_and, Bool.not_true, Bool.not_false, Bool.or_true, Bool.true_or, Bool.or_false, Bool.false_or]
    exact ⟨(congrArg (fun q => Value.tuple #[.int .i64 q, .bool true]) (rfl)).trans (if_pos hcd).symm, E25⟩
  · obtain rfl : v12 = .bool false := hv13.trans (congrArg Value.bool (Bool.eq_false_iff.2 c18))
    refine s_y (v := .bool true) rfl (y_not rfl rfl) ?_
    refine s_nil ?_
    refine W_if_t (by decide) rfl ?_
    refine W_seq ?_
    refine W_region (by kernel_rfl) ?_
    refine s_y (v := .int .i64 0) rfl (y_assign rfl) ?_
    refine s_y (v := .bool false) rfl (y_assign rfl) ?_
    refine s_nil ?_
    refine W_ret ?_
    refine ret2 rfl rfl rfl rfl rfl ⟨_, rfl, ?_⟩
    exact ⟨(if_neg (Bool.eq_false_iff.1 (by simp only [(Bool.eq_false_iff.2 c18), Bool.and_true, Bool.true_and, Bool.and_false, Bool.false_and, Bool.not_true, Bool.not_false, Bool.or_true, Bool.true_or, Bool.or_false, Bool.false_or]))).symm, E17⟩
namespace T45
theorem mx : Try.prog.follows .mixedOrders = true := by kernel_rfl
theorem bool_4 : Try.prog.underlying 4 = some .bool := by kernel_rfl
end T45
set_option maxRecDepth 100000 in
set_option maxHeartbeats 4000000 in
theorem c_l_sameFloat (a b A : Nat) (ha : can .f64 a = A) (hb : can .f64 b = A) (w : World) :
    Calls Try.prog 45 #[.float .f64 a, .float .f64 b] w (Rt fun v w' => v = .bool true ∧ Ext0 w w') := by
  have E0 : Ext no w w := Ext.refl _ _
  refine calls_W (n := 37) Try.func45 rfl rfl (Nat.le_of_ble_eq_true rfl) ?_
  refine W_seq ?_
  refine W_region (by kernel_rfl) ?_
  refine s_y (v := .bool false) rfl (y_assign rfl) ?_
  refine s_nil ?_
  refine W_seq ?_
  refine W_seq ?_
  refine W_region (by kernel_rfl) ?_
  refine s_y (v := .float .f64 a) rfl (y_move rfl) ?_
  refine s_y (v := .float .f64 a) rfl (y_move rfl) ?_
  by_cases c1 : fne .f64 A A = true
  · refine s_y (v := .bool true) rfl (y_fneq rfl rfl (fneC ha ha c1)) ?_
    refine s_y (v := .bool true) rfl (y_move rfl) ?_
    refine s_skip rfl ?_
    refine s_skip rfl ?_
    refine s_skip rfl ?_
    refine s_y (v := .bool true) rfl (y_pick_t rfl rfl) ?_
    refine s_nil ?_
    refine W_if_t (by decide) rfl ?_
    refine W_seq ?_
    refine W_region (by kernel_rfl) ?_
    refine s_y (v := .float .f64 a) rfl (y_move rfl) ?_
    refine s_y (v := .float .f64 a) rfl (y_move rfl) ?_
    refine s_y (v := .bool true) rfl (y_fneq rfl rfl (fneC ha ha c1)) ?_
    refine s_y (v := .bool true) rfl (y_move rfl) ?_
    refine s_y (v := .float .f64 b) rfl (y_move rfl) ?_
    refine s_y (v := .float .f64 b) rfl (y_move rfl) ?_
    refine s_y (v := .bool true) rfl (y_fneq rfl rfl (fneC hb hb c1)) ?_
    refine s_y (v := .bool true) rfl (y_pick_t rfl rfl) ?_
    refine s_y (v := .bool true) rfl (y_assign rfl) ?_
    refine s_nil ?_
    refine W_ret ?_
    refine ret1 rfl rfl rfl ⟨_, rfl, ?_⟩
    exact ⟨rfl, E0⟩
  · refine s_y (v := .bool false) rfl (y_fneq rfl rfl (fneC ha ha (Bool.eq_false_iff.2 c1))) ?_
    refine s_y (v := .bool false) rfl (y_move rfl) ?_
    refine s_y (v := .float .f64 b) rfl (y_move rfl) ?_
    refine s_y (v := .float .f64 b) rfl (y_move rfl) ?_
    refine s_y (v := .bool false) rfl (y_fneq rfl rfl (fneC hb hb (Bool.eq_false_iff.2 c1))) ?_
    refine s_y (v := .bool false) rfl (y_pick_f rfl rfl) ?_
    refine s_nil ?_
    refine W_if_f (by decide) rfl ?_
    refine W_skip ?_
    refine W_seq ?_
    refine W_seq ?_
    refine W_region (by kernel_rfl) ?_
    refine s_y (v := .float .f64 a) rfl (y_move rfl) ?_
    by_cases c2 : feq .f64 A 0 = true
    · refine s_y (v := .bool true) rfl (y_feql rfl rfl (feqC ha (show can .f64 0 = 0 by kernel_rfl) c2)) ?_
      refine s_y (v := .bool true) rfl (y_move rfl) ?_
      refine s_y (v := .float .f64 b) rfl (y_move rfl) ?_
      refine s_y (v := .bool true) rfl (y_feql rfl rfl (feqC hb (show can .f64 0 = 0 by kernel_rfl) c2)) ?_
      refine s_y (v := .bool true) rfl (y_pick_t rfl rfl) ?_
      refine s_nil ?_
      refine W_if_t (by decide) rfl ?_
      refine W_seq ?_
      refine W_region (by kernel_rfl) ?_
      refine s_y (v := .float .f64 a) rfl (y_move rfl) ?_
      refine s_n rfl (n_arith (by decide) rfl rfl) ?_
      rintro _ w6 e7 ⟨r4, rfl, hr5⟩
      have E8 := E0.fresh e7 (fun _ h _ => h.elim)
      have hc9 := fopC hr5 (show can .f64 4607182418800017408 = 4607182418800017408 by kernel_rfl) ha
      by_cases c10 : fgt .f64 (fop .quo .f64 4607182418800017408 A) 0 = true
      · refine s_y (v := .bool true) rfl (y_fgtr rfl rfl (fgtC hc9 (show can .f64 0 = 0 by kernel_rfl) c10)) ?_
        refine s_y (v := .float .f64 b) rfl (y_move rfl) ?_
        refine s_n rfl (n_arith (by decide) rfl rfl) ?_
        rintro _ w14 e15 ⟨r12, rfl, hr13⟩
        have E16 := E8.fresh e15 (fun _ h _ => h.elim)
        have hc17 := fopC hr13 (show can .f64 4607182418800017408 = 4607182418800017408 by kernel_rfl) hb
        refine s_y (v := .bool true) rfl (y_fgtr rfl rfl (fgtC hc17 (show can .f64 0 = 0 by kernel_rfl) c10)) ?_
        refine s_y (v := .bool true) rfl (y_beql T45.bool_4 rfl rfl rfl) ?_
        refine s_y (v := .bool true) rfl (y_assign rfl) ?_
        refine s_nil ?_
        refine W_ret ?_
        refine ret1 rfl rfl rfl ⟨_, rfl, ?_⟩
        exact ⟨rfl, E16⟩
      · refine s_y (v := .bool false) rfl (y_fgtr rfl rfl (fgtC hc9 (show can .f64 0 = 0 by kernel_rfl) (Bool.eq_false_iff.2 c10))) ?_
        refine s_y (v := .float .f64 b) rfl (y_move rfl) ?_
        refine s_n rfl (n_arith (by decide) rfl rfl) ?_
        rintro _ w21 e22 ⟨r19, rfl, hr20⟩
        have E23 := E8.fresh e22 (fun _ h _ => h.elim)
        have hc24 := fopC hr20 (show can .f64 4607182418800017408 = 4607182418800017408 by kernel_rfl) hb
        refine s_y (v := .bool false) rfl (y_fgtr rfl rfl (fgtC hc24 (show can .f64 0 = 0 by kernel_rfl) (Bool.eq_false_iff.2 c10))) ?_
        refine s_y (v := .bool true) rfl (y_beql T45.bool_4 rfl rfl rfl) ?_
        refine s_y (v := .bool true) rfl (y_assign rfl) ?_
        refine s_nil ?_
        refine W_ret ?_
        refine ret1 rfl rfl rfl ⟨_, rfl, ?_⟩
        exact ⟨rfl, E23⟩
    · refine s_y (v := .bool false) rfl (y_feql rfl rfl (feqC ha (show can .f64 0 = 0 by kernel_rfl) (Bool.eq_false_iff.2 c2))) ?_
      refine s_y (v := .bool false) rfl (y_move rfl) ?_
      refine s_skip rfl ?_
      refine s_skip rfl ?_
      refine s_y (v := .bool false) rfl (y_pick_f rfl rfl) ?_
      refine s_nil ?_
      refine W_if_f (by decide) rfl ?_
      refine W_skip ?_
      refine W_seq ?_
      refine W_region (by kernel_rfl) ?_
      refine s_y (v := .float .f64 a) rfl (y_move rfl) ?_
      refine s_y (v := .float .f64 b) rfl (y_move rfl) ?_
      by_cases c25 : feq .f64 A A = true
      · refine s_y (v := .bool true) rfl (y_feql rfl rfl (feqC ha hb c25)) ?_
        refine s_y (v := .bool true) rfl (y_assign rfl) ?_
        refine s_nil ?_
        refine W_ret ?_
        refine ret1 rfl rfl rfl ⟨_, rfl, ?_⟩
        exact ⟨rfl, E0⟩
      · refine s_y (v := .bool false) rfl (y_feql rfl rfl (feqC ha hb (Bool.eq_false_iff.2 c25))) ?_
        refine s_y (v := .bool false) rfl (y_assign rfl) ?_
        refine s_nil ?_
        refine W_ret ?_
        refine ret1 rfl rfl rfl ⟨_, rfl, ?_⟩
        exfalso; simp_all [fne, feq]
namespace T71
theorem mx : Try.prog.follows .mixedOrders = true := by kernel_rfl
theorem flt_68_f64 : Try.prog.underlying 68 = some (.float .f64) := by kernel_rfl
theorem fn_45 : fnB Try.prog 45 = true := by kernel_rfl
theorem one_62 : oneB Try.prog 62 = true := by kernel_rfl
theorem sl_24_62_1 : slB Try.prog 24 62 1 = true := by kernel_rfl
theorem und_62 : (Try.prog.underlying 62).isSome = true := by kernel_rfl
end T71
set_option maxRecDepth 100000 in
set_option maxHeartbeats 4000000 in
theorem c_l_eqFloat32S {a a2 : Option Addr} {n m cc c2 : Nat} {x y X : List Nat} (w : World) (h1 : Sl w a (flts x)) (l1 : x.length = n) (k1 : cn x = X) (h2 : Sl w a2 (flts y)) (l2 : y.length = m) (k2 : cn y = X) (hb : n ≤ 9223372036854775806) :
    Calls Try.prog 71 #[.slice a n cc, .slice a2 m c2] w (Rt fun v w' => v = .bool true ∧ Ext0 w w') := by
  have E0 : Ext no w w := Ext.refl _ _
  have lx := cn_lenX k1
  have ly := cn_lenX k2
  have lo_a := Sl.low h1
  have lo_a2 := Sl.low h2
  refine calls_W (n := 29) Try.func71 rfl rfl (Nat.le_of_ble_eq_true rfl) ?_
  refine W_seq ?_
  refine W_region (by kernel_rfl) ?_
  refine s_y (v := .bool false) rfl (y_assign rfl) ?_
  refine s_nil ?_
  refine W_seq ?_
  refine W_seq ?_
  refine W_region (by kernel_rfl) ?_
  refine s_y (v := .slice a n cc) rfl (y_move rfl) ?_
  refine s_y (v := .int .i64 ((n : Nat) : Int)) rfl (y_len T71.sl_24_62_1 rfl rfl) ?_
  refine s_y (v := .slice a2 m c2) rfl (y_move rfl) ?_
  refine s_y (v := .int .i64 ((m : Nat) : Int)) rfl (y_len T71.sl_24_62_1 rfl rfl) ?_
  by_cases c1 : ((n : Nat) : Int) ≠ ((m : Nat) : Int)
  · refine s_y (v := .bool true) rfl (y_neq rfl rfl (decide_eq_true c1)) ?_
    refine s_nil ?_
    refine W_if_t (by decide) rfl ?_
    refine W_seq ?_
    refine W_region (by kernel_rfl) ?_
    refine s_y (v := .bool false) rfl (y_assign rfl) ?_
    refine s_nil ?_
    refine W_ret ?_
    refine ret1 rfl rfl rfl ⟨_, rfl, ?_⟩
    omega
  · refine s_y (v := .bool false) rfl (y_neq rfl rfl (decide_eq_false c1)) ?_
    refine s_nil ?_
    refine W_if_f (by decide) rfl ?_
    refine W_skip ?_
    refine W_seq ?_
    refine W_seq ?_
    refine W_region (by kernel_rfl) ?_
    refine s_y (v := .int .i64 0) rfl (y_assign rfl) ?_
    refine s_nil ?_
    refine W_block ?_
-- loop drops slots [4]
    refine W_loop (fun ρ' w' => ∃ (ρ1 : Env) (k : Int), ρ' = updL ρ1 [(0, .slice a n cc), (1, .slice a2 m c2), (5, .int .i64 k)] ∧ Ext no w w' ∧ Sl w' a (flts x) ∧ Sl w' a2 (flts y) ∧ (0 ≤ k) ∧ (k ≤ (n : Int))) (fun ρ' _ => ((n : Int) - iv (ρ' 5)).toNat) ?_ ?_
    · exact ⟨_, 0, Fits.eq ⟨rfl, rfl, rfl, trivial⟩, E0, h1, h2, (Int.le_refl _), (by omega)⟩
    · rintro _ w2 ⟨ρ6, k, rfl, E3, hS4, hS5, h0k, h1k⟩
      refine W_seq ?_
      refine W_seq ?_
      refine W_region (by kernel_rfl) ?_
      refine s_y (v := .int .i64 k) rfl (y_move rfl) ?_
      refine s_y (v := .slice a n cc) rfl (y_move rfl) ?_
      refine s_y (v := .int .i64 ((n : Nat) : Int)) rfl (y_len T71.sl_24_62_1 rfl rfl) ?_
      by_cases c7 : k < ((n : Nat) : Int)
      · refine s_y (v := .bool true) rfl (y_lss rfl rfl (decide_eq_true c7)) ?_
        refine s_nil ?_
        refine W_if_t (by decide) rfl ?_
        refine W_skip ?_
        refine W_seq ?_
        refine W_block ?_
        refine W_seq ?_
        refine W_draw (no) T71.mx (by kernel_rfl) (fun w8 e9 => ?_)
        have hS10 := hS4.ext0 e9
        have hS11 := hS5.ext0 e9
        have E12 := E3.fresh e9 (fun _ h _ => h.elim)
        have R13 := (Ext.refl (no) w2).trans (Ext0.any e9)
        refine m_y (v := .slice a n cc) 0 rfl (by kernel_rfl) rfl rfl (fun w' e' => y_move rfl) ?_
        refine m_y (v := .int .i64 k) 1 rfl (by kernel_rfl) rfl rfl (fun w' e' => y_move rfl) ?_
        refine m_y (v := .pointer (some (sat a ((k).toNat * 1)))) 2 rfl (by kernel_rfl) rfl rfl (fun w' e' => y_idx T71.sl_24_62_1 rfl rfl (hS10.addr (by rw [flts_length]; omega)) (by omega) (by omega)) ?_
        refine m_y (v := .float .f32 (el x k)) 3 rfl (by kernel_rfl) rfl rfl (fun w' e' => y_load T71.one_62 rfl ((hS4.ext0 e').cell (fl_at (by omega) (by omega)))) ?_
        refine m_y (v := .slice a2 m c2) 5 rfl (by kernel_rfl) rfl rfl (fun w' e' => y_move rfl) ?_
        refine m_y (v := .int .i64 k) 6 rfl (by kernel_rfl) rfl rfl (fun w' e' => y_move rfl) ?_
        refine m_y (v := .pointer (some (sat a2 ((k).toNat * 1)))) 7 rfl (by kernel_rfl) rfl rfl (fun w' e' => y_idx T71.sl_24_62_1 rfl rfl (hS11.addr (by rw [flts_length]; omega)) (by omega) (by omega)) ?_
        refine m_y (v := .float .f32 (el y k)) 8 rfl (by kernel_rfl) rfl rfl (fun w' e' => y_load T71.one_62 rfl ((hS5.ext0 e').cell (fl_at (by omega) (by omega)))) ?_
        refine m_n 4 [10, 11] rfl (by kernel_rfl) rfl rfl (fun w' e' => n_wide T71.und_62 T71.flt_68_f64 rfl) ?_
        rintro _ ⟨r14, rfl, hr15⟩
        have hc18 := wideC hr15 (cn_el k1 k)
        refine m_n 9 [10, 11] rfl (by kernel_rfl) rfl rfl (fun w' e' => n_wide T71.und_62 T71.flt_68_f64 rfl) ?_
        rintro _ ⟨r19, rfl, hr20⟩
        have hc23 := wideC hr20 (cn_el k2 k)
        refine m_k 10 [11] rfl (by kernel_rfl) rfl rfl (fun w24 e25 => ?_)
        have hS26 := hS10.ext0 e25
        have hS27 := hS11.ext0 e25
        have E28 := E12.fresh e25 (fun _ h _ => h.elim)
        have R29 := R13.trans (Ext0.any e25)
        refine k_call T71.fn_45 (c_l_sameFloat _ _ _ hc18 hc23 _) rfl ?_
        rintro _ w30 ⟨rfl, e31⟩
        have hS32 := hS26.ext0 e31
        have hS33 := hS27.ext0 e31
        have E34 := E28.fresh e31 (fun _ h _ => h.elim)
        have R35 := R29.trans (Ext0.any e31)
        refine ⟨fun _ => R35, ?_⟩
        refine m_y (v := .bool false) 11 rfl (by kernel_rfl) rfl rfl (fun w' e' => y_not rfl rfl) ?_
        refine m_done (by kernel_rfl) (fun w36 e37 => ?_)
        have hS38 := hS32.ext0 e37
        have hS39 := hS33.ext0 e37
        have E40 := E34.fresh e37 (fun _ h _ => h.elim)
        have R41 := R35.trans (Ext0.any e37)
        refine W_if_f (by decide) rfl ?_
        refine W_skip ?_
        refine W_region (by kernel_rfl) ?_
        refine s_y (v := .int .i64 k) rfl (y_move rfl) ?_
        refine s_y (v := .int .i64 (k + 1)) rfl (y_add rfl rfl rfl (by omega)) ?_
        refine s_y (v := .int .i64 (k + 1)) rfl (y_assign rfl) ?_
        refine s_nil ?_
        refine ⟨⟨_, k + 1, Fits.eq ⟨rfl, rfl, rfl, trivial⟩, E40, hS38, hS39, (by omega), (by omega)⟩, ?_⟩
        show ((n : Int) - (k + 1)).toNat < ((n : Int) - k).toNat
        omega
      · refine s_y (v := .bool false) rfl (y_lss rfl rfl (decide_eq_false c7)) ?_
        refine s_nil ?_
        refine W_if_f (by decide) rfl ?_
        refine W_exit ?_
        refine W_seq ?_
        refine W_region (by kernel_rfl) ?_
        refine s_y (v := .bool true) rfl (y_assign rfl) ?_
        refine s_nil ?_
        refine W_ret ?_
        refine ret1 rfl rfl rfl ⟨_, rfl, ?_⟩
        exact ⟨rfl, E3⟩
namespace T25
theorem mx : Try.prog.follows .mixedOrders = true := by kernel_rfl
theorem bool_4 : Try.prog.underlying 4 = some .bool := by kernel_rfl
theorem fld_26_0_0 : fldB Try.prog 26 0 0 = true := by kernel_rfl
theorem fld_26_1_1 : fldB Try.prog 26 1 1 = true := by kernel_rfl
theorem fld_26_2_2 : fldB Try.prog 26 2 2 = true := by kernel_rfl
theorem fld_26_3_3 : fldB Try.prog 26 3 3 = true := by kernel_rfl
theorem fld_26_4_4 : fldB Try.prog 26 4 4 = true := by kernel_rfl
theorem fn_71 : fnB Try.prog 71 = true := by kernel_rfl
theorem one_2 : oneB Try.prog 2 = true := by kernel_rfl
theorem one_24 : oneB Try.prog 24 = true := by kernel_rfl
theorem one_4 : oneB Try.prog 4 = true := by kernel_rfl
end T25
set_option maxRecDepth 100000 in
set_option maxHeartbeats 4000000 in
theorem c_l_eqSheet {wd hi : Int} {wr : Bool} {asp bsp : Option Addr} {nsp csp msp esp : Nat} {xsp ysp Xsp : List Nat} {als bls : Option Addr} {nls cls mls els : Nat} {xls yls Xls : List Nat} (w : World) (qssp : Sl w asp (flts xsp)) (qlsp : xsp.length = nsp) (qksp : cn xsp = Xsp) (rssp : Sl w bsp (flts ysp)) (rlsp : ysp.length = msp) (rksp : cn ysp = Xsp) (hbsp : nsp ≤ 9223372036854775806) (qsls : Sl w als (flts xls)) (qlls : xls.length = nls) (qkls : cn xls = Xls) (rsls : Sl w bls (flts yls)) (rlls : yls.length = mls) (rkls : cn yls = Xls) (hbls : nls ≤ 9223372036854775806) :
    Calls Try.prog 25 #[.agg #[.int .i64 wd, .int .i64 hi, .bool wr, .slice asp nsp csp, .slice als nls cls], .agg #[.int .i64 wd, .int .i64 hi, .bool wr, .slice bsp msp esp, .slice bls mls els]] w (Rt fun v w' => v = .bool true ∧ Ext0 w w') := by
  have E0 : Ext no w w := Ext.refl _ _
  have lo_asp := Sl.low qssp
  have lo_bsp := Sl.low rssp
  have lo_als := Sl.low qsls
  have lo_bls := Sl.low rsls
  refine calls_W (n := 32) Try.func25 rfl rfl (Nat.le_of_ble_eq_true rfl) ?_
  refine W_seq ?_
  refine W_region (by kernel_rfl) ?_
  refine s_k rfl (k_box (v := .agg #[.int .i64 wd, .int .i64 hi, .bool wr, .slice asp nsp csp, .slice als nls cls]) (cs := [.int .i64 wd, .int .i64 hi, .bool wr, .slice asp nsp csp, .slice als nls cls]) rfl rfl (fun b1 w2 q4 e3 hB5 => ?_))
  have hS6 := qssp.ext0 e3
  have hS7 := rssp.ext0 e3
  have hS8 := qsls.ext0 e3
  have hS9 := rsls.ext0 e3
  have E10 := E0.fresh e3 (fun _ h _ => h.elim)
  have fr11 : NotLt b1 w.heap.size := fun h => Nat.not_lt.2 (Nat.le_trans E0.size (Nat.le_of_eq q4.symm)) h
  clear q4
  refine s_k rfl (k_box (v := .agg #[.int .i64 wd, .int .i64 hi, .bool wr, .slice bsp msp esp, .slice bls mls els]) (cs := [.int .i64 wd, .int .i64 hi, .bool wr, .slice bsp msp esp, .slice bls mls els]) rfl rfl (fun b12 w13 q15 e14 hB16 => ?_))
  have hB17 := hB5.ext0 e14
  have hS18 := hS6.ext0 e14
  have hS19 := hS7.ext0 e14
  have hS20 := hS8.ext0 e14
  have hS21 := hS9.ext0 e14
  have E22 := E10.fresh e14 (fun _ h _ => h.elim)
  have dj23 : NeB b1 b12 := fun h => Nat.ne_of_lt hB5.lt (h.trans q15)
  have fr24 : NotLt b12 w.heap.size := fun h => Nat.not_lt.2 (Nat.le_trans E10.size (Nat.le_of_eq q15.symm)) h
  clear q15
  refine s_y (v := .bool false) rfl (y_assign rfl) ?_
  refine s_nil ?_
  refine W_seq ?_
  refine W_seq ?_
  refine W_region (by kernel_rfl) ?_
  refine s_y (v := .pointer (some ⟨b1, 0, none⟩)) rfl (y_fld (o := 0) T25.fld_26_0_0 rfl) ?_
  refine s_y (v := .int .i64 wd) rfl (y_load T25.one_2 rfl (hB17.cell (j := 0) rfl)) ?_
  refine s_y (v := .pointer (some ⟨b12, 0, none⟩)) rfl (y_fld (o := 0) T25.fld_26_0_0 rfl) ?_
  refine s_y (v := .int .i64 wd) rfl (y_load T25.one_2 rfl (hB16.cell (j := 0) rfl)) ?_
  refine s_y (v := .bool false) rfl (y_neq rfl rfl (decide_eq_false (fun hq => hq rfl))) ?_
  refine s_nil ?_
  refine W_if_f (by decide) rfl ?_
  refine W_skip ?_
  refine W_seq ?_
  refine W_seq ?_
  refine W_region (by kernel_rfl) ?_
  refine s_y (v := .pointer (some ⟨b1, 1, none⟩)) rfl (y_fld (o := 0) T25.fld_26_1_1 rfl) ?_
  refine s_y (v := .int .i64 hi) rfl (y_load T25.one_2 rfl (hB17.cell (j := 1) rfl)) ?_
  refine s_y (v := .pointer (some ⟨b12, 1, none⟩)) rfl (y_fld (o := 0) T25.fld_26_1_1 rfl) ?_
  refine s_y (v := .int .i64 hi) rfl (y_load T25.one_2 rfl (hB16.cell (j := 1) rfl)) ?_
  refine s_y (v := .bool false) rfl (y_neq rfl rfl (decide_eq_false (fun hq => hq rfl))) ?_
  refine s_nil ?_
  refine W_if_f (by decide) rfl ?_
  refine W_skip ?_
  refine W_seq ?_
  refine W_seq ?_
  refine W_region (by kernel_rfl) ?_
  refine s_y (v := .pointer (some ⟨b1, 2, none⟩)) rfl (y_fld (o := 0) T25.fld_26_2_2 rfl) ?_
  refine s_y (v := .bool wr) rfl (y_load T25.one_4 rfl (hB17.cell (j := 2) rfl)) ?_
  refine s_y (v := .pointer (some ⟨b12, 2, none⟩)) rfl (y_fld (o := 0) T25.fld_26_2_2 rfl) ?_
  refine s_y (v := .bool wr) rfl (y_load T25.one_4 rfl (hB16.cell (j := 2) rfl)) ?_
  refine s_y (v := .bool false) rfl (y_bneq T25.bool_4 rfl rfl (by simp)) ?_
  refine s_nil ?_
  refine W_if_f (by decide) rfl ?_
  refine W_skip ?_
  refine W_seq ?_
  refine W_seq ?_
  refine W_region (by kernel_rfl) ?_
  refine s_y (v := .pointer (some ⟨b1, 3, none⟩)) rfl (y_fld (o := 0) T25.fld_26_3_3 rfl) ?_
  refine s_y (v := .slice asp nsp csp) rfl (y_load T25.one_24 rfl (hB17.cell (j := 3) rfl)) ?_
  refine s_y (v := .pointer (some ⟨b12, 3, none⟩)) rfl (y_fld (o := 0) T25.fld_26_3_3 rfl) ?_
  refine s_y (v := .slice bsp msp esp) rfl (y_load T25.one_24 rfl (hB16.cell (j := 3) rfl)) ?_
  refine s_k rfl (k_call T25.fn_71 (c_l_eqFloat32S _ hS18 qlsp qksp hS19 rlsp rksp (by omega)) rfl ?_)
  rintro _ w25 ⟨rfl, e26⟩
  have hB27 := hB17.ext0 e26
  have hB28 := hB16.ext0 e26
  have hS29 := hS18.ext0 e26
  have hS30 := hS19.ext0 e26
  have hS31 := hS20.ext0 e26
  have hS32 := hS21.ext0 e26
  have E33 := E22.fresh e26 (fun _ h _ => h.elim)
  refine s_y (v := .bool false) rfl (y_not rfl rfl) ?_
  refine s_nil ?_
  refine W_if_f (by decide) rfl ?_
  refine W_skip ?_
  refine W_seq ?_
  refine W_seq ?_
  refine W_region (by kernel_rfl) ?_
  refine s_y (v := .pointer (some ⟨b1, 4, none⟩)) rfl (y_fld (o := 0) T25.fld_26_4_4 rfl) ?_
  refine s_y (v := .slice als nls cls) rfl (y_load T25.one_24 rfl (hB27.cell (j := 4) rfl)) ?_
  refine s_y (v := .pointer (some ⟨b12, 4, none⟩)) rfl (y_fld (o := 0) T25.fld_26_4_4 rfl) ?_
  refine s_y (v := .slice bls mls els) rfl (y_load T25.one_24 rfl (hB28.cell (j := 4) rfl)) ?_
  refine s_k rfl (k_call T25.fn_71 (c_l_eqFloat32S _ hS31 qlls qkls hS32 rlls rkls (by omega)) rfl ?_)
  rintro _ w34 ⟨rfl, e35⟩
  have hB36 := hB27.ext0 e35
  have hB37 := hB28.ext0 e35
  have hS38 := hS29.ext0 e35
  have hS39 := hS30.ext0 e35
  have hS40 := hS31.ext0 e35
  have hS41 := hS32.ext0 e35
  have E42 := E33.fresh e35 (fun _ h _ => h.elim)
  refine s_y (v := .bool false) rfl (y_not rfl rfl) ?_
  refine s_nil ?_
  refine W_if_f (by decide) rfl ?_
  refine W_skip ?_
  refine W_seq ?_
  refine W_region (by kernel_rfl) ?_
  refine s_y (v := .bool true) rfl (y_assign rfl) ?_
  refine s_nil ?_
  refine W_ret ?_
  refine ret1 rfl rfl rfl ⟨_, rfl, ?_⟩
  exact ⟨rfl, E42⟩
namespace T6
theorem mx : Try.prog.follows .mixedOrders = true := by kernel_rfl
theorem agg_26_5 : aggB Try.prog 26 5 = true := by kernel_rfl
theorem agg_36_5 : aggB Try.prog 36 5 = true := by kernel_rfl
theorem bool_4 : Try.prog.underlying 4 = some .bool := by kernel_rfl
theorem fn_21 : fnB Try.prog 21 = true := by kernel_rfl
theorem fn_23 : fnB Try.prog 23 = true := by kernel_rfl
theorem fn_25 : fnB Try.prog 25 = true := by kernel_rfl
theorem fn_29 : fnB Try.prog 29 = true := by kernel_rfl
theorem fn_30 : fnB Try.prog 30 = true := by kernel_rfl
theorem sz_26_5 : szB Try.prog 26 5 = true := by kernel_rfl
theorem zero_26 : zeroB Try.prog 26 (.agg #[.int .i64 0, .int .i64 0, .bool false, .slice none 0 0, .slice none 0 0]) := by unfold zeroB; kernel_rfl
end T6
set_option maxRecDepth 100000 in
set_option maxHeartbeats 4000000 in
theorem c_FnExactDepthOf {wd0 hi0 : Int} {wr0 : Bool} {asp0 : Option Addr} {nsp0 csp0 : Nat} {xsp0 Xsp0 : List Nat} {als0 : Option Addr} {nls0 cls0 : Nat} {xls0 Xls0 : List Nat} {i1 i2 : Int} (w : World) (qssp0 : Sl w asp0 (flts xsp0)) (qlsp0 : xsp0.length = nsp0) (qksp0 : cn xsp0 = Xsp0) (qsls0 : Sl w als0 (flts xls0)) (qlls0 : xls0.length = nls0) (qkls0 : cn xls0 = Xls0) (g1 : nsp0 ≤ 9223372036854775807) (g2 : nls0 ≤ 9223372036854775807) :
    Calls Try.prog 6 #[.agg #[.int .i64 wd0, .int .i64 hi0, .bool wr0, .slice asp0 nsp0 csp0, .slice als0 nls0 cls0], .int .i64 i1, .int .i64 i2] w (Rt fun v w' => v = .bool true ∧ Ext no w w') := by
  have E0 : Ext no w w := Ext.refl _ _
  have hlP0 : Xsp0.length = nsp0 := (cn_lenX qksp0).trans qlsp0
  have hlL0 : Xls0.length = nls0 := (cn_lenX qkls0).trans qlls0
  have lo_asp0 := Sl.low qssp0
  have lo_als0 := Sl.low qsls0
  refine calls_W (n := 48) Try.func6 rfl rfl (Nat.le_of_ble_eq_true rfl) ?_
  refine W_seq ?_
  refine W_region (by kernel_rfl) ?_
  refine s_k rfl (k_box (v := .agg #[.int .i64 wd0, .int .i64 hi0, .bool wr0, .slice asp0 nsp0 csp0, .slice als0 nls0 cls0]) (cs := [.int .i64 wd0, .int .i64 hi0, .bool wr0, .slice asp0 nsp0 csp0, .slice als0 nls0 cls0]) rfl rfl (fun b1 w2 q4 e3 hB5 => ?_))
  have hS6 := qssp0.ext0 e3
  have hS7 := qsls0.ext0 e3
  have E8 := E0.fresh e3 (fun _ h _ => h.elim)
  have fr9 : NotLt b1 w.heap.size := fun h => Nat.not_lt.2 (Nat.le_trans E0.size (Nat.le_of_eq q4.symm)) h
  clear q4
  refine s_y (v := .bool false) rfl (y_assign rfl) ?_
  refine s_nil ?_
  refine W_seq ?_
  refine W_region (by kernel_rfl) ?_
  refine s_y (v := .int .i64 1048576) rfl (y_assign rfl) ?_
  refine s_nil ?_
  refine W_seq ?_
  refine W_region (by kernel_rfl) ?_
  refine s_y (v := .agg #[.int .i64 wd0, .int .i64 hi0, .bool wr0, .slice asp0 nsp0 csp0, .slice als0 nls0 cls0]) rfl (y_loadn (b := b1) (o := 0) (vs := [.int .i64 wd0, .int .i64 hi0, .bool wr0, .slice asp0 nsp0 csp0, .slice als0 nls0 cls0]) T6.agg_36_5 rfl rfl (hB5.cells (o := 0) rfl)) ?_
  refine s_y (v := .int .i64 1048576) rfl (y_move rfl) ?_
  refine s_k rfl (k_call T6.fn_21 (c_l_szSheet _ (by omega) (by omega) (by omega) (by omega)) rfl ?_)
  rintro v12 w10 ⟨hv13, e11⟩
  have hB14 := hB5.ext0 e11
  have hS15 := hS6.ext0 e11
  have hS16 := hS7.ext0 e11
  have E17 := E8.fresh e11 (fun _ h _ => h.elim)
  by_cases c18 : ((nsp0 : Nat) : Int) + ((nls0 : Nat) : Int) ≤ 1048576
  · obtain rfl : v12 = .int .i64 (1048576 - ((nsp0 : Nat) : Int) - ((nls0 : Nat) : Int)) := hv13.trans (congrArg _ (if_pos c18))
    have hk19 : ¬ (1048576 - ((nsp0 : Nat) : Int) - ((nls0 : Nat) : Int)) < 0 := by omega
    refine s_y (v := .int .i64 (1048576 - ((nsp0 : Nat) : Int) - ((nls0 : Nat) : Int))) rfl (y_assign rfl) ?_
    refine s_nil ?_
    refine W_seq ?_
    refine W_seq ?_
    refine W_region (by kernel_rfl) ?_
    refine s_y (v := .int .i64 (1048576 - ((nsp0 : Nat) : Int) - ((nls0 : Nat) : Int))) rfl (y_move rfl) ?_
    refine s_y (v := .bool false) rfl (y_lss rfl rfl (decide_eq_false hk19)) ?_
    refine s_nil ?_
    refine W_if_f (by decide) rfl ?_
    refine W_skip ?_
    refine W_seq ?_
    refine W_region (by kernel_rfl) ?_
    refine s_y (v := .agg #[.int .i64 wd0, .int .i64 hi0, .bool wr0, .slice asp0 nsp0 csp0, .slice als0 nls0 cls0]) rfl (y_loadn (b := b1) (o := 0) (vs := [.int .i64 wd0, .int .i64 hi0, .bool wr0, .slice asp0 nsp0 csp0, .slice als0 nls0 cls0]) T6.agg_36_5 rfl rfl (hB14.cells (o := 0) rfl)) ?_
    refine s_k rfl (k_call T6.fn_23 (c_l_toSheet _ hS15 qlsp0 qksp0 hS16 qlls0 qkls0 (by omega) (by omega)) rfl ?_)
    rintro _ w20 ⟨⟨a22, c23, z24, a25, c26, z27, rfl, hO28, hl29, hc30, hO31, hl32, hc33, dj34⟩, e21⟩
    have hB35 := hB14.ext0 e21
    have hS36 := hS15.ext0 e21
    have hS37 := hS16.ext0 e21
    have E38 := E17.fresh e21 (fun _ h _ => h.elim)
    have d39 : ∀ k, inA a22 k → w10.heap.size ≤ k := fun kx hk => (hO28.blk kx hk).1
    have dj40 : inA a22 b1 → False := fun h => Nat.not_lt.2 (d39 _ h) hB14.lt
    have fr41 : ∀ k, inA a22 k → k < w.heap.size → False := fun kx h1 h2 => Nat.not_lt.2 (Nat.le_trans E17.size (d39 kx h1)) h2
    have hO42 := hO28.base E17.size
    have d43 : ∀ k, inA a25 k → w10.heap.size ≤ k := fun kx hk => (hO31.blk kx hk).1
    have dj44 : inA a25 b1 → False := fun h => Nat.not_lt.2 (d43 _ h) hB14.lt
    have fr45 : ∀ k, inA a25 k → k < w.heap.size → False := fun kx h1 h2 => Nat.not_lt.2 (Nat.le_trans E17.size (d43 kx h1)) h2
    have hO46 := hO31.base E17.size
    refine s_y (v := .int .i64 i1) rfl (y_move rfl) ?_
    refine s_y (v := .int .i64 i2) rfl (y_move rfl) ?_
    refine s_k rfl (k_call T6.fn_29 (c_s_DepthOf _ hO42.sl hl29 hc30 hO46.sl hl32 hc33 (by omega) (by omega)) rfl ?_)
    rintro v49 w47 ⟨hv50, e48⟩
    have hB51 := hB35.ext0 e48
    have hS52 := hS36.ext0 e48
    have hS53 := hS37.ext0 e48
    have hO54 := hO42.ext0 e48
    have hO55 := hO46.ext0 e48
    have E56 := E38.fresh e48 (fun _ h _ => h.elim)
    by_cases c57 : vcellB wd0 hi0 Xsp0 Xls0 i1 i2 = true
    · have hb58 := vcellB_b c57
      obtain rfl : v49 = .tuple #[.int .i64 (depI wd0 hi0 i1 i2), .bool true] := hv50.trans (if_pos c57)
      refine s_y (v := .tuple #[.int .i64 (depI wd0 hi0 i1 i2), .bool true]) rfl (y_move rfl) ?_
      refine s_y (v := .int .i64 (depI wd0 hi0 i1 i2)) rfl (y_extract rfl rfl) ?_
      refine s_y (v := .bool true) rfl (y_extract rfl rfl) ?_
      refine s_y (v := .int .i64 (depI wd0 hi0 i1 i2)) rfl (y_assign rfl) ?_
      refine s_y (v := .bool true) rfl (y_assign rfl) ?_
      refine s_nil ?_
      refine W_seq ?_
      refine W_region (by kernel_rfl) ?_
      refine s_y (v := .agg #[.int .i64 wd0, .int .i64 hi0, .bool wr0, .slice asp0 nsp0 csp0, .slice als0 nls0 cls0]) rfl (y_loadn (b := b1) (o := 0) (vs := [.int .i64 wd0, .int .i64 hi0, .bool wr0, .slice asp0 nsp0 csp0, .slice als0 nls0 cls0]) T6.agg_36_5 rfl rfl (hB51.cells (o := 0) rfl)) ?_
      refine s_k rfl (k_call T6.fn_23 (c_l_toSheet _ hS52 qlsp0 qksp0 hS53 qlls0 qkls0 (by omega) (by omega)) rfl ?_)
      rintro _ w59 ⟨⟨a61, c62, z63, a64, c65, z66, rfl, hO67, hl68, hc69, hO70, hl71, hc72, dj73⟩, e60⟩
      have hB74 := hB51.ext0 e60
      have hS75 := hS52.ext0 e60
      have hS76 := hS53.ext0 e60
      have hO77 := hO54.ext0 e60
      have hO78 := hO55.ext0 e60
      have E79 := E56.fresh e60 (fun _ h _ => h.elim)
      have d80 : ∀ k, inA a61 k → w47.heap.size ≤ k := fun kx hk => (hO67.blk kx hk).1
      have dj81 : inA a61 b1 → False := fun h => Nat.not_lt.2 (d80 _ h) hB51.lt
      have dj82 : ∀ k, inA a22 k → inA a61 k → False := fun kx h1 h2 => Nat.not_lt.2 (d80 kx h2) (hO54.blk kx h1).2
      have dj83 : ∀ k, inA a25 k → inA a61 k → False := fun kx h1 h2 => Nat.not_lt.2 (d80 kx h2) (hO55.blk kx h1).2
      have fr84 : ∀ k, inA a61 k → k < w.heap.size → False := fun kx h1 h2 => Nat.not_lt.2 (Nat.le_trans E56.size (d80 kx h1)) h2
      have hO85 := hO67.base E56.size
      have d86 : ∀ k, inA a64 k → w47.heap.size ≤ k := fun kx hk => (hO70.blk kx hk).1
      have dj87 : inA a64 b1 → False := fun h => Nat.not_lt.2 (d86 _ h) hB51.lt
      have dj88 : ∀ k, inA a22 k → inA a64 k → False := fun kx h1 h2 => Nat.not_lt.2 (d86 kx h2) (hO54.blk kx h1).2
      have dj89 : ∀ k, inA a25 k → inA a64 k → False := fun kx h1 h2 => Nat.not_lt.2 (d86 kx h2) (hO55.blk kx h1).2
      have fr90 : ∀ k, inA a64 k → k < w.heap.size → False := fun kx h1 h2 => Nat.not_lt.2 (Nat.le_trans E56.size (d86 kx h1)) h2
      have hO91 := hO70.base E56.size
      refine s_k rfl (k_alloc (z := (.agg #[.int .i64 0, .int .i64 0, .bool false, .slice none 0 0, .slice none 0 0])) (cs := [.int .i64 0, .int .i64 0, .bool false, .slice none 0 0, .slice none 0 0]) T6.zero_26 rfl (fun b92 w93 q95 e94 hB96 => ?_))
      have hB97 := hB74.ext0 e94
      have hS98 := hS75.ext0 e94
      have hS99 := hS76.ext0 e94
      have hO100 := hO77.ext0 e94
      have hO101 := hO78.ext0 e94
      have hO102 := hO85.ext0 e94
      have hO103 := hO91.ext0 e94
      have E104 := E79.fresh e94 (fun _ h _ => h.elim)
      have dj105 : NeB b1 b92 := fun h => Nat.ne_of_lt hB74.lt (h.trans q95)
      have dj106 : inA a22 b92 → False := fun h => Nat.ne_of_lt (hO77.blk _ h).2 q95
      have dj107 : inA a25 b92 → False := fun h => Nat.ne_of_lt (hO78.blk _ h).2 q95
      have dj108 : inA a61 b92 → False := fun h => Nat.ne_of_lt (hO85.blk _ h).2 q95
      have dj109 : inA a64 b92 → False := fun h => Nat.ne_of_lt (hO91.blk _ h).2 q95
      have fr110 : NotLt b92 w.heap.size := fun h => Nat.not_lt.2 (Nat.le_trans E79.size (Nat.le_of_eq q95.symm)) h
      clear q95
      refine s_k0 rfl (k_store (v := .agg #[.int .i64 wd0, .int .i64 hi0, .bool wr0, .slice a61 nsp0 c62, .slice a64 nls0 c65]) (n := 5) (cs' := [.int .i64 wd0, .int .i64 hi0, .bool wr0, .slice a61 nsp0 c62, .slice a64 nls0 c65]) T6.sz_26_5 rfl rfl rfl hB96 (by simp [Value.cells, Value.oneCell']) (Nat.le_of_ble_eq_true rfl) rfl (fun w111 e112 z113 hB114 => ?_))
      clear z113
      have hB115 := hB97.ext e112 dj105
      have hS116 := hS98.extL lo_asp0 e112 (fun kx (hs : kx = b92) hl => fr110 (hs ▸ hl))
      have hS117 := hS99.extL lo_als0 e112 (fun kx (hs : kx = b92) hl => fr110 (hs ▸ hl))
      have hO118 := hO100.ext e112 (fun kx hk (hs : kx = b92) => dj106 (hs ▸ hk))
      have hO119 := hO101.ext e112 (fun kx hk (hs : kx = b92) => dj107 (hs ▸ hk))
      have hO120 := hO102.ext e112 (fun kx hk (hs : kx = b92) => dj108 (hs ▸ hk))
      have hO121 := hO103.ext e112 (fun kx hk (hs : kx = b92) => dj109 (hs ▸ hk))
      have E122 := E104.fresh e112 (fun kx (hs : kx = b92) hl => (fr110 (hs ▸ hl)).elim)
      refine s_nil ?_
      refine W_seq ?_
      refine W_region (by kernel_rfl) ?_
      refine s_y (v := .agg #[.int .i64 wd0, .int .i64 hi0, .bool wr0, .slice a61 nsp0 c62, .slice a64 nls0 c65]) rfl (y_loadn (b := b92) (o := 0) (vs := [.int .i64 wd0, .int .i64 hi0, .bool wr0, .slice a61 nsp0 c62, .slice a64 nls0 c65]) T6.agg_26_5 rfl rfl (hB114.cells (o := 0) rfl)) ?_
      refine s_y (v := .int .i64 i1) rfl (y_move rfl) ?_
      refine s_y (v := .int .i64 i2) rfl (y_move rfl) ?_
      refine s_k rfl (k_call T6.fn_30 (c_i_DepthOf _ hO120.sl hl68 hc69 hO121.sl hl71 hc72 (by omega) (by omega)) rfl ?_)
      rintro v125 w123 ⟨hv126, e124⟩
      have hB127 := hB115.ext0 e124
      have hB128 := hB114.ext0 e124
      have hS129 := hS116.ext0 e124
      have hS130 := hS117.ext0 e124
      have hO131 := hO118.ext0 e124
      have hO132 := hO119.ext0 e124
      have hO133 := hO120.ext0 e124
      have hO134 := hO121.ext0 e124
      have E135 := E122.fresh e124 (fun _ h _ => h.elim)
      obtain rfl : v125 = .tuple #[.int .i64 (depI wd0 hi0 i1 i2), .bool true] := hv126.trans (if_pos c57)
      refine s_y (v := .tuple #[.int .i64 (depI wd0 hi0 i1 i2), .bool true]) rfl (y_move rfl) ?_
      refine s_y (v := .int .i64 (depI wd0 hi0 i1 i2)) rfl (y_extract rfl rfl) ?_
      refine s_y (v := .bool true) rfl (y_extract rfl rfl) ?_
      refine s_y (v := .int .i64 (depI wd0 hi0 i1 i2)) rfl (y_assign rfl) ?_
      refine s_y (v := .bool true) rfl (y_assign rfl) ?_
      refine s_nil ?_
      refine W_seq ?_
      refine W_seq ?_
      refine W_region (by kernel_rfl) ?_
      refine s_y (v := .int .i64 (depI wd0 hi0 i1 i2)) rfl (y_move rfl) ?_
      refine s_y (v := .int .i64 (depI wd0 hi0 i1 i2)) rfl (y_move rfl) ?_
      refine s_y (v := .bool false) rfl (y_neq rfl rfl (decide_eq_false (fun hq => hq rfl))) ?_
      refine s_y (v := .bool false) rfl (y_move rfl) ?_
      refine s_y (v := .bool true) rfl (y_move rfl) ?_
      refine s_y (v := .bool true) rfl (y_move rfl) ?_
      refine s_y (v := .bool false) rfl (y_bneq T6.bool_4 rfl rfl rfl) ?_
      refine s_y (v := .bool false) rfl (y_pick_f rfl rfl) ?_
      refine s_nil ?_
      refine W_if_f (by decide) rfl ?_
      refine W_skip ?_
      refine W_seq ?_
      refine W_seq ?_
      refine W_draw (no) T6.mx (by kernel_rfl) (fun w136 e137 => ?_)
      have hB138 := hB127.ext0 e137
      have hB139 := hB128.ext0 e137
      have hS140 := hS129.ext0 e137
      have hS141 := hS130.ext0 e137
      have hO142 := hO131.ext0 e137
      have hO143 := hO132.ext0 e137
      have hO144 := hO133.ext0 e137
      have hO145 := hO134.ext0 e137
      have E146 := E135.fresh e137 (fun _ h _ => h.elim)
      have R147 := (Ext.refl (no) w123).trans (Ext0.any e137)
      refine m_y (v := .agg #[.int .i64 wd0, .int .i64 hi0, .bool wr0, .slice a61 nsp0 c62, .slice a64 nls0 c65]) 0 rfl (by kernel_rfl) rfl rfl (fun w' e' => y_loadn (b := b92) (o := 0) (vs := [.int .i64 wd0, .int .i64 hi0, .bool wr0, .slice a61 nsp0 c62, .slice a64 nls0 c65]) T6.agg_26_5 rfl rfl ((hB128.ext0 e').cells (o := 0) rfl)) ?_
      refine m_y (v := .agg #[.int .i64 wd0, .int .i64 hi0, .bool wr0, .slice asp0 nsp0 csp0, .slice als0 nls0 cls0]) 1 rfl (by kernel_rfl) rfl rfl (fun w' e' => y_loadn (b := b1) (o := 0) (vs := [.int .i64 wd0, .int .i64 hi0, .bool wr0, .slice asp0 nsp0 csp0, .slice als0 nls0 cls0]) T6.agg_36_5 rfl rfl ((hB127.ext0 e').cells (o := 0) rfl)) ?_
      refine m_k 2 [3, 4] rfl (by kernel_rfl) rfl rfl (fun w148 e149 => ?_)
      have hB150 := hB138.ext0 e149
      have hB151 := hB139.ext0 e149
      have hS152 := hS140.ext0 e149
      have hS153 := hS141.ext0 e149
      have hO154 := hO142.ext0 e149
      have hO155 := hO143.ext0 e149
      have hO156 := hO144.ext0 e149
      have hO157 := hO145.ext0 e149
      have E158 := E146.fresh e149 (fun _ h _ => h.elim)
      have R159 := R147.trans (Ext0.any e149)
      refine k_call T6.fn_23 (c_l_toSheet _ hS152 qlsp0 qksp0 hS153 qlls0 qkls0 (by omega) (by omega)) rfl ?_
      rintro _ w160 ⟨⟨a162, c163, z164, a165, c166, z167, rfl, hO168, hl169, hc170, hO171, hl172, hc173, dj174⟩, e161⟩
      have hB175 := hB150.ext0 e161
      have hB176 := hB151.ext0 e161
      have hS177 := hS152.ext0 e161
      have hS178 := hS153.ext0 e161
      have hO179 := hO154.ext0 e161
      have hO180 := hO155.ext0 e161
      have hO181 := hO156.ext0 e161
      have hO182 := hO157.ext0 e161
      have E183 := E158.fresh e161 (fun _ h _ => h.elim)
      have R184 := R159.trans (Ext0.any e161)
      refine ⟨fun _ => R184, ?_⟩
      have d185 : ∀ k, inA a162 k → w148.heap.size ≤ k := fun kx hk => (hO168.blk kx hk).1
      have dj186 : inA a162 b1 → False := fun h => Nat.not_lt.2 (d185 _ h) hB150.lt
      have dj187 : inA a162 b92 → False := fun h => Nat.not_lt.2 (d185 _ h) hB151.lt
      have dj188 : ∀ k, inA a22 k → inA a162 k → False := fun kx h1 h2 => Nat.not_lt.2 (d185 kx h2) (hO154.blk kx h1).2
      have dj189 : ∀ k, inA a25 k → inA a162 k → False := fun kx h1 h2 => Nat.not_lt.2 (d185 kx h2) (hO155.blk kx h1).2
      have dj190 : ∀ k, inA a61 k → inA a162 k → False := fun kx h1 h2 => Nat.not_lt.2 (d185 kx h2) (hO156.blk kx h1).2
      have dj191 : ∀ k, inA a64 k → inA a162 k → False := fun kx h1 h2 => Nat.not_lt.2 (d185 kx h2) (hO157.blk kx h1).2
      have fr192 : ∀ k, inA a162 k → k < w.heap.size → False := fun kx h1 h2 => Nat.not_lt.2 (Nat.le_trans E158.size (d185 kx h1)) h2
      have hO193 := hO168.base E158.size
      have d194 : ∀ k, inA a165 k → w148.heap.size ≤ k := fun kx hk => (hO171.blk kx hk).1
      have dj195 : inA a165 b1 → False := fun h => Nat.not_lt.2 (d194 _ h) hB150.lt
      have dj196 : inA a165 b92 → False := fun h => Nat.not_lt.2 (d194 _ h) hB151.lt
      have dj197 : ∀ k, inA a22 k → inA a165 k → False := fun kx h1 h2 => Nat.not_lt.2 (d194 kx h2) (hO154.blk kx h1).2
      have dj198 : ∀ k, inA a25 k → inA a165 k → False := fun kx h1 h2 => Nat.not_lt.2 (d194 kx h2) (hO155.blk kx h1).2
      have dj199 : ∀ k, inA a61 k → inA a165 k → False := fun kx h1 h2 => Nat.not_lt.2 (d194 kx h2) (hO156.blk kx h1).2
      have dj200 : ∀ k, inA a64 k → inA a165 k → False := fun kx h1 h2 => Nat.not_lt.2 (d194 kx h2) (hO157.blk kx h1).2
      have fr201 : ∀ k, inA a165 k → k < w.heap.size → False := fun kx h1 h2 => Nat.not_lt.2 (Nat.le_trans E158.size (d194 kx h1)) h2
      have hO202 := hO171.base E158.size
      refine m_k 3 [4] rfl (by kernel_rfl) rfl rfl (fun w203 e204 => ?_)
      have hB205 := hB175.ext0 e204
      have hB206 := hB176.ext0 e204
      have hS207 := hS177.ext0 e204
      have hS208 := hS178.ext0 e204
      have hO209 := hO179.ext0 e204
      have hO210 := hO180.ext0 e204
      have hO211 := hO181.ext0 e204
      have hO212 := hO182.ext0 e204
      have hO213 := hO193.ext0 e204
      have hO214 := hO202.ext0 e204
      have E215 := E183.fresh e204 (fun _ h _ => h.elim)
      have R216 := R184.trans (Ext0.any e204)
      refine k_call T6.fn_25 (c_l_eqSheet _ hO211.sl hl68 hc69 hO213.sl hl169 hc170 (by omega) hO212.sl hl71 hc72 hO214.sl hl172 hc173 (by omega)) rfl ?_
      rintro _ w217 ⟨rfl, e218⟩
      have hB219 := hB205.ext0 e218
      have hB220 := hB206.ext0 e218
      have hS221 := hS207.ext0 e218
      have hS222 := hS208.ext0 e218
      have hO223 := hO209.ext0 e218
      have hO224 := hO210.ext0 e218
      have hO225 := hO211.ext0 e218
      have hO226 := hO212.ext0 e218
      have hO227 := hO213.ext0 e218
      have hO228 := hO214.ext0 e218
      have E229 := E215.fresh e218 (fun _ h _ => h.elim)
      have R230 := R216.trans (Ext0.any e218)
      refine ⟨fun _ => R230, ?_⟩
      refine m_y (v := .bool false) 4 rfl (by kernel_rfl) rfl rfl (fun w' e' => y_not rfl rfl) ?_
      refine m_done (by kernel_rfl) (fun w231 e232 => ?_)
      have hB233 := hB219.ext0 e232
      have hB234 := hB220.ext0 e232
      have hS235 := hS221.ext0 e232
      have hS236 := hS222.ext0 e232
      have hO237 := hO223.ext0 e232
      have hO238 := hO224.ext0 e232
      have hO239 := hO225.ext0 e232
      have hO240 := hO226.ext0 e232
      have hO241 := hO227.ext0 e232
      have hO242 := hO228.ext0 e232
      have E243 := E229.fresh e232 (fun _ h _ => h.elim)
      have R244 := R230.trans (Ext0.any e232)
      refine W_if_f (by decide) rfl ?_
      refine W_skip ?_
      refine W_seq ?_
      refine W_region (by kernel_rfl) ?_
      refine s_y (v := .bool true) rfl (y_assign rfl) ?_
      refine s_nil ?_
      refine W_ret ?_
      refine ret1 rfl rfl rfl ⟨_, rfl, ?_⟩
      exact ⟨rfl, E243⟩
    · obtain rfl : v49 = .tuple #[.int .i64 0, .bool false] := hv50.trans (if_neg c57)
      refine s_y (v := .tuple #[.int .i64 0, .bool false]) rfl (y_move rfl) ?_
      refine s_y (v := .int .i64 0) rfl (y_extract rfl rfl) ?_
      refine s_y (v := .bool false) rfl (y_extract rfl rfl) ?_
      refine s_y (v := .int .i64 0) rfl (y_assign rfl) ?_
      refine s_y (v := .bool false) rfl (y_assign rfl) ?_
      refine s_nil ?_
      refine W_seq ?_
      refine W_region (by kernel_rfl) ?_
      refine s_y (v := .agg #[.int .i64 wd0, .int .i64 hi0, .bool wr0, .slice asp0 nsp0 csp0, .slice als0 nls0 cls0]) rfl (y_loadn (b := b1) (o := 0) (vs := [.int .i64 wd0, .int .i64 hi0, .bool wr0, .slice asp0 nsp0 csp0, .slice als0 nls0 cls0]) T6.agg_36_5 rfl rfl (hB51.cells (o := 0) rfl)) ?_
      refine s_k rfl (k_call T6.fn_23 (c_l_toSheet _ hS52 qlsp0 qksp0 hS53 qlls0 qkls0 (by omega) (by omega)) rfl ?_)
      rintro _ w245 ⟨⟨a247, c248, z249, a250, c251, z252, rfl, hO253, hl254, hc255, hO256, hl257, hc258, dj259⟩, e246⟩
      have hB260 := hB51.ext0 e246
      have hS261 := hS52.ext0 e246
      have hS262 := hS53.ext0 e246
      have hO263 := hO54.ext0 e246
      have hO264 := hO55.ext0 e246
      have E265 := E56.fresh e246 (fun _ h _ => h.elim)
      have d266 : ∀ k, inA a247 k → w47.heap.size ≤ k := fun kx hk => (hO253.blk kx hk).1
      have dj267 : inA a247 b1 → False := fun h => Nat.not_lt.2 (d266 _ h) hB51.lt
      have dj268 : ∀ k, inA a22 k → inA a247 k → False := fun kx h1 h2 => Nat.not_lt.2 (d266 kx h2) (hO54.blk kx h1).2
      have dj269 : ∀ k, inA a25 k → inA a247 k → False := fun kx h1 h2 => Nat.not_lt.2 (d266 kx h2) (hO55.blk kx h1).2
      have fr270 : ∀ k, inA a247 k → k < w.heap.size → False := fun kx h1 h2 => Nat.not_lt.2 (Nat.le_trans E56.size (d266 kx h1)) h2
      have hO271 := hO253.base E56.size
      have d272 : ∀ k, inA a250 k → w47.heap.size ≤ k := fun kx hk => (hO256.blk kx hk).1
      have dj273 : inA a250 b1 → False := fun h => Nat.not_lt.2 (d272 _ h) hB51.lt
      have dj274 : ∀ k, inA a22 k → inA a250 k → False := fun kx h1 h2 => Nat.not_lt.2 (d272 kx h2) (hO54.blk kx h1).2
      have dj275 : ∀ k, inA a25 k → inA a250 k → False := fun kx h1 h2 => Nat.not_lt.2 (d272 kx h2) (hO55.blk kx h1).2
      have fr276 : ∀ k, inA a250 k → k < w.heap.size → False := fun kx h1 h2 => Nat.not_lt.2 (Nat.le_trans E56.size (d272 kx h1)) h2
      have hO277 := hO256.base E56.size
      refine s_k rfl (k_alloc (z := (.agg #[.int .i64 0, .int .i64 0, .bool false, .slice none 0 0, .slice none 0 0])) (cs := [.int .i64 0, .int .i64 0, .bool false, .slice none 0 0, .slice none 0 0]) T6.zero_26 rfl (fun b278 w279 q281 e280 hB282 => ?_))
      have hB283 := hB260.ext0 e280
      have hS284 := hS261.ext0 e280
      have hS285 := hS262.ext0 e280
      have hO286 := hO263.ext0 e280
      have hO287 := hO264.ext0 e280
      have hO288 := hO271.ext0 e280
      have hO289 := hO277.ext0 e280
      have E290 := E265.fresh e280 (fun _ h _ => h.elim)
      have dj291 : NeB b1 b278 := fun h => Nat.ne_of_lt hB260.lt (h.trans q281)
      have dj292 : inA a22 b278 → False := fun h => Nat.ne_of_lt (hO263.blk _ h).2 q281
      have dj293 : inA a25 b278 → False := fun h => Nat.ne_of_lt (hO264.blk _ h).2 q281
      have dj294 : inA a247 b278 → False := fun h => Nat.ne_of_lt (hO271.blk _ h).2 q281
      have dj295 : inA a250 b278 → False := fun h => Nat.ne_of_lt (hO277.blk _ h).2 q281
      have fr296 : NotLt b278 w.heap.size := fun h => Nat.not_lt.2 (Nat.le_trans E265.size (Nat.le_of_eq q281.symm)) h
      clear q281
      refine s_k0 rfl (k_store (v := .agg #[.int .i64 wd0, .int .i64 hi0, .bool wr0, .slice a247 nsp0 c248, .slice a250 nls0 c251]) (n := 5) (cs' := [.int .i64 wd0, .int .i64 hi0, .bool wr0, .slice a247 nsp0 c248, .slice a250 nls0 c251]) T6.sz_26_5 rfl rfl rfl hB282 (by simp [Value.cells, Value.oneCell']) (Nat.le_of_ble_eq_true rfl) rfl (fun w297 e298 z299 hB300 => ?_))
      clear z299
      have hB301 := hB283.ext e298 dj291
      have hS302 := hS284.extL lo_asp0 e298 (fun kx (hs : kx = b278) hl => fr296 (hs ▸ hl))
      have hS303 := hS285.extL lo_als0 e298 (fun kx (hs : kx = b278) hl => fr296 (hs ▸ hl))
      have hO304 := hO286.ext e298 (fun kx hk (hs : kx = b278) => dj292 (hs ▸ hk))
      have hO305 := hO287.ext e298 (fun kx hk (hs : kx = b278) => dj293 (hs ▸ hk))
      have hO306 := hO288.ext e298 (fun kx hk (hs : kx = b278) => dj294 (hs ▸ hk))
      have hO307 := hO289.ext e298 (fun kx hk (hs : kx = b278) => dj295 (hs ▸ hk))
      have E308 := E290.fresh e298 (fun kx (hs : kx = b278) hl => (fr296 (hs ▸ hl)).elim)
      refine s_nil ?_
      refine W_seq ?_
      refine W_region (by kernel_rfl) ?_
      refine s_y (v := .agg #[.int .i64 wd0, .int .i64 hi0, .bool wr0, .slice a247 nsp0 c248, .slice a250 nls0 c251]) rfl (y_loadn (b := b278) (o := 0) (vs := [.int .i64 wd0, .int .i64 hi0, .bool wr0, .slice a247 nsp0 c248, .slice a250 nls0 c251]) T6.agg_26_5 rfl rfl (hB300.cells (o := 0) rfl)) ?_
      refine s_y (v := .int .i64 i1) rfl (y_move rfl) ?_
      refine s_y (v := .int .i64 i2) rfl (y_move rfl) ?_
      refine s_k rfl (k_call T6.fn_30 (c_i_DepthOf _ hO306.sl hl254 hc255 hO307.sl hl257 hc258 (by omega) (by omega)) rfl ?_)
      rintro v311 w309 ⟨hv312, e310⟩
      have hB313 := hB301.ext0 e310
      have hB314 := hB300.ext0 e310
      have hS315 := hS302.ext0 e310
      have hS316 := hS303.ext0 e310
      have hO317 := hO304.ext0 e310
      have hO318 := hO305.ext0 e310
      have hO319 := hO306.ext0 e310
      have hO320 := hO307.ext0 e310
      have E321 := E308.fresh e310 (fun _ h _ => h.elim)
      obtain rfl : v311 = .tuple #[.int .i64 0, .bool false] := hv312.trans (if_neg c57)
      refine s_y (v := .tuple #[.int .i64 0, .bool false]) rfl (y_move rfl) ?_
      refine s_y (v := .int .i64 0) rfl (y_extract rfl rfl) ?_
      refine s_y (v := .bool false) rfl (y_extract rfl rfl) ?_
      refine s_y (v := .int .i64 0) rfl (y_assign rfl) ?_
      refine s_y (v := .bool false) rfl (y_assign rfl) ?_
      refine s_nil ?_
      refine W_seq ?_
      refine W_seq ?_
      refine W_region (by kernel_rfl) ?_
      refine s_y (v := .int .i64 0) rfl (y_move rfl) ?_
      refine s_y (v := .int .i64 0) rfl (y_move rfl) ?_
      have hk322 : ¬ ((0 : Int) ≠ 0) := (by decide)
      refine s_y (v := .bool false) rfl (y_neq rfl rfl (decide_eq_false hk322)) ?_
      refine s_y (v := .bool false) rfl (y_move rfl) ?_
      refine s_y (v := .bool false) rfl (y_move rfl) ?_
      refine s_y (v := .bool false) rfl (y_move rfl) ?_
      refine s_y (v := .bool false) rfl (y_bneq T6.bool_4 rfl rfl rfl) ?_
      refine s_y (v := .bool false) rfl (y_pick_f rfl rfl) ?_
      refine s_nil ?_
      refine W_if_f (by decide) rfl ?_
      refine W_skip ?_
      refine W_seq ?_
      refine W_seq ?_
      refine W_draw (no) T6.mx (by kernel_rfl) (fun w323 e324 => ?_)
      have hB325 := hB313.ext0 e324
      have hB326 := hB314.ext0 e324
      have hS327 := hS315.ext0 e324
      have hS328 := hS316.ext0 e324
      have hO329 := hO317.ext0 e324
      have hO330 := hO318.ext0 e324
      have hO331 := hO319.ext0 e324
      have hO332 := hO320.ext0 e324
      have E333 := E321.fresh e324 (fun _ h _ => h.elim)
      have R334 := (Ext.refl (no) w309).trans (Ext0.any e324)
      refine m_y (v := .agg #[.int .i64 wd0, .int .i64 hi0, .bool wr0, .slice a247 nsp0 c248, .slice a250 nls0 c251]) 0 rfl (by kernel_rfl) rfl rfl (fun w' e' => y_loadn (b := b278) (o := 0) (vs := [.int .i64 wd0, .int .i64 hi0, .bool wr0, .slice a247 nsp0 c248, .slice a250 nls0 c251]) T6.agg_26_5 rfl rfl ((hB314.ext0 e').cells (o := 0) rfl)) ?_
      refine m_y (v := .agg #[.int .i64 wd0, .int .i64 hi0, .bool wr0, .slice asp0 nsp0 csp0, .slice als0 nls0 cls0]) 1 rfl (by kernel_rfl) rfl rfl (fun w' e' => y_loadn (b := b1) (o := 0) (vs := [.int .i64 wd0, .int .i64 hi0, .bool wr0, .slice asp0 nsp0 csp0, .slice als0 nls0 cls0]) T6.agg_36_5 rfl rfl ((hB313.ext0 e').cells (o := 0) rfl)) ?_
      refine m_k 2 [3, 4] rfl (by kernel_rfl) rfl rfl (fun w335 e336 => ?_)
      have hB337 := hB325.ext0 e336
      have hB338 := hB326.ext0 e336
      have hS339 := hS327.ext0 e336
      have hS340 := hS328.ext0 e336
      have hO341 := hO329.ext0 e336
      have hO342 := hO330.ext0 e336
      have hO343 := hO331.ext0 e336
      have hO344 := hO332.ext0 e336
      have E345 := E333.fresh e336 (fun _ h _ => h.elim)
      have R346 := R334.trans (Ext0.any e336)
      refine k_call T6.fn_23 (c_l_toSheet _ hS339 qlsp0 qksp0 hS340 qlls0 qkls0 (by omega) (by omega)) rfl ?_
      rintro _ w347 ⟨⟨a349, c350, z351, a352, c353, z354, rfl, hO355, hl356, hc357, hO358, hl359, hc360, dj361⟩, e348⟩
      have hB362 := hB337.ext0 e348
      have hB363 := hB338.ext0 e348
      have hS364 := hS339.ext0 e348
      have hS365 := hS340.ext0 e348
      have hO366 := hO341.ext0 e348
      have hO367 := hO342.ext0 e348
      have hO368 := hO343.ext0 e348
      have hO369 := hO344.ext0 e348
      have E370 := E345.fresh e348 (fun _ h _ => h.elim)
      have R371 := R346.trans (Ext0.any e348)
      refine ⟨fun _ => R371, ?_⟩
      have d372 : ∀ k, inA a349 k → w335.heap.size ≤ k := fun kx hk => (hO355.blk kx hk).1
      have dj373 : inA a349 b1 → False := fun h => Nat.not_lt.2 (d372 _ h) hB337.lt
      have dj374 : inA a349 b278 → False := fun h => Nat.not_lt.2 (d372 _ h) hB338.lt
      have dj375 : ∀ k, inA a22 k → inA a349 k → False := fun kx h1 h2 => Nat.not_lt.2 (d372 kx h2) (hO341.blk kx h1).2
      have dj376 : ∀ k, inA a25 k → inA a349 k → False := fun kx h1 h2 => Nat.not_lt.2 (d372 kx h2) (hO342.blk kx h1).2
      have dj377 : ∀ k, inA a247 k → inA a349 k → False := fun kx h1 h2 => Nat.not_lt.2 (d372 kx h2) (hO343.blk kx h1).2
      have dj378 : ∀ k, inA a250 k → inA a349 k → False := fun kx h1 h2 => Nat.not_lt.2 (d372 kx h2) (hO344.blk kx h1).2
      have fr379 : ∀ k, inA a349 k → k < w.heap.size → False := fun kx h1 h2 => Nat.not_lt.2 (Nat.le_trans E345.size (d372 kx h1)) h2
      have hO380 := hO355.base E345.size
      have d381 : ∀ k, inA a352 k → w335.heap.size ≤ k := fun kx hk => (hO358.blk kx hk).1
      have dj382 : inA a352 b1 → False := fun h => Nat.not_lt.2 (d381 _ h) hB337.lt
      have dj383 : inA a352 b278 → False := fun h => Nat.not_lt.2 (d381 _ h) hB338.lt
      have dj384 : ∀ k, inA a22 k → inA a352 k → False := fun kx h1 h2 => Nat.not_lt.2 (d381 kx h2) (hO341.blk kx h1).2
      have dj385 : ∀ k, inA a25 k → inA a352 k → False := fun kx h1 h2 => Nat.not_lt.2 (d381 kx h2) (hO342.blk kx h1).2
      have dj386 : ∀ k, inA a247 k → inA a352 k → False := fun kx h1 h2 => Nat.not_lt.2 (d381 kx h2) (hO343.blk kx h1).2
      have dj387 : ∀ k, inA a250 k → inA a352 k → False := fun kx h1 h2 => Nat.not_lt.2 (d381 kx h2) (hO344.blk kx h1).2
      have fr388 : ∀ k, inA a352 k → k < w.heap.size → False := fun kx h1 h2 => Nat.not_lt.2 (Nat.le_trans E345.size (d381 kx h1)) h2
      have hO389 := hO358.base E345.size
      refine m_k 3 [4] rfl (by kernel_rfl) rfl rfl (fun w390 e391 => ?_)
      have hB392 := hB362.ext0 e391
      have hB393 := hB363.ext0 e391
      have hS394 := hS364.ext0 e391
      have hS395 := hS365.ext0 e391
      have hO396 := hO366.ext0 e391
      have hO397 := hO367.ext0 e391
      have hO398 := hO368.ext0 e391
      have hO399 := hO369.ext0 e391
      have hO400 := hO380.ext0 e391
      have hO401 := hO389.ext0 e391
      have E402 := E370.fresh e391 (fun _ h _ => h.elim)
      have R403 := R371.trans (Ext0.any e391)
      refine k_call T6.fn_25 (c_l_eqSheet _ hO398.sl hl254 hc255 hO400.sl hl356 hc357 (by omega) hO399.sl hl257 hc258 hO401.sl hl359 hc360 (by omega)) rfl ?_
      rintro _ w404 ⟨rfl, e405⟩
      have hB406 := hB392.ext0 e405
      have hB407 := hB393.ext0 e405
      have hS408 := hS394.ext0 e405
      have hS409 := hS395.ext0 e405
      have hO410 := hO396.ext0 e405
      have hO411 := hO397.ext0 e405
      have hO412 := hO398.ext0 e405
      have hO413 := hO399.ext0 e405
      have hO414 := hO400.ext0 e405
      have hO415 := hO401.ext0 e405
      have E416 := E402.fresh e405 (fun _ h _ => h.elim)
      have R417 := R403.trans (Ext0.any e405)
      refine ⟨fun _ => R417, ?_⟩
      refine m_y (v := .bool false) 4 rfl (by kernel_rfl) rfl rfl (fun w' e' => y_not rfl rfl) ?_
      refine m_done (by kernel_rfl) (fun w418 e419 => ?_)
      have hB420 := hB406.ext0 e419
      have hB421 := hB407.ext0 e419
      have hS422 := hS408.ext0 e419
      have hS423 := hS409.ext0 e419
      have hO424 := hO410.ext0 e419
      have hO425 := hO411.ext0 e419
      have hO426 := hO412.ext0 e419
      have hO427 := hO413.ext0 e419
      have hO428 := hO414.ext0 e419
      have hO429 := hO415.ext0 e419
      have E430 := E416.fresh e419 (fun _ h _ => h.elim)
      have R431 := R417.trans (Ext0.any e419)
      refine W_if_f (by decide) rfl ?_
      refine W_skip ?_
      refine W_seq ?_
      refine W_region (by kernel_rfl) ?_
      refine s_y (v := .bool true) rfl (y_assign rfl) ?_
      refine s_nil ?_
      refine W_ret ?_
      refine ret1 rfl rfl rfl ⟨_, rfl, ?_⟩
      exact ⟨rfl, E430⟩
  · obtain rfl : v12 = .int .i64 (-1) := hv13.trans (congrArg _ (if_neg c18))
    refine s_y (v := .int .i64 (-1)) rfl (y_assign rfl) ?_
    refine s_nil ?_
    refine W_seq ?_
    refine W_seq ?_
    refine W_region (by kernel_rfl) ?_
    refine s_y (v := .int .i64 (-1)) rfl (y_move rfl) ?_
    have hk432 : (-1 : Int) < 0 := (by decide)
    refine s_y (v := .bool true) rfl (y_lss rfl rfl (decide_eq_true hk432)) ?_
    refine s_nil ?_
    refine W_if_t (by decide) rfl ?_
    refine W_seq ?_
    refine W_region (by kernel_rfl) ?_
    refine s_y (v := .bool true) rfl (y_assign rfl) ?_
    refine s_nil ?_
    refine W_ret ?_
    refine ret1 rfl rfl rfl ⟨_, rfl, ?_⟩
    exact ⟨rfl, E17⟩
end Go.Proofs.Ytcggpjocghigcaa
