/- Walks: what the functions under FnExactReachOf do (part 1). Printed by a program of this claim's author. -/
import Derived.Test.YtcggpjocghigcaaL3
import Derived.Test.YtcggpjocghigcaaModel
import Derived.Test.YtcggpjocghigcaaM2
import Derived.Test.YtcggpjocghigcaaM3
import Derived.Test.YtcggpjocghigcaaM4
import Derived.Test.YtcggpjocghigcaaM5
import Derived.Test.YtcggpjocghigcaaProg
set_option linter.unusedSimpArgs false
set_option linter.unusedVariables false
open Go.Wv
namespace Go.Proofs.Ytcggpjocghigcaa
open Go.Proofs
namespace T68
theorem mx : Try.prog.follows .mixedOrders = true := by kernel_rfl
theorem sl_24_62_1 : slB Try.prog 24 62 1 = true := by kernel_rfl
end T68
set_option maxRecDepth 100000 in
set_option maxHeartbeats 4000000 in
theorem c_l_szFloat32S {a : Option Addr} {n cc : Nat} {left : Int} (w : World) (h0 : 0 ≤ left) (h1 : left ≤ 1048576) (h2 : n ≤ 9223372036854775807) :
    Calls Try.prog 68 #[.slice a n cc, .int .i64 left] w (Rt fun v w' => v = .int .i64 (if (n : Int) ≤ left then left - n else -1) ∧ Ext0 w w') := by
  have E0 : Ext no w w := Ext.refl _ _
  refine calls_W (n := 12) Try.func68 rfl rfl (Nat.le_of_ble_eq_true rfl) ?_
  refine W_seq ?_
  refine W_region (by kernel_rfl) ?_
  refine s_y (v := .int .i64 0) rfl (y_assign rfl) ?_
  refine s_nil ?_
  refine W_seq ?_
  refine W_region (by kernel_rfl) ?_
  refine s_y (v := .int .i64 left) rfl (y_move rfl) ?_
  refine s_y (v := .slice a n cc) rfl (y_move rfl) ?_
  refine s_y (v := .int .i64 ((n : Nat) : Int)) rfl (y_len T68.sl_24_62_1 rfl rfl) ?_
  refine s_y (v := .int .i64 (left - ((n : Nat) : Int))) rfl (y_sub rfl rfl rfl (by omega)) ?_
  refine s_y (v := .int .i64 (left - ((n : Nat) : Int))) rfl (y_assign rfl) ?_
  refine s_nil ?_
  refine W_seq ?_
  refine W_seq ?_
  refine W_region (by kernel_rfl) ?_
  refine s_y (v := .int .i64 (left - ((n : Nat) : Int))) rfl (y_move rfl) ?_
  by_cases c1 : (left - ((n : Nat) : Int)) < 0
  · refine s_y (v := .bool true) rfl (y_lss rfl rfl (decide_eq_true c1)) ?_
    refine s_nil ?_
    refine W_if_t (by decide) rfl ?_
    refine W_seq ?_
    refine W_region (by kernel_rfl) ?_
    refine s_y (v := .int .i64 (-1)) rfl (y_assign rfl) ?_
    refine s_nil ?_
    refine W_ret ?_
    refine ret1 rfl rfl rfl ⟨_, rfl, ?_⟩
    exact ⟨congrArg (Value.int .i64) (if_neg (by omega)).symm, E0⟩
  · refine s_y (v := .bool false) rfl (y_lss rfl rfl (decide_eq_false c1)) ?_
    refine s_nil ?_
    refine W_if_f (by decide) rfl ?_
    refine W_skip ?_
    refine W_seq ?_
    refine W_region (by kernel_rfl) ?_
    refine s_y (v := .int .i64 (left - ((n : Nat) : Int))) rfl (y_move rfl) ?_
    refine s_y (v := .int .i64 (left - ((n : Nat) : Int))) rfl (y_assign rfl) ?_
    refine s_nil ?_
    refine W_ret ?_
    refine ret1 rfl rfl rfl ⟨_, rfl, ?_⟩
    exact ⟨congrArg (Value.int .i64) (if_pos (by omega)).symm, E0⟩
namespace T21
theorem mx : Try.prog.follows .mixedOrders = true := by kernel_rfl
theorem fld_36_3_3 : fldB Try.prog 36 3 3 = true := by kernel_rfl
theorem fld_36_4_4 : fldB Try.prog 36 4 4 = true := by kernel_rfl
theorem fn_68 : fnB Try.prog 68 = true := by kernel_rfl
theorem one_24 : oneB Try.prog 24 = true := by kernel_rfl
end T21
set_option maxRecDepth 100000 in
set_option maxHeartbeats 4000000 in
theorem c_l_szSheet {wd hi : Int} {wr : Bool} {asp als : Option Addr} {nsp nls csp cls : Nat} {left : Int} (w : World) (h0 : 0 ≤ left) (h1 : left ≤ 1048576) (hnsp : nsp ≤ 9223372036854775807) (hnls : nls ≤ 9223372036854775807) :
    Calls Try.prog 21 #[.agg #[.int .i64 wd, .int .i64 hi, .bool wr, .slice asp nsp csp, .slice als nls cls], .int .i64 left] w (Rt fun v w' => v = .int .i64 (if ((nsp : Nat) : Int) + ((nls : Nat) : Int) ≤ left then left - ((nsp : Nat) : Int) - ((nls : Nat) : Int) else -1) ∧ Ext0 w w') := by
  have E0 : Ext no w w := Ext.refl _ _
  refine calls_W (n := 18) Try.func21 rfl rfl (Nat.le_of_ble_eq_true rfl) ?_
  refine W_seq ?_
  refine W_region (by kernel_rfl) ?_
  refine s_k rfl (k_box (v := .agg #[.int .i64 wd, .int .i64 hi, .bool wr, .slice asp nsp csp, .slice als nls cls]) (cs := [.int .i64 wd, .int .i64 hi, .bool wr, .slice asp nsp csp, .slice als nls cls]) rfl rfl (fun b1 w2 q4 e3 hB5 => ?_))
  have E6 := E0.fresh e3 (fun _ h _ => h.elim)
  have fr7 : NotLt b1 w.heap.size := fun h => Nat.not_lt.2 (Nat.le_trans E0.size (Nat.le_of_eq q4.symm)) h
  clear q4
  refine s_y (v := .int .i64 0) rfl (y_assign rfl) ?_
  refine s_nil ?_
  refine W_seq ?_
  refine W_region (by kernel_rfl) ?_
  refine s_y (v := .pointer (some ⟨b1, 3, none⟩)) rfl (y_fld (o := 0) T21.fld_36_3_3 rfl) ?_
  refine s_y (v := .slice asp nsp csp) rfl (y_load T21.one_24 rfl (hB5.cell (j := 3) rfl)) ?_
  refine s_y (v := .int .i64 left) rfl (y_move rfl) ?_
  refine s_k rfl (k_call T21.fn_68 (c_l_szFloat32S _ (by omega) (by omega) (by omega)) rfl ?_)
  rintro v10 w8 ⟨hv11, e9⟩
  have hB12 := hB5.ext0 e9
  have E13 := E6.fresh e9 (fun _ h _ => h.elim)
  by_cases c14 : ((nsp : Nat) : Int) ≤ left
  · obtain rfl : v10 = .int .i64 (left - (nsp : Nat)) := hv11.trans (congrArg _ (if_pos c14))
    have hk15 : ¬ (left - (nsp : Nat)) < 0 := by omega
    refine s_y (v := .int .i64 (left - (nsp : Nat))) rfl (y_assign rfl) ?_
    refine s_nil ?_
    refine W_seq ?_
    refine W_seq ?_
    refine W_region (by kernel_rfl) ?_
    refine s_y (v := .int .i64 (left - (nsp : Nat))) rfl (y_move rfl) ?_
    refine s_y (v := .bool false) rfl (y_lss rfl rfl (decide_eq_false hk15)) ?_
    refine s_nil ?_
    refine W_if_f (by decide) rfl ?_
    refine W_skip ?_
    refine W_seq ?_
    refine W_region (by kernel_rfl) ?_
    refine s_y (v := .pointer (some ⟨b1, 4, none⟩)) rfl (y_fld (o := 0) T21.fld_36_4_4 rfl) ?_
    refine s_y (v := .slice als nls cls) rfl (y_load T21.one_24 rfl (hB12.cell (j := 4) rfl)) ?_
    refine s_y (v := .int .i64 (left - (nsp : Nat))) rfl (y_move rfl) ?_
    refine s_k rfl (k_call T21.fn_68 (c_l_szFloat32S _ (by omega) (by omega) (by omega)) rfl ?_)
    rintro v18 w16 ⟨hv19, e17⟩
    have hB20 := hB12.ext0 e17
    have E21 := E13.fresh e17 (fun _ h _ => h.elim)
    by_cases c22 : ((nls : Nat) : Int) ≤ left - (nsp : Nat)
    · obtain rfl : v18 = .int .i64 ((left - (nsp : Nat)) - (nls : Nat)) := hv19.trans (congrArg _ (if_pos c22))
      have hk23 : ¬ ((left - (nsp : Nat)) - (nls : Nat)) < 0 := by omega
      refine s_y (v := .int .i64 ((left - (nsp : Nat)) - (nls : Nat))) rfl (y_assign rfl) ?_
      refine s_nil ?_
      refine W_seq ?_
      refine W_seq ?_
      refine W_region (by kernel_rfl) ?_
      refine s_y (v := .int .i64 ((left - (nsp : Nat)) - (nls : Nat))) rfl (y_move rfl) ?_
      refine s_y (v := .bool false) rfl (y_lss rfl rfl (decide_eq_false hk23)) ?_
      refine s_nil ?_
      refine W_if_f (by decide) rfl ?_
      refine W_skip ?_
      refine W_seq ?_
      refine W_region (by kernel_rfl) ?_
      refine s_y (v := .int .i64 ((left - (nsp : Nat)) - (nls : Nat))) rfl (y_move rfl) ?_
      refine s_y (v := .int .i64 ((left - (nsp : Nat)) - (nls : Nat))) rfl (y_assign rfl) ?_
      refine s_nil ?_
      refine W_ret ?_
      refine ret1 rfl rfl rfl ⟨_, rfl, ?_⟩
      exact ⟨congrArg (Value.int .i64) (if_pos (by omega)).symm, E21⟩
    · obtain rfl : v18 = .int .i64 (-1) := hv19.trans (congrArg _ (if_neg c22))
      refine s_y (v := .int .i64 (-1)) rfl (y_assign rfl) ?_
      refine s_nil ?_
      refine W_seq ?_
      refine W_seq ?_
      refine W_region (by kernel_rfl) ?_
      refine s_y (v := .int .i64 (-1)) rfl (y_move rfl) ?_
      have hk24 : (-1 : Int) < 0 := (by decide)
      refine s_y (v := .bool true) rfl (y_lss rfl rfl (decide_eq_true hk24)) ?_
      refine s_nil ?_
      refine W_if_t (by decide) rfl ?_
      refine W_seq ?_
      refine W_region (by kernel_rfl) ?_
      refine s_y (v := .int .i64 (-1)) rfl (y_assign rfl) ?_
      refine s_nil ?_
      refine W_ret ?_
      refine ret1 rfl rfl rfl ⟨_, rfl, ?_⟩
      exact ⟨congrArg (Value.int .i64) (if_neg (by omega)).symm, E21⟩
  · obtain rfl : v10 = .int .i64 (-1) := hv11.trans (congrArg _ (if_neg c14))
    refine s_y (v := .int .i64 (-1)) rfl (y_assign rfl) ?_
    refine s_nil ?_
    refine W_seq ?_
    refine W_seq ?_
    refine W_region (by kernel_rfl) ?_
    refine s_y (v := .int .i64 (-1)) rfl (y_move rfl) ?_
    have hk25 : (-1 : Int) < 0 := (by decide)
    refine s_y (v := .bool true) rfl (y_lss rfl rfl (decide_eq_true hk25)) ?_
    refine s_nil ?_
    refine W_if_t (by decide) rfl ?_
    refine W_seq ?_
    refine W_region (by kernel_rfl) ?_
    refine s_y (v := .int .i64 (-1)) rfl (y_assign rfl) ?_
    refine s_nil ?_
    refine W_ret ?_
    refine ret1 rfl rfl rfl ⟨_, rfl, ?_⟩
    exact ⟨congrArg (Value.int .i64) (if_neg (by omega)).symm, E13⟩
namespace T70
theorem mx : Try.prog.follows .mixedOrders = true := by kernel_rfl
theorem one_62 : oneB Try.prog 62 = true := by kernel_rfl
theorem sl_24_62_1 : slB Try.prog 24 62 1 = true := by kernel_rfl
theorem slt_24 : SlT Try.prog 24 62 1 4 (.float .f32 0) := ⟨by kernel_rfl, by kernel_rfl, rfl, by decide⟩
theorem sz_62_1 : szB Try.prog 62 1 = true := by kernel_rfl
end T70
set_option maxRecDepth 100000 in
set_option maxHeartbeats 4000000 in
theorem c_l_toFloat32S {a : Option Addr} {n c : Nat} {x X : List Nat} (w : World) (qs : Sl w a (flts x)) (ql : x.length = n) (qk : cn x = X) (hl : n ≤ 1048576) :
    Calls Try.prog 70 #[.slice a n c] w (Rt fun v w' => ∃ a', v = .slice a' n n ∧ Own w' w.heap.size a' n n 62 1 (flts x) ∧ Ext0 w w') := by
  have E0 : Ext no w w := Ext.refl _ _
  have lo_a := Sl.low qs
  refine calls_W (n := 22) Try.func70 rfl rfl (Nat.le_of_ble_eq_true rfl) ?_
  refine W_seq ?_
  refine W_region (by kernel_rfl) ?_
  refine s_y (v := .slice none 0 0) rfl (y_assign rfl) ?_
  refine s_nil ?_
  refine W_seq ?_
  refine W_region (by kernel_rfl) ?_
  refine s_y (v := .slice a n c) rfl (y_move rfl) ?_
  refine s_y (v := .int .i64 ((n : Nat) : Int)) rfl (y_len T70.sl_24_62_1 rfl rfl) ?_
  refine s_k rfl (k_mk T70.slt_24 rfl rfl (by omega) (by omega) (by omega) (fun b1 w2 q4 e3 hO5 => ?_))
  have hS6 := qs.ext0 e3
  have E7 := E0.fresh e3 (fun _ h _ => h.elim)
  have d8 : ∀ k, inA (some ⟨b1, 0, none⟩) k → w.heap.size ≤ k := fun kx hk => (hO5.blk kx hk).1
  have fr9 : ∀ k, inA (some ⟨b1, 0, none⟩) k → k < w.heap.size → False := fun kx h1 h2 => Nat.not_lt.2 (Nat.le_trans E0.size (d8 kx h1)) h2
  have hO10 := hO5.base E0.size
  have hO11 := hO10.cast rfl (made_flts ((((n : Nat) : Int)).toNat) rfl)
  have hl12 : (List.replicate ((((n : Nat) : Int)).toNat) 0).length = (((n : Nat) : Int)).toNat := List.length_replicate ..
  have hc13 := cn_zeros ((((n : Nat) : Int)).toNat)
  refine s_y (v := .slice (some ⟨b1, 0, none⟩) ((((n : Nat) : Int)).toNat) ((((n : Nat) : Int)).toNat)) rfl (y_assign rfl) ?_
  refine s_nil ?_
  refine W_seq ?_
  refine W_seq ?_
  refine W_region (by kernel_rfl) ?_
  refine s_y (v := .int .i64 0) rfl (y_assign rfl) ?_
  refine s_nil ?_
  refine W_block ?_
  refine W_loop (fun ρ' w' => ∃ (ρ1 : Env) (k : Int) (zs : List Nat), ρ' = updL ρ1 [(0, .slice a n c), (2, .slice none 0 0), (3, .slice (some ⟨b1, 0, none⟩) ((((n : Nat) : Int)).toNat) ((((n : Nat) : Int)).toNat)), (4, .int .i64 k)] ∧ Ext no w w' ∧ Sl w' a (flts x) ∧ Own w' w.heap.size (some ⟨b1, 0, none⟩) n n 62 1 (flts zs) ∧ (0 ≤ k) ∧ (k ≤ (n : Int)) ∧ (zs.length = n) ∧ (∀ i, 0 ≤ i → i < k → el zs i = el x i)) (fun ρ' _ => ((n : Int) - iv (ρ' 4)).toNat) ?_ ?_
  · exact ⟨_, 0, _, Fits.eq ⟨rfl, rfl, rfl, rfl, trivial⟩, E7, hS6, hO11, (Int.le_refl _), (by omega), (by simp), (by intro i h0 h1; omega)⟩
  · rintro _ w14 ⟨ρ18, k, zs, rfl, E15, hS16, hO17, h0k, h1k, hz, hq⟩
    refine W_seq ?_
    refine W_seq ?_
    refine W_region (by kernel_rfl) ?_
    refine s_y (v := .int .i64 k) rfl (y_move rfl) ?_
    refine s_y (v := .slice a n c) rfl (y_move rfl) ?_
    refine s_y (v := .int .i64 ((n : Nat) : Int)) rfl (y_len T70.sl_24_62_1 rfl rfl) ?_
    by_cases c19 : k < ((n : Nat) : Int)
    · refine s_y (v := .bool true) rfl (y_lss rfl rfl (decide_eq_true c19)) ?_
      refine s_nil ?_
      refine W_if_t (by decide) rfl ?_
      refine W_skip ?_
      refine W_seq ?_
      refine W_block ?_
      refine W_region (by kernel_rfl) ?_
      refine s_y (v := .slice (some ⟨b1, 0, none⟩) ((((n : Nat) : Int)).toNat) ((((n : Nat) : Int)).toNat)) rfl (y_move rfl) ?_
      refine s_y (v := .int .i64 k) rfl (y_move rfl) ?_
      refine s_y (v := .slice a n c) rfl (y_move rfl) ?_
      refine s_y (v := .int .i64 k) rfl (y_move rfl) ?_
      refine s_y (v := .pointer (some (sat a ((k).toNat * 1)))) rfl (y_idx T70.sl_24_62_1 rfl rfl (hS16.addr (by rw [flts_length]; omega)) (by omega) (by omega)) ?_
      refine s_y (v := .float .f32 (el x k)) rfl (y_load T70.one_62 rfl (hS16.cell (fl_at (by omega) (by omega)))) ?_
      refine s_y (v := .pointer (some (sat (some ⟨b1, 0, none⟩) ((k).toNat * 1)))) rfl (y_idx T70.sl_24_62_1 rfl rfl (hO17.sl.addr (by rw [flts_length]; omega)) (by omega) (by omega)) ?_
      refine s_k0 rfl (k_storeEl (v := .float .f32 (el x k)) T70.sz_62_1 rfl rfl rfl rfl hO17 (by rw [flts_length]; omega) (fun w20 e21 z22 hO23 => ?_))
      clear z22
      have hS24 := hS16.extL lo_a e21 (fun kx hs hl => (fun hs => fr9 kx hs hl) hs)
      have E25 := E15.fresh e21 (fun kx hs hl => (fun hs => (fr9 kx hs hl).elim) hs)
      have hO26 := hO23.cast rfl (flts_put zs k (el x k))
      have hl27 := (put_length zs k (el x k)).trans hz
      have hc28 := cn_put (rfl : cn zs = cn zs) (cn_el qk k) k
      refine s_nil ?_
      refine W_region (by kernel_rfl) ?_
      refine s_y (v := .int .i64 k) rfl (y_move rfl) ?_
      refine s_y (v := .int .i64 (k + 1)) rfl (y_add rfl rfl rfl (by omega)) ?_
      refine s_y (v := .int .i64 (k + 1)) rfl (y_assign rfl) ?_
      refine s_nil ?_
      refine ⟨⟨_, k + 1, _, Fits.eq ⟨rfl, rfl, rfl, rfl, trivial⟩, E25, hS24, hO26, (by omega), (by omega), hl27, (el_same (by omega) (by omega) (by omega) hq)⟩, ?_⟩
      show ((n : Int) - (k + 1)).toNat < ((n : Int) - k).toNat
      omega
    · refine s_y (v := .bool false) rfl (y_lss rfl rfl (decide_eq_false c19)) ?_
      refine s_nil ?_
      refine W_if_f (by decide) rfl ?_
      refine W_exit ?_
      refine W_seq ?_
      refine W_region (by kernel_rfl) ?_
      refine s_y (v := .slice (some ⟨b1, 0, none⟩) ((((n : Nat) : Int)).toNat) ((((n : Nat) : Int)).toNat)) rfl (y_move rfl) ?_
      refine s_y (v := .slice (some ⟨b1, 0, none⟩) ((((n : Nat) : Int)).toNat) ((((n : Nat) : Int)).toNat)) rfl (y_assign rfl) ?_
      refine s_nil ?_
      refine W_ret ?_
      refine ret1 rfl rfl rfl ⟨_, rfl, ?_⟩
      obtain rfl : zs = x := ext_el (by omega) (fun i h0 h1 => hq i h0 (by omega))
      exact ⟨_, rfl, hO17, E15⟩
namespace T23
theorem mx : Try.prog.follows .mixedOrders = true := by kernel_rfl
theorem agg_26_5 : aggB Try.prog 26 5 = true := by kernel_rfl
theorem fld_26_0_0 : fldB Try.prog 26 0 0 = true := by kernel_rfl
theorem fld_26_1_1 : fldB Try.prog 26 1 1 = true := by kernel_rfl
theorem fld_26_2_2 : fldB Try.prog 26 2 2 = true := by kernel_rfl
theorem fld_26_3_3 : fldB Try.prog 26 3 3 = true := by kernel_rfl
theorem fld_26_4_4 : fldB Try.prog 26 4 4 = true := by kernel_rfl
theorem fld_36_0_0 : fldB Try.prog 36 0 0 = true := by kernel_rfl
theorem fld_36_1_1 : fldB Try.prog 36 1 1 = true := by kernel_rfl
theorem fld_36_2_2 : fldB Try.prog 36 2 2 = true := by kernel_rfl
theorem fld_36_3_3 : fldB Try.prog 36 3 3 = true := by kernel_rfl
theorem fld_36_4_4 : fldB Try.prog 36 4 4 = true := by kernel_rfl
theorem fn_70 : fnB Try.prog 70 = true := by kernel_rfl
theorem one_2 : oneB Try.prog 2 = true := by kernel_rfl
theorem one_24 : oneB Try.prog 24 = true := by kernel_rfl
theorem one_4 : oneB Try.prog 4 = true := by kernel_rfl
theorem sz_2_1 : szB Try.prog 2 1 = true := by kernel_rfl
theorem sz_24_1 : szB Try.prog 24 1 = true := by kernel_rfl
theorem sz_26_5 : szB Try.prog 26 5 = true := by kernel_rfl
theorem sz_4_1 : szB Try.prog 4 1 = true := by kernel_rfl
theorem zero_26 : zeroB Try.prog 26 (.agg #[.int .i64 0, .int .i64 0, .bool false, .slice none 0 0, .slice none 0 0]) := by unfold zeroB; kernel_rfl
end T23
set_option maxRecDepth 100000 in
set_option maxHeartbeats 4000000 in
theorem c_l_toSheet {wd hi : Int} {wr : Bool} {asp : Option Addr} {nsp csp : Nat} {xsp Xsp : List Nat} {als : Option Addr} {nls cls : Nat} {xls Xls : List Nat} (w : World) (qssp : Sl w asp (flts xsp)) (qlsp : xsp.length = nsp) (qksp : cn xsp = Xsp) (qsls : Sl w als (flts xls)) (qlls : xls.length = nls) (qkls : cn xls = Xls) (b1 : nsp ≤ 1048576) (b2 : nls ≤ 1048576) :
    Calls Try.prog 23 #[.agg #[.int .i64 wd, .int .i64 hi, .bool wr, .slice asp nsp csp, .slice als nls cls]] w (Rt fun v w' => (∃ (a1 : Option Addr) (c1 : Nat) (z1 : List Nat) (a2 : Option Addr) (c2 : Nat) (z2 : List Nat), v = .agg #[.int .i64 wd, .int .i64 hi, .bool wr, .slice a1 nsp c1, .slice a2 nls c2] ∧ Own w' w.heap.size a1 nsp c1 62 1 (flts z1) ∧ z1.length = nsp ∧ cn z1 = Xsp ∧ Own w' w.heap.size a2 nls c2 62 1 (flts z2) ∧ z2.length = nls ∧ cn z2 = Xls ∧ (∀ k, inA a1 k → inA a2 k → False)) ∧ Ext0 w w') := by
  have E0 : Ext no w w := Ext.refl _ _
  have hlP : Xsp.length = nsp := (cn_lenX qksp).trans qlsp
  have hlL : Xls.length = nls := (cn_lenX qkls).trans qlls
  have lo_asp := Sl.low qssp
  have lo_als := Sl.low qsls
  refine calls_W (n := 22) Try.func23 rfl rfl (Nat.le_of_ble_eq_true rfl) ?_
  refine W_seq ?_
  refine W_region (by kernel_rfl) ?_
  refine s_k rfl (k_box (v := .agg #[.int .i64 wd, .int .i64 hi, .bool wr, .slice asp nsp csp, .slice als nls cls]) (cs := [.int .i64 wd, .int .i64 hi, .bool wr, .slice asp nsp csp, .slice als nls cls]) rfl rfl (fun b1 w2 q4 e3 hB5 => ?_))
  have hS6 := qssp.ext0 e3
  have hS7 := qsls.ext0 e3
  have E8 := E0.fresh e3 (fun _ h _ => h.elim)
  have fr9 : NotLt b1 w.heap.size := fun h => Nat.not_lt.2 (Nat.le_trans E0.size (Nat.le_of_eq q4.symm)) h
  clear q4
  refine s_k rfl (k_alloc (z := (.agg #[.int .i64 0, .int .i64 0, .bool false, .slice none 0 0, .slice none 0 0])) (cs := [.int .i64 0, .int .i64 0, .bool false, .slice none 0 0, .slice none 0 0]) T23.zero_26 rfl (fun b10 w11 q13 e12 hB14 => ?_))
  have hB15 := hB5.ext0 e12
  have hS16 := hS6.ext0 e12
  have hS17 := hS7.ext0 e12
  have E18 := E8.fresh e12 (fun _ h _ => h.elim)
  have dj19 : NeB b1 b10 := fun h => Nat.ne_of_lt hB5.lt (h.trans q13)
  have fr20 : NotLt b10 w.heap.size := fun h => Nat.not_lt.2 (Nat.le_trans E8.size (Nat.le_of_eq q13.symm)) h
  clear q13
  refine s_nil ?_
  refine W_seq ?_
  refine W_region (by kernel_rfl) ?_
  refine s_k rfl (k_alloc (z := (.agg #[.int .i64 0, .int .i64 0, .bool false, .slice none 0 0, .slice none 0 0])) (cs := [.int .i64 0, .int .i64 0, .bool false, .slice none 0 0, .slice none 0 0]) T23.zero_26 rfl (fun b21 w22 q24 e23 hB25 => ?_))
  have hB26 := hB15.ext0 e23
  have hB27 := hB14.ext0 e23
  have hS28 := hS16.ext0 e23
  have hS29 := hS17.ext0 e23
  have E30 := E18.fresh e23 (fun _ h _ => h.elim)
  have dj31 : NeB b1 b21 := fun h => Nat.ne_of_lt hB15.lt (h.trans q24)
  have dj32 : NeB b10 b21 := fun h => Nat.ne_of_lt hB14.lt (h.trans q24)
  have fr33 : NotLt b21 w.heap.size := fun h => Nat.not_lt.2 (Nat.le_trans E18.size (Nat.le_of_eq q24.symm)) h
  clear q24
  refine s_nil ?_
  refine W_seq ?_
  refine W_region (by kernel_rfl) ?_
  refine s_y (v := .pointer (some ⟨b1, 0, none⟩)) rfl (y_fld (o := 0) T23.fld_36_0_0 rfl) ?_
  refine s_y (v := .int .i64 wd) rfl (y_load T23.one_2 rfl (hB26.cell (j := 0) rfl)) ?_
  refine s_y (v := .pointer (some ⟨b21, 0, none⟩)) rfl (y_fld (o := 0) T23.fld_26_0_0 rfl) ?_
  refine s_k0 rfl (k_store (v := .int .i64 wd) (n := 1) (cs' := [.int .i64 wd, .int .i64 0, .bool false, .slice none 0 0, .slice none 0 0]) T23.sz_2_1 rfl rfl rfl hB25 (by simp [Value.cells, Value.oneCell']) (Nat.le_of_ble_eq_true rfl) rfl (fun w34 e35 z36 hB37 => ?_))
  clear z36
  have hB38 := hB26.ext e35 dj31
  have hB39 := hB27.ext e35 dj32
  have hS40 := hS28.extL lo_asp e35 (fun kx (hs : kx = b21) hl => fr33 (hs ▸ hl))
  have hS41 := hS29.extL lo_als e35 (fun kx (hs : kx = b21) hl => fr33 (hs ▸ hl))
  have E42 := E30.fresh e35 (fun kx (hs : kx = b21) hl => (fr33 (hs ▸ hl)).elim)
  refine s_nil ?_
  refine W_seq ?_
  refine W_region (by kernel_rfl) ?_
  refine s_y (v := .pointer (some ⟨b1, 1, none⟩)) rfl (y_fld (o := 0) T23.fld_36_1_1 rfl) ?_
  refine s_y (v := .int .i64 hi) rfl (y_load T23.one_2 rfl (hB38.cell (j := 1) rfl)) ?_
  refine s_y (v := .pointer (some ⟨b21, 1, none⟩)) rfl (y_fld (o := 0) T23.fld_26_1_1 rfl) ?_
  refine s_k0 rfl (k_store (v := .int .i64 hi) (n := 1) (cs' := [.int .i64 wd, .int .i64 hi, .bool false, .slice none 0 0, .slice none 0 0]) T23.sz_2_1 rfl rfl rfl hB37 (by simp [Value.cells, Value.oneCell']) (Nat.le_of_ble_eq_true rfl) rfl (fun w43 e44 z45 hB46 => ?_))
  clear z45
  have hB47 := hB38.ext e44 dj31
  have hB48 := hB39.ext e44 dj32
  have hS49 := hS40.extL lo_asp e44 (fun kx (hs : kx = b21) hl => fr33 (hs ▸ hl))
  have hS50 := hS41.extL lo_als e44 (fun kx (hs : kx = b21) hl => fr33 (hs ▸ hl))
  have E51 := E42.fresh e44 (fun kx (hs : kx = b21) hl => (fr33 (hs ▸ hl)).elim)
  refine s_nil ?_
  refine W_seq ?_
  refine W_region (by kernel_rfl) ?_
  refine s_y (v := .pointer (some ⟨b1, 2, none⟩)) rfl (y_fld (o := 0) T23.fld_36_2_2 rfl) ?_
  refine s_y (v := .bool wr) rfl (y_load T23.one_4 rfl (hB47.cell (j := 2) rfl)) ?_
  refine s_y (v := .pointer (some ⟨b21, 2, none⟩)) rfl (y_fld (o := 0) T23.fld_26_2_2 rfl) ?_
  refine s_k0 rfl (k_store (v := .bool wr) (n := 1) (cs' := [.int .i64 wd, .int .i64 hi, .bool wr, .slice none 0 0, .slice none 0 0]) T23.sz_4_1 rfl rfl rfl hB46 (by simp [Value.cells, Value.oneCell']) (Nat.le_of_ble_eq_true rfl) rfl (fun w52 e53 z54 hB55 => ?_))
  clear z54
  have hB56 := hB47.ext e53 dj31
  have hB57 := hB48.ext e53 dj32
  have hS58 := hS49.extL lo_asp e53 (fun kx (hs : kx = b21) hl => fr33 (hs ▸ hl))
  have hS59 := hS50.extL lo_als e53 (fun kx (hs : kx = b21) hl => fr33 (hs ▸ hl))
  have E60 := E51.fresh e53 (fun kx (hs : kx = b21) hl => (fr33 (hs ▸ hl)).elim)
  refine s_nil ?_
  refine W_seq ?_
  refine W_region (by kernel_rfl) ?_
  refine s_y (v := .pointer (some ⟨b1, 3, none⟩)) rfl (y_fld (o := 0) T23.fld_36_3_3 rfl) ?_
  refine s_y (v := .slice asp nsp csp) rfl (y_load T23.one_24 rfl (hB56.cell (j := 3) rfl)) ?_
  refine s_k rfl (k_call T23.fn_70 (c_l_toFloat32S _ hS58 qlsp rfl (by omega)) rfl ?_)
  rintro _ w61 ⟨a63, rfl, hO64, e62⟩
  have hB65 := hB56.ext0 e62
  have hB66 := hB57.ext0 e62
  have hB67 := hB55.ext0 e62
  have hS68 := hS58.ext0 e62
  have hS69 := hS59.ext0 e62
  have E70 := E60.fresh e62 (fun _ h _ => h.elim)
  have d71 : ∀ k, inA a63 k → w52.heap.size ≤ k := fun kx hk => (hO64.blk kx hk).1
  have dj72 : inA a63 b1 → False := fun h => Nat.not_lt.2 (d71 _ h) hB56.lt
  have dj73 : inA a63 b10 → False := fun h => Nat.not_lt.2 (d71 _ h) hB57.lt
  have dj74 : inA a63 b21 → False := fun h => Nat.not_lt.2 (d71 _ h) hB55.lt
  have fr75 : ∀ k, inA a63 k → k < w.heap.size → False := fun kx h1 h2 => Nat.not_lt.2 (Nat.le_trans E60.size (d71 kx h1)) h2
  have hO76 := hO64.base E60.size
  refine s_y (v := .pointer (some ⟨b21, 3, none⟩)) rfl (y_fld (o := 0) T23.fld_26_3_3 rfl) ?_
  refine s_k0 rfl (k_store (v := .slice a63 nsp nsp) (n := 1) (cs' := [.int .i64 wd, .int .i64 hi, .bool wr, .slice a63 nsp nsp, .slice none 0 0]) T23.sz_24_1 rfl rfl rfl hB67 (by simp [Value.cells, Value.oneCell']) (Nat.le_of_ble_eq_true rfl) rfl (fun w77 e78 z79 hB80 => ?_))
  clear z79
  have hB81 := hB65.ext e78 dj31
  have hB82 := hB66.ext e78 dj32
  have hS83 := hS68.extL lo_asp e78 (fun kx (hs : kx = b21) hl => fr33 (hs ▸ hl))
  have hS84 := hS69.extL lo_als e78 (fun kx (hs : kx = b21) hl => fr33 (hs ▸ hl))
  have hO85 := hO76.ext e78 (fun kx hk (hs : kx = b21) => dj74 (hs ▸ hk))
  have E86 := E70.fresh e78 (fun kx (hs : kx = b21) hl => (fr33 (hs ▸ hl)).elim)
  refine s_nil ?_
  refine W_seq ?_
  refine W_region (by kernel_rfl) ?_
  refine s_y (v := .pointer (some ⟨b1, 4, none⟩)) rfl (y_fld (o := 0) T23.fld_36_4_4 rfl) ?_
  refine s_y (v := .slice als nls cls) rfl (y_load T23.one_24 rfl (hB81.cell (j := 4) rfl)) ?_
  refine s_k rfl (k_call T23.fn_70 (c_l_toFloat32S _ hS84 qlls rfl (by omega)) rfl ?_)
  rintro _ w87 ⟨a89, rfl, hO90, e88⟩
  have hB91 := hB81.ext0 e88
  have hB92 := hB82.ext0 e88
  have hB93 := hB80.ext0 e88
  have hS94 := hS83.ext0 e88
  have hS95 := hS84.ext0 e88
  have hO96 := hO85.ext0 e88
  have E97 := E86.fresh e88 (fun _ h _ => h.elim)
  have d98 : ∀ k, inA a89 k → w77.heap.size ≤ k := fun kx hk => (hO90.blk kx hk).1
  have dj99 : inA a89 b1 → False := fun h => Nat.not_lt.2 (d98 _ h) hB81.lt
  have dj100 : inA a89 b10 → False := fun h => Nat.not_lt.2 (d98 _ h) hB82.lt
  have dj101 : inA a89 b21 → False := fun h => Nat.not_lt.2 (d98 _ h) hB80.lt
  have dj102 : ∀ k, inA a63 k → inA a89 k → False := fun kx h1 h2 => Nat.not_lt.2 (d98 kx h2) (hO85.blk kx h1).2
  have fr103 : ∀ k, inA a89 k → k < w.heap.size → False := fun kx h1 h2 => Nat.not_lt.2 (Nat.le_trans E86.size (d98 kx h1)) h2
  have hO104 := hO90.base E86.size
  refine s_y (v := .pointer (some ⟨b21, 4, none⟩)) rfl (y_fld (o := 0) T23.fld_26_4_4 rfl) ?_
  refine s_k0 rfl (k_store (v := .slice a89 nls nls) (n := 1) (cs' := [.int .i64 wd, .int .i64 hi, .bool wr, .slice a63 nsp nsp, .slice a89 nls nls]) T23.sz_24_1 rfl rfl rfl hB93 (by simp [Value.cells, Value.oneCell']) (Nat.le_of_ble_eq_true rfl) rfl (fun w105 e106 z107 hB108 => ?_))
  clear z107
  have hB109 := hB91.ext e106 dj31
  have hB110 := hB92.ext e106 dj32
  have hS111 := hS94.extL lo_asp e106 (fun kx (hs : kx = b21) hl => fr33 (hs ▸ hl))
  have hS112 := hS95.extL lo_als e106 (fun kx (hs : kx = b21) hl => fr33 (hs ▸ hl))
  have hO113 := hO96.ext e106 (fun kx hk (hs : kx = b21) => dj74 (hs ▸ hk))
  have hO114 := hO104.ext e106 (fun kx hk (hs : kx = b21) => dj101 (hs ▸ hk))
  have E115 := E97.fresh e106 (fun kx (hs : kx = b21) hl => (fr33 (hs ▸ hl)).elim)
  refine s_nil ?_
  refine W_seq ?_
  refine W_region (by kernel_rfl) ?_
  refine s_y (v := .agg #[.int .i64 wd, .int .i64 hi, .bool wr, .slice a63 nsp nsp, .slice a89 nls nls]) rfl (y_loadn (b := b21) (o := 0) (vs := [.int .i64 wd, .int .i64 hi, .bool wr, .slice a63 nsp nsp, .slice a89 nls nls]) T23.agg_26_5 rfl rfl (hB108.cells (o := 0) rfl)) ?_
  refine s_k0 rfl (k_store (v := .agg #[.int .i64 wd, .int .i64 hi, .bool wr, .slice a63 nsp nsp, .slice a89 nls nls]) (n := 5) (cs' := [.int .i64 wd, .int .i64 hi, .bool wr, .slice a63 nsp nsp, .slice a89 nls nls]) T23.sz_26_5 rfl rfl rfl hB110 (by simp [Value.cells, Value.oneCell']) (Nat.le_of_ble_eq_true rfl) rfl (fun w116 e117 z118 hB119 => ?_))
  clear z118
  have hB120 := hB109.ext e117 dj19
  have hB121 := hB108.ext e117 (fun h => dj32 h.symm)
  have hS122 := hS111.extL lo_asp e117 (fun kx (hs : kx = b10) hl => fr20 (hs ▸ hl))
  have hS123 := hS112.extL lo_als e117 (fun kx (hs : kx = b10) hl => fr20 (hs ▸ hl))
  have hO124 := hO113.ext e117 (fun kx hk (hs : kx = b10) => dj73 (hs ▸ hk))
  have hO125 := hO114.ext e117 (fun kx hk (hs : kx = b10) => dj100 (hs ▸ hk))
  have E126 := E115.fresh e117 (fun kx (hs : kx = b10) hl => (fr20 (hs ▸ hl)).elim)
  refine s_nil ?_
  refine W_ret ?_
  refine ret1 rfl rfl ⟨_, [.int .i64 wd, .int .i64 hi, .bool wr, .slice a63 nsp nsp, .slice a89 nls nls], _, rfl, hB119, T23.agg_26_5, rfl⟩ ⟨_, rfl, ?_⟩
  exact ⟨⟨_, _, _, _, _, _, rfl, hO124, qlsp, qksp, hO125, qlls, qkls, dj102⟩, E126⟩
namespace T88
theorem mx : Try.prog.follows .mixedOrders = true := by kernel_rfl
end T88
set_option maxRecDepth 100000 in
set_option maxHeartbeats 4000000 in
theorem c_s_l00In (n lo hi : Int) (w : World) :
    Calls Try.prog 88 #[.int .i64 n, .int .i64 lo, .int .i64 hi] w (Rt fun v w' => v = .bool (within n lo hi) ∧ Ext0 w w') := by
  have E0 : Ext no w w := Ext.refl _ _
  refine calls_W (n := 15) Try.func88 rfl rfl (Nat.le_of_ble_eq_true rfl) ?_
  refine W_seq ?_
  refine W_region (by kernel_rfl) ?_
  refine s_y (v := .bool false) rfl (y_assign rfl) ?_
  refine s_nil ?_
  refine W_seq ?_
  refine W_region (by kernel_rfl) ?_
  refine s_y (v := .int .i64 n) rfl (y_move rfl) ?_
  refine s_y (v := .int .i64 lo) rfl (y_move rfl) ?_
  by_cases c1 : lo ≤ n
  · refine s_y (v := .bool true) rfl (y_geq rfl rfl (decide_eq_true c1)) ?_
    refine s_y (v := .bool true) rfl (y_move rfl) ?_
    refine s_y (v := .int .i64 n) rfl (y_move rfl) ?_
    refine s_y (v := .int .i64 hi) rfl (y_move rfl) ?_
    by_cases c2 : n ≤ hi
    · refine s_y (v := .bool true) rfl (y_leq rfl rfl (decide_eq_true c2)) ?_
      refine s_y (v := .bool true) rfl (y_pick_t rfl rfl) ?_
      refine s_y (v := .bool true) rfl (y_assign rfl) ?_
      refine s_nil ?_
      refine W_ret ?_
      refine ret1 rfl rfl rfl ⟨_, rfl, ?_⟩
      exact ⟨congrArg Value.bool (by simp [within] <;> omega), E0⟩
    · refine s_y (v := .bool false) rfl (y_leq rfl rfl (decide_eq_false c2)) ?_
      refine s_y (v := .bool false) rfl (y_pick_t rfl rfl) ?_
      refine s_y (v := .bool false) rfl (y_assign rfl) ?_
      refine s_nil ?_
      refine W_ret ?_
      refine ret1 rfl rfl rfl ⟨_, rfl, ?_⟩
      exact ⟨congrArg Value.bool (by simp [within] <;> omega), E0⟩
  · refine s_y (v := .bool false) rfl (y_geq rfl rfl (decide_eq_false c1)) ?_
    refine s_y (v := .bool false) rfl (y_move rfl) ?_
    refine s_skip rfl ?_
    refine s_skip rfl ?_
    refine s_skip rfl ?_
    refine s_y (v := .bool false) rfl (y_pick_f rfl rfl) ?_
    refine s_y (v := .bool false) rfl (y_assign rfl) ?_
    refine s_nil ?_
    refine W_ret ?_
    refine ret1 rfl rfl rfl ⟨_, rfl, ?_⟩
    exact ⟨congrArg Value.bool (by simp [within] <;> omega), E0⟩
namespace T103
theorem mx : Try.prog.follows .mixedOrders = true := by kernel_rfl
theorem fn_88 : fnB Try.prog 88 = true := by kernel_rfl
end T103
set_option maxRecDepth 100000 in
set_option maxHeartbeats 4000000 in
theorem c_s_l02Sides {wd hi : Int} (w : World) :
    Calls Try.prog 103 #[.int .i64 wd, .int .i64 hi] w (Rt fun v w' => v = .bool (sidesB wd hi) ∧ Ext0 w w') := by
  have E0 : Ext no w w := Ext.refl _ _
  refine calls_W (n := 17) Try.func103 rfl rfl (Nat.le_of_ble_eq_true rfl) ?_
  refine W_seq ?_
  refine W_region (by kernel_rfl) ?_
  refine s_y (v := .bool false) rfl (y_assign rfl) ?_
  refine s_nil ?_
  refine W_seq ?_
  refine W_region (by kernel_rfl) ?_
  refine s_y (v := .int .i64 wd) rfl (y_move rfl) ?_
  refine s_k rfl (k_call T103.fn_88 (c_s_l00In _ _ _ _) rfl ?_)
  rintro v3 w1 ⟨hv4, e2⟩
  have E5 := E0.fresh e2 (fun _ h _ => h.elim)
  by_cases c6 : within wd 3 16 = true
  · have hb7 := within_b c6
    obtain rfl : v3 = .bool true := hv4.trans (congrArg Value.bool c6)
    refine s_y (v := .bool true) rfl (y_move rfl) ?_
    refine s_y (v := .int .i64 hi) rfl (y_move rfl) ?_
    refine s_k rfl (k_call T103.fn_88 (c_s_l00In _ _ _ _) rfl ?_)
    rintro v10 w8 ⟨hv11, e9⟩
    have E12 := E5.fresh e9 (fun _ h _ => h.elim)
    by_cases c13 : within hi 3 16 = true
    · have hb14 := within_b c13
      obtain rfl : v10 = .bool true := hv11.trans (congrArg Value.bool c13)
      refine s_y (v := .bool true) rfl (y_pick_t rfl rfl) ?_
      refine s_y (v := .bool true) rfl (y_move rfl) ?_
      refine s_y (v := .int .i64 wd) rfl (y_move rfl) ?_
      refine s_y (v := .int .i64 hi) rfl (y_move rfl) ?_
      have hm15 := mulb (a := wd) (b := hi) (by omega) (by omega) (by omega) (by omega)
      refine s_y (v := .int .i64 (wd * hi)) rfl (y_mul rfl rfl rfl (by omega)) ?_
      have hk16 : (wd * hi) ≤ 256 := (mul16 (And.intro (within_b c6) (within_b c13))).2
      refine s_y (v := .bool true) rfl (y_leq rfl rfl (decide_eq_true hk16)) ?_
      refine s_y (v := .bool true) rfl (y_pick_t rfl rfl) ?_
      refine s_y (v := .bool true) rfl (y_assign rfl) ?_
      refine s_nil ?_
      refine W_ret ?_
      refine ret1 rfl rfl rfl ⟨_, rfl, ?_⟩
      exact ⟨congrArg Value.bool (by simp only [sidesB, c6, c13, (decide_eq_true hk16), Bool.and_true, Bool.true_and, Bool.and_false, Bool.false_and, Bool.not_true, Bool.not_false, Bool.or_true, Bool.true_or, Bool.or_false, Bool.false_or]), E12⟩
    · obtain rfl : v10 = .bool false := hv11.trans (congrArg Value.bool (Bool.eq_false_iff.2 c13))
      refine s_y (v := .bool false) rfl (y_pick_t rfl rfl) ?_
      refine s_y (v := .bool false) rfl (y_move rfl) ?_
      refine s_skip rfl ?_
      refine s_skip rfl ?_
      refine s_skip rfl ?_
      refine s_skip rfl ?_
      refine s_y (v := .bool false) rfl (y_pick_f rfl rfl) ?_
      refine s_y (v := .bool false) rfl (y_assign rfl) ?_
      refine s_nil ?_
      refine W_ret ?_
      refine ret1 rfl rfl rfl ⟨_, rfl, ?_⟩
      exact ⟨congrArg Value.bool (by simp only [sidesB, c6, (Bool.eq_false_iff.2 c13), Bool.and_true, Bool.true_and, Bool.and_false, Bool.false_and, Bool.not_true, Bool.not_false, Bool.or_true, Bool.true_or, Bool.or_false, Bool.false_or]), E12⟩
  · obtain rfl : v3 = .bool false := hv4.trans (congrArg Value.bool (Bool.eq_false_iff.2 c6))
    refine s_y (v := .bool false) rfl (y_move rfl) ?_
    refine s_skip rfl ?_
    refine s_skip rfl ?_
    refine s_y (v := .bool false) rfl (y_pick_f rfl rfl) ?_
    refine s_y (v := .bool false) rfl (y_move rfl) ?_
    refine s_skip rfl ?_
    refine s_skip rfl ?_
    refine s_skip rfl ?_
    refine s_skip rfl ?_
    refine s_y (v := .bool false) rfl (y_pick_f rfl rfl) ?_
    refine s_y (v := .bool false) rfl (y_assign rfl) ?_
    refine s_nil ?_
    refine W_ret ?_
    refine ret1 rfl rfl rfl ⟨_, rfl, ?_⟩
    exact ⟨congrArg Value.bool (by simp only [sidesB, (Bool.eq_false_iff.2 c6), Bool.and_true, Bool.true_and, Bool.and_false, Bool.false_and, Bool.not_true, Bool.not_false, Bool.or_true, Bool.true_or, Bool.or_false, Bool.false_or]), E5⟩
namespace T69
theorem mx : Try.prog.follows .mixedOrders = true := by kernel_rfl
theorem fld_26_0_0 : fldB Try.prog 26 0 0 = true := by kernel_rfl
theorem fld_26_1_1 : fldB Try.prog 26 1 1 = true := by kernel_rfl
theorem fld_26_3_3 : fldB Try.prog 26 3 3 = true := by kernel_rfl
theorem fld_26_4_4 : fldB Try.prog 26 4 4 = true := by kernel_rfl
theorem fn_103 : fnB Try.prog 103 = true := by kernel_rfl
theorem one_2 : oneB Try.prog 2 = true := by kernel_rfl
theorem one_24 : oneB Try.prog 24 = true := by kernel_rfl
theorem one_62 : oneB Try.prog 62 = true := by kernel_rfl
theorem sl_24_62_1 : slB Try.prog 24 62 1 = true := by kernel_rfl
end T69
set_option maxRecDepth 100000 in
set_option maxHeartbeats 4000000 in
theorem c_s_l02Is {wd hi : Int} {wr : Bool} {asp : Option Addr} {nsp csp : Nat} {xsp Xsp : List Nat} {als : Option Addr} {nls cls : Nat} {xls Xls : List Nat} {b o : Nat} (w : World) (qssp : Sl w asp (flts xsp)) (qlsp : xsp.length = nsp) (qksp : cn xsp = Xsp) (qsls : Sl w als (flts xls)) (qlls : xls.length = nls) (qkls : cn xls = Xls) (hP : Sl w (some ⟨b, o, none⟩) [.int .i64 wd, .int .i64 hi, .bool wr, .slice asp nsp csp, .slice als nls cls]) (hb1 : nsp ≤ 9223372036854775806) (hb2 : nls ≤ 9223372036854775806) :
    Calls Try.prog 69 #[.pointer (some ⟨b, o, none⟩)] w (Rt fun v w' => v = .bool (validS wd hi Xsp Xls) ∧ Ext0 w w') := by
  have E0 : Ext no w w := Ext.refl _ _
  have hlP : Xsp.length = nsp := (cn_lenX qksp).trans qlsp
  have hlL : Xls.length = nls := (cn_lenX qkls).trans qlls
  have lo_asp := Sl.low qssp
  have lo_als := Sl.low qsls
  have lo_some_b_o_none := Sl.low hP
  refine calls_W (n := 97) Try.func69 rfl rfl (Nat.le_of_ble_eq_true rfl) ?_
  refine W_seq ?_
  refine W_region (by kernel_rfl) ?_
  refine s_y (v := .bool false) rfl (y_assign rfl) ?_
  refine s_nil ?_
  refine W_seq ?_
  refine W_seq ?_
  refine W_draw (no) T69.mx (by kernel_rfl) (fun w1 e2 => ?_)
  have hS3 := qssp.ext0 e2
  have hS4 := qsls.ext0 e2
  have hS5 := hP.ext0 e2
  have E6 := E0.fresh e2 (fun _ h _ => h.elim)
  have R7 := (Ext.refl (no) w).trans (Ext0.any e2)
  refine m_y (v := .pointer (some ⟨b, o, none⟩)) 0 rfl (by kernel_rfl) rfl rfl (fun w' e' => y_move rfl) ?_
  refine m_y (v := .pointer (some ⟨b, o, none⟩)) 1 rfl (by kernel_rfl) rfl rfl (fun w' e' => y_nil rfl) ?_
  refine m_y (v := .pointer (some ⟨b, o, none⟩)) 2 rfl (by kernel_rfl) rfl rfl (fun w' e' => y_fld (o := o + 0) T69.fld_26_0_0 rfl) ?_
  refine m_y (v := .int .i64 wd) 3 rfl (by kernel_rfl) rfl rfl (fun w' e' => y_load T69.one_2 rfl ((hP.ext0 e').cell (j := 0) rfl)) ?_
  refine m_y (v := .pointer (some ⟨b, o, none⟩)) 4 rfl (by kernel_rfl) rfl rfl (fun w' e' => y_move rfl) ?_
  refine m_y (v := .pointer (some ⟨b, o, none⟩)) 5 rfl (by kernel_rfl) rfl rfl (fun w' e' => y_nil rfl) ?_
  refine m_y (v := .pointer (some ⟨b, o + 1, none⟩)) 6 rfl (by kernel_rfl) rfl rfl (fun w' e' => y_fld (o := o + 0) T69.fld_26_1_1 rfl) ?_
  refine m_y (v := .int .i64 hi) 7 rfl (by kernel_rfl) rfl rfl (fun w' e' => y_load T69.one_2 rfl ((hP.ext0 e').cell (j := 1) rfl)) ?_
  refine m_k 8 [9, 10, 11, 12, 13, 14, 15, 16, 17, 18, 19, 20, 21, 22, 23, 24, 25, 26, 27, 28, 29, 30, 31, 32, 33, 34, 35, 36, 37, 38, 39, 40, 41, 42, 43] rfl (by kernel_rfl) rfl rfl (fun w8 e9 => ?_)
  have hS10 := hS3.ext0 e9
  have hS11 := hS4.ext0 e9
  have hS12 := hS5.ext0 e9
  have E13 := E6.fresh e9 (fun _ h _ => h.elim)
  have R14 := R7.trans (Ext0.any e9)
  refine k_call T69.fn_103 (c_s_l02Sides _) rfl ?_
  rintro v17 w15 ⟨hv18, e16⟩
  have hS19 := hS10.ext0 e16
  have hS20 := hS11.ext0 e16
  have hS21 := hS12.ext0 e16
  have E22 := E13.fresh e16 (fun _ h _ => h.elim)
  have R23 := R14.trans (Ext0.any e16)
  refine ⟨fun _ => R23, ?_⟩
  by_cases c24 : sidesB wd hi = true
  · have hb25 := sides_b c24
    obtain rfl : v17 = .bool true := hv18.trans (congrArg Value.bool c24)
    refine m_y (v := .bool false) 9 rfl (by kernel_rfl) rfl rfl (fun w' e' => y_not rfl rfl) ?_
    refine m_y (v := .bool false) 10 rfl (by kernel_rfl) rfl rfl (fun w' e' => y_move rfl) ?_
    refine m_y (v := .pointer (some ⟨b, o, none⟩)) 11 rfl (by kernel_rfl) rfl rfl (fun w' e' => y_move rfl) ?_
    refine m_y (v := .pointer (some ⟨b, o, none⟩)) 12 rfl (by kernel_rfl) rfl rfl (fun w' e' => y_nil rfl) ?_
    refine m_y (v := .pointer (some ⟨b, o + 3, none⟩)) 13 rfl (by kernel_rfl) rfl rfl (fun w' e' => y_fld (o := o + 0) T69.fld_26_3_3 rfl) ?_
    refine m_y (v := .slice asp nsp csp) 14 rfl (by kernel_rfl) rfl rfl (fun w' e' => y_load T69.one_24 rfl ((hP.ext0 e').cell (j := 3) rfl)) ?_
    refine m_y (v := .int .i64 ((nsp : Nat) : Int)) 15 rfl (by kernel_rfl) rfl rfl (fun w' e' => y_len T69.sl_24_62_1 rfl rfl) ?_
    refine m_y (v := .pointer (some ⟨b, o, none⟩)) 16 rfl (by kernel_rfl) rfl rfl (fun w' e' => y_move rfl) ?_
    refine m_y (v := .pointer (some ⟨b, o, none⟩)) 17 rfl (by kernel_rfl) rfl rfl (fun w' e' => y_nil rfl) ?_
    refine m_y (v := .pointer (some ⟨b, o, none⟩)) 18 rfl (by kernel_rfl) rfl rfl (fun w' e' => y_fld (o := o + 0) T69.fld_26_0_0 rfl) ?_
    refine m_y (v := .int .i64 wd) 19 rfl (by kernel_rfl) rfl rfl (fun w' e' => y_load T69.one_2 rfl ((hP.ext0 e').cell (j := 0) rfl)) ?_
    refine m_y (v := .pointer (some ⟨b, o, none⟩)) 20 rfl (by kernel_rfl) rfl rfl (fun w' e' => y_move rfl) ?_
    refine m_y (v := .pointer (some ⟨b, o, none⟩)) 21 rfl (by kernel_rfl) rfl rfl (fun w' e' => y_nil rfl) ?_
    refine m_y (v := .pointer (some ⟨b, o + 1, none⟩)) 22 rfl (by kernel_rfl) rfl rfl (fun w' e' => y_fld (o := o + 0) T69.fld_26_1_1 rfl) ?_
    refine m_y (v := .int .i64 hi) 23 rfl (by kernel_rfl) rfl rfl (fun w' e' => y_load T69.one_2 rfl ((hP.ext0 e').cell (j := 1) rfl)) ?_
    refine m_y (v := .int .i64 (wd * hi)) 24 rfl (by kernel_rfl) rfl rfl (fun w' e' => y_mul rfl rfl rfl (by omega)) ?_
    by_cases c27 : ((nsp : Nat) : Int) ≠ (wd * hi)
    · refine m_y (v := .bool true) 25 rfl (by kernel_rfl) rfl rfl (fun w' e' => y_neq rfl rfl (decide_eq_true c27)) ?_
      refine m_y (v := .bool true) 26 rfl (by kernel_rfl) rfl rfl (fun w' e' => y_pick_f rfl rfl) ?_
      refine m_y (v := .bool true) 27 rfl (by kernel_rfl) rfl rfl (fun w' e' => y_move rfl) ?_
      refine m_skip 28 rfl (by kernel_rfl) rfl ?_
      refine m_skip 29 rfl (by kernel_rfl) rfl ?_
      refine m_skip 30 rfl (by kernel_rfl) rfl ?_
      refine m_skip 31 rfl (by kernel_rfl) rfl ?_
      refine m_skip 32 rfl (by kernel_rfl) rfl ?_
      refine m_skip 33 rfl (by kernel_rfl) rfl ?_
      refine m_skip 34 rfl (by kernel_rfl) rfl ?_
      refine m_skip 35 rfl (by kernel_rfl) rfl ?_
      refine m_skip 36 rfl (by kernel_rfl) rfl ?_
      refine m_skip 37 rfl (by kernel_rfl) rfl ?_
      refine m_skip 38 rfl (by kernel_rfl) rfl ?_
      refine m_skip 39 rfl (by kernel_rfl) rfl ?_
      refine m_skip 40 rfl (by kernel_rfl) rfl ?_
      refine m_skip 41 rfl (by kernel_rfl) rfl ?_
      refine m_skip 42 rfl (by kernel_rfl) rfl ?_
      refine m_y (v := .bool true) 43 rfl (by kernel_rfl) rfl rfl (fun w' e' => y_pick_t rfl rfl) ?_
      refine m_done (by kernel_rfl) (fun w28 e29 => ?_)
      have hS30 := hS19.ext0 e29
      have hS31 := hS20.ext0 e29
      have hS32 := hS21.ext0 e29
      have E33 := E22.fresh e29 (fun _ h _ => h.elim)
      have R34 := R23.trans (Ext0.any e29)
      refine W_if_t (by decide) rfl ?_
      refine W_seq ?_
      refine W_region (by kernel_rfl) ?_
      refine s_y (v := .bool false) rfl (y_assign rfl) ?_
      refine s_nil ?_
      refine W_ret ?_
      refine ret1 rfl rfl rfl ⟨_, rfl, ?_⟩
      exact ⟨congrArg Value.bool (by simp [validS, hlP, hlL, *]), E33⟩
    · refine m_y (v := .bool false) 25 rfl (by kernel_rfl) rfl rfl (fun w' e' => y_neq rfl rfl (decide_eq_false c27)) ?_
      refine m_y (v := .bool false) 26 rfl (by kernel_rfl) rfl rfl (fun w' e' => y_pick_f rfl rfl) ?_
      refine m_y (v := .bool false) 27 rfl (by kernel_rfl) rfl rfl (fun w' e' => y_move rfl) ?_
      refine m_y (v := .pointer (some ⟨b, o, none⟩)) 28 rfl (by kernel_rfl) rfl rfl (fun w' e' => y_move rfl) ?_
      refine m_y (v := .pointer (some ⟨b, o, none⟩)) 29 rfl (by kernel_rfl) rfl rfl (fun w' e' => y_nil rfl) ?_
      refine m_y (v := .pointer (some ⟨b, o + 4, none⟩)) 30 rfl (by kernel_rfl) rfl rfl (fun w' e' => y_fld (o := o + 0) T69.fld_26_4_4 rfl) ?_
      refine m_y (v := .slice als nls cls) 31 rfl (by kernel_rfl) rfl rfl (fun w' e' => y_load T69.one_24 rfl ((hP.ext0 e').cell (j := 4) rfl)) ?_
      refine m_y (v := .int .i64 ((nls : Nat) : Int)) 32 rfl (by kernel_rfl) rfl rfl (fun w' e' => y_len T69.sl_24_62_1 rfl rfl) ?_
      refine m_y (v := .pointer (some ⟨b, o, none⟩)) 33 rfl (by kernel_rfl) rfl rfl (fun w' e' => y_move rfl) ?_
      refine m_y (v := .pointer (some ⟨b, o, none⟩)) 34 rfl (by kernel_rfl) rfl rfl (fun w' e' => y_nil rfl) ?_
      refine m_y (v := .pointer (some ⟨b, o, none⟩)) 35 rfl (by kernel_rfl) rfl rfl (fun w' e' => y_fld (o := o + 0) T69.fld_26_0_0 rfl) ?_
      refine m_y (v := .int .i64 wd) 36 rfl (by kernel_rfl) rfl rfl (fun w' e' => y_load T69.one_2 rfl ((hP.ext0 e').cell (j := 0) rfl)) ?_
      refine m_y (v := .pointer (some ⟨b, o, none⟩)) 37 rfl (by kernel_rfl) rfl rfl (fun w' e' => y_move rfl) ?_
      refine m_y (v := .pointer (some ⟨b, o, none⟩)) 38 rfl (by kernel_rfl) rfl rfl (fun w' e' => y_nil rfl) ?_
      refine m_y (v := .pointer (some ⟨b, o + 1, none⟩)) 39 rfl (by kernel_rfl) rfl rfl (fun w' e' => y_fld (o := o + 0) T69.fld_26_1_1 rfl) ?_
      refine m_y (v := .int .i64 hi) 40 rfl (by kernel_rfl) rfl rfl (fun w' e' => y_load T69.one_2 rfl ((hP.ext0 e').cell (j := 1) rfl)) ?_
      refine m_y (v := .int .i64 (wd * hi)) 41 rfl (by kernel_rfl) rfl rfl (fun w' e' => y_mul rfl rfl rfl (by omega)) ?_
      by_cases c36 : ((nls : Nat) : Int) ≠ (wd * hi)
      · refine m_y (v := .bool true) 42 rfl (by kernel_rfl) rfl rfl (fun w' e' => y_neq rfl rfl (decide_eq_true c36)) ?_
        refine m_y (v := .bool true) 43 rfl (by kernel_rfl) rfl rfl (fun w' e' => y_pick_f rfl rfl) ?_
        refine m_done (by kernel_rfl) (fun w37 e38 => ?_)
        have hS39 := hS19.ext0 e38
        have hS40 := hS20.ext0 e38
        have hS41 := hS21.ext0 e38
        have E42 := E22.fresh e38 (fun _ h _ => h.elim)
        have R43 := R23.trans (Ext0.any e38)
        refine W_if_t (by decide) rfl ?_
        refine W_seq ?_
        refine W_region (by kernel_rfl) ?_
        refine s_y (v := .bool false) rfl (y_assign rfl) ?_
        refine s_nil ?_
        refine W_ret ?_
        refine ret1 rfl rfl rfl ⟨_, rfl, ?_⟩
        exact ⟨congrArg Value.bool (by simp [validS, hlP, hlL, *]), E42⟩
      · refine m_y (v := .bool false) 42 rfl (by kernel_rfl) rfl rfl (fun w' e' => y_neq rfl rfl (decide_eq_false c36)) ?_
        refine m_y (v := .bool false) 43 rfl (by kernel_rfl) rfl rfl (fun w' e' => y_pick_f rfl rfl) ?_
        refine m_done (by kernel_rfl) (fun w44 e45 => ?_)
        have hS46 := hS19.ext0 e45
        have hS47 := hS20.ext0 e45
        have hS48 := hS21.ext0 e45
        have E49 := E22.fresh e45 (fun _ h _ => h.elim)
        have R50 := R23.trans (Ext0.any e45)
        refine W_if_f (by decide) rfl ?_
        refine W_skip ?_
        refine W_seq ?_
        refine W_seq ?_
        refine W_region (by kernel_rfl) ?_
        refine s_y (v := .int .i64 0) rfl (y_assign rfl) ?_
        refine s_nil ?_
        refine W_block ?_
-- loop drops slots [2]
        refine W_loop (fun ρ' w' => ∃ (ρ1 : Env) (k : Int), ρ' = updL ρ1 [(0, .pointer (some ⟨b, o, none⟩)), (3, .int .i64 k)] ∧ Ext no w w' ∧ Sl w' asp (flts xsp) ∧ Sl w' als (flts xls) ∧ Sl w' (some ⟨b, o, none⟩) [.int .i64 wd, .int .i64 hi, .bool wr, .slice asp nsp csp, .slice als nls cls] ∧ (0 ≤ k) ∧ (k ≤ wd * hi) ∧ (∀ i, 0 ≤ i → i < k → (betw 1056964608 Xsp i && betw 1065353216 Xls i) = true)) (fun ρ' _ => (wd * hi - iv (ρ' 3)).toNat) ?_ ?_
        · exact ⟨_, 0, Fits.eq ⟨rfl, rfl, trivial⟩, E49, hS46, hS47, hS48, (Int.le_refl _), (by omega), (by intro i h0 h1; omega)⟩
        · rintro _ w51 ⟨ρ56, k, rfl, E52, hS53, hS54, hS55, h0k, h1k, hq⟩
          refine W_seq ?_
          refine W_seq ?_
          refine W_region (by kernel_rfl) ?_
          refine s_y (v := .int .i64 k) rfl (y_move rfl) ?_
          refine s_y (v := .pointer (some ⟨b, o, none⟩)) rfl (y_move rfl) ?_
          refine s_y (v := .pointer (some ⟨b, o, none⟩)) rfl (y_nil rfl) ?_
          refine s_y (v := .pointer (some ⟨b, o + 3, none⟩)) rfl (y_fld (o := o + 0) T69.fld_26_3_3 rfl) ?_
          refine s_y (v := .slice asp nsp csp) rfl (y_load T69.one_24 rfl (hS55.cell (j := 3) rfl)) ?_
          refine s_y (v := .int .i64 ((nsp : Nat) : Int)) rfl (y_len T69.sl_24_62_1 rfl rfl) ?_
          by_cases c57 : k < ((nsp : Nat) : Int)
          · refine s_y (v := .bool true) rfl (y_lss rfl rfl (decide_eq_true c57)) ?_
            refine s_nil ?_
            refine W_if_t (by decide) rfl ?_
            refine W_skip ?_
            refine W_seq ?_
            refine W_block ?_
            refine W_seq ?_
            refine W_region (by kernel_rfl) ?_
            refine s_y (v := .pointer (some ⟨b, o, none⟩)) rfl (y_move rfl) ?_
            refine s_y (v := .pointer (some ⟨b, o, none⟩)) rfl (y_nil rfl) ?_
            refine s_y (v := .pointer (some ⟨b, o + 3, none⟩)) rfl (y_fld (o := o + 0) T69.fld_26_3_3 rfl) ?_
            refine s_y (v := .slice asp nsp csp) rfl (y_load T69.one_24 rfl (hS55.cell (j := 3) rfl)) ?_
            refine s_y (v := .int .i64 k) rfl (y_move rfl) ?_
            refine s_y (v := .pointer (some (sat asp ((k).toNat * 1)))) rfl (y_idx T69.sl_24_62_1 rfl rfl (hS53.addr (by rw [flts_length]; omega)) (by omega) (by omega)) ?_
            refine s_y (v := .float .f32 (el xsp k)) rfl (y_load T69.one_62 rfl (hS53.cell (fl_at (by omega) (by omega)))) ?_
            by_cases c58 : fge .f32 (el Xsp k) 0 = true
            · refine s_y (v := .bool true) rfl (y_fgeq rfl rfl (fgeC (cn_el qksp k) (show can .f32 0 = 0 by kernel_rfl) c58)) ?_
              refine s_y (v := .bool false) rfl (y_not rfl rfl) ?_
              refine s_y (v := .bool false) rfl (y_move rfl) ?_
              refine s_y (v := .pointer (some ⟨b, o, none⟩)) rfl (y_move rfl) ?_
              refine s_y (v := .pointer (some ⟨b, o, none⟩)) rfl (y_nil rfl) ?_
              refine s_y (v := .pointer (some ⟨b, o + 3, none⟩)) rfl (y_fld (o := o + 0) T69.fld_26_3_3 rfl) ?_
              refine s_y (v := .slice asp nsp csp) rfl (y_load T69.one_24 rfl (hS55.cell (j := 3) rfl)) ?_
              refine s_y (v := .int .i64 k) rfl (y_move rfl) ?_
              refine s_y (v := .pointer (some (sat asp ((k).toNat * 1)))) rfl (y_idx T69.sl_24_62_1 rfl rfl (hS53.addr (by rw [flts_length]; omega)) (by omega) (by omega)) ?_
              refine s_y (v := .float .f32 (el xsp k)) rfl (y_load T69.one_62 rfl (hS53.cell (fl_at (by omega) (by omega)))) ?_
              by_cases c59 : fgt .f32 (el Xsp k) 1056964608 = true
              · refine s_y (v := .bool true) rfl (y_fgtr rfl rfl (fgtC (cn_el qksp k) (show can .f32 1056964608 = 1056964608 by kernel_rfl) c59)) ?_
                refine s_y (v := .bool true) rfl (y_pick_f rfl rfl) ?_
                refine s_y (v := .bool true) rfl (y_move rfl) ?_
                refine s_skip rfl ?_
                refine s_skip rfl ?_
                refine s_skip rfl ?_
                refine s_skip rfl ?_
                refine s_skip rfl ?_
                refine s_skip rfl ?_
                refine s_skip rfl ?_
                refine s_skip rfl ?_
                refine s_skip rfl ?_
                refine s_y (v := .bool true) rfl (y_pick_t rfl rfl) ?_
                refine s_y (v := .bool true) rfl (y_move rfl) ?_
                refine s_skip rfl ?_
                refine s_skip rfl ?_
                refine s_skip rfl ?_
                refine s_skip rfl ?_
                refine s_skip rfl ?_
                refine s_skip rfl ?_
                refine s_skip rfl ?_
                refine s_skip rfl ?_
                refine s_y (v := .bool true) rfl (y_pick_t rfl rfl) ?_
                refine s_nil ?_
                refine W_if_t (by decide) rfl ?_
                refine W_seq ?_
                refine W_region (by kernel_rfl) ?_
                refine s_y (v := .bool false) rfl (y_assign rfl) ?_
                refine s_nil ?_
                refine W_ret ?_
                refine ret1 rfl rfl rfl ⟨_, rfl, ?_⟩
                exact ⟨congrArg Value.bool (validS_no (i := k) (by omega) (by omega) (by omega) (by first | exact .inl (betw_no1 (by assumption)) | exact .inl (betw_ng half_not (by assumption) (by assumption)) | exact .inr (betw_no1 (by assumption)) | exact .inr (betw_ng one_not (by assumption) (by assumption)))).symm, E52⟩
              · refine s_y (v := .bool false) rfl (y_fgtr rfl rfl (fgtC (cn_el qksp k) (show can .f32 1056964608 = 1056964608 by kernel_rfl) (Bool.eq_false_iff.2 c59))) ?_
                refine s_y (v := .bool false) rfl (y_pick_f rfl rfl) ?_
                refine s_y (v := .bool false) rfl (y_move rfl) ?_
                refine s_y (v := .pointer (some ⟨b, o, none⟩)) rfl (y_move rfl) ?_
                refine s_y (v := .pointer (some ⟨b, o, none⟩)) rfl (y_nil rfl) ?_
                refine s_y (v := .pointer (some ⟨b, o + 4, none⟩)) rfl (y_fld (o := o + 0) T69.fld_26_4_4 rfl) ?_
                refine s_y (v := .slice als nls cls) rfl (y_load T69.one_24 rfl (hS55.cell (j := 4) rfl)) ?_
                refine s_y (v := .int .i64 k) rfl (y_move rfl) ?_
                refine s_y (v := .pointer (some (sat als ((k).toNat * 1)))) rfl (y_idx T69.sl_24_62_1 rfl rfl (hS54.addr (by rw [flts_length]; omega)) (by omega) (by omega)) ?_
                refine s_y (v := .float .f32 (el xls k)) rfl (y_load T69.one_62 rfl (hS54.cell (fl_at (by omega) (by omega)))) ?_
                by_cases c60 : fge .f32 (el Xls k) 0 = true
                · refine s_y (v := .bool true) rfl (y_fgeq rfl rfl (fgeC (cn_el qkls k) (show can .f32 0 = 0 by kernel_rfl) c60)) ?_
                  refine s_y (v := .bool false) rfl (y_not rfl rfl) ?_
                  refine s_y (v := .bool false) rfl (y_pick_f rfl rfl) ?_
                  refine s_y (v := .bool false) rfl (y_move rfl) ?_
                  refine s_y (v := .pointer (some ⟨b, o, none⟩)) rfl (y_move rfl) ?_
                  refine s_y (v := .pointer (some ⟨b, o, none⟩)) rfl (y_nil rfl) ?_
                  refine s_y (v := .pointer (some ⟨b, o + 4, none⟩)) rfl (y_fld (o := o + 0) T69.fld_26_4_4 rfl) ?_
                  refine s_y (v := .slice als nls cls) rfl (y_load T69.one_24 rfl (hS55.cell (j := 4) rfl)) ?_
                  refine s_y (v := .int .i64 k) rfl (y_move rfl) ?_
                  refine s_y (v := .pointer (some (sat als ((k).toNat * 1)))) rfl (y_idx T69.sl_24_62_1 rfl rfl (hS54.addr (by rw [flts_length]; omega)) (by omega) (by omega)) ?_
                  refine s_y (v := .float .f32 (el xls k)) rfl (y_load T69.one_62 rfl (hS54.cell (fl_at (by omega) (by omega)))) ?_
                  by_cases c61 : fgt .f32 (el Xls k) 1065353216 = true
                  · refine s_y (v := .bool true) rfl (y_fgtr rfl rfl (fgtC (cn_el qkls k) (show can .f32 1065353216 = 1065353216 by kernel_rfl) c61)) ?_
                    refine s_y (v := .bool true) rfl (y_pick_f rfl rfl) ?_
                    refine s_nil ?_
                    refine W_if_t (by decide) rfl ?_
                    refine W_seq ?_
                    refine W_region (by kernel_rfl) ?_
                    refine s_y (v := .bool false) rfl (y_assign rfl) ?_
                    refine s_nil ?_
                    refine W_ret ?_
                    refine ret1 rfl rfl rfl ⟨_, rfl, ?_⟩
                    exact ⟨congrArg Value.bool (validS_no (i := k) (by omega) (by omega) (by omega) (by first | exact .inl (betw_no1 (by assumption)) | exact .inl (betw_ng half_not (by assumption) (by assumption)) | exact .inr (betw_no1 (by assumption)) | exact .inr (betw_ng one_not (by assumption) (by assumption)))).symm, E52⟩
                  · refine s_y (v := .bool false) rfl (y_fgtr rfl rfl (fgtC (cn_el qkls k) (show can .f32 1065353216 = 1065353216 by kernel_rfl) (Bool.eq_false_iff.2 c61))) ?_
                    refine s_y (v := .bool false) rfl (y_pick_f rfl rfl) ?_
                    refine s_nil ?_
                    refine W_if_f (by decide) rfl ?_
                    refine W_skip ?_
                    refine W_region (by kernel_rfl) ?_
                    refine s_y (v := .int .i64 k) rfl (y_move rfl) ?_
                    refine s_y (v := .int .i64 (k + 1)) rfl (y_add rfl rfl rfl (by omega)) ?_
                    refine s_y (v := .int .i64 (k + 1)) rfl (y_assign rfl) ?_
                    refine s_nil ?_
                    refine ⟨⟨_, k + 1, Fits.eq ⟨rfl, rfl, trivial⟩, E52, hS53, hS54, hS55, (by omega), (by omega), (allI_more hq (by simp only [Bool.and_eq_true]; exact ⟨betw_g half_not (by assumption) (by assumption), betw_g one_not (by assumption) (by assumption)⟩))⟩, ?_⟩
                    show (wd * hi - (k + 1)).toNat < (wd * hi - k).toNat
                    omega
                · refine s_y (v := .bool false) rfl (y_fgeq rfl rfl (fgeC (cn_el qkls k) (show can .f32 0 = 0 by kernel_rfl) (Bool.eq_false_iff.2 c60))) ?_
                  refine s_y (v := .bool true) rfl (y_not rfl rfl) ?_
                  refine s_y (v := .bool true) rfl (y_pick_f rfl rfl) ?_
                  refine s_y (v := .bool true) rfl (y_move rfl) ?_
                  refine s_skip rfl ?_
                  refine s_skip rfl ?_
                  refine s_skip rfl ?_
                  refine s_skip rfl ?_
                  refine s_skip rfl ?_
                  refine s_skip rfl ?_
                  refine s_skip rfl ?_
                  refine s_skip rfl ?_
                  refine s_y (v := .bool true) rfl (y_pick_t rfl rfl) ?_
                  refine s_nil ?_
                  refine W_if_t (by decide) rfl ?_
                  refine W_seq ?_
                  refine W_region (by kernel_rfl) ?_
                  refine s_y (v := .bool false) rfl (y_assign rfl) ?_
                  refine s_nil ?_
                  refine W_ret ?_
                  refine ret1 rfl rfl rfl ⟨_, rfl, ?_⟩
                  exact ⟨congrArg Value.bool (validS_no (i := k) (by omega) (by omega) (by omega) (by first | exact .inl (betw_no1 (by assumption)) | exact .inl (betw_ng half_not (by assumption) (by assumption)) | exact .inr (betw_no1 (by assumption)) | exact .inr (betw_ng one_not (by assumption) (by assumption)))).symm, E52⟩
            · refine s_y (v := .bool false) rfl (y_fgeq rfl rfl (fgeC (cn_el qksp k) (show can .f32 0 = 0 by kernel_rfl) (Bool.eq_false_iff.2 c58))) ?_
              refine s_y (v := .bool true) rfl (y_not rfl rfl) ?_
              refine s_y (v := .bool true) rfl (y_move rfl) ?_
              refine s_skip rfl ?_
              refine s_skip rfl ?_
              refine s_skip rfl ?_
              refine s_skip rfl ?_
              refine s_skip rfl ?_
              refine s_skip rfl ?_
              refine s_skip rfl ?_
              refine s_skip rfl ?_
              refine s_y (v := .bool true) rfl (y_pick_t rfl rfl) ?_
              refine s_y (v := .bool true) rfl (y_move rfl) ?_
              refine s_skip rfl ?_
              refine s_skip rfl ?_
              refine s_skip rfl ?_
              refine s_skip rfl ?_
              refine s_skip rfl ?_
              refine s_skip rfl ?_
              refine s_skip rfl ?_
              refine s_skip rfl ?_
              refine s_skip rfl ?_
              refine s_y (v := .bool true) rfl (y_pick_t rfl rfl) ?_
              refine s_y (v := .bool true) rfl (y_move rfl) ?_
              refine s_skip rfl ?_
              refine s_skip rfl ?_
              refine s_skip rfl ?_
              refine s_skip rfl ?_
              refine s_skip rfl ?_
              refine s_skip rfl ?_
              refine s_skip rfl ?_
              refine s_skip rfl ?_
              refine s_y (v := .bool true) rfl (y_pick_t rfl rfl) ?_
              refine s_nil ?_
              refine W_if_t (by decide) rfl ?_
              refine W_seq ?_
              refine W_region (by kernel_rfl) ?_
              refine s_y (v := .bool false) rfl (y_assign rfl) ?_
              refine s_nil ?_
              refine W_ret ?_
              refine ret1 rfl rfl rfl ⟨_, rfl, ?_⟩
              exact ⟨congrArg Value.bool (validS_no (i := k) (by omega) (by omega) (by omega) (by first | exact .inl (betw_no1 (by assumption)) | exact .inl (betw_ng half_not (by assumption) (by assumption)) | exact .inr (betw_no1 (by assumption)) | exact .inr (betw_ng one_not (by assumption) (by assumption)))).symm, E52⟩
          · refine s_y (v := .bool false) rfl (y_lss rfl rfl (decide_eq_false c57)) ?_
            refine s_nil ?_
            refine W_if_f (by decide) rfl ?_
            refine W_exit ?_
            refine W_seq ?_
            refine W_region (by kernel_rfl) ?_
            refine s_y (v := .bool true) rfl (y_assign rfl) ?_
            refine s_nil ?_
            refine W_ret ?_
            refine ret1 rfl rfl rfl ⟨_, rfl, ?_⟩
            exact ⟨congrArg Value.bool (validS_yes (by assumption) (by omega) (by omega) (fun i h0 h1 => hq i h0 (by omega))).symm, E52⟩
  · obtain rfl : v17 = .bool false := hv18.trans (congrArg Value.bool (Bool.eq_false_iff.2 c24))
    refine m_y (v := .bool true) 9 rfl (by kernel_rfl) rfl rfl (fun w' e' => y_not rfl rfl) ?_
    refine m_y (v := .bool true) 10 rfl (by kernel_rfl) rfl rfl (fun w' e' => y_move rfl) ?_
    refine m_skip 11 rfl (by kernel_rfl) rfl ?_
    refine m_skip 12 rfl (by kernel_rfl) rfl ?_
    refine m_skip 13 rfl (by kernel_rfl) rfl ?_
    refine m_skip 14 rfl (by kernel_rfl) rfl ?_
    refine m_skip 15 rfl (by kernel_rfl) rfl ?_
    refine m_skip 16 rfl (by kernel_rfl) rfl ?_
    refine m_skip 17 rfl (by kernel_rfl) rfl ?_
    refine m_skip 18 rfl (by kernel_rfl) rfl ?_
    refine m_skip 19 rfl (by kernel_rfl) rfl ?_
    refine m_skip 20 rfl (by kernel_rfl) rfl ?_
    refine m_skip 21 rfl (by kernel_rfl) rfl ?_
    refine m_skip 22 rfl (by kernel_rfl) rfl ?_
    refine m_skip 23 rfl (by kernel_rfl) rfl ?_
    refine m_skip 24 rfl (by kernel_rfl) rfl ?_
    refine m_skip 25 rfl (by kernel_rfl) rfl ?_
    refine m_y (v := .bool true) 26 rfl (by kernel_rfl) rfl rfl (fun w' e' => y_pick_t rfl rfl) ?_
    refine m_y (v := .bool true) 27 rfl (by kernel_rfl) rfl rfl (fun w' e' => y_move rfl) ?_
    refine m_skip 28 rfl (by kernel_rfl) rfl ?_
    refine m_skip 29 rfl (by kernel_rfl) rfl ?_
    refine m_skip 30 rfl (by kernel_rfl) rfl ?_
    refine m_skip 31 rfl (by kernel_rfl) rfl ?_
    refine m_skip 32 rfl (by kernel_rfl) rfl ?_
    refine m_skip 33 rfl (by kernel_rfl) rfl ?_
    refine m_skip 34 rfl (by kernel_rfl) rfl ?_
    refine m_skip 35 rfl (by kernel_rfl) rfl ?_
    refine m_skip 36 rfl (by kernel_rfl) rfl ?_
    refine m_skip 37 rfl (by kernel_rfl) rfl ?_
    refine m_skip 38 rfl (by kernel_rfl) rfl ?_
    refine m_skip 39 rfl (by kernel_rfl) rfl ?_
    refine m_skip 40 rfl (by kernel_rfl) rfl ?_
    refine m_skip 41 rfl (by kernel_rfl) rfl ?_
    refine m_skip 42 rfl (by kernel_rfl) rfl ?_
    refine m_y (v := .bool true) 43 rfl (by kernel_rfl) rfl rfl (fun w' e' => y_pick_t rfl rfl) ?_
    refine m_done (by kernel_rfl) (fun w62 e63 => ?_)
    have hS64 := hS19.ext0 e63
    have hS65 := hS20.ext0 e63
    have hS66 := hS21.ext0 e63
    have E67 := E22.fresh e63 (fun _ h _ => h.elim)
    have R68 := R23.trans (Ext0.any e63)
    refine W_if_t (by decide) rfl ?_
    refine W_seq ?_
    refine W_region (by kernel_rfl) ?_
    refine s_y (v := .bool false) rfl (y_assign rfl) ?_
    refine s_nil ?_
    refine W_ret ?_
    refine ret1 rfl rfl rfl ⟨_, rfl, ?_⟩
    exact ⟨congrArg Value.bool (by simp [validS, hlP, hlL, *]), E67⟩
namespace T73
theorem mx : Try.prog.follows .mixedOrders = true := by kernel_rfl
theorem fld_26_0_0 : fldB Try.prog 26 0 0 = true := by kernel_rfl
theorem fld_26_1_1 : fldB Try.prog 26 1 1 = true := by kernel_rfl
theorem fn_88 : fnB Try.prog 88 = true := by kernel_rfl
theorem one_2 : oneB Try.prog 2 = true := by kernel_rfl
end T73
set_option maxRecDepth 100000 in
set_option maxHeartbeats 4000000 in
theorem c_s_l02Cell {wd hi : Int} {wr : Bool} {asp als : Option Addr} {nsp nls csp cls : Nat} {x : Int} {y : Int} {b o : Nat} (w : World) (hP : Sl w (some ⟨b, o, none⟩) [.int .i64 wd, .int .i64 hi, .bool wr, .slice asp nsp csp, .slice als nls cls]) (h1 : 3 ≤ wd) (h2 : wd ≤ 16) (h3 : 3 ≤ hi) (h4 : hi ≤ 16) :
    Calls Try.prog 73 #[.pointer (some ⟨b, o, none⟩), .int .i64 x, .int .i64 y] w (Rt fun v w' => v = .bool (cellB wd hi x y) ∧ Ext0 w w') := by
  have E0 : Ext no w w := Ext.refl _ _
  have lo_some_b_o_none := Sl.low hP
  refine calls_W (n := 23) Try.func73 rfl rfl (Nat.le_of_ble_eq_true rfl) ?_
  refine W_seq ?_
  refine W_region (by kernel_rfl) ?_
  refine s_y (v := .bool false) rfl (y_assign rfl) ?_
  refine s_nil ?_
  refine W_seq ?_
  refine W_region (by kernel_rfl) ?_
  refine s_y (v := .int .i64 x) rfl (y_move rfl) ?_
  refine s_y (v := .pointer (some ⟨b, o, none⟩)) rfl (y_move rfl) ?_
  refine s_y (v := .pointer (some ⟨b, o, none⟩)) rfl (y_nil rfl) ?_
  refine s_y (v := .pointer (some ⟨b, o, none⟩)) rfl (y_fld (o := o + 0) T73.fld_26_0_0 rfl) ?_
  refine s_y (v := .int .i64 wd) rfl (y_load T73.one_2 rfl (hP.cell (j := 0) rfl)) ?_
  refine s_y (v := .int .i64 (wd - 1)) rfl (y_sub rfl rfl rfl (by omega)) ?_
  refine s_k rfl (k_call T73.fn_88 (c_s_l00In _ _ _ _) rfl ?_)
  rintro v3 w1 ⟨hv4, e2⟩
  have hS5 := hP.ext0 e2
  have E6 := E0.fresh e2 (fun _ h _ => h.elim)
  by_cases c7 : within x 0 (wd - 1) = true
  · have hb8 := within_b c7
    obtain rfl : v3 = .bool true := hv4.trans (congrArg Value.bool c7)
    refine s_y (v := .bool true) rfl (y_move rfl) ?_
    refine s_y (v := .int .i64 y) rfl (y_move rfl) ?_
    refine s_y (v := .pointer (some ⟨b, o, none⟩)) rfl (y_move rfl) ?_
    refine s_y (v := .pointer (some ⟨b, o, none⟩)) rfl (y_nil rfl) ?_
    refine s_y (v := .pointer (some ⟨b, o + 1, none⟩)) rfl (y_fld (o := o + 0) T73.fld_26_1_1 rfl) ?_
    refine s_y (v := .int .i64 hi) rfl (y_load T73.one_2 rfl (hS5.cell (j := 1) rfl)) ?_
    refine s_y (v := .int .i64 (hi - 1)) rfl (y_sub rfl rfl rfl (by omega)) ?_
    refine s_k rfl (k_call T73.fn_88 (c_s_l00In _ _ _ _) rfl ?_)
    rintro v11 w9 ⟨hv12, e10⟩
    have hS13 := hS5.ext0 e10
    have E14 := E6.fresh e10 (fun _ h _ => h.elim)
    by_cases c15 : within y 0 (hi - 1) = true
    · have hb16 := within_b c15
      obtain rfl : v11 = .bool true := hv12.trans (congrArg Value.bool c15)
      refine s_y (v := .bool true) rfl (y_pick_t rfl rfl) ?_
      refine s_y (v := .bool true) rfl (y_assign rfl) ?_
      refine s_nil ?_
      refine W_ret ?_
      refine ret1 rfl rfl rfl ⟨_, rfl, ?_⟩
      exact ⟨congrArg Value.bool (by simp only [cellB, c7, c15, Bool.and_true, Bool.true_and, Bool.and_false, Bool.false_and, Bool.not_true, Bool.not_false, Bool.or_true, Bool.true_or, Bool.or_false, Bool.false_or]), E14⟩
    · obtain rfl : v11 = .bool false := hv12.trans (congrArg Value.bool (Bool.eq_false_iff.2 c15))
      refine s_y (v := .bool false) rfl (y_pick_t rfl rfl) ?_
      refine s_y (v := .bool false) rfl (y_assign rfl) ?_
      refine s_nil ?_
      refine W_ret ?_
      refine ret1 rfl rfl rfl ⟨_, rfl, ?_⟩
      exact ⟨congrArg Value.bool (by simp only [cellB, c7, (Bool.eq_false_iff.2 c15), Bool.and_true, Bool.true_and, Bool.and_false, Bool.false_and, Bool.not_true, Bool.not_false, Bool.or_true, Bool.true_or, Bool.or_false, Bool.false_or]), E14⟩
  · obtain rfl : v3 = .bool false := hv4.trans (congrArg Value.bool (Bool.eq_false_iff.2 c7))
    refine s_y (v := .bool false) rfl (y_move rfl) ?_
    refine s_skip rfl ?_
    refine s_skip rfl ?_
    refine s_skip rfl ?_
    refine s_skip rfl ?_
    refine s_skip rfl ?_
    refine s_skip rfl ?_
    refine s_skip rfl ?_
    refine s_y (v := .bool false) rfl (y_pick_f rfl rfl) ?_
    refine s_y (v := .bool false) rfl (y_assign rfl) ?_
    refine s_nil ?_
    refine W_ret ?_
    refine ret1 rfl rfl rfl ⟨_, rfl, ?_⟩
    exact ⟨congrArg Value.bool (by simp only [cellB, (Bool.eq_false_iff.2 c7), Bool.and_true, Bool.true_and, Bool.and_false, Bool.false_and, Bool.not_true, Bool.not_false, Bool.or_true, Bool.true_or, Bool.or_false, Bool.false_or]), E6⟩
namespace T108
theorem mx : Try.prog.follows .mixedOrders = true := by kernel_rfl
end T108
set_option maxRecDepth 100000 in
set_option maxHeartbeats 4000000 in
theorem c_s_l00Max {a b : Int} (w : World) :
    Calls Try.prog 108 #[.int .i64 a, .int .i64 b] w (Rt fun v w' => v = .int .i64 (max a b) ∧ Ext0 w w') := by
  have E0 : Ext no w w := Ext.refl _ _
  refine calls_W (n := 10) Try.func108 rfl rfl (Nat.le_of_ble_eq_true rfl) ?_
  refine W_seq ?_
  refine W_region (by kernel_rfl) ?_
  refine s_y (v := .int .i64 0) rfl (y_assign rfl) ?_
  refine s_nil ?_
  refine W_seq ?_
  refine W_seq ?_
  refine W_region (by kernel_rfl) ?_
  refine s_y (v := .int .i64 a) rfl (y_move rfl) ?_
  refine s_y (v := .int .i64 b) rfl (y_move rfl) ?_
  by_cases c1 : b < a
  · refine s_y (v := .bool true) rfl (y_gtr rfl rfl (decide_eq_true c1)) ?_
    refine s_nil ?_
    refine W_if_t (by decide) rfl ?_
    refine W_seq ?_
    refine W_region (by kernel_rfl) ?_
    refine s_y (v := .int .i64 a) rfl (y_move rfl) ?_
    refine s_y (v := .int .i64 a) rfl (y_assign rfl) ?_
    refine s_nil ?_
    refine W_ret ?_
    refine ret1 rfl rfl rfl ⟨_, rfl, ?_⟩
    exact ⟨congrArg (Value.int .i64) (by omega), E0⟩
  · refine s_y (v := .bool false) rfl (y_gtr rfl rfl (decide_eq_false c1)) ?_
    refine s_nil ?_
    refine W_if_f (by decide) rfl ?_
    refine W_skip ?_
    refine W_seq ?_
    refine W_region (by kernel_rfl) ?_
    refine s_y (v := .int .i64 b) rfl (y_move rfl) ?_
    refine s_y (v := .int .i64 b) rfl (y_assign rfl) ?_
    refine s_nil ?_
    refine W_ret ?_
    refine ret1 rfl rfl rfl ⟨_, rfl, ?_⟩
    exact ⟨congrArg (Value.int .i64) (by omega), E0⟩
namespace T104
theorem mx : Try.prog.follows .mixedOrders = true := by kernel_rfl
end T104
set_option maxRecDepth 100000 in
set_option maxHeartbeats 4000000 in
theorem c_s_l00Min {a b : Int} (w : World) :
    Calls Try.prog 104 #[.int .i64 a, .int .i64 b] w (Rt fun v w' => v = .int .i64 (min a b) ∧ Ext0 w w') := by
  have E0 : Ext no w w := Ext.refl _ _
  refine calls_W (n := 10) Try.func104 rfl rfl (Nat.le_of_ble_eq_true rfl) ?_
  refine W_seq ?_
  refine W_region (by kernel_rfl) ?_
  refine s_y (v := .int .i64 0) rfl (y_assign rfl) ?_
  refine s_nil ?_
  refine W_seq ?_
  refine W_seq ?_
  refine W_region (by kernel_rfl) ?_
  refine s_y (v := .int .i64 a) rfl (y_move rfl) ?_
  refine s_y (v := .int .i64 b) rfl (y_move rfl) ?_
  by_cases c1 : a < b
  · refine s_y (v := .bool true) rfl (y_lss rfl rfl (decide_eq_true c1)) ?_
    refine s_nil ?_
    refine W_if_t (by decide) rfl ?_
    refine W_seq ?_
    refine W_region (by kernel_rfl) ?_
    refine s_y (v := .int .i64 a) rfl (y_move rfl) ?_
    refine s_y (v := .int .i64 a) rfl (y_assign rfl) ?_
    refine s_nil ?_
    refine W_ret ?_
    refine ret1 rfl rfl rfl ⟨_, rfl, ?_⟩
    exact ⟨congrArg (Value.int .i64) (by omega), E0⟩
  · refine s_y (v := .bool false) rfl (y_lss rfl rfl (decide_eq_false c1)) ?_
    refine s_nil ?_
    refine W_if_f (by decide) rfl ?_
    refine W_skip ?_
    refine W_seq ?_
    refine W_region (by kernel_rfl) ?_
    refine s_y (v := .int .i64 b) rfl (y_move rfl) ?_
    refine s_y (v := .int .i64 b) rfl (y_assign rfl) ?_
    refine s_nil ?_
    refine W_ret ?_
    refine ret1 rfl rfl rfl ⟨_, rfl, ?_⟩
    exact ⟨congrArg (Value.int .i64) (by omega), E0⟩
namespace T92
theorem mx : Try.prog.follows .mixedOrders = true := by kernel_rfl
theorem fn_104 : fnB Try.prog 104 = true := by kernel_rfl
theorem fn_108 : fnB Try.prog 108 = true := by kernel_rfl
end T92
set_option maxRecDepth 100000 in
set_option maxHeartbeats 4000000 in
theorem c_s_l03Way {wr : Bool} {a b sd : Int} (w : World) (h1 : 0 ≤ a) (h2 : a < sd) (h3 : 0 ≤ b) (h4 : b < sd) (h5 : sd ≤ 1000) :
    Calls Try.prog 92 #[.int .i64 a, .int .i64 b, .int .i64 sd, .bool wr] w (Rt fun v w' => v = .int .i64 (wayI wr a b sd) ∧ Ext0 w w') := by
  have E0 : Ext no w w := Ext.refl _ _
  refine calls_W (n := 24) Try.func92 rfl rfl (Nat.le_of_ble_eq_true rfl) ?_
  refine W_seq ?_
  refine W_region (by kernel_rfl) ?_
  refine s_y (v := .int .i64 0) rfl (y_assign rfl) ?_
  refine s_nil ?_
  refine W_seq ?_
  refine W_region (by kernel_rfl) ?_
  refine s_y (v := .int .i64 a) rfl (y_move rfl) ?_
  refine s_y (v := .int .i64 b) rfl (y_move rfl) ?_
  refine s_y (v := .int .i64 (a - b)) rfl (y_sub rfl rfl rfl (by omega)) ?_
  refine s_y (v := .int .i64 b) rfl (y_move rfl) ?_
  refine s_y (v := .int .i64 a) rfl (y_move rfl) ?_
  refine s_y (v := .int .i64 (b - a)) rfl (y_sub rfl rfl rfl (by omega)) ?_
  refine s_k rfl (k_call T92.fn_108 (c_s_l00Max _) rfl ?_)
  rintro _ w1 ⟨rfl, e2⟩
  have E3 := E0.fresh e2 (fun _ h _ => h.elim)
  refine s_y (v := .int .i64 (max (a - b) (b - a))) rfl (y_assign rfl) ?_
  refine s_nil ?_
  refine W_seq ?_
  refine W_seq ?_
  refine W_region (by kernel_rfl) ?_
  refine s_y (v := .bool wr) rfl (y_move rfl) ?_
  refine s_nil ?_
  cases wr
  · refine W_if_f (by decide) rfl ?_
    refine W_skip ?_
    refine W_seq ?_
    refine W_region (by kernel_rfl) ?_
    refine s_y (v := .int .i64 (max (a - b) (b - a))) rfl (y_move rfl) ?_
    refine s_y (v := .int .i64 (max (a - b) (b - a))) rfl (y_assign rfl) ?_
    refine s_nil ?_
    refine W_ret ?_
    refine ret1 rfl rfl rfl ⟨_, rfl, ?_⟩
    exact ⟨congrArg (Value.int .i64) (by simp only [wayI, if_true, Bool.false_eq_true, if_false]), E3⟩
  · refine W_if_t (by decide) rfl ?_
    refine W_seq ?_
    refine W_region (by kernel_rfl) ?_
    refine s_y (v := .int .i64 (max (a - b) (b - a))) rfl (y_move rfl) ?_
    refine s_y (v := .int .i64 sd) rfl (y_move rfl) ?_
    refine s_y (v := .int .i64 (max (a - b) (b - a))) rfl (y_move rfl) ?_
    refine s_y (v := .int .i64 (sd - (max (a - b) (b - a)))) rfl (y_sub rfl rfl rfl (by omega)) ?_
    refine s_k rfl (k_call T92.fn_104 (c_s_l00Min _) rfl ?_)
    rintro _ w4 ⟨rfl, e5⟩
    have E6 := E3.fresh e5 (fun _ h _ => h.elim)
    refine s_y (v := .int .i64 (min (max (a - b) (b - a)) (sd - (max (a - b) (b - a))))) rfl (y_assign rfl) ?_
    refine s_nil ?_
    refine W_ret ?_
    refine ret1 rfl rfl rfl ⟨_, rfl, ?_⟩
    exact ⟨congrArg (Value.int .i64) (by simp only [wayI, if_true, Bool.false_eq_true, if_false]), E6⟩
namespace T52
theorem mx : Try.prog.follows .mixedOrders = true := by kernel_rfl
theorem fld_26_0_0 : fldB Try.prog 26 0 0 = true := by kernel_rfl
theorem fld_26_1_1 : fldB Try.prog 26 1 1 = true := by kernel_rfl
theorem fld_26_2_2 : fldB Try.prog 26 2 2 = true := by kernel_rfl
theorem fn_69 : fnB Try.prog 69 = true := by kernel_rfl
theorem fn_73 : fnB Try.prog 73 = true := by kernel_rfl
theorem fn_88 : fnB Try.prog 88 = true := by kernel_rfl
theorem fn_92 : fnB Try.prog 92 = true := by kernel_rfl
theorem one_2 : oneB Try.prog 2 = true := by kernel_rfl
theorem one_4 : oneB Try.prog 4 = true := by kernel_rfl
theorem slt_74 : SlT Try.prog 74 2 1 8 (.int .i64 0) := ⟨by kernel_rfl, by kernel_rfl, rfl, by decide⟩
end T52
set_option maxRecDepth 100000 in
set_option maxHeartbeats 4000000 in
theorem c_s_ReachOf {wd hi : Int} {wr : Bool} {asp : Option Addr} {nsp csp : Nat} {xsp Xsp : List Nat} {als : Option Addr} {nls cls : Nat} {xls Xls : List Nat} {x : Int} {y : Int} {sp : Int} (w : World) (qssp : Sl w asp (flts xsp)) (qlsp : xsp.length = nsp) (qksp : cn xsp = Xsp) (qsls : Sl w als (flts xls)) (qlls : xls.length = nls) (qkls : cn xls = Xls) (hb1 : nsp ≤ 9223372036854775806) (hb2 : nls ≤ 9223372036854775806) :
    Calls Try.prog 52 #[.agg #[.int .i64 wd, .int .i64 hi, .bool wr, .slice asp nsp csp, .slice als nls cls], .int .i64 x, .int .i64 y, .int .i64 sp] w (Rt fun v w' => ((reachB wd hi Xsp Xls x y sp = true ∧ ∃ (a1 : Option Addr) (c1 : Nat), v = .tuple #[.slice a1 ((sel (wd * hi) (fun i => reachP wd hi wr x y sp (i % wd) (i / wd))).length) c1, .bool true] ∧ Own w' w.heap.size a1 (sel (wd * hi) (fun i => reachP wd hi wr x y sp (i % wd) (i / wd))).length c1 2 1 (flat inC (sel (wd * hi) (fun i => reachP wd hi wr x y sp (i % wd) (i / wd))))) ∨ (reachB wd hi Xsp Xls x y sp = false ∧ v = .tuple #[.slice none 0 0, .bool false])) ∧ Ext0 w w') := by
  have E0 : Ext no w w := Ext.refl _ _
  have hlP : Xsp.length = nsp := (cn_lenX qksp).trans qlsp
  have hlL : Xls.length = nls := (cn_lenX qkls).trans qlls
  have lo_asp := Sl.low qssp
  have lo_als := Sl.low qsls
  refine calls_W (n := 63) Try.func52 rfl rfl (Nat.le_of_ble_eq_true rfl) ?_
  refine W_seq ?_
  refine W_region (by kernel_rfl) ?_
  refine s_k rfl (k_box (v := .agg #[.int .i64 wd, .int .i64 hi, .bool wr, .slice asp nsp csp, .slice als nls cls]) (cs := [.int .i64 wd, .int .i64 hi, .bool wr, .slice asp nsp csp, .slice als nls cls]) rfl rfl (fun b1 w2 q4 e3 hB5 => ?_))
  have hS6 := qssp.ext0 e3
  have hS7 := qsls.ext0 e3
  have E8 := E0.fresh e3 (fun _ h _ => h.elim)
  have fr9 : NotLt b1 w.heap.size := fun h => Nat.not_lt.2 (Nat.le_trans E0.size (Nat.le_of_eq q4.symm)) h
  clear q4
  refine s_y (v := .slice none 0 0) rfl (y_assign rfl) ?_
  refine s_y (v := .bool false) rfl (y_assign rfl) ?_
  refine s_nil ?_
  refine W_seq ?_
  refine W_seq ?_
  refine W_region (by kernel_rfl) ?_
  refine s_k rfl (k_call T52.fn_69 (c_s_l02Is _ hS6 qlsp qksp hS7 qlls qkls hB5.sl (by omega) (by omega)) rfl ?_)
  rintro v12 w10 ⟨hv13, e11⟩
  have hB14 := hB5.ext0 e11
  have hS15 := hS6.ext0 e11
  have hS16 := hS7.ext0 e11
  have E17 := E8.fresh e11 (fun _ h _ => h.elim)
  by_cases c18 : validS wd hi Xsp Xls = true
  · have hb19 := validS_b c18
    obtain rfl : v12 = .bool true := hv13.trans (congrArg Value.bool c18)
    refine s_y (v := .bool false) rfl (y_not rfl rfl) ?_
    refine s_y (v := .bool false) rfl (y_move rfl) ?_
    refine s_y (v := .int .i64 x) rfl (y_move rfl) ?_
    refine s_y (v := .int .i64 y) rfl (y_move rfl) ?_
    refine s_k rfl (k_call T52.fn_73 (c_s_l02Cell _ hB14.sl (by omega) (by omega) (by omega) (by omega)) rfl ?_)
    rintro v22 w20 ⟨hv23, e21⟩
    have hB24 := hB14.ext0 e21
    have hS25 := hS15.ext0 e21
    have hS26 := hS16.ext0 e21
    have E27 := E17.fresh e21 (fun _ h _ => h.elim)
    by_cases c28 : cellB wd hi x y = true
    · have hb29 := cellB_b c28
      obtain rfl : v22 = .bool true := hv23.trans (congrArg Value.bool c28)
      refine s_y (v := .bool false) rfl (y_not rfl rfl) ?_
      refine s_y (v := .bool false) rfl (y_pick_f rfl rfl) ?_
      refine s_y (v := .bool false) rfl (y_move rfl) ?_
      refine s_y (v := .int .i64 sp) rfl (y_move rfl) ?_
      refine s_k rfl (k_call T52.fn_88 (c_s_l00In _ _ _ _) rfl ?_)
      rintro v32 w30 ⟨hv33, e31⟩
      have hB34 := hB24.ext0 e31
      have hS35 := hS25.ext0 e31
      have hS36 := hS26.ext0 e31
      have E37 := E27.fresh e31 (fun _ h _ => h.elim)
      by_cases c38 : within sp 0 64 = true
      · have hb39 := within_b c38
        obtain rfl : v32 = .bool true := hv33.trans (congrArg Value.bool c38)
        refine s_y (v := .bool false) rfl (y_not rfl rfl) ?_
        refine s_y (v := .bool false) rfl (y_pick_f rfl rfl) ?_
        refine s_nil ?_
        refine W_if_f (by decide) rfl ?_
        refine W_skip ?_
        refine W_seq ?_
        refine W_region (by kernel_rfl) ?_
        refine s_k rfl (k_bslice (n := 0) (cells := #[]) T52.slt_74 (by decide) (by first | rfl | kernel_rfl) (by first | rfl | kernel_rfl) (fun b40 w41 q43 e42 hO44 => ?_))
        have hB45 := hB34.ext0 e42
        have hS46 := hS35.ext0 e42
        have hS47 := hS36.ext0 e42
        have E48 := E37.fresh e42 (fun _ h _ => h.elim)
        have d49 : ∀ k, inA (some ⟨b40, 0, none⟩) k → w30.heap.size ≤ k := fun kx hk => (hO44.blk kx hk).1
        have dj50 : inA (some ⟨b40, 0, none⟩) b1 → False := fun h => Nat.not_lt.2 (d49 _ h) hB34.lt
        have fr51 : ∀ k, inA (some ⟨b40, 0, none⟩) k → k < w.heap.size → False := fun kx h1 h2 => Nat.not_lt.2 (Nat.le_trans E37.size (d49 kx h1)) h2
        have hO52 := hO44.base E37.size
        have hO53 := hO52.cast (cs' := flat inC []) rfl rfl
        refine s_y (v := .slice (some ⟨b40, 0, none⟩) 0 0) rfl (y_assign rfl) ?_
        refine s_nil ?_
        refine W_seq ?_
        refine W_seq ?_
        refine W_region (by kernel_rfl) ?_
        refine s_y (v := .int .i64 0) rfl (y_assign rfl) ?_
        refine s_nil ?_
        refine W_block ?_
        have hwz : 0 ≤ wd := by omega
        refine W_loop (fun ρ' w' => ∃ (ρ1 : Env) (pi : Int) (a2 : Option Addr) (cc2 : Nat) (nn2 : Nat), ρ' = updL ρ1 [(1, .int .i64 x), (2, .int .i64 y), (3, .int .i64 sp), (4, .pointer (some ⟨b1, 0, none⟩)), (8, .slice none 0 0), (9, .bool false), (10, .slice a2 nn2 cc2), (11, .int .i64 pi)] ∧ Ext no w w' ∧ Blk w' b1 [.int .i64 wd, .int .i64 hi, .bool wr, .slice asp nsp csp, .slice als nls cls] 26 ∧ Sl w' asp (flts xsp) ∧ Sl w' als (flts xls) ∧ Own w' w.heap.size a2 nn2 cc2 2 1 (flat inC (sel (pi) (fun i => reachP wd hi wr x y sp (i % wd) (i / wd)))) ∧ (0 ≤ pi) ∧ (pi ≤ wd * hi) ∧ ((sel (pi) (fun i => reachP wd hi wr x y sp (i % wd) (i / wd))).length = nn2) ∧ (inA a2 b1 → False) ∧ (∀ k, inA a2 k → k < w.heap.size → False)) (fun ρ' _ => (wd * hi - iv (ρ' 11)).toNat) ?_ ?_
        · exact ⟨_, 0, (some ⟨b40, 0, none⟩), 0, 0, Fits.eq ⟨rfl, rfl, rfl, rfl, rfl, rfl, rfl, rfl, trivial⟩, E48, hB45, hS46, hS47, (hO53.cast rfl (congrArg (flat inC) (show [] = sel (0) (fun i => reachP wd hi wr x y sp (i % wd) (i / wd)) by rfl))), (Int.le_refl _), (by omega), ((congrArg List.length (show [] = sel (0) (fun i => reachP wd hi wr x y sp (i % wd) (i / wd)) by rfl)).symm.trans rfl), dj50, fr51⟩
        · rintro _ w56 ⟨ρ62, pi, a2, cc2, nn2, rfl, E57, hB58, hS59, hS60, hO61, h0pi, h1pi, hl2, dj54, fr55⟩
          have hn2 := sel_len (pi) (fun i => reachP wd hi wr x y sp (i % wd) (i / wd))
          refine W_seq ?_
          refine W_seq ?_
          refine W_region (by kernel_rfl) ?_
          refine s_y (v := .int .i64 pi) rfl (y_move rfl) ?_
          refine s_y (v := .pointer (some ⟨b1, 0, none⟩)) rfl (y_fld (o := 0) T52.fld_26_0_0 rfl) ?_
          refine s_y (v := .int .i64 wd) rfl (y_load T52.one_2 rfl (hB58.cell (j := 0) rfl)) ?_
          refine s_y (v := .pointer (some ⟨b1, 1, none⟩)) rfl (y_fld (o := 0) T52.fld_26_1_1 rfl) ?_
          refine s_y (v := .int .i64 hi) rfl (y_load T52.one_2 rfl (hB58.cell (j := 1) rfl)) ?_
          refine s_y (v := .int .i64 (wd * hi)) rfl (y_mul rfl rfl rfl (by omega)) ?_
          by_cases c64 : pi < (wd * hi)
          · refine s_y (v := .bool true) rfl (y_lss rfl rfl (decide_eq_true c64)) ?_
            refine s_nil ?_
            refine W_if_t (by decide) rfl ?_
            refine W_skip ?_
            refine W_seq ?_
            refine W_block ?_
            refine W_seq ?_
            refine W_draw (no) T52.mx (by kernel_rfl) (fun w65 e66 => ?_)
            have hB67 := hB58.ext0 e66
            have hS68 := hS59.ext0 e66
            have hS69 := hS60.ext0 e66
            have hO70 := hO61.ext0 e66
            have E71 := E57.fresh e66 (fun _ h _ => h.elim)
            have R72 := (Ext.refl (no) w56).trans (Ext0.any e66)
            refine m_y (v := .int .i64 x) 0 rfl (by kernel_rfl) rfl rfl (fun w' e' => y_move rfl) ?_
            refine m_y (v := .int .i64 pi) 1 rfl (by kernel_rfl) rfl rfl (fun w' e' => y_move rfl) ?_
            refine m_y (v := .pointer (some ⟨b1, 0, none⟩)) 2 rfl (by kernel_rfl) rfl rfl (fun w' e' => y_fld (o := 0) T52.fld_26_0_0 rfl) ?_
            refine m_y (v := .int .i64 wd) 3 rfl (by kernel_rfl) rfl rfl (fun w' e' => y_load T52.one_2 rfl ((hB58.ext0 e').cell (j := 0) rfl)) ?_
            have hm73 := rem_b (x := pi) (m := wd) (by omega) (by omega)
            refine m_y (v := .int .i64 (pi % wd)) 4 rfl (by kernel_rfl) rfl rfl (fun w' e' => y_rem rfl rfl (by omega) (by omega) rfl) ?_
            refine m_y (v := .pointer (some ⟨b1, 0, none⟩)) 5 rfl (by kernel_rfl) rfl rfl (fun w' e' => y_fld (o := 0) T52.fld_26_0_0 rfl) ?_
            refine m_y (v := .int .i64 wd) 6 rfl (by kernel_rfl) rfl rfl (fun w' e' => y_load T52.one_2 rfl ((hB58.ext0 e').cell (j := 0) rfl)) ?_
            refine m_y (v := .pointer (some ⟨b1, 2, none⟩)) 7 rfl (by kernel_rfl) rfl rfl (fun w' e' => y_fld (o := 0) T52.fld_26_2_2 rfl) ?_
            refine m_y (v := .bool wr) 8 rfl (by kernel_rfl) rfl rfl (fun w' e' => y_load T52.one_4 rfl ((hB58.ext0 e').cell (j := 2) rfl)) ?_
            refine m_y (v := .int .i64 y) 10 rfl (by kernel_rfl) rfl rfl (fun w' e' => y_move rfl) ?_
            refine m_y (v := .int .i64 pi) 11 rfl (by kernel_rfl) rfl rfl (fun w' e' => y_move rfl) ?_
            refine m_y (v := .pointer (some ⟨b1, 0, none⟩)) 12 rfl (by kernel_rfl) rfl rfl (fun w' e' => y_fld (o := 0) T52.fld_26_0_0 rfl) ?_
            refine m_y (v := .int .i64 wd) 13 rfl (by kernel_rfl) rfl rfl (fun w' e' => y_load T52.one_2 rfl ((hB58.ext0 e').cell (j := 0) rfl)) ?_
            have hm74 := quo_b (x := pi) (m := wd) (by omega) (by omega)
            have hm75 := (row_of (wd := wd) (hi := hi) (i := pi) (by omega) (by omega) (by omega)).2.1.2
            refine m_y (v := .int .i64 (pi / wd)) 14 rfl (by kernel_rfl) rfl rfl (fun w' e' => y_quo rfl rfl (by omega) (by omega) (by omega) rfl) ?_
            refine m_y (v := .pointer (some ⟨b1, 1, none⟩)) 15 rfl (by kernel_rfl) rfl rfl (fun w' e' => y_fld (o := 0) T52.fld_26_1_1 rfl) ?_
            refine m_y (v := .int .i64 hi) 16 rfl (by kernel_rfl) rfl rfl (fun w' e' => y_load T52.one_2 rfl ((hB58.ext0 e').cell (j := 1) rfl)) ?_
            refine m_y (v := .pointer (some ⟨b1, 2, none⟩)) 17 rfl (by kernel_rfl) rfl rfl (fun w' e' => y_fld (o := 0) T52.fld_26_2_2 rfl) ?_
            refine m_y (v := .bool wr) 18 rfl (by kernel_rfl) rfl rfl (fun w' e' => y_load T52.one_4 rfl ((hB58.ext0 e').cell (j := 2) rfl)) ?_
            refine m_y (v := .int .i64 sp) 21 rfl (by kernel_rfl) rfl rfl (fun w' e' => y_move rfl) ?_
            refine m_k 9 [19, 20, 22] rfl (by kernel_rfl) rfl rfl (fun w76 e77 => ?_)
            have hB78 := hB67.ext0 e77
            have hS79 := hS68.ext0 e77
            have hS80 := hS69.ext0 e77
            have hO81 := hO70.ext0 e77
            have E82 := E71.fresh e77 (fun _ h _ => h.elim)
            have R83 := R72.trans (Ext0.any e77)
            refine k_call T52.fn_92 (c_s_l03Way _ (by omega) (by omega) (by omega) (by omega) (by omega)) rfl ?_
            rintro _ w84 ⟨rfl, e85⟩
            have hB86 := hB78.ext0 e85
            have hS87 := hS79.ext0 e85
            have hS88 := hS80.ext0 e85
            have hO89 := hO81.ext0 e85
            have E90 := E82.fresh e85 (fun _ h _ => h.elim)
            have R91 := R83.trans (Ext0.any e85)
            refine ⟨fun _ => R91, ?_⟩
            have hwb92 := wayI_b (wr := wr) (a := x) (b := pi % wd) (side := wd) (by omega) (by omega) (by omega) (by omega)
            refine m_k 19 [20, 22] rfl (by kernel_rfl) rfl rfl (fun w93 e94 => ?_)
            have hB95 := hB86.ext0 e94
            have hS96 := hS87.ext0 e94
            have hS97 := hS88.ext0 e94
            have hO98 := hO89.ext0 e94
            have E99 := E90.fresh e94 (fun _ h _ => h.elim)
            have R100 := R91.trans (Ext0.any e94)
            refine k_call T52.fn_92 (c_s_l03Way _ (by omega) (by omega) (by omega) (by omega) (by omega)) rfl ?_
            rintro _ w101 ⟨rfl, e102⟩
            have hB103 := hB95.ext0 e102
            have hS104 := hS96.ext0 e102
            have hS105 := hS97.ext0 e102
            have hO106 := hO98.ext0 e102
            have E107 := E99.fresh e102 (fun _ h _ => h.elim)
            have R108 := R100.trans (Ext0.any e102)
            refine ⟨fun _ => R108, ?_⟩
            have hwb109 := wayI_b (wr := wr) (a := y) (b := pi / wd) (side := hi) (by omega) (by omega) (by omega) (by omega)
            refine m_y (v := .int .i64 ((wayI wr x (pi % wd) wd) + (wayI wr y (pi / wd) hi))) 20 rfl (by kernel_rfl) rfl rfl (fun w' e' => y_add rfl rfl rfl (by omega)) ?_
            by_cases c110 : ((wayI wr x (pi % wd) wd) + (wayI wr y (pi / wd) hi)) ≤ sp
            · refine m_y (v := .bool true) 22 rfl (by kernel_rfl) rfl rfl (fun w' e' => y_leq rfl rfl (decide_eq_true c110)) ?_
              refine m_done (by kernel_rfl) (fun w111 e112 => ?_)
              have hB113 := hB103.ext0 e112
              have hS114 := hS104.ext0 e112
              have hS115 := hS105.ext0 e112
              have hO116 := hO106.ext0 e112
              have E117 := E107.fresh e112 (fun _ h _ => h.elim)
              have R118 := R108.trans (Ext0.any e112)
              refine W_if_t (by decide) rfl ?_
              refine W_region (by kernel_rfl) ?_
              refine s_y (v := .slice a2 nn2 cc2) rfl (y_move rfl) ?_
              refine s_y (v := .int .i64 pi) rfl (y_move rfl) ?_
              refine s_k rfl (k_bslice (n := 1) (cells := #[.int .i64 pi]) T52.slt_74 (by decide) (by first | rfl | kernel_rfl) (by first | rfl | kernel_rfl) (fun b119 w120 q122 e121 hO123 => ?_))
              have hB124 := hB113.ext0 e121
              have hS125 := hS114.ext0 e121
              have hS126 := hS115.ext0 e121
              have hO127 := hO116.ext0 e121
              have E128 := E117.fresh e121 (fun _ h _ => h.elim)
              have d129 : ∀ k, inA (some ⟨b119, 0, none⟩) k → w111.heap.size ≤ k := fun kx hk => (hO123.blk kx hk).1
              have dj130 : inA (some ⟨b119, 0, none⟩) b1 → False := fun h => Nat.not_lt.2 (d129 _ h) hB113.lt
              have dj131 : ∀ k, inA a2 k → inA (some ⟨b119, 0, none⟩) k → False := fun kx h1 h2 => Nat.not_lt.2 (d129 kx h2) (hO116.blk kx h1).2
              have fr132 : ∀ k, inA (some ⟨b119, 0, none⟩) k → k < w.heap.size → False := fun kx h1 h2 => Nat.not_lt.2 (Nat.le_trans E117.size (d129 kx h1)) h2
              have hO133 := hO123.base E117.size
              refine s_k rfl (k_append T52.slt_74 rfl rfl rfl hO127 hO133.sl rfl (by simp [Value.oneCell']) (by omega) (by unfold maxLen; omega) E128.size (fun a134 c135 w136 e137 hO138 hd139 => ?_))
              have hB140 := hB124.ext e137 (fun hk => dj54 hk)
              have hS141 := hS125.extL lo_asp e137 (fun kx hs hl => (fun hs => fr55 kx hs hl) hs)
              have hS142 := hS126.extL lo_als e137 (fun kx hs hl => (fun hs => fr55 kx hs hl) hs)
              have hO143 := hO133.ext e137 (fun kx hk hs => (fun hs => dj131 kx hs hk) hs)
              have E144 := E128.fresh e137 (fun kx hs hl => (fun hs => (fr55 kx hs hl).elim) hs)
              have dj145 : inA a134 b1 → False := fun h => (hd139 _ h).elim dj54 (fun hx => Nat.not_lt.2 hx hB124.lt)
              have dj146 : ∀ k, inA a134 k → inA (some ⟨b119, 0, none⟩) k → False := fun kx h1 h2 => (hd139 kx h1).elim (fun h => dj131 kx h h2) (fun hx => Nat.not_lt.2 hx (hO133.blk kx h2).2)
              have fr147 : ∀ k, inA a134 k → k < w.heap.size → False := fun kx h1 h2 => (hd139 kx h1).elim (fun h => fr55 kx h h2) (fun hx => Nat.not_lt.2 (Nat.le_trans E128.size hx) h2)
              have hO148 := hO138.cast rfl (flat_snoc (f := inC) (sel (pi) (fun i => reachP wd hi wr x y sp (i % wd) (i / wd))) pi)
              have hl149 : ((sel (pi) (fun i => reachP wd hi wr x y sp (i % wd) (i / wd))) ++ [pi]).length = nn2 + 1 := by simp only [List.length_append, List.length_cons, List.length_nil]; omega
              refine s_y (v := .slice a134 (nn2 + 1) c135) rfl (y_assign rfl) ?_
              refine s_nil ?_
              refine W_region (by kernel_rfl) ?_
              refine s_y (v := .int .i64 pi) rfl (y_move rfl) ?_
              refine s_y (v := .int .i64 (pi + 1)) rfl (y_add rfl rfl rfl (by omega)) ?_
              refine s_y (v := .int .i64 (pi + 1)) rfl (y_assign rfl) ?_
              refine s_nil ?_
              refine ⟨⟨_, pi + 1, a134, c135, nn2 + 1, Fits.eq ⟨rfl, rfl, rfl, rfl, rfl, rfl, rfl, rfl, trivial⟩, E144, hB140, hS141, hS142, (hO148.cast rfl (congrArg (flat inC) (sel_yes (p := (fun i => reachP wd hi wr x y sp (i % wd) (i / wd))) (n := pi) (by omega) (by omega) (rfl) ((decide_eq_true (by assumption)))))), (by omega), (by omega), ((congrArg List.length (sel_yes (p := (fun i => reachP wd hi wr x y sp (i % wd) (i / wd))) (n := pi) (by omega) (by omega) (rfl) ((decide_eq_true (by assumption))))).symm.trans hl149), dj145, fr147⟩, ?_⟩
              show (wd * hi - (pi + 1)).toNat < (wd * hi - pi).toNat
              omega
            · refine m_y (v := .bool false) 22 rfl (by kernel_rfl) rfl rfl (fun w' e' => y_leq rfl rfl (decide_eq_false c110)) ?_
              refine m_done (by kernel_rfl) (fun w151 e152 => ?_)
              have hB153 := hB103.ext0 e152
              have hS154 := hS104.ext0 e152
              have hS155 := hS105.ext0 e152
              have hO156 := hO106.ext0 e152
              have E157 := E107.fresh e152 (fun _ h _ => h.elim)
              have R158 := R108.trans (Ext0.any e152)
              refine W_if_f (by decide) rfl ?_
              refine W_skip ?_
              refine W_region (by kernel_rfl) ?_
              refine s_y (v := .int .i64 pi) rfl (y_move rfl) ?_
              refine s_y (v := .int .i64 (pi + 1)) rfl (y_add rfl rfl rfl (by omega)) ?_
              refine s_y (v := .int .i64 (pi + 1)) rfl (y_assign rfl) ?_
              refine s_nil ?_
              refine ⟨⟨_, pi + 1, a2, cc2, nn2, Fits.eq ⟨rfl, rfl, rfl, rfl, rfl, rfl, rfl, rfl, trivial⟩, E157, hB153, hS154, hS155, (hO156.cast rfl (congrArg (flat inC) (sel_no (p := (fun i => reachP wd hi wr x y sp (i % wd) (i / wd))) (n := pi) (by omega) (by omega) (fun hq => absurd (of_decide_eq_true hq) (by assumption))))), (by omega), (by omega), ((congrArg List.length (sel_no (p := (fun i => reachP wd hi wr x y sp (i % wd) (i / wd))) (n := pi) (by omega) (by omega) (fun hq => absurd (of_decide_eq_true hq) (by assumption)))).symm.trans hl2), dj54, fr55⟩, ?_⟩
              show (wd * hi - (pi + 1)).toNat < (wd * hi - pi).toNat
              omega
          · refine s_y (v := .bool false) rfl (y_lss rfl rfl (decide_eq_false c64)) ?_
            refine s_nil ?_
            refine W_if_f (by decide) rfl ?_
            refine W_exit ?_
            refine W_seq ?_
            refine W_region (by kernel_rfl) ?_
            refine s_y (v := .slice a2 nn2 cc2) rfl (y_move rfl) ?_
            refine s_y (v := .slice a2 nn2 cc2) rfl (y_assign rfl) ?_
            refine s_y (v := .bool true) rfl (y_assign rfl) ?_
            refine s_nil ?_
            refine W_ret ?_
            refine ret2 rfl rfl rfl rfl rfl ⟨_, rfl, ?_⟩
            obtain rfl : pi = wd * hi := by omega
            subst hl2
            exact ⟨.inl ⟨by simp only [reachB, vcellB, c18, c28, c38, (decide_eq_false c64), Bool.and_true, Bool.true_and, Bool.and_false, Bool.false_and, Bool.not_true, Bool.not_false, Bool.or_true, Bool.true_or, Bool.or_false, Bool.false_or], _, _, rfl, hO61⟩, E57⟩
      · obtain rfl : v32 = .bool false := hv33.trans (congrArg Value.bool (Bool.eq_false_iff.2 c38))
        refine s_y (v := .bool true) rfl (y_not rfl rfl) ?_
        refine s_y (v := .bool true) rfl (y_pick_f rfl rfl) ?_
        refine s_nil ?_
        refine W_if_t (by decide) rfl ?_
        refine W_seq ?_
        refine W_region (by kernel_rfl) ?_
        refine s_y (v := .slice none 0 0) rfl (y_assign rfl) ?_
        refine s_y (v := .bool false) rfl (y_assign rfl) ?_
        refine s_nil ?_
        refine W_ret ?_
        refine ret2 rfl rfl rfl rfl rfl ⟨_, rfl, ?_⟩
        exact ⟨.inr ⟨by simp only [reachB, vcellB, c18, c28, (Bool.eq_false_iff.2 c38), Bool.and_true, Bool.true_and, Bool.and_false, Bool.false_and, Bool.not_true, Bool.not_false, Bool.or_true, Bool.true_or, Bool.or_false, Bool.false_or], rfl⟩, E37⟩
    · obtain rfl : v22 = .bool false := hv23.trans (congrArg Value.bool (Bool.eq_false_iff.2 c28))
      refine s_y (v := .bool true) rfl (y_not rfl rfl) ?_
      refine s_y (v := .bool true) rfl (y_pick_f rfl rfl) ?_
      refine s_y (v := .bool true) rfl (y_move rfl) ?_
      refine s_skip rfl ?_
      refine s_skip rfl ?_
      refine s_skip rfl ?_
      refine s_y (v := .bool true) rfl (y_pick_t rfl rfl) ?_
      refine s_nil ?_
      refine W_if_t (by decide) rfl ?_
      refine W_seq ?_
      refine W_region (by kernel_rfl) ?_
      refine s_y (v := .slice none 0 0) rfl (y_assign rfl) ?_
      refine s_y (v := .bool false) rfl (y_assign rfl) ?_
      refine s_nil ?_
      refine W_ret ?_
      refine ret2 rfl rfl rfl rfl rfl ⟨_, rfl, ?_⟩
      exact ⟨.inr ⟨by simp only [reachB, vcellB, c18, (Bool.eq_false_iff.2 c28), Bool.and_true, Bool.true_and, Bool.and_false, Bool.false_and, Bool.not_true, Bool.not_false, Bool.or_true, Bool.true_or, Bool.or_false, Bool.false_or], rfl⟩, E27⟩
  · obtain rfl : v12 = .bool false := hv13.trans (congrArg Value.bool (Bool.eq_false_iff.2 c18))
    refine s_y (v := .bool true) rfl (y_not rfl rfl) ?_
    refine s_y (v := .bool true) rfl (y_move rfl) ?_
    refine s_skip rfl ?_
    refine s_skip rfl ?_
    refine s_skip rfl ?_
    refine s_skip rfl ?_
    refine s_y (v := .bool true) rfl (y_pick_t rfl rfl) ?_
    refine s_y (v := .bool true) rfl (y_move rfl) ?_
    refine s_skip rfl ?_
    refine s_skip rfl ?_
    refine s_skip rfl ?_
    refine s_y (v := .bool true) rfl (y_pick_t rfl rfl) ?_
    refine s_nil ?_
    refine W_if_t (by decide) rfl ?_
    refine W_seq ?_
    refine W_region (by kernel_rfl) ?_
    refine s_y (v := .slice none 0 0) rfl (y_assign rfl) ?_
    refine s_y (v := .bool false) rfl (y_assign rfl) ?_
    refine s_nil ?_
    refine W_ret ?_
    refine ret2 rfl rfl rfl rfl rfl ⟨_, rfl, ?_⟩
    exact ⟨.inr ⟨by simp only [reachB, vcellB, (Bool.eq_false_iff.2 c18), Bool.and_true, Bool.true_and, Bool.and_false, Bool.false_and, Bool.not_true, Bool.not_false, Bool.or_true, Bool.true_or, Bool.or_false, Bool.false_or], rfl⟩, E17⟩
namespace T65
theorem mx : Try.prog.follows .mixedOrders = true := by kernel_rfl
end T65
set_option maxRecDepth 100000 in
set_option maxHeartbeats 4000000 in
theorem c_i_within (n lo hi : Int) (w : World) :
    Calls Try.prog 65 #[.int .i64 n, .int .i64 lo, .int .i64 hi] w (Rt fun v w' => v = .bool (within n lo hi) ∧ Ext0 w w') := by
  have E0 : Ext no w w := Ext.refl _ _
  refine calls_W (n := 15) Try.func65 rfl rfl (Nat.le_of_ble_eq_true rfl) ?_
  refine W_seq ?_
  refine W_region (by kernel_rfl) ?_
  refine s_y (v := .bool false) rfl (y_assign rfl) ?_
  refine s_nil ?_
  refine W_seq ?_
  refine W_region (by kernel_rfl) ?_
  refine s_y (v := .int .i64 n) rfl (y_move rfl) ?_
  refine s_y (v := .int .i64 lo) rfl (y_move rfl) ?_
  by_cases c1 : lo ≤ n
  · refine s_y (v := .bool true) rfl (y_geq rfl rfl (decide_eq_true c1)) ?_
    refine s_y (v := .bool true) rfl (y_move rfl) ?_
    refine s_y (v := .int .i64 n) rfl (y_move rfl) ?_
    refine s_y (v := .int .i64 hi) rfl (y_move rfl) ?_
    by_cases c2 : n ≤ hi
    · refine s_y (v := .bool true) rfl (y_leq rfl rfl (decide_eq_true c2)) ?_
      refine s_y (v := .bool true) rfl (y_pick_t rfl rfl) ?_
      refine s_y (v := .bool true) rfl (y_assign rfl) ?_
      refine s_nil ?_
      refine W_ret ?_
      refine ret1 rfl rfl rfl ⟨_, rfl, ?_⟩
      exact ⟨congrArg Value.bool (by simp [within] <;> omega), E0⟩
    · refine s_y (v := .bool false) rfl (y_leq rfl rfl (decide_eq_false c2)) ?_
      refine s_y (v := .bool false) rfl (y_pick_t rfl rfl) ?_
      refine s_y (v := .bool false) rfl (y_assign rfl) ?_
      refine s_nil ?_
      refine W_ret ?_
      refine ret1 rfl rfl rfl ⟨_, rfl, ?_⟩
      exact ⟨congrArg Value.bool (by simp [within] <;> omega), E0⟩
  · refine s_y (v := .bool false) rfl (y_geq rfl rfl (decide_eq_false c1)) ?_
    refine s_y (v := .bool false) rfl (y_move rfl) ?_
    refine s_skip rfl ?_
    refine s_skip rfl ?_
    refine s_skip rfl ?_
    refine s_y (v := .bool false) rfl (y_pick_f rfl rfl) ?_
    refine s_y (v := .bool false) rfl (y_assign rfl) ?_
    refine s_nil ?_
    refine W_ret ?_
    refine ret1 rfl rfl rfl ⟨_, rfl, ?_⟩
    exact ⟨congrArg Value.bool (by simp [within] <;> omega), E0⟩
namespace T66
theorem mx : Try.prog.follows .mixedOrders = true := by kernel_rfl
theorem one_62 : oneB Try.prog 62 = true := by kernel_rfl
theorem sl_24_62_1 : slB Try.prog 24 62 1 = true := by kernel_rfl
end T66
set_option maxRecDepth 100000 in
set_option maxHeartbeats 4000000 in
theorem c_i_areBetween {a : Option Addr} {n c : Nat} {x X : List Nat} {m M : Nat} (w : World) (qs : Sl w a (flts x)) (ql : x.length = n) (qk : cn x = X) (hm : can .f32 m = M) (hb : n ≤ 9223372036854775806) :
    Calls Try.prog 66 #[.slice a n c, .float .f32 m] w (Rt fun v w' => v = .bool (allI (n : Nat) (betw M X)) ∧ Ext0 w w') := by
  have E0 : Ext no w w := Ext.refl _ _
  have lo_a := Sl.low qs
  refine calls_W (n := 22) Try.func66 rfl rfl (Nat.le_of_ble_eq_true rfl) ?_
  refine W_seq ?_
  refine W_region (by kernel_rfl) ?_
  refine s_y (v := .bool false) rfl (y_assign rfl) ?_
  refine s_nil ?_
  refine W_seq ?_
  refine W_seq ?_
  refine W_region (by kernel_rfl) ?_
  refine s_y (v := .slice a n c) rfl (y_move rfl) ?_
  refine s_y (v := .int .i64 ((n : Nat) : Int)) rfl (y_len T66.sl_24_62_1 rfl rfl) ?_
  refine s_y (v := .int .i64 0) rfl (y_move rfl) ?_
  refine s_nil ?_
  refine W_block ?_
-- loop drops slots [4]
  refine W_loop (fun ρ' w' => ∃ (ρ1 : Env) (k : Int), ρ' = updL ρ1 [(1, .float .f32 m), (7, .slice a n c), (8, .int .i64 ((n : Nat) : Int)), (9, .int .i64 k)] ∧ Ext no w w' ∧ Sl w' a (flts x) ∧ (0 ≤ k) ∧ (k ≤ (n : Int)) ∧ (∀ i, 0 ≤ i → i < k → betw M X i = true)) (fun ρ' _ => ((n : Int) - iv (ρ' 9)).toNat) ?_ ?_
  · exact ⟨_, 0, Fits.eq ⟨rfl, rfl, rfl, rfl, trivial⟩, E0, qs, (Int.le_refl _), (by omega), (by intro i h0 h1; omega)⟩
  · rintro _ w1 ⟨ρ4, k, rfl, E2, hS3, h0k, h1k, hq⟩
    refine W_seq ?_
    refine W_region (by kernel_rfl) ?_
    by_cases c5 : k < ((n : Nat) : Int)
    · refine s_y (v := .bool true) rfl (y_lss rfl rfl (decide_eq_true c5)) ?_
      refine s_nil ?_
      refine W_seq ?_
      refine W_if_t (by decide) rfl ?_
      refine W_skip ?_
      refine W_seq ?_
      refine W_block ?_
      refine W_seq ?_
      refine W_region (by kernel_rfl) ?_
      refine s_y (v := .pointer (some (sat a ((k).toNat * 1)))) rfl (y_idx T66.sl_24_62_1 rfl rfl (hS3.addr (by rw [flts_length]; omega)) (by omega) (by omega)) ?_
      refine s_y (v := .float .f32 (el x k)) rfl (y_load T66.one_62 rfl (hS3.cell (fl_at (by omega) (by omega)))) ?_
      refine s_y (v := .float .f32 (el x k)) rfl (y_assign rfl) ?_
      refine s_nil ?_
      refine W_seq ?_
      refine W_region (by kernel_rfl) ?_
      refine s_y (v := .float .f32 (el x k)) rfl (y_move rfl) ?_
      by_cases c6 : fge .f32 (el X k) 0 = true
      · refine s_y (v := .bool true) rfl (y_fgeq rfl rfl (fgeC (cn_el qk k) (show can .f32 0 = 0 by kernel_rfl) c6)) ?_
        refine s_y (v := .bool true) rfl (y_move rfl) ?_
        refine s_y (v := .float .f32 (el x k)) rfl (y_move rfl) ?_
        refine s_y (v := .float .f32 m) rfl (y_move rfl) ?_
        by_cases c7 : fle .f32 (el X k) M = true
        · refine s_y (v := .bool true) rfl (y_fleq rfl rfl (fleC (cn_el qk k) hm c7)) ?_
          refine s_y (v := .bool true) rfl (y_pick_t rfl rfl) ?_
          refine s_y (v := .bool false) rfl (y_not rfl rfl) ?_
          refine s_nil ?_
          refine W_if_f (by decide) rfl ?_
          refine W_skip ?_
          refine W_region (by kernel_rfl) ?_
          refine s_y (v := .int .i64 (k + 1)) rfl (y_add rfl rfl rfl (by omega)) ?_
          refine s_y (v := .int .i64 (k + 1)) rfl (y_move rfl) ?_
          refine s_nil ?_
          refine ⟨⟨_, k + 1, Fits.eq ⟨rfl, rfl, rfl, rfl, trivial⟩, E2, hS3, (by omega), (by omega), (allI_more hq (betw_yes (by assumption) (by assumption)))⟩, ?_⟩
          show ((n : Int) - (k + 1)).toNat < ((n : Int) - k).toNat
          omega
        · refine s_y (v := .bool false) rfl (y_fleq rfl rfl (fleC (cn_el qk k) hm (Bool.eq_false_iff.2 c7))) ?_
          refine s_y (v := .bool false) rfl (y_pick_t rfl rfl) ?_
          refine s_y (v := .bool true) rfl (y_not rfl rfl) ?_
          refine s_nil ?_
          refine W_if_t (by decide) rfl ?_
          refine W_seq ?_
          refine W_region (by kernel_rfl) ?_
          refine s_y (v := .bool false) rfl (y_assign rfl) ?_
          refine s_nil ?_
          refine W_ret ?_
          refine ret1 rfl rfl rfl ⟨_, rfl, ?_⟩
          exact ⟨congrArg Value.bool (allI_false (by omega) (by omega) (by first | exact betw_no1 (by assumption) | exact betw_no2 (by assumption))).symm, E2⟩
      · refine s_y (v := .bool false) rfl (y_fgeq rfl rfl (fgeC (cn_el qk k) (show can .f32 0 = 0 by kernel_rfl) (Bool.eq_false_iff.2 c6))) ?_
        refine s_y (v := .bool false) rfl (y_move rfl) ?_
        refine s_skip rfl ?_
        refine s_skip rfl ?_
        refine s_skip rfl ?_
        refine s_y (v := .bool false) rfl (y_pick_f rfl rfl) ?_
        refine s_y (v := .bool true) rfl (y_not rfl rfl) ?_
        refine s_nil ?_
        refine W_if_t (by decide) rfl ?_
        refine W_seq ?_
        refine W_region (by kernel_rfl) ?_
        refine s_y (v := .bool false) rfl (y_assign rfl) ?_
        refine s_nil ?_
        refine W_ret ?_
        refine ret1 rfl rfl rfl ⟨_, rfl, ?_⟩
        exact ⟨congrArg Value.bool (allI_false (by omega) (by omega) (by first | exact betw_no1 (by assumption) | exact betw_no2 (by assumption))).symm, E2⟩
    · refine s_y (v := .bool false) rfl (y_lss rfl rfl (decide_eq_false c5)) ?_
      refine s_nil ?_
      refine W_seq ?_
      refine W_if_f (by decide) rfl ?_
      refine W_exit ?_
      refine W_seq ?_
      refine W_region (by kernel_rfl) ?_
      refine s_y (v := .bool true) rfl (y_assign rfl) ?_
      refine s_nil ?_
      refine W_ret ?_
      refine ret1 rfl rfl rfl ⟨_, rfl, ?_⟩
      exact ⟨congrArg Value.bool (allI_true (fun i h0 h1 => hq i h0 (by omega))).symm, E2⟩
namespace T19
theorem mx : Try.prog.follows .mixedOrders = true := by kernel_rfl
theorem fld_26_0_0 : fldB Try.prog 26 0 0 = true := by kernel_rfl
theorem fld_26_1_1 : fldB Try.prog 26 1 1 = true := by kernel_rfl
theorem fld_26_3_3 : fldB Try.prog 26 3 3 = true := by kernel_rfl
theorem fld_26_4_4 : fldB Try.prog 26 4 4 = true := by kernel_rfl
theorem fn_65 : fnB Try.prog 65 = true := by kernel_rfl
theorem fn_66 : fnB Try.prog 66 = true := by kernel_rfl
theorem one_2 : oneB Try.prog 2 = true := by kernel_rfl
theorem one_24 : oneB Try.prog 24 = true := by kernel_rfl
theorem sl_24_62_1 : slB Try.prog 24 62 1 = true := by kernel_rfl
end T19
set_option maxRecDepth 100000 in
set_option maxHeartbeats 4000000 in
theorem c_i_ValidSheet {wd hi : Int} {wr : Bool} {asp : Option Addr} {nsp csp : Nat} {xsp Xsp : List Nat} {als : Option Addr} {nls cls : Nat} {xls Xls : List Nat} (w : World) (qssp : Sl w asp (flts xsp)) (qlsp : xsp.length = nsp) (qksp : cn xsp = Xsp) (qsls : Sl w als (flts xls)) (qlls : xls.length = nls) (qkls : cn xls = Xls) (hb1 : nsp ≤ 9223372036854775806) (hb2 : nls ≤ 9223372036854775806) :
    Calls Try.prog 19 #[.agg #[.int .i64 wd, .int .i64 hi, .bool wr, .slice asp nsp csp, .slice als nls cls]] w (Rt fun v w' => v = .bool (validS wd hi Xsp Xls) ∧ Ext0 w w') := by
  have E0 : Ext no w w := Ext.refl _ _
  have hlP : Xsp.length = nsp := (cn_lenX qksp).trans qlsp
  have hlL : Xls.length = nls := (cn_lenX qkls).trans qlls
  have lo_asp := Sl.low qssp
  have lo_als := Sl.low qsls
  refine calls_W (n := 45) Try.func19 rfl rfl (Nat.le_of_ble_eq_true rfl) ?_
  refine W_seq ?_
  refine W_region (by kernel_rfl) ?_
  refine s_k rfl (k_box (v := .agg #[.int .i64 wd, .int .i64 hi, .bool wr, .slice asp nsp csp, .slice als nls cls]) (cs := [.int .i64 wd, .int .i64 hi, .bool wr, .slice asp nsp csp, .slice als nls cls]) rfl rfl (fun b1 w2 q4 e3 hB5 => ?_))
  have hS6 := qssp.ext0 e3
  have hS7 := qsls.ext0 e3
  have E8 := E0.fresh e3 (fun _ h _ => h.elim)
  have fr9 : NotLt b1 w.heap.size := fun h => Nat.not_lt.2 (Nat.le_trans E0.size (Nat.le_of_eq q4.symm)) h
  clear q4
  refine s_y (v := .bool false) rfl (y_assign rfl) ?_
  refine s_nil ?_
  refine W_seq ?_
  refine W_region (by kernel_rfl) ?_
  refine s_y (v := .pointer (some ⟨b1, 0, none⟩)) rfl (y_fld (o := 0) T19.fld_26_0_0 rfl) ?_
  refine s_y (v := .int .i64 wd) rfl (y_load T19.one_2 rfl (hB5.cell (j := 0) rfl)) ?_
  refine s_y (v := .pointer (some ⟨b1, 1, none⟩)) rfl (y_fld (o := 0) T19.fld_26_1_1 rfl) ?_
  refine s_y (v := .int .i64 hi) rfl (y_load T19.one_2 rfl (hB5.cell (j := 1) rfl)) ?_
  by_cases hr10 : -9223372036854775808 ≤ wd * hi ∧ wd * hi ≤ 9223372036854775807
  · refine s_y (v := .int .i64 (wd * hi)) rfl (y_mul rfl rfl rfl hr10) ?_
    refine s_y (v := .int .i64 (wd * hi)) rfl (y_assign rfl) ?_
    refine s_nil ?_
    refine W_seq ?_
    refine W_seq ?_
    refine W_region (by kernel_rfl) ?_
    refine s_y (v := .pointer (some ⟨b1, 0, none⟩)) rfl (y_fld (o := 0) T19.fld_26_0_0 rfl) ?_
    refine s_y (v := .int .i64 wd) rfl (y_load T19.one_2 rfl (hB5.cell (j := 0) rfl)) ?_
    refine s_k rfl (k_call T19.fn_65 (c_i_within _ _ _ _) rfl ?_)
    rintro v13 w11 ⟨hv14, e12⟩
    have hB15 := hB5.ext0 e12
    have hS16 := hS6.ext0 e12
    have hS17 := hS7.ext0 e12
    have E18 := E8.fresh e12 (fun _ h _ => h.elim)
    by_cases c19 : within wd 3 16 = true
    · have hb20 := within_b c19
      obtain rfl : v13 = .bool true := hv14.trans (congrArg Value.bool c19)
      refine s_y (v := .bool false) rfl (y_not rfl rfl) ?_
      refine s_y (v := .bool false) rfl (y_move rfl) ?_
      refine s_y (v := .pointer (some ⟨b1, 1, none⟩)) rfl (y_fld (o := 0) T19.fld_26_1_1 rfl) ?_
      refine s_y (v := .int .i64 hi) rfl (y_load T19.one_2 rfl (hB15.cell (j := 1) rfl)) ?_
      refine s_k rfl (k_call T19.fn_65 (c_i_within _ _ _ _) rfl ?_)
      rintro v23 w21 ⟨hv24, e22⟩
      have hB25 := hB15.ext0 e22
      have hS26 := hS16.ext0 e22
      have hS27 := hS17.ext0 e22
      have E28 := E18.fresh e22 (fun _ h _ => h.elim)
      by_cases c29 : within hi 3 16 = true
      · have hb30 := within_b c29
        obtain rfl : v23 = .bool true := hv24.trans (congrArg Value.bool c29)
        refine s_y (v := .bool false) rfl (y_not rfl rfl) ?_
        refine s_y (v := .bool false) rfl (y_pick_f rfl rfl) ?_
        refine s_y (v := .bool false) rfl (y_move rfl) ?_
        refine s_y (v := .int .i64 (wd * hi)) rfl (y_move rfl) ?_
        have hk31 : ¬ (256 < (wd * hi)) := (by have hz := mul16 (And.intro (within_b c19) (within_b c29)); omega)
        refine s_y (v := .bool false) rfl (y_gtr rfl rfl (decide_eq_false hk31)) ?_
        refine s_y (v := .bool false) rfl (y_pick_f rfl rfl) ?_
        refine s_nil ?_
        refine W_if_f (by decide) rfl ?_
        refine W_skip ?_
        refine W_seq ?_
        refine W_region (by kernel_rfl) ?_
        refine s_y (v := .pointer (some ⟨b1, 3, none⟩)) rfl (y_fld (o := 0) T19.fld_26_3_3 rfl) ?_
        refine s_y (v := .slice asp nsp csp) rfl (y_load T19.one_24 rfl (hB25.cell (j := 3) rfl)) ?_
        refine s_y (v := .int .i64 ((nsp : Nat) : Int)) rfl (y_len T19.sl_24_62_1 rfl rfl) ?_
        refine s_y (v := .int .i64 (wd * hi)) rfl (y_move rfl) ?_
        by_cases c32 : ((nsp : Nat) : Int) = (wd * hi)
        · refine s_y (v := .bool true) rfl (y_eql rfl rfl (decide_eq_true c32)) ?_
          refine s_y (v := .bool true) rfl (y_move rfl) ?_
          refine s_y (v := .pointer (some ⟨b1, 4, none⟩)) rfl (y_fld (o := 0) T19.fld_26_4_4 rfl) ?_
          refine s_y (v := .slice als nls cls) rfl (y_load T19.one_24 rfl (hB25.cell (j := 4) rfl)) ?_
          refine s_y (v := .int .i64 ((nls : Nat) : Int)) rfl (y_len T19.sl_24_62_1 rfl rfl) ?_
          refine s_y (v := .int .i64 (wd * hi)) rfl (y_move rfl) ?_
          by_cases c33 : ((nls : Nat) : Int) = (wd * hi)
          · refine s_y (v := .bool true) rfl (y_eql rfl rfl (decide_eq_true c33)) ?_
            refine s_y (v := .bool true) rfl (y_pick_t rfl rfl) ?_
            refine s_y (v := .bool true) rfl (y_move rfl) ?_
            refine s_y (v := .pointer (some ⟨b1, 3, none⟩)) rfl (y_fld (o := 0) T19.fld_26_3_3 rfl) ?_
            refine s_y (v := .slice asp nsp csp) rfl (y_load T19.one_24 rfl (hB25.cell (j := 3) rfl)) ?_
            refine s_k rfl (k_call T19.fn_66 (c_i_areBetween _ hS26 qlsp qksp (show can .f32 1056964608 = 1056964608 by kernel_rfl) (by omega)) rfl ?_)
            rintro v36 w34 ⟨hv37, e35⟩
            have hB38 := hB25.ext0 e35
            have hS39 := hS26.ext0 e35
            have hS40 := hS27.ext0 e35
            have E41 := E28.fresh e35 (fun _ h _ => h.elim)
            by_cases c42 : allI (nsp : Nat) (betw 1056964608 Xsp) = true
            · obtain rfl : v36 = .bool true := hv37.trans (congrArg Value.bool c42)
              refine s_y (v := .bool true) rfl (y_pick_t rfl rfl) ?_
              refine s_y (v := .bool true) rfl (y_move rfl) ?_
              refine s_y (v := .pointer (some ⟨b1, 4, none⟩)) rfl (y_fld (o := 0) T19.fld_26_4_4 rfl) ?_
              refine s_y (v := .slice als nls cls) rfl (y_load T19.one_24 rfl (hB38.cell (j := 4) rfl)) ?_
              refine s_k rfl (k_call T19.fn_66 (c_i_areBetween _ hS40 qlls qkls (show can .f32 1065353216 = 1065353216 by kernel_rfl) (by omega)) rfl ?_)
              rintro v45 w43 ⟨hv46, e44⟩
              have hB47 := hB38.ext0 e44
              have hS48 := hS39.ext0 e44
              have hS49 := hS40.ext0 e44
              have E50 := E41.fresh e44 (fun _ h _ => h.elim)
              by_cases c51 : allI (nls : Nat) (betw 1065353216 Xls) = true
              · obtain rfl : v45 = .bool true := hv46.trans (congrArg Value.bool c51)
                refine s_y (v := .bool true) rfl (y_pick_t rfl rfl) ?_
                refine s_y (v := .bool true) rfl (y_assign rfl) ?_
                refine s_nil ?_
                refine W_ret ?_
                refine ret1 rfl rfl rfl ⟨_, rfl, ?_⟩
                exact ⟨congrArg Value.bool (by simp only [validS_eq hlP hlL, c19, c29, (decide_eq_false hk31), (decide_eq_true c32), (decide_eq_true c33), c42, c51, Bool.and_true, Bool.true_and, Bool.and_false, Bool.false_and, Bool.not_true, Bool.not_false, Bool.or_true, Bool.true_or, Bool.or_false, Bool.false_or]), E50⟩
              · obtain rfl : v45 = .bool false := hv46.trans (congrArg Value.bool (Bool.eq_false_iff.2 c51))
                refine s_y (v := .bool false) rfl (y_pick_t rfl rfl) ?_
                refine s_y (v := .bool false) rfl (y_assign rfl) ?_
                refine s_nil ?_
                refine W_ret ?_
                refine ret1 rfl rfl rfl ⟨_, rfl, ?_⟩
                exact ⟨congrArg Value.bool (by simp only [validS_eq hlP hlL, c19, c29, (decide_eq_false hk31), (decide_eq_true c32), (decide_eq_true c33), c42, (Bool.eq_false_iff.2 c51), Bool.and_true, Bool.true_and, Bool.and_false, Bool.false_and, Bool.not_true, Bool.not_false, Bool.or_true, Bool.true_or, Bool.or_false, Bool.false_or]), E50⟩
            · obtain rfl : v36 = .bool false := hv37.trans (congrArg Value.bool (Bool.eq_false_iff.2 c42))
              refine s_y (v := .bool false) rfl (y_pick_t rfl rfl) ?_
              refine s_y (v := .bool false) rfl (y_move rfl) ?_
              refine s_skip rfl ?_
              refine s_skip rfl ?_
              refine s_skip rfl ?_
              refine s_y (v := .bool false) rfl (y_pick_f rfl rfl) ?_
              refine s_y (v := .bool false) rfl (y_assign rfl) ?_
              refine s_nil ?_
              refine W_ret ?_
              refine ret1 rfl rfl rfl ⟨_, rfl, ?_⟩
              exact ⟨congrArg Value.bool (by simp only [validS_eq hlP hlL, c19, c29, (decide_eq_false hk31), (decide_eq_true c32), (decide_eq_true c33), (Bool.eq_false_iff.2 c42), Bool.and_true, Bool.true_and, Bool.and_false, Bool.false_and, Bool.not_true, Bool.not_false, Bool.or_true, Bool.true_or, Bool.or_false, Bool.false_or]), E41⟩
          · refine s_y (v := .bool false) rfl (y_eql rfl rfl (decide_eq_false c33)) ?_
            refine s_y (v := .bool false) rfl (y_pick_t rfl rfl) ?_
            refine s_y (v := .bool false) rfl (y_move rfl) ?_
            refine s_skip rfl ?_
            refine s_skip rfl ?_
            refine s_skip rfl ?_
            refine s_y (v := .bool false) rfl (y_pick_f rfl rfl) ?_
            refine s_y (v := .bool false) rfl (y_move rfl) ?_
            refine s_skip rfl ?_
            refine s_skip rfl ?_
            refine s_skip rfl ?_
            refine s_y (v := .bool false) rfl (y_pick_f rfl rfl) ?_
            refine s_y (v := .bool false) rfl (y_assign rfl) ?_
            refine s_nil ?_
            refine W_ret ?_
            refine ret1 rfl rfl rfl ⟨_, rfl, ?_⟩
            exact ⟨congrArg Value.bool (by simp only [validS_eq hlP hlL, c19, c29, (decide_eq_false hk31), (decide_eq_true c32), (decide_eq_false c33), Bool.and_true, Bool.true_and, Bool.and_false, Bool.false_and, Bool.not_true, Bool.not_false, Bool.or_true, Bool.true_or, Bool.or_false, Bool.false_or]), E28⟩
        · refine s_y (v := .bool false) rfl (y_eql rfl rfl (decide_eq_false c32)) ?_
          refine s_y (v := .bool false) rfl (y_move rfl) ?_
          refine s_skip rfl ?_
          refine s_skip rfl ?_
          refine s_skip rfl ?_
          refine s_skip rfl ?_
          refine s_skip rfl ?_
          refine s_y (v := .bool false) rfl (y_pick_f rfl rfl) ?_
          refine s_y (v := .bool false) rfl (y_move rfl) ?_
          refine s_skip rfl ?_
          refine s_skip rfl ?_
          refine s_skip rfl ?_
          refine s_y (v := .bool false) rfl (y_pick_f rfl rfl) ?_
          refine s_y (v := .bool false) rfl (y_move rfl) ?_
          refine s_skip rfl ?_
          refine s_skip rfl ?_
          refine s_skip rfl ?_
          refine s_y (v := .bool false) rfl (y_pick_f rfl rfl) ?_
          refine s_y (v := .bool false) rfl (y_assign rfl) ?_
          refine s_nil ?_
          refine W_ret ?_
          refine ret1 rfl rfl rfl ⟨_, rfl, ?_⟩
          exact ⟨congrArg Value.bool (by simp only [validS_eq hlP hlL, c19, c29, (decide_eq_false hk31), (decide_eq_false c32), Bool.and_true, Bool.true_and, Bool.and_false, Bool.false_and, Bool.not_true, Bool.not_false, Bool.or_true, Bool.true_or, Bool.or_false, Bool.false_or]), E28⟩
      · obtain rfl : v23 = .bool false := hv24.trans (congrArg Value.bool (Bool.eq_false_iff.2 c29))
        refine s_y (v := .bool true) rfl (y_not rfl rfl) ?_
        refine s_y (v := .bool true) rfl (y_pick_f rfl rfl) ?_
        refine s_y (v := .bool true) rfl (y_move rfl) ?_
        refine s_skip rfl ?_
        refine s_skip rfl ?_
        refine s_y (v := .bool true) rfl (y_pick_t rfl rfl) ?_
        refine s_nil ?_
        refine W_if_t (by decide) rfl ?_
        refine W_seq ?_
        refine W_region (by kernel_rfl) ?_
        refine s_y (v := .bool false) rfl (y_assign rfl) ?_
        refine s_nil ?_
        refine W_ret ?_
        refine ret1 rfl rfl rfl ⟨_, rfl, ?_⟩
        exact ⟨congrArg Value.bool (by simp only [validS_eq hlP hlL, c19, (Bool.eq_false_iff.2 c29), Bool.and_true, Bool.true_and, Bool.and_false, Bool.false_and, Bool.not_true, Bool.not_false, Bool.or_true, Bool.true_or, Bool.or_false, Bool.false_or]), E28⟩
    · obtain rfl : v13 = .bool false := hv14.trans (congrArg Value.bool (Bool.eq_false_iff.2 c19))
      refine s_y (v := .bool true) rfl (y_not rfl rfl) ?_
      refine s_y (v := .bool true) rfl (y_move rfl) ?_
      refine s_skip rfl ?_
      refine s_skip rfl ?_
      refine s_skip rfl ?_
      refine s_skip rfl ?_
      refine s_y (v := .bool true) rfl (y_pick_t rfl rfl) ?_
      refine s_y (v := .bool true) rfl (y_move rfl) ?_
      refine s_skip rfl ?_
      refine s_skip rfl ?_
      refine s_y (v := .bool true) rfl (y_pick_t rfl rfl) ?_
      refine s_nil ?_
      refine W_if_t (by decide) rfl ?_
      refine W_seq ?_
      refine W_region (by kernel_rfl) ?_
      refine s_y (v := .bool false) rfl (y_assign rfl) ?_
      refine s_nil ?_
      refine W_ret ?_
      refine ret1 rfl rfl rfl ⟨_, rfl, ?_⟩
      exact ⟨congrArg Value.bool (by simp only [validS_eq hlP hlL, (Bool.eq_false_iff.2 c19), Bool.and_true, Bool.true_and, Bool.and_false, Bool.false_and, Bool.not_true, Bool.not_false, Bool.or_true, Bool.true_or, Bool.or_false, Bool.false_or]), E18⟩
  · have hw52 := wrap64_b (wd * hi)
    refine s_y (v := .int .i64 (IntKind.i64.wrap (wd * hi))) rfl (y_mulw rfl rfl) ?_
    refine s_y (v := .int .i64 (IntKind.i64.wrap (wd * hi))) rfl (y_assign rfl) ?_
    refine s_nil ?_
    refine W_seq ?_
    refine W_seq ?_
    refine W_region (by kernel_rfl) ?_
    refine s_y (v := .pointer (some ⟨b1, 0, none⟩)) rfl (y_fld (o := 0) T19.fld_26_0_0 rfl) ?_
    refine s_y (v := .int .i64 wd) rfl (y_load T19.one_2 rfl (hB5.cell (j := 0) rfl)) ?_
    refine s_k rfl (k_call T19.fn_65 (c_i_within _ _ _ _) rfl ?_)
    rintro v55 w53 ⟨hv56, e54⟩
    have hB57 := hB5.ext0 e54
    have hS58 := hS6.ext0 e54
    have hS59 := hS7.ext0 e54
    have E60 := E8.fresh e54 (fun _ h _ => h.elim)
    by_cases c61 : within wd 3 16 = true
    · have hb62 := within_b c61
      obtain rfl : v55 = .bool true := hv56.trans (congrArg Value.bool c61)
      refine s_y (v := .bool false) rfl (y_not rfl rfl) ?_
      refine s_y (v := .bool false) rfl (y_move rfl) ?_
      refine s_y (v := .pointer (some ⟨b1, 1, none⟩)) rfl (y_fld (o := 0) T19.fld_26_1_1 rfl) ?_
      refine s_y (v := .int .i64 hi) rfl (y_load T19.one_2 rfl (hB57.cell (j := 1) rfl)) ?_
      refine s_k rfl (k_call T19.fn_65 (c_i_within _ _ _ _) rfl ?_)
      rintro v65 w63 ⟨hv66, e64⟩
      have hB67 := hB57.ext0 e64
      have hS68 := hS58.ext0 e64
      have hS69 := hS59.ext0 e64
      have E70 := E60.fresh e64 (fun _ h _ => h.elim)
      have hk71 : ¬ (within hi 3 16 = true) := (fun hq => by have hz := mul16 (And.intro (within_b c61) (within_b hq)); omega)
      obtain rfl : v65 = .bool false := hv66.trans (congrArg Value.bool (Bool.eq_false_iff.2 hk71))
      refine s_y (v := .bool true) rfl (y_not rfl rfl) ?_
      refine s_y (v := .bool true) rfl (y_pick_f rfl rfl) ?_
      refine s_y (v := .bool true) rfl (y_move rfl) ?_
      refine s_skip rfl ?_
      refine s_skip rfl ?_
      refine s_y (v := .bool true) rfl (y_pick_t rfl rfl) ?_
      refine s_nil ?_
      refine W_if_t (by decide) rfl ?_
      refine W_seq ?_
      refine W_region (by kernel_rfl) ?_
      refine s_y (v := .bool false) rfl (y_assign rfl) ?_
      refine s_nil ?_
      refine W_ret ?_
      refine ret1 rfl rfl rfl ⟨_, rfl, ?_⟩
      exact ⟨congrArg Value.bool (by simp only [validS_eq hlP hlL, c61, (Bool.eq_false_iff.2 hk71), Bool.and_true, Bool.true_and, Bool.and_false, Bool.false_and, Bool.not_true, Bool.not_false, Bool.or_true, Bool.true_or, Bool.or_false, Bool.false_or]), E70⟩
    · obtain rfl : v55 = .bool false := hv56.trans (congrArg Value.bool (Bool.eq_false_iff.2 c61))
      refine s_y (v := .bool true) rfl (y_not rfl rfl) ?_
      refine s_y (v := .bool true) rfl (y_move rfl) ?_
      refine s_skip rfl ?_
      refine s_skip rfl ?_
      refine s_skip rfl ?_
      refine s_skip rfl ?_
      refine s_y (v := .bool true) rfl (y_pick_t rfl rfl) ?_
      refine s_y (v := .bool true) rfl (y_move rfl) ?_
      refine s_skip rfl ?_
      refine s_skip rfl ?_
      refine s_y (v := .bool true) rfl (y_pick_t rfl rfl) ?_
      refine s_nil ?_
      refine W_if_t (by decide) rfl ?_
      refine W_seq ?_
      refine W_region (by kernel_rfl) ?_
      refine s_y (v := .bool false) rfl (y_assign rfl) ?_
      refine s_nil ?_
      refine W_ret ?_
      refine ret1 rfl rfl rfl ⟨_, rfl, ?_⟩
      exact ⟨congrArg Value.bool (by simp only [validS_eq hlP hlL, (Bool.eq_false_iff.2 c61), Bool.and_true, Bool.true_and, Bool.and_false, Bool.false_and, Bool.not_true, Bool.not_false, Bool.or_true, Bool.true_or, Bool.or_false, Bool.false_or]), E60⟩
namespace T67
theorem mx : Try.prog.follows .mixedOrders = true := by kernel_rfl
theorem fld_26_0_0 : fldB Try.prog 26 0 0 = true := by kernel_rfl
theorem fld_26_1_1 : fldB Try.prog 26 1 1 = true := by kernel_rfl
theorem fn_65 : fnB Try.prog 65 = true := by kernel_rfl
theorem one_2 : oneB Try.prog 2 = true := by kernel_rfl
end T67
set_option maxRecDepth 100000 in
set_option maxHeartbeats 4000000 in
theorem c_i_isCell {wd hi : Int} {wr : Bool} {asp als : Option Addr} {nsp nls csp cls : Nat} {x : Int} {y : Int} (w : World) (h1 : 3 ≤ wd) (h2 : wd ≤ 16) (h3 : 3 ≤ hi) (h4 : hi ≤ 16) :
    Calls Try.prog 67 #[.agg #[.int .i64 wd, .int .i64 hi, .bool wr, .slice asp nsp csp, .slice als nls cls], .int .i64 x, .int .i64 y] w (Rt fun v w' => v = .bool (cellB wd hi x y) ∧ Ext0 w w') := by
  have E0 : Ext no w w := Ext.refl _ _
  refine calls_W (n := 19) Try.func67 rfl rfl (Nat.le_of_ble_eq_true rfl) ?_
  refine W_seq ?_
  refine W_region (by kernel_rfl) ?_
  refine s_k rfl (k_box (v := .agg #[.int .i64 wd, .int .i64 hi, .bool wr, .slice asp nsp csp, .slice als nls cls]) (cs := [.int .i64 wd, .int .i64 hi, .bool wr, .slice asp nsp csp, .slice als nls cls]) rfl rfl (fun b1 w2 q4 e3 hB5 => ?_))
  have E6 := E0.fresh e3 (fun _ h _ => h.elim)
  have fr7 : NotLt b1 w.heap.size := fun h => Nat.not_lt.2 (Nat.le_trans E0.size (Nat.le_of_eq q4.symm)) h
  clear q4
  refine s_y (v := .bool false) rfl (y_assign rfl) ?_
  refine s_nil ?_
  refine W_seq ?_
  refine W_region (by kernel_rfl) ?_
  refine s_y (v := .int .i64 x) rfl (y_move rfl) ?_
  refine s_y (v := .pointer (some ⟨b1, 0, none⟩)) rfl (y_fld (o := 0) T67.fld_26_0_0 rfl) ?_
  refine s_y (v := .int .i64 wd) rfl (y_load T67.one_2 rfl (hB5.cell (j := 0) rfl)) ?_
  refine s_y (v := .int .i64 (wd - 1)) rfl (y_sub rfl rfl rfl (by omega)) ?_
  refine s_k rfl (k_call T67.fn_65 (c_i_within _ _ _ _) rfl ?_)
  rintro v10 w8 ⟨hv11, e9⟩
  have hB12 := hB5.ext0 e9
  have E13 := E6.fresh e9 (fun _ h _ => h.elim)
  by_cases c14 : within x 0 (wd - 1) = true
  · have hb15 := within_b c14
    obtain rfl : v10 = .bool true := hv11.trans (congrArg Value.bool c14)
    refine s_y (v := .bool true) rfl (y_move rfl) ?_
    refine s_y (v := .int .i64 y) rfl (y_move rfl) ?_
    refine s_y (v := .pointer (some ⟨b1, 1, none⟩)) rfl (y_fld (o := 0) T67.fld_26_1_1 rfl) ?_
    refine s_y (v := .int .i64 hi) rfl (y_load T67.one_2 rfl (hB12.cell (j := 1) rfl)) ?_
    refine s_y (v := .int .i64 (hi - 1)) rfl (y_sub rfl rfl rfl (by omega)) ?_
    refine s_k rfl (k_call T67.fn_65 (c_i_within _ _ _ _) rfl ?_)
    rintro v18 w16 ⟨hv19, e17⟩
    have hB20 := hB12.ext0 e17
    have E21 := E13.fresh e17 (fun _ h _ => h.elim)
    by_cases c22 : within y 0 (hi - 1) = true
    · have hb23 := within_b c22
      obtain rfl : v18 = .bool true := hv19.trans (congrArg Value.bool c22)
      refine s_y (v := .bool true) rfl (y_pick_t rfl rfl) ?_
      refine s_y (v := .bool true) rfl (y_assign rfl) ?_
      refine s_nil ?_
      refine W_ret ?_
      refine ret1 rfl rfl rfl ⟨_, rfl, ?_⟩
      exact ⟨congrArg Value.bool (by simp only [cellB, c14, c22, Bool.and_true, Bool.true_and, Bool.and_false, Bool.false_and, Bool.not_true, Bool.not_false, Bool.or_true, Bool.true_or, Bool.or_false, Bool.false_or]), E21⟩
    · obtain rfl : v18 = .bool false := hv19.trans (congrArg Value.bool (Bool.eq_false_iff.2 c22))
      refine s_y (v := .bool false) rfl (y_pick_t rfl rfl) ?_
      refine s_y (v := .bool false) rfl (y_assign rfl) ?_
      refine s_nil ?_
      refine W_ret ?_
      refine ret1 rfl rfl rfl ⟨_, rfl, ?_⟩
      exact ⟨congrArg Value.bool (by simp only [cellB, c14, (Bool.eq_false_iff.2 c22), Bool.and_true, Bool.true_and, Bool.and_false, Bool.false_and, Bool.not_true, Bool.not_false, Bool.or_true, Bool.true_or, Bool.or_false, Bool.false_or]), E21⟩
  · obtain rfl : v10 = .bool false := hv11.trans (congrArg Value.bool (Bool.eq_false_iff.2 c14))
    refine s_y (v := .bool false) rfl (y_move rfl) ?_
    refine s_skip rfl ?_
    refine s_skip rfl ?_
    refine s_skip rfl ?_
    refine s_skip rfl ?_
    refine s_skip rfl ?_
    refine s_y (v := .bool false) rfl (y_pick_f rfl rfl) ?_
    refine s_y (v := .bool false) rfl (y_assign rfl) ?_
    refine s_nil ?_
    refine W_ret ?_
    refine ret1 rfl rfl rfl ⟨_, rfl, ?_⟩
    exact ⟨congrArg Value.bool (by simp only [cellB, (Bool.eq_false_iff.2 c14), Bool.and_true, Bool.true_and, Bool.and_false, Bool.false_and, Bool.not_true, Bool.not_false, Bool.or_true, Bool.true_or, Bool.or_false, Bool.false_or]), E13⟩
namespace T64
theorem mx : Try.prog.follows .mixedOrders = true := by kernel_rfl
theorem agg_26_5 : aggB Try.prog 26 5 = true := by kernel_rfl
theorem fn_19 : fnB Try.prog 19 = true := by kernel_rfl
theorem fn_67 : fnB Try.prog 67 = true := by kernel_rfl
end T64
set_option maxRecDepth 100000 in
set_option maxHeartbeats 4000000 in
theorem c_i_isValidCell {wd hi : Int} {wr : Bool} {asp : Option Addr} {nsp csp : Nat} {xsp Xsp : List Nat} {als : Option Addr} {nls cls : Nat} {xls Xls : List Nat} {x : Int} {y : Int} (w : World) (qssp : Sl w asp (flts xsp)) (qlsp : xsp.length = nsp) (qksp : cn xsp = Xsp) (qsls : Sl w als (flts xls)) (qlls : xls.length = nls) (qkls : cn xls = Xls) (hb1 : nsp ≤ 9223372036854775806) (hb2 : nls ≤ 9223372036854775806) :
    Calls Try.prog 64 #[.agg #[.int .i64 wd, .int .i64 hi, .bool wr, .slice asp nsp csp, .slice als nls cls], .int .i64 x, .int .i64 y] w (Rt fun v w' => v = .bool (vcellB wd hi Xsp Xls x y) ∧ Ext0 w w') := by
  have E0 : Ext no w w := Ext.refl _ _
  have hlP : Xsp.length = nsp := (cn_lenX qksp).trans qlsp
  have hlL : Xls.length = nls := (cn_lenX qkls).trans qlls
  have lo_asp := Sl.low qssp
  have lo_als := Sl.low qsls
  refine calls_W (n := 15) Try.func64 rfl rfl (Nat.le_of_ble_eq_true rfl) ?_
  refine W_seq ?_
  refine W_region (by kernel_rfl) ?_
  refine s_k rfl (k_box (v := .agg #[.int .i64 wd, .int .i64 hi, .bool wr, .slice asp nsp csp, .slice als nls cls]) (cs := [.int .i64 wd, .int .i64 hi, .bool wr, .slice asp nsp csp, .slice als nls cls]) rfl rfl (fun b1 w2 q4 e3 hB5 => ?_))
  have hS6 := qssp.ext0 e3
  have hS7 := qsls.ext0 e3
  have E8 := E0.fresh e3 (fun _ h _ => h.elim)
  have fr9 : NotLt b1 w.heap.size := fun h => Nat.not_lt.2 (Nat.le_trans E0.size (Nat.le_of_eq q4.symm)) h
  clear q4
  refine s_y (v := .bool false) rfl (y_assign rfl) ?_
  refine s_nil ?_
  refine W_seq ?_
  refine W_region (by kernel_rfl) ?_
  refine s_y (v := .agg #[.int .i64 wd, .int .i64 hi, .bool wr, .slice asp nsp csp, .slice als nls cls]) rfl (y_loadn (b := b1) (o := 0) (vs := [.int .i64 wd, .int .i64 hi, .bool wr, .slice asp nsp csp, .slice als nls cls]) T64.agg_26_5 rfl rfl (hB5.cells (o := 0) rfl)) ?_
  refine s_k rfl (k_call T64.fn_19 (c_i_ValidSheet _ hS6 qlsp qksp hS7 qlls qkls (by omega) (by omega)) rfl ?_)
  rintro v12 w10 ⟨hv13, e11⟩
  have hB14 := hB5.ext0 e11
  have hS15 := hS6.ext0 e11
  have hS16 := hS7.ext0 e11
  have E17 := E8.fresh e11 (fun _ h _ => h.elim)
  by_cases c18 : validS wd hi Xsp Xls = true
  · have hb19 := validS_b c18
    obtain rfl : v12 = .bool true := hv13.trans (congrArg Value.bool c18)
    refine s_y (v := .bool true) rfl (y_move rfl) ?_
    refine s_y (v := .agg #[.int .i64 wd, .int .i64 hi, .bool wr, .slice asp nsp csp, .slice als nls cls]) rfl (y_loadn (b := b1) (o := 0) (vs := [.int .i64 wd, .int .i64 hi, .bool wr, .slice asp nsp csp, .slice als nls cls]) T64.agg_26_5 rfl rfl (hB14.cells (o := 0) rfl)) ?_
    refine s_y (v := .int .i64 x) rfl (y_move rfl) ?_
    refine s_y (v := .int .i64 y) rfl (y_move rfl) ?_
    refine s_k rfl (k_call T64.fn_67 (c_i_isCell _ (by omega) (by omega) (by omega) (by omega)) rfl ?_)
    rintro v22 w20 ⟨hv23, e21⟩
    have hB24 := hB14.ext0 e21
    have hS25 := hS15.ext0 e21
    have hS26 := hS16.ext0 e21
    have E27 := E17.fresh e21 (fun _ h _ => h.elim)
    by_cases c28 : cellB wd hi x y = true
    · have hb29 := cellB_b c28
      obtain rfl : v22 = .bool true := hv23.trans (congrArg Value.bool c28)
      refine s_y (v := .bool true) rfl (y_pick_t rfl rfl) ?_
      refine s_y (v := .bool true) rfl (y_assign rfl) ?_
      refine s_nil ?_
      refine W_ret ?_
      refine ret1 rfl rfl rfl ⟨_, rfl, ?_⟩
      exact ⟨congrArg Value.bool (by simp only [vcellB, c18, c28, Bool.and_true, Bool.true_and, Bool.and_false, Bool.false_and, Bool.not_true, Bool.not_false, Bool.or_true, Bool.true_or, Bool.or_false, Bool.false_or]), E27⟩
    · obtain rfl : v22 = .bool false := hv23.trans (congrArg Value.bool (Bool.eq_false_iff.2 c28))
      refine s_y (v := .bool false) rfl (y_pick_t rfl rfl) ?_
      refine s_y (v := .bool false) rfl (y_assign rfl) ?_
      refine s_nil ?_
      refine W_ret ?_
      refine ret1 rfl rfl rfl ⟨_, rfl, ?_⟩
      exact ⟨congrArg Value.bool (by simp only [vcellB, c18, (Bool.eq_false_iff.2 c28), Bool.and_true, Bool.true_and, Bool.and_false, Bool.false_and, Bool.not_true, Bool.not_false, Bool.or_true, Bool.true_or, Bool.or_false, Bool.false_or]), E27⟩
  · obtain rfl : v12 = .bool false := hv13.trans (congrArg Value.bool (Bool.eq_false_iff.2 c18))
    refine s_y (v := .bool false) rfl (y_move rfl) ?_
    refine s_skip rfl ?_
    refine s_skip rfl ?_
    refine s_skip rfl ?_
    refine s_skip rfl ?_
    refine s_y (v := .bool false) rfl (y_pick_f rfl rfl) ?_
    refine s_y (v := .bool false) rfl (y_assign rfl) ?_
    refine s_nil ?_
    refine W_ret ?_
    refine ret1 rfl rfl rfl ⟨_, rfl, ?_⟩
    exact ⟨congrArg Value.bool (by simp only [vcellB, (Bool.eq_false_iff.2 c18), Bool.and_true, Bool.true_and, Bool.and_false, Bool.false_and, Bool.not_true, Bool.not_false, Bool.or_true, Bool.true_or, Bool.or_false, Bool.false_or]), E17⟩
namespace T95
theorem mx : Try.prog.follows .mixedOrders = true := by kernel_rfl
theorem fld_26_2_2 : fldB Try.prog 26 2 2 = true := by kernel_rfl
theorem one_4 : oneB Try.prog 4 = true := by kernel_rfl
end T95
set_option maxRecDepth 100000 in
set_option maxHeartbeats 4000000 in
theorem c_i_wayAlong {wd hi : Int} {wr : Bool} {asp als : Option Addr} {nsp nls csp cls : Nat} {a b sd : Int} (w : World) (h1 : 0 ≤ a) (h2 : a < sd) (h3 : 0 ≤ b) (h4 : b < sd) (h5 : sd ≤ 1000) :
    Calls Try.prog 95 #[.agg #[.int .i64 wd, .int .i64 hi, .bool wr, .slice asp nsp csp, .slice als nls cls], .int .i64 a, .int .i64 b, .int .i64 sd] w (Rt fun v w' => v = .int .i64 (wayI wr a b sd) ∧ Ext0 w w') := by
  have E0 : Ext no w w := Ext.refl _ _
  refine calls_W (n := 25) Try.func95 rfl rfl (Nat.le_of_ble_eq_true rfl) ?_
  refine W_seq ?_
  refine W_region (by kernel_rfl) ?_
  refine s_k rfl (k_box (v := .agg #[.int .i64 wd, .int .i64 hi, .bool wr, .slice asp nsp csp, .slice als nls cls]) (cs := [.int .i64 wd, .int .i64 hi, .bool wr, .slice asp nsp csp, .slice als nls cls]) rfl rfl (fun b1 w2 q4 e3 hB5 => ?_))
  have E6 := E0.fresh e3 (fun _ h _ => h.elim)
  have fr7 : NotLt b1 w.heap.size := fun h => Nat.not_lt.2 (Nat.le_trans E0.size (Nat.le_of_eq q4.symm)) h
  clear q4
  refine s_y (v := .int .i64 0) rfl (y_assign rfl) ?_
  refine s_nil ?_
  refine W_seq ?_
  refine W_region (by kernel_rfl) ?_
  refine s_y (v := .int .i64 a) rfl (y_move rfl) ?_
  refine s_y (v := .int .i64 b) rfl (y_move rfl) ?_
  refine s_y (v := .int .i64 (a - b)) rfl (y_sub rfl rfl rfl (by omega)) ?_
  refine s_y (v := .int .i64 b) rfl (y_move rfl) ?_
  refine s_y (v := .int .i64 a) rfl (y_move rfl) ?_
  refine s_y (v := .int .i64 (b - a)) rfl (y_sub rfl rfl rfl (by omega)) ?_
  refine s_y (v := .int .i64 (max (a - b) (b - a))) rfl (y_max2 rfl rfl rfl) ?_
  refine s_y (v := .int .i64 (max (a - b) (b - a))) rfl (y_assign rfl) ?_
  refine s_nil ?_
  refine W_seq ?_
  refine W_seq ?_
  refine W_region (by kernel_rfl) ?_
  refine s_y (v := .pointer (some ⟨b1, 2, none⟩)) rfl (y_fld (o := 0) T95.fld_26_2_2 rfl) ?_
  refine s_y (v := .bool wr) rfl (y_load T95.one_4 rfl (hB5.cell (j := 2) rfl)) ?_
  refine s_nil ?_
  cases wr
  · refine W_if_f (by decide) rfl ?_
    refine W_skip ?_
    refine W_seq ?_
    refine W_region (by kernel_rfl) ?_
    refine s_y (v := .int .i64 (max (a - b) (b - a))) rfl (y_move rfl) ?_
    refine s_y (v := .int .i64 (max (a - b) (b - a))) rfl (y_assign rfl) ?_
    refine s_nil ?_
    refine W_ret ?_
    refine ret1 rfl rfl rfl ⟨_, rfl, ?_⟩
    exact ⟨congrArg (Value.int .i64) (by simp only [wayI, if_true, Bool.false_eq_true, if_false]), E6⟩
  · refine W_if_t (by decide) rfl ?_
    refine W_region (by kernel_rfl) ?_
    refine s_y (v := .int .i64 (max (a - b) (b - a))) rfl (y_move rfl) ?_
    refine s_y (v := .int .i64 sd) rfl (y_move rfl) ?_
    refine s_y (v := .int .i64 (max (a - b) (b - a))) rfl (y_move rfl) ?_
    refine s_y (v := .int .i64 (sd - (max (a - b) (b - a)))) rfl (y_sub rfl rfl rfl (by omega)) ?_
    refine s_y (v := .int .i64 (min (max (a - b) (b - a)) (sd - (max (a - b) (b - a))))) rfl (y_min2 rfl rfl rfl) ?_
    refine s_y (v := .int .i64 (min (max (a - b) (b - a)) (sd - (max (a - b) (b - a))))) rfl (y_assign rfl) ?_
    refine s_nil ?_
    refine W_seq ?_
    refine W_region (by kernel_rfl) ?_
    refine s_y (v := .int .i64 (min (max (a - b) (b - a)) (sd - (max (a - b) (b - a))))) rfl (y_move rfl) ?_
    refine s_y (v := .int .i64 (min (max (a - b) (b - a)) (sd - (max (a - b) (b - a))))) rfl (y_assign rfl) ?_
    refine s_nil ?_
    refine W_ret ?_
    refine ret1 rfl rfl rfl ⟨_, rfl, ?_⟩
    exact ⟨congrArg (Value.int .i64) (by simp only [wayI, if_true, Bool.false_eq_true, if_false]), E6⟩
namespace T94
theorem mx : Try.prog.follows .mixedOrders = true := by kernel_rfl
theorem agg_26_5 : aggB Try.prog 26 5 = true := by kernel_rfl
theorem fld_26_0_0 : fldB Try.prog 26 0 0 = true := by kernel_rfl
theorem fld_26_1_1 : fldB Try.prog 26 1 1 = true := by kernel_rfl
theorem fn_95 : fnB Try.prog 95 = true := by kernel_rfl
theorem one_2 : oneB Try.prog 2 = true := by kernel_rfl
end T94
set_option maxRecDepth 100000 in
set_option maxHeartbeats 4000000 in
theorem c_i_ReachOf_1 {wd hi : Int} {wr : Bool} {asp als : Option Addr} {nsp nls csp cls : Nat} {x y sp u u2 : Int} {b1 b2 b3 b4 : Nat} (w : World) (pb1 : Sl w (some ⟨b1, 0, none⟩) [.int .i64 wd, .int .i64 hi, .bool wr, .slice asp nsp csp, .slice als nls cls]) (pb2 : Sl w (some ⟨b2, 0, none⟩) [.int .i64 x]) (pb3 : Sl w (some ⟨b3, 0, none⟩) [.int .i64 y]) (pb4 : Sl w (some ⟨b4, 0, none⟩) [.int .i64 sp]) (h1 : 3 ≤ wd) (h2 : wd ≤ 16) (h3 : 3 ≤ hi) (h4 : hi ≤ 16) (g1 : 0 ≤ x) (g2 : x < wd) (g3 : 0 ≤ y) (g4 : y < hi) (g5 : 0 ≤ u) (g6 : u < wd) (g7 : 0 ≤ u2) (g8 : u2 < hi) :
    Calls Try.prog 94 #[.int .i64 u, .int .i64 u2, .pointer (some ⟨b1, 0, none⟩), .pointer (some ⟨b2, 0, none⟩), .pointer (some ⟨b3, 0, none⟩), .pointer (some ⟨b4, 0, none⟩)] w (Rt fun v w' => v = .bool (reachP wd hi wr x y sp u u2) ∧ Ext0 w w') := by
  have E0 : Ext no w w := Ext.refl _ _
  have lo_some_b1_0_none := Sl.low pb1
  have lo_some_b2_0_none := Sl.low pb2
  have lo_some_b3_0_none := Sl.low pb3
  have lo_some_b4_0_none := Sl.low pb4
  refine calls_W (n := 24) Try.func94 rfl rfl (Nat.le_of_ble_eq_true rfl) ?_
  refine W_seq ?_
  refine W_region (by kernel_rfl) ?_
  refine s_y (v := .bool false) rfl (y_assign rfl) ?_
  refine s_nil ?_
  refine W_seq ?_
  refine W_draw (no) T94.mx (by kernel_rfl) (fun w1 e2 => ?_)
  have hS3 := pb1.ext0 e2
  have hS4 := pb2.ext0 e2
  have hS5 := pb3.ext0 e2
  have hS6 := pb4.ext0 e2
  have E7 := E0.fresh e2 (fun _ h _ => h.elim)
  have R8 := (Ext.refl (no) w).trans (Ext0.any e2)
  refine m_y (v := .agg #[.int .i64 wd, .int .i64 hi, .bool wr, .slice asp nsp csp, .slice als nls cls]) 0 rfl (by kernel_rfl) rfl rfl (fun w' e' => y_loadO (o := 0) (k := 0) (vs := [.int .i64 wd, .int .i64 hi, .bool wr, .slice asp nsp csp, .slice als nls cls]) T94.agg_26_5 rfl rfl (pb1.ext0 e') rfl) ?_
  refine m_y (v := .int .i64 x) 1 rfl (by kernel_rfl) rfl rfl (fun w' e' => y_load T94.one_2 rfl ((pb2.ext0 e').cell (j := 0) rfl)) ?_
  refine m_y (v := .int .i64 u) 2 rfl (by kernel_rfl) rfl rfl (fun w' e' => y_move rfl) ?_
  refine m_y (v := .pointer (some ⟨b1, 0, none⟩)) 3 rfl (by kernel_rfl) rfl rfl (fun w' e' => y_fld (o := 0 + 0) T94.fld_26_0_0 rfl) ?_
  refine m_y (v := .int .i64 wd) 4 rfl (by kernel_rfl) rfl rfl (fun w' e' => y_load T94.one_2 rfl ((pb1.ext0 e').cell (j := 0) rfl)) ?_
  refine m_y (v := .agg #[.int .i64 wd, .int .i64 hi, .bool wr, .slice asp nsp csp, .slice als nls cls]) 6 rfl (by kernel_rfl) rfl rfl (fun w' e' => y_loadO (o := 0) (k := 0) (vs := [.int .i64 wd, .int .i64 hi, .bool wr, .slice asp nsp csp, .slice als nls cls]) T94.agg_26_5 rfl rfl (pb1.ext0 e') rfl) ?_
  refine m_y (v := .int .i64 y) 7 rfl (by kernel_rfl) rfl rfl (fun w' e' => y_load T94.one_2 rfl ((pb3.ext0 e').cell (j := 0) rfl)) ?_
  refine m_y (v := .int .i64 u2) 8 rfl (by kernel_rfl) rfl rfl (fun w' e' => y_move rfl) ?_
  refine m_y (v := .pointer (some ⟨b1, 0 + 1, none⟩)) 9 rfl (by kernel_rfl) rfl rfl (fun w' e' => y_fld (o := 0 + 0) T94.fld_26_1_1 rfl) ?_
  refine m_y (v := .int .i64 hi) 10 rfl (by kernel_rfl) rfl rfl (fun w' e' => y_load T94.one_2 rfl ((pb1.ext0 e').cell (j := 1) rfl)) ?_
  refine m_y (v := .int .i64 sp) 13 rfl (by kernel_rfl) rfl rfl (fun w' e' => y_load T94.one_2 rfl ((pb4.ext0 e').cell (j := 0) rfl)) ?_
  refine m_k 5 [11, 12, 14, 15] rfl (by kernel_rfl) rfl rfl (fun w9 e10 => ?_)
  have hS11 := hS3.ext0 e10
  have hS12 := hS4.ext0 e10
  have hS13 := hS5.ext0 e10
  have hS14 := hS6.ext0 e10
  have E15 := E7.fresh e10 (fun _ h _ => h.elim)
  have R16 := R8.trans (Ext0.any e10)
  refine k_call T94.fn_95 (c_i_wayAlong _ (by omega) (by omega) (by omega) (by omega) (by omega)) rfl ?_
  rintro _ w17 ⟨rfl, e18⟩
  have hS19 := hS11.ext0 e18
  have hS20 := hS12.ext0 e18
  have hS21 := hS13.ext0 e18
  have hS22 := hS14.ext0 e18
  have E23 := E15.fresh e18 (fun _ h _ => h.elim)
  have R24 := R16.trans (Ext0.any e18)
  refine ⟨fun _ => R24, ?_⟩
  have hwb25 := wayI_b (wr := wr) (a := x) (b := u) (side := wd) (by omega) (by omega) (by omega) (by omega)
  refine m_k 11 [12, 14, 15] rfl (by kernel_rfl) rfl rfl (fun w26 e27 => ?_)
  have hS28 := hS19.ext0 e27
  have hS29 := hS20.ext0 e27
  have hS30 := hS21.ext0 e27
  have hS31 := hS22.ext0 e27
  have E32 := E23.fresh e27 (fun _ h _ => h.elim)
  have R33 := R24.trans (Ext0.any e27)
  refine k_call T94.fn_95 (c_i_wayAlong _ (by omega) (by omega) (by omega) (by omega) (by omega)) rfl ?_
  rintro _ w34 ⟨rfl, e35⟩
  have hS36 := hS28.ext0 e35
  have hS37 := hS29.ext0 e35
  have hS38 := hS30.ext0 e35
  have hS39 := hS31.ext0 e35
  have E40 := E32.fresh e35 (fun _ h _ => h.elim)
  have R41 := R33.trans (Ext0.any e35)
  refine ⟨fun _ => R41, ?_⟩
  have hwb42 := wayI_b (wr := wr) (a := y) (b := u2) (side := hi) (by omega) (by omega) (by omega) (by omega)
  refine m_y (v := .int .i64 ((wayI wr x u wd) + (wayI wr y u2 hi))) 12 rfl (by kernel_rfl) rfl rfl (fun w' e' => y_add rfl rfl rfl (by omega)) ?_
  by_cases c43 : ((wayI wr x u wd) + (wayI wr y u2 hi)) ≤ sp
  · refine m_y (v := .bool true) 14 rfl (by kernel_rfl) rfl rfl (fun w' e' => y_leq rfl rfl (decide_eq_true c43)) ?_
    refine m_y (v := .bool true) 15 rfl (by kernel_rfl) rfl rfl (fun w' e' => y_assign rfl) ?_
    refine m_done (by kernel_rfl) (fun w44 e45 => ?_)
    have hS46 := hS36.ext0 e45
    have hS47 := hS37.ext0 e45
    have hS48 := hS38.ext0 e45
    have hS49 := hS39.ext0 e45
    have E50 := E40.fresh e45 (fun _ h _ => h.elim)
    have R51 := R41.trans (Ext0.any e45)
    refine W_ret ?_
    refine ret1 rfl rfl rfl ⟨_, rfl, ?_⟩
    exact ⟨congrArg Value.bool (by simp only [reachP, (decide_eq_true c43), Bool.and_true, Bool.true_and, Bool.and_false, Bool.false_and, Bool.not_true, Bool.not_false, Bool.or_true, Bool.true_or, Bool.or_false, Bool.false_or]), E50⟩
  · refine m_y (v := .bool false) 14 rfl (by kernel_rfl) rfl rfl (fun w' e' => y_leq rfl rfl (decide_eq_false c43)) ?_
    refine m_y (v := .bool false) 15 rfl (by kernel_rfl) rfl rfl (fun w' e' => y_assign rfl) ?_
    refine m_done (by kernel_rfl) (fun w52 e53 => ?_)
    have hS54 := hS36.ext0 e53
    have hS55 := hS37.ext0 e53
    have hS56 := hS38.ext0 e53
    have hS57 := hS39.ext0 e53
    have E58 := E40.fresh e53 (fun _ h _ => h.elim)
    have R59 := R41.trans (Ext0.any e53)
    refine W_ret ?_
    refine ret1 rfl rfl rfl ⟨_, rfl, ?_⟩
    exact ⟨congrArg Value.bool (by simp only [reachP, (decide_eq_false c43), Bool.and_true, Bool.true_and, Bool.and_false, Bool.false_and, Bool.not_true, Bool.not_false, Bool.or_true, Bool.true_or, Bool.or_false, Bool.false_or]), E58⟩
namespace T87
theorem mx : Try.prog.follows .mixedOrders = true := by kernel_rfl
theorem fld_26_0_0 : fldB Try.prog 26 0 0 = true := by kernel_rfl
theorem fld_26_1_1 : fldB Try.prog 26 1 1 = true := by kernel_rfl
theorem one_2 : oneB Try.prog 2 = true := by kernel_rfl
end T87
set_option maxRecDepth 100000 in
set_option maxHeartbeats 4000000 in
theorem c_i_at {wd hi x y : Int} {wr : Bool} {asp als : Option Addr} {nsp nls csp cls : Nat} (w : World) (h1 : 3 ≤ wd) (h2 : wd ≤ 16) (h3 : 3 ≤ hi) (h4 : hi ≤ 16) (h5 : -wd ≤ x) (h6 : x ≤ 1000000) (h7 : -hi ≤ y) (h8 : y ≤ 1000000) :
    Calls Try.prog 87 #[.agg #[.int .i64 wd, .int .i64 hi, .bool wr, .slice asp nsp csp, .slice als nls cls], .int .i64 x, .int .i64 y] w (Rt fun v w' => v = .int .i64 (atI wd hi x y) ∧ Ext0 w w') := by
  have E0 : Ext no w w := Ext.refl _ _
  refine calls_W (n := 25) Try.func87 rfl rfl (Nat.le_of_ble_eq_true rfl) ?_
  refine W_seq ?_
  refine W_region (by kernel_rfl) ?_
  refine s_k rfl (k_box (v := .agg #[.int .i64 wd, .int .i64 hi, .bool wr, .slice asp nsp csp, .slice als nls cls]) (cs := [.int .i64 wd, .int .i64 hi, .bool wr, .slice asp nsp csp, .slice als nls cls]) rfl rfl (fun b1 w2 q4 e3 hB5 => ?_))
  have E6 := E0.fresh e3 (fun _ h _ => h.elim)
  have fr7 : NotLt b1 w.heap.size := fun h => Nat.not_lt.2 (Nat.le_trans E0.size (Nat.le_of_eq q4.symm)) h
  clear q4
  refine s_y (v := .int .i64 0) rfl (y_assign rfl) ?_
  refine s_nil ?_
  refine W_seq ?_
  refine W_draw (no) T87.mx (by kernel_rfl) (fun w8 e9 => ?_)
  have hB10 := hB5.ext0 e9
  have E11 := E6.fresh e9 (fun _ h _ => h.elim)
  have R12 := (Ext.refl (no) w2).trans (Ext0.any e9)
  refine m_y (v := .int .i64 x) 0 rfl (by kernel_rfl) rfl rfl (fun w' e' => y_move rfl) ?_
  refine m_y (v := .pointer (some ⟨b1, 0, none⟩)) 1 rfl (by kernel_rfl) rfl rfl (fun w' e' => y_fld (o := 0) T87.fld_26_0_0 rfl) ?_
  refine m_y (v := .int .i64 wd) 2 rfl (by kernel_rfl) rfl rfl (fun w' e' => y_load T87.one_2 rfl ((hB5.ext0 e').cell (j := 0) rfl)) ?_
  refine m_y (v := .int .i64 (x + wd)) 3 rfl (by kernel_rfl) rfl rfl (fun w' e' => y_add rfl rfl rfl (by omega)) ?_
  refine m_y (v := .pointer (some ⟨b1, 0, none⟩)) 4 rfl (by kernel_rfl) rfl rfl (fun w' e' => y_fld (o := 0) T87.fld_26_0_0 rfl) ?_
  refine m_y (v := .int .i64 wd) 5 rfl (by kernel_rfl) rfl rfl (fun w' e' => y_load T87.one_2 rfl ((hB5.ext0 e').cell (j := 0) rfl)) ?_
  have hm13 := rem_b (x := x + wd) (m := wd) (by omega) (by omega)
  refine m_y (v := .int .i64 ((x + wd) % wd)) 6 rfl (by kernel_rfl) rfl rfl (fun w' e' => y_rem rfl rfl (by omega) (by omega) rfl) ?_
  refine m_y (v := .pointer (some ⟨b1, 0, none⟩)) 7 rfl (by kernel_rfl) rfl rfl (fun w' e' => y_fld (o := 0) T87.fld_26_0_0 rfl) ?_
  refine m_y (v := .int .i64 wd) 8 rfl (by kernel_rfl) rfl rfl (fun w' e' => y_load T87.one_2 rfl ((hB5.ext0 e').cell (j := 0) rfl)) ?_
  refine m_y (v := .int .i64 y) 9 rfl (by kernel_rfl) rfl rfl (fun w' e' => y_move rfl) ?_
  refine m_y (v := .pointer (some ⟨b1, 1, none⟩)) 10 rfl (by kernel_rfl) rfl rfl (fun w' e' => y_fld (o := 0) T87.fld_26_1_1 rfl) ?_
  refine m_y (v := .int .i64 hi) 11 rfl (by kernel_rfl) rfl rfl (fun w' e' => y_load T87.one_2 rfl ((hB5.ext0 e').cell (j := 1) rfl)) ?_
  refine m_y (v := .int .i64 (y + hi)) 12 rfl (by kernel_rfl) rfl rfl (fun w' e' => y_add rfl rfl rfl (by omega)) ?_
  refine m_y (v := .pointer (some ⟨b1, 1, none⟩)) 13 rfl (by kernel_rfl) rfl rfl (fun w' e' => y_fld (o := 0) T87.fld_26_1_1 rfl) ?_
  refine m_y (v := .int .i64 hi) 14 rfl (by kernel_rfl) rfl rfl (fun w' e' => y_load T87.one_2 rfl ((hB5.ext0 e').cell (j := 1) rfl)) ?_
  have hm14 := rem_b (x := y + hi) (m := hi) (by omega) (by omega)
  refine m_y (v := .int .i64 ((y + hi) % hi)) 15 rfl (by kernel_rfl) rfl rfl (fun w' e' => y_rem rfl rfl (by omega) (by omega) rfl) ?_
  have hm15 := mul_rem (a := wd) (x := y + hi) (m := hi) (by omega) (by omega) (by omega) (by omega)
  refine m_y (v := .int .i64 (wd * ((y + hi) % hi))) 16 rfl (by kernel_rfl) rfl rfl (fun w' e' => y_mul rfl rfl rfl (by omega)) ?_
  refine m_y (v := .int .i64 (((x + wd) % wd) + (wd * ((y + hi) % hi)))) 17 rfl (by kernel_rfl) rfl rfl (fun w' e' => y_add rfl rfl rfl (by omega)) ?_
  refine m_y (v := .int .i64 (((x + wd) % wd) + (wd * ((y + hi) % hi)))) 18 rfl (by kernel_rfl) rfl rfl (fun w' e' => y_assign rfl) ?_
  refine m_done (by kernel_rfl) (fun w16 e17 => ?_)
  have hB18 := hB10.ext0 e17
  have E19 := E11.fresh e17 (fun _ h _ => h.elim)
  have R20 := R12.trans (Ext0.any e17)
  refine W_ret ?_
  refine ret1 rfl rfl rfl ⟨_, rfl, ?_⟩
  exact ⟨rfl, E19⟩
namespace T93
theorem mx : Try.prog.follows .mixedOrders = true := by kernel_rfl
theorem agg_26_5 : aggB Try.prog 26 5 = true := by kernel_rfl
theorem fld_26_0_0 : fldB Try.prog 26 0 0 = true := by kernel_rfl
theorem fld_26_1_1 : fldB Try.prog 26 1 1 = true := by kernel_rfl
theorem fn_87 : fnB Try.prog 87 = true := by kernel_rfl
theorem one_2 : oneB Try.prog 2 = true := by kernel_rfl
theorem slt_74 : SlT Try.prog 74 2 1 8 (.int .i64 0) := ⟨by kernel_rfl, by kernel_rfl, rfl, by decide⟩
end T93
set_option maxRecDepth 100000 in
set_option maxHeartbeats 4000000 in
theorem c_i_cellsBy {wd hi : Int} {wr : Bool} {asp als : Option Addr} {nsp nls csp cls : Nat} {f : Nat} {us xs : List Value} {FP : Int → Int → Bool} (w : World) (h1 : 3 ≤ wd) (h2 : wd ≤ 16) (h3 : 3 ≤ hi) (h4 : hi ≤ 16) (hfB : fnB Try.prog f = true) (hF : ∀ x y w1, Ext0 w w1 → 0 ≤ x → x < wd → 0 ≤ y → y < hi → Calls Try.prog f (us ++ ([.int .i64 x, .int .i64 y] : List Value) ++ xs).toArray w1 (Rt fun v w2 => v = .bool (FP x y) ∧ Ext0 w1 w2)) :
    Calls Try.prog 93 #[.agg #[.int .i64 wd, .int .i64 hi, .bool wr, .slice asp nsp csp, .slice als nls cls], .func (.func f) us.toArray xs.toArray] w (Rt fun v w' => (∃ (a1 : Option Addr) (c1 : Nat), v = .slice a1 ((sel (wd * hi) (fun i => FP (i % wd) (i / wd))).length) c1 ∧ Own w' w.heap.size a1 (sel (wd * hi) (fun i => FP (i % wd) (i / wd))).length c1 2 1 (flat inC (sel (wd * hi) (fun i => FP (i % wd) (i / wd))))) ∧ Ext0 w w') := by
  have E0 : Ext no w w := Ext.refl _ _
  have hwh := mul16 (And.intro (And.intro h1 h2) (And.intro h3 h4))
  refine calls_W (n := 33) Try.func93 rfl rfl (Nat.le_of_ble_eq_true rfl) ?_
  refine W_seq ?_
  refine W_region (by kernel_rfl) ?_
  refine s_k rfl (k_box (v := .agg #[.int .i64 wd, .int .i64 hi, .bool wr, .slice asp nsp csp, .slice als nls cls]) (cs := [.int .i64 wd, .int .i64 hi, .bool wr, .slice asp nsp csp, .slice als nls cls]) rfl rfl (fun b1 w2 q4 e3 hB5 => ?_))
  have E6 := E0.fresh e3 (fun _ h _ => h.elim)
  have fr7 : NotLt b1 w.heap.size := fun h => Nat.not_lt.2 (Nat.le_trans E0.size (Nat.le_of_eq q4.symm)) h
  clear q4
  refine s_y (v := .slice none 0 0) rfl (y_assign rfl) ?_
  refine s_nil ?_
  refine W_seq ?_
  refine W_region (by kernel_rfl) ?_
  refine s_k rfl (k_bslice (n := 0) (cells := #[]) T93.slt_74 (by decide) (by first | rfl | kernel_rfl) (by first | rfl | kernel_rfl) (fun b8 w9 q11 e10 hO12 => ?_))
  have hB13 := hB5.ext0 e10
  have E14 := E6.fresh e10 (fun _ h _ => h.elim)
  have d15 : ∀ k, inA (some ⟨b8, 0, none⟩) k → w2.heap.size ≤ k := fun kx hk => (hO12.blk kx hk).1
  have dj16 : inA (some ⟨b8, 0, none⟩) b1 → False := fun h => Nat.not_lt.2 (d15 _ h) hB5.lt
  have fr17 : ∀ k, inA (some ⟨b8, 0, none⟩) k → k < w.heap.size → False := fun kx h1 h2 => Nat.not_lt.2 (Nat.le_trans E6.size (d15 kx h1)) h2
  have hO18 := hO12.base E6.size
  have hO19 := hO18.cast (cs' := flat inC []) rfl rfl
  refine s_y (v := .slice (some ⟨b8, 0, none⟩) 0 0) rfl (y_assign rfl) ?_
  refine s_nil ?_
  refine W_seq ?_
  refine W_seq ?_
  refine W_region (by kernel_rfl) ?_
  refine s_y (v := .pointer (some ⟨b1, 1, none⟩)) rfl (y_fld (o := 0) T93.fld_26_1_1 rfl) ?_
  refine s_y (v := .int .i64 hi) rfl (y_load T93.one_2 rfl (hB13.cell (j := 1) rfl)) ?_
  refine s_y (v := .int .i64 0) rfl (y_move rfl) ?_
  refine s_nil ?_
  refine W_block ?_
  refine W_loop (fun ρ' w' => ∃ (ρ1 : Env) (py : Int) (a0 : Option Addr) (cc0 : Nat) (nn0 : Nat), ρ' = updL ρ1 [(1, .func (.func f) us.toArray xs.toArray), (2, .pointer (some ⟨b1, 0, none⟩)), (4, .slice none 0 0), (5, .slice a0 nn0 cc0), (10, .int .i64 hi), (11, .int .i64 py)] ∧ Ext no w w' ∧ Blk w' b1 [.int .i64 wd, .int .i64 hi, .bool wr, .slice asp nsp csp, .slice als nls cls] 26 ∧ Own w' w.heap.size a0 nn0 cc0 2 1 (flat inC (sel (wd * py) (fun i => FP (i % wd) (i / wd)))) ∧ (0 ≤ py) ∧ (py ≤ hi) ∧ ((sel (wd * py) (fun i => FP (i % wd) (i / wd))).length = nn0) ∧ (inA a0 b1 → False) ∧ (∀ k, inA a0 k → k < w.heap.size → False)) (fun ρ' _ => (hi - iv (ρ' 11)).toNat) ?_ ?_
  · exact ⟨_, 0, (some ⟨b8, 0, none⟩), 0, 0, Fits.eq ⟨rfl, rfl, rfl, rfl, rfl, rfl, trivial⟩, E14, hB13, (hO19.cast rfl (congrArg (flat inC) (show [] = sel (wd * 0) (fun i => FP (i % wd) (i / wd)) by rw [Int.mul_zero]; rfl))), (Int.le_refl _), (by omega), ((congrArg List.length (show [] = sel (wd * 0) (fun i => FP (i % wd) (i / wd)) by rw [Int.mul_zero]; rfl)).symm.trans rfl), dj16, fr17⟩
  · rintro _ w22 ⟨ρ26, py, a0, cc0, nn0, rfl, E23, hB24, hO25, h0py, h1py, hl0, dj20, fr21⟩
    have hwy := mulb (a := wd) (b := py) (by omega) (by omega) (by omega) (by omega)
    have hn0 := sel_len (wd * py) (fun i => FP (i % wd) (i / wd))
    refine W_seq ?_
    refine W_region (by kernel_rfl) ?_
    by_cases c27 : py < hi
    · refine s_y (v := .bool true) rfl (y_lss rfl rfl (decide_eq_true c27)) ?_
      refine s_nil ?_
      refine W_seq ?_
      refine W_if_t (by decide) rfl ?_
      refine W_skip ?_
      refine W_seq ?_
      refine W_block ?_
      refine W_seq ?_
      refine W_region (by kernel_rfl) ?_
      refine s_y (v := .int .i64 py) rfl (y_move rfl) ?_
      refine s_y (v := .int .i64 py) rfl (y_assign rfl) ?_
      refine s_nil ?_
      refine W_seq ?_
      refine W_region (by kernel_rfl) ?_
      refine s_y (v := .pointer (some ⟨b1, 0, none⟩)) rfl (y_fld (o := 0) T93.fld_26_0_0 rfl) ?_
      refine s_y (v := .int .i64 wd) rfl (y_load T93.one_2 rfl (hB24.cell (j := 0) rfl)) ?_
      refine s_y (v := .int .i64 0) rfl (y_move rfl) ?_
      refine s_nil ?_
      refine W_block ?_
      refine W_loop (fun ρ' w' => ∃ (ρ1 : Env) (px : Int) (a1 : Option Addr) (cc1 : Nat) (nn1 : Nat), ρ' = updL ρ1 [(1, .func (.func f) us.toArray xs.toArray), (2, .pointer (some ⟨b1, 0, none⟩)), (4, .slice none 0 0), (5, .slice a1 nn1 cc1), (6, .int .i64 py), (10, .int .i64 hi), (11, .int .i64 py), (12, .bool true), (13, .int .i64 py), (14, .pointer (some ⟨b1, 0, none⟩)), (15, .int .i64 wd), (16, .int .i64 px)] ∧ Ext no w w' ∧ Blk w' b1 [.int .i64 wd, .int .i64 hi, .bool wr, .slice asp nsp csp, .slice als nls cls] 26 ∧ Own w' w.heap.size a1 nn1 cc1 2 1 (flat inC (sel (wd * py + px) (fun i => FP (i % wd) (i / wd)))) ∧ (0 ≤ px) ∧ (px ≤ wd) ∧ ((sel (wd * py + px) (fun i => FP (i % wd) (i / wd))).length = nn1) ∧ (inA a1 b1 → False) ∧ (∀ k, inA a1 k → k < w.heap.size → False)) (fun ρ' _ => (wd - iv (ρ' 16)).toNat) ?_ ?_
      · exact ⟨_, 0, a0, cc0, nn0, Fits.eq ⟨rfl, rfl, rfl, rfl, rfl, rfl, rfl, rfl, rfl, rfl, rfl, rfl, trivial⟩, E23, hB24, (hO25.cast rfl (congrArg (flat inC) (show sel (wd * py) (fun i => FP (i % wd) (i / wd)) = sel (wd * py + 0) (fun i => FP (i % wd) (i / wd)) by rw [Int.add_zero]))), (Int.le_refl _), (by omega), ((congrArg List.length (show sel (wd * py) (fun i => FP (i % wd) (i / wd)) = sel (wd * py + 0) (fun i => FP (i % wd) (i / wd)) by rw [Int.add_zero])).symm.trans hl0), dj20, fr21⟩
      · rintro _ w30 ⟨ρ34, px, a1, cc1, nn1, rfl, E31, hB32, hO33, h0px, h1px, hl1, dj28, fr29⟩
        have hn1 := sel_len (wd * py + px) (fun i => FP (i % wd) (i / wd))
        refine W_seq ?_
        refine W_region (by kernel_rfl) ?_
        by_cases c35 : px < wd
        · refine s_y (v := .bool true) rfl (y_lss rfl rfl (decide_eq_true c35)) ?_
          refine s_nil ?_
          refine W_seq ?_
          refine W_if_t (by decide) rfl ?_
          refine W_skip ?_
          refine W_seq ?_
          refine W_block ?_
          refine W_seq ?_
          refine W_region (by kernel_rfl) ?_
          refine s_y (v := .int .i64 px) rfl (y_move rfl) ?_
          refine s_y (v := .int .i64 px) rfl (y_assign rfl) ?_
          refine s_nil ?_
          refine W_seq ?_
          refine W_region (by kernel_rfl) ?_
          refine s_y (v := .func (.func f) us.toArray xs.toArray) rfl (y_move rfl) ?_
          refine s_y (v := .int .i64 px) rfl (y_move rfl) ?_
          refine s_y (v := .int .i64 py) rfl (y_move rfl) ?_
          refine s_k rfl (k_callv hfB rfl (hF px py _ E31 (by omega) (by omega) (by omega) (by omega)) rfl ?_)
          rintro v38 w36 ⟨hv39, e37⟩
          have hB40 := hB32.ext0 e37
          have hO41 := hO33.ext0 e37
          have E42 := E31.fresh e37 (fun _ h _ => h.elim)
          by_cases c43 : FP px py = true
          · obtain rfl : v38 = .bool true := hv39.trans (congrArg Value.bool c43)
            refine s_nil ?_
            refine W_if_t (by decide) rfl ?_
            refine W_region (by kernel_rfl) ?_
            refine s_y (v := .slice a1 nn1 cc1) rfl (y_move rfl) ?_
            refine s_y (v := .agg #[.int .i64 wd, .int .i64 hi, .bool wr, .slice asp nsp csp, .slice als nls cls]) rfl (y_loadn (b := b1) (o := 0) (vs := [.int .i64 wd, .int .i64 hi, .bool wr, .slice asp nsp csp, .slice als nls cls]) T93.agg_26_5 rfl rfl (hB40.cells (o := 0) rfl)) ?_
            refine s_y (v := .int .i64 px) rfl (y_move rfl) ?_
            refine s_y (v := .int .i64 py) rfl (y_move rfl) ?_
            refine s_k rfl (k_call T93.fn_87 (c_i_at _ (by omega) (by omega) (by omega) (by omega) (by omega) (by omega) (by omega) (by omega)) rfl ?_)
            rintro _ w44 ⟨rfl, e45⟩
            have hB46 := hB40.ext0 e45
            have hO47 := hO41.ext0 e45
            have E48 := E42.fresh e45 (fun _ h _ => h.elim)
            have hat49 := atI_b (wd := wd) (hi := hi) (x := px) (y := py) (by omega) (by omega)
            refine s_k rfl (k_bslice (n := 1) (cells := #[.int .i64 (atI wd hi px py)]) T93.slt_74 (by decide) (by first | rfl | kernel_rfl) (by first | rfl | kernel_rfl) (fun b50 w51 q53 e52 hO54 => ?_))
            have hB55 := hB46.ext0 e52
            have hO56 := hO47.ext0 e52
            have E57 := E48.fresh e52 (fun _ h _ => h.elim)
            have d58 : ∀ k, inA (some ⟨b50, 0, none⟩) k → w44.heap.size ≤ k := fun kx hk => (hO54.blk kx hk).1
            have dj59 : inA (some ⟨b50, 0, none⟩) b1 → False := fun h => Nat.not_lt.2 (d58 _ h) hB46.lt
            have dj60 : ∀ k, inA a1 k → inA (some ⟨b50, 0, none⟩) k → False := fun kx h1 h2 => Nat.not_lt.2 (d58 kx h2) (hO47.blk kx h1).2
            have fr61 : ∀ k, inA (some ⟨b50, 0, none⟩) k → k < w.heap.size → False := fun kx h1 h2 => Nat.not_lt.2 (Nat.le_trans E48.size (d58 kx h1)) h2
            have hO62 := hO54.base E48.size
            refine s_k rfl (k_append T93.slt_74 rfl rfl rfl hO56 hO62.sl rfl (by simp [Value.oneCell']) (by omega) (by unfold maxLen; omega) E57.size (fun a63 c64 w65 e66 hO67 hd68 => ?_))
            have hB69 := hB55.ext e66 (fun hk => dj28 hk)
            have hO70 := hO62.ext e66 (fun kx hk hs => (fun hs => dj60 kx hs hk) hs)
            have E71 := E57.fresh e66 (fun kx hs hl => (fun hs => (fr29 kx hs hl).elim) hs)
            have dj72 : inA a63 b1 → False := fun h => (hd68 _ h).elim dj28 (fun hx => Nat.not_lt.2 hx hB55.lt)
            have dj73 : ∀ k, inA a63 k → inA (some ⟨b50, 0, none⟩) k → False := fun kx h1 h2 => (hd68 kx h1).elim (fun h => dj60 kx h h2) (fun hx => Nat.not_lt.2 hx (hO62.blk kx h2).2)
            have fr74 : ∀ k, inA a63 k → k < w.heap.size → False := fun kx h1 h2 => (hd68 kx h1).elim (fun h => fr29 kx h h2) (fun hx => Nat.not_lt.2 (Nat.le_trans E57.size hx) h2)
            have hO75 := hO67.cast rfl (flat_snoc (f := inC) (sel (wd * py + px) (fun i => FP (i % wd) (i / wd))) (atI wd hi px py))
            have hl76 : ((sel (wd * py + px) (fun i => FP (i % wd) (i / wd))) ++ [atI wd hi px py]).length = nn1 + 1 := by simp only [List.length_append, List.length_cons, List.length_nil]; omega
            refine s_y (v := .slice a63 (nn1 + 1) c64) rfl (y_assign rfl) ?_
            refine s_nil ?_
            refine W_region (by kernel_rfl) ?_
            refine s_y (v := .int .i64 (px + 1)) rfl (y_add rfl rfl rfl (by omega)) ?_
            refine s_y (v := .int .i64 (px + 1)) rfl (y_move rfl) ?_
            refine s_nil ?_
            refine ⟨⟨_, px + 1, a63, c64, nn1 + 1, Fits.eq ⟨rfl, rfl, rfl, rfl, rfl, rfl, rfl, rfl, rfl, rfl, rfl, rfl, trivial⟩, E71, hB69, (hO75.cast rfl (congrArg (flat inC) (sel_yes (p := (fun i => FP (i % wd) (i / wd))) (n := wd * py + px) (by omega) (by omega) ((atI_in (by omega) (by omega) (by omega) (by omega)).trans (Int.add_comm ..)) ((selrow (p := FP) (wd := wd) (x := px) (y := py) (by omega) (by omega)).trans (by assumption))))), (by omega), (by omega), ((congrArg List.length (sel_yes (p := (fun i => FP (i % wd) (i / wd))) (n := wd * py + px) (by omega) (by omega) ((atI_in (by omega) (by omega) (by omega) (by omega)).trans (Int.add_comm ..)) ((selrow (p := FP) (wd := wd) (x := px) (y := py) (by omega) (by omega)).trans (by assumption)))).symm.trans hl76), dj72, fr74⟩, ?_⟩
            show (wd - (px + 1)).toNat < (wd - px).toNat
            omega
          · obtain rfl : v38 = .bool false := hv39.trans (congrArg Value.bool (Bool.eq_false_iff.2 c43))
            refine s_nil ?_
            refine W_if_f (by decide) rfl ?_
            refine W_skip ?_
            refine W_region (by kernel_rfl) ?_
            refine s_y (v := .int .i64 (px + 1)) rfl (y_add rfl rfl rfl (by omega)) ?_
            refine s_y (v := .int .i64 (px + 1)) rfl (y_move rfl) ?_
            refine s_nil ?_
            refine ⟨⟨_, px + 1, a1, cc1, nn1, Fits.eq ⟨rfl, rfl, rfl, rfl, rfl, rfl, rfl, rfl, rfl, rfl, rfl, rfl, trivial⟩, E42, hB40, (hO41.cast rfl (congrArg (flat inC) (sel_no (p := (fun i => FP (i % wd) (i / wd))) (n := wd * py + px) (by omega) (by omega) (fun hq => absurd ((selrow (p := FP) (wd := wd) (x := px) (y := py) (by omega) (by omega)).symm.trans hq) (by assumption))))), (by omega), (by omega), ((congrArg List.length (sel_no (p := (fun i => FP (i % wd) (i / wd))) (n := wd * py + px) (by omega) (by omega) (fun hq => absurd ((selrow (p := FP) (wd := wd) (x := px) (y := py) (by omega) (by omega)).symm.trans hq) (by assumption)))).symm.trans hl1), dj28, fr29⟩, ?_⟩
            show (wd - (px + 1)).toNat < (wd - px).toNat
            omega
        · refine s_y (v := .bool false) rfl (y_lss rfl rfl (decide_eq_false c35)) ?_
          refine s_nil ?_
          refine W_seq ?_
          refine W_if_f (by decide) rfl ?_
          refine W_exit ?_
          refine W_region (by kernel_rfl) ?_
          refine s_y (v := .int .i64 (py + 1)) rfl (y_add rfl rfl rfl (by omega)) ?_
          refine s_y (v := .int .i64 (py + 1)) rfl (y_move rfl) ?_
          refine s_nil ?_
          refine ⟨⟨_, py + 1, a1, cc1, nn1, Fits.eq ⟨rfl, rfl, rfl, rfl, rfl, rfl, trivial⟩, E31, hB32, (hO33.cast rfl (congrArg (flat inC) (congrArg (fun q => sel q (fun i => FP (i % wd) (i / wd))) (show wd * py + px = wd * (py + 1) by rw [Int.mul_add, Int.mul_one]; omega)))), (by omega), (by omega), ((congrArg List.length (congrArg (fun q => sel q (fun i => FP (i % wd) (i / wd))) (show wd * py + px = wd * (py + 1) by rw [Int.mul_add, Int.mul_one]; omega))).symm.trans hl1), dj28, fr29⟩, ?_⟩
          show (hi - (py + 1)).toNat < (hi - py).toNat
          omega
    · refine s_y (v := .bool false) rfl (y_lss rfl rfl (decide_eq_false c27)) ?_
      refine s_nil ?_
      refine W_seq ?_
      refine W_if_f (by decide) rfl ?_
      refine W_exit ?_
      refine W_seq ?_
      refine W_region (by kernel_rfl) ?_
      refine s_y (v := .slice a0 nn0 cc0) rfl (y_move rfl) ?_
      refine s_y (v := .slice a0 nn0 cc0) rfl (y_assign rfl) ?_
      refine s_nil ?_
      refine W_ret ?_
      refine ret1 rfl rfl rfl ⟨_, rfl, ?_⟩
      obtain rfl : py = hi := by omega
      subst hl0
      exact ⟨⟨_, _, rfl, hO25⟩, E23⟩
namespace T53
theorem mx : Try.prog.follows .mixedOrders = true := by kernel_rfl
theorem agg_26_5 : aggB Try.prog 26 5 = true := by kernel_rfl
theorem fn_64 : fnB Try.prog 64 = true := by kernel_rfl
theorem fn_65 : fnB Try.prog 65 = true := by kernel_rfl
theorem fn_93 : fnB Try.prog 93 = true := by kernel_rfl
theorem fn_94 : fnB Try.prog 94 = true := by kernel_rfl
theorem one_2 : oneB Try.prog 2 = true := by kernel_rfl
end T53
set_option maxRecDepth 100000 in
set_option maxHeartbeats 4000000 in
theorem c_i_ReachOf {wd hi : Int} {wr : Bool} {asp : Option Addr} {nsp csp : Nat} {xsp Xsp : List Nat} {als : Option Addr} {nls cls : Nat} {xls Xls : List Nat} {x : Int} {y : Int} {sp : Int} (w : World) (qssp : Sl w asp (flts xsp)) (qlsp : xsp.length = nsp) (qksp : cn xsp = Xsp) (qsls : Sl w als (flts xls)) (qlls : xls.length = nls) (qkls : cn xls = Xls) (hb1 : nsp ≤ 9223372036854775806) (hb2 : nls ≤ 9223372036854775806) :
    Calls Try.prog 53 #[.agg #[.int .i64 wd, .int .i64 hi, .bool wr, .slice asp nsp csp, .slice als nls cls], .int .i64 x, .int .i64 y, .int .i64 sp] w (Rt fun v w' => ((reachB wd hi Xsp Xls x y sp = true ∧ ∃ (a1 : Option Addr) (c1 : Nat), v = .tuple #[.slice a1 ((sel (wd * hi) (fun i => reachP wd hi wr x y sp (i % wd) (i / wd))).length) c1, .bool true] ∧ Own w' w.heap.size a1 (sel (wd * hi) (fun i => reachP wd hi wr x y sp (i % wd) (i / wd))).length c1 2 1 (flat inC (sel (wd * hi) (fun i => reachP wd hi wr x y sp (i % wd) (i / wd))))) ∨ (reachB wd hi Xsp Xls x y sp = false ∧ v = .tuple #[.slice none 0 0, .bool false])) ∧ Ext0 w w') := by
  have E0 : Ext no w w := Ext.refl _ _
  have hlP : Xsp.length = nsp := (cn_lenX qksp).trans qlsp
  have hlL : Xls.length = nls := (cn_lenX qkls).trans qlls
  have lo_asp := Sl.low qssp
  have lo_als := Sl.low qsls
  refine calls_W (n := 23) Try.func53 rfl rfl (Nat.le_of_ble_eq_true rfl) ?_
  refine W_seq ?_
  refine W_region (by kernel_rfl) ?_
  refine s_k rfl (k_box (v := .agg #[.int .i64 wd, .int .i64 hi, .bool wr, .slice asp nsp csp, .slice als nls cls]) (cs := [.int .i64 wd, .int .i64 hi, .bool wr, .slice asp nsp csp, .slice als nls cls]) rfl rfl (fun b1 w2 q4 e3 hB5 => ?_))
  have hS6 := qssp.ext0 e3
  have hS7 := qsls.ext0 e3
  have E8 := E0.fresh e3 (fun _ h _ => h.elim)
  have fr9 : NotLt b1 w.heap.size := fun h => Nat.not_lt.2 (Nat.le_trans E0.size (Nat.le_of_eq q4.symm)) h
  clear q4
  refine s_k rfl (k_box (v := .int .i64 x) (cs := [.int .i64 x]) rfl rfl (fun b10 w11 q13 e12 hB14 => ?_))
  have hB15 := hB5.ext0 e12
  have hS16 := hS6.ext0 e12
  have hS17 := hS7.ext0 e12
  have E18 := E8.fresh e12 (fun _ h _ => h.elim)
  have dj19 : NeB b1 b10 := fun h => Nat.ne_of_lt hB5.lt (h.trans q13)
  have fr20 : NotLt b10 w.heap.size := fun h => Nat.not_lt.2 (Nat.le_trans E8.size (Nat.le_of_eq q13.symm)) h
  clear q13
  refine s_k rfl (k_box (v := .int .i64 y) (cs := [.int .i64 y]) rfl rfl (fun b21 w22 q24 e23 hB25 => ?_))
  have hB26 := hB15.ext0 e23
  have hB27 := hB14.ext0 e23
  have hS28 := hS16.ext0 e23
  have hS29 := hS17.ext0 e23
  have E30 := E18.fresh e23 (fun _ h _ => h.elim)
  have dj31 : NeB b1 b21 := fun h => Nat.ne_of_lt hB15.lt (h.trans q24)
  have dj32 : NeB b10 b21 := fun h => Nat.ne_of_lt hB14.lt (h.trans q24)
  have fr33 : NotLt b21 w.heap.size := fun h => Nat.not_lt.2 (Nat.le_trans E18.size (Nat.le_of_eq q24.symm)) h
  clear q24
  refine s_k rfl (k_box (v := .int .i64 sp) (cs := [.int .i64 sp]) rfl rfl (fun b34 w35 q37 e36 hB38 => ?_))
  have hB39 := hB26.ext0 e36
  have hB40 := hB27.ext0 e36
  have hB41 := hB25.ext0 e36
  have hS42 := hS28.ext0 e36
  have hS43 := hS29.ext0 e36
  have E44 := E30.fresh e36 (fun _ h _ => h.elim)
  have dj45 : NeB b1 b34 := fun h => Nat.ne_of_lt hB26.lt (h.trans q37)
  have dj46 : NeB b10 b34 := fun h => Nat.ne_of_lt hB27.lt (h.trans q37)
  have dj47 : NeB b21 b34 := fun h => Nat.ne_of_lt hB25.lt (h.trans q37)
  have fr48 : NotLt b34 w.heap.size := fun h => Nat.not_lt.2 (Nat.le_trans E30.size (Nat.le_of_eq q37.symm)) h
  clear q37
  refine s_y (v := .slice none 0 0) rfl (y_assign rfl) ?_
  refine s_y (v := .bool false) rfl (y_assign rfl) ?_
  refine s_nil ?_
  refine W_seq ?_
  refine W_seq ?_
  refine W_region (by kernel_rfl) ?_
  refine s_y (v := .agg #[.int .i64 wd, .int .i64 hi, .bool wr, .slice asp nsp csp, .slice als nls cls]) rfl (y_loadn (b := b1) (o := 0) (vs := [.int .i64 wd, .int .i64 hi, .bool wr, .slice asp nsp csp, .slice als nls cls]) T53.agg_26_5 rfl rfl (hB39.cells (o := 0) rfl)) ?_
  refine s_y (v := .int .i64 x) rfl (y_load T53.one_2 rfl (hB40.cell (j := 0) rfl)) ?_
  refine s_y (v := .int .i64 y) rfl (y_load T53.one_2 rfl (hB41.cell (j := 0) rfl)) ?_
  refine s_k rfl (k_call T53.fn_64 (c_i_isValidCell _ hS42 qlsp qksp hS43 qlls qkls (by omega) (by omega)) rfl ?_)
  rintro v51 w49 ⟨hv52, e50⟩
  have hB53 := hB39.ext0 e50
  have hB54 := hB40.ext0 e50
  have hB55 := hB41.ext0 e50
  have hB56 := hB38.ext0 e50
  have hS57 := hS42.ext0 e50
  have hS58 := hS43.ext0 e50
  have E59 := E44.fresh e50 (fun _ h _ => h.elim)
  by_cases c60 : vcellB wd hi Xsp Xls x y = true
  · have hb61 := vcellB_b c60
    obtain rfl : v51 = .bool true := hv52.trans (congrArg Value.bool c60)
    refine s_y (v := .bool false) rfl (y_not rfl rfl) ?_
    refine s_y (v := .bool false) rfl (y_move rfl) ?_
    refine s_y (v := .int .i64 sp) rfl (y_load T53.one_2 rfl (hB56.cell (j := 0) rfl)) ?_
    refine s_k rfl (k_call T53.fn_65 (c_i_within _ _ _ _) rfl ?_)
    rintro v64 w62 ⟨hv65, e63⟩
    have hB66 := hB53.ext0 e63
    have hB67 := hB54.ext0 e63
    have hB68 := hB55.ext0 e63
    have hB69 := hB56.ext0 e63
    have hS70 := hS57.ext0 e63
    have hS71 := hS58.ext0 e63
    have E72 := E59.fresh e63 (fun _ h _ => h.elim)
    by_cases c73 : within sp 0 64 = true
    · have hb74 := within_b c73
      obtain rfl : v64 = .bool true := hv65.trans (congrArg Value.bool c73)
      refine s_y (v := .bool false) rfl (y_not rfl rfl) ?_
      refine s_y (v := .bool false) rfl (y_pick_f rfl rfl) ?_
      refine s_nil ?_
      refine W_if_f (by decide) rfl ?_
      refine W_skip ?_
      refine W_seq ?_
      refine W_region (by kernel_rfl) ?_
      refine s_y (v := .agg #[.int .i64 wd, .int .i64 hi, .bool wr, .slice asp nsp csp, .slice als nls cls]) rfl (y_loadn (b := b1) (o := 0) (vs := [.int .i64 wd, .int .i64 hi, .bool wr, .slice asp nsp csp, .slice als nls cls]) T53.agg_26_5 rfl rfl (hB66.cells (o := 0) rfl)) ?_
      refine s_y (v := .func (.func 94) #[] #[.pointer (some ⟨b1, 0, none⟩), .pointer (some ⟨b10, 0, none⟩), .pointer (some ⟨b21, 0, none⟩), .pointer (some ⟨b34, 0, none⟩)]) rfl (y_func rfl rfl) ?_
      refine s_k rfl (k_call T53.fn_93 (c_i_cellsBy (f := 94) (us := []) (xs := [.pointer (some ⟨b1, 0, none⟩), .pointer (some ⟨b10, 0, none⟩), .pointer (some ⟨b21, 0, none⟩), .pointer (some ⟨b34, 0, none⟩)]) (FP := (reachP wd hi wr x y sp)) _ (by omega) (by omega) (by omega) (by omega) T53.fn_94 (fun x y w1 he h0 h1 h2 h3 => (c_i_ReachOf_1 w1 (hB66.sl.ext0 he) (hB67.sl.ext0 he) (hB68.sl.ext0 he) (hB69.sl.ext0 he) (by omega) (by omega) (by omega) (by omega) (by omega) (by omega) (by omega) (by omega) (by omega) (by omega) (by omega) (by omega)))) rfl ?_)
      rintro _ w75 ⟨⟨a77, c78, rfl, hO79⟩, e76⟩
      have hB80 := hB66.ext0 e76
      have hB81 := hB67.ext0 e76
      have hB82 := hB68.ext0 e76
      have hB83 := hB69.ext0 e76
      have hS84 := hS70.ext0 e76
      have hS85 := hS71.ext0 e76
      have E86 := E72.fresh e76 (fun _ h _ => h.elim)
      have d87 : ∀ k, inA a77 k → w62.heap.size ≤ k := fun kx hk => (hO79.blk kx hk).1
      have dj88 : inA a77 b1 → False := fun h => Nat.not_lt.2 (d87 _ h) hB66.lt
      have dj89 : inA a77 b10 → False := fun h => Nat.not_lt.2 (d87 _ h) hB67.lt
      have dj90 : inA a77 b21 → False := fun h => Nat.not_lt.2 (d87 _ h) hB68.lt
      have dj91 : inA a77 b34 → False := fun h => Nat.not_lt.2 (d87 _ h) hB69.lt
      have fr92 : ∀ k, inA a77 k → k < w.heap.size → False := fun kx h1 h2 => Nat.not_lt.2 (Nat.le_trans E72.size (d87 kx h1)) h2
      have hO93 := hO79.base E72.size
      have hsl94 := sel_len (wd * hi) (fun i => (reachP wd hi wr x y sp) (i % wd) (i / wd))
      refine s_y (v := .slice a77 ((sel (wd * hi) (fun i => (reachP wd hi wr x y sp) (i % wd) (i / wd))).length) c78) rfl (y_assign rfl) ?_
      refine s_y (v := .bool true) rfl (y_assign rfl) ?_
      refine s_nil ?_
      refine W_ret ?_
      refine ret2 rfl rfl rfl rfl rfl ⟨_, rfl, ?_⟩
      exact ⟨.inl ⟨by simp only [reachB, c60, c73, Bool.and_true, Bool.true_and, Bool.and_false, Bool.false_and, Bool.not_true, Bool.not_false, Bool.or_true, Bool.true_or, Bool.or_false, Bool.false_or], _, _, rfl, hO93⟩, E86⟩
    · obtain rfl : v64 = .bool false := hv65.trans (congrArg Value.bool (Bool.eq_false_iff.2 c73))
      refine s_y (v := .bool true) rfl (y_not rfl rfl) ?_
      refine s_y (v := .bool true) rfl (y_pick_f rfl rfl) ?_
      refine s_nil ?_
      refine W_if_t (by decide) rfl ?_
      refine W_seq ?_
      refine W_region (by kernel_rfl) ?_
      refine s_y (v := .slice none 0 0) rfl (y_assign rfl) ?_
      refine s_y (v := .bool false) rfl (y_assign rfl) ?_
      refine s_nil ?_
      refine W_ret ?_
      refine ret2 rfl rfl rfl rfl rfl ⟨_, rfl, ?_⟩
      exact ⟨.inr ⟨by simp only [reachB, c60, (Bool.eq_false_iff.2 c73), Bool.and_true, Bool.true_and, Bool.and_false, Bool.false_and, Bool.not_true, Bool.not_false, Bool.or_true, Bool.true_or, Bool.or_false, Bool.false_or], rfl⟩, E72⟩
  · obtain rfl : v51 = .bool false := hv52.trans (congrArg Value.bool (Bool.eq_false_iff.2 c60))
    refine s_y (v := .bool true) rfl (y_not rfl rfl) ?_
    refine s_y (v := .bool true) rfl (y_move rfl) ?_
    refine s_skip rfl ?_
    refine s_skip rfl ?_
    refine s_skip rfl ?_
    refine s_y (v := .bool true) rfl (y_pick_t rfl rfl) ?_
    refine s_nil ?_
    refine W_if_t (by decide) rfl ?_
    refine W_seq ?_
    refine W_region (by kernel_rfl) ?_
    refine s_y (v := .slice none 0 0) rfl (y_assign rfl) ?_
    refine s_y (v := .bool false) rfl (y_assign rfl) ?_
    refine s_nil ?_
    refine W_ret ?_
    refine ret2 rfl rfl rfl rfl rfl ⟨_, rfl, ?_⟩
    exact ⟨.inr ⟨by simp only [reachB, (Bool.eq_false_iff.2 c60), Bool.and_true, Bool.true_and, Bool.and_false, Bool.false_and, Bool.not_true, Bool.not_false, Bool.or_true, Bool.true_or, Bool.or_false, Bool.false_or], rfl⟩, E59⟩
namespace T54
theorem mx : Try.prog.follows .mixedOrders = true := by kernel_rfl
theorem one_2 : oneB Try.prog 2 = true := by kernel_rfl
theorem sl_74_2_1 : slB Try.prog 74 2 1 = true := by kernel_rfl
end T54
set_option maxRecDepth 100000 in
set_option maxHeartbeats 4000000 in
theorem c_l_eqInt64S {a a2 : Option Addr} {n m cc c2 : Nat} {x : List (Int)} (w : World) (h1 : Sl w a (flat inC x)) (l1 : x.length = n) (h2 : Sl w a2 (flat inC x)) (l2 : x.length = m) (hb : n ≤ 9223372036854775806) :
    Calls Try.prog 54 #[.slice a n cc, .slice a2 m c2] w (Rt fun v w' => v = .bool true ∧ Ext0 w w') := by
  have E0 : Ext no w w := Ext.refl _ _
  have lo_a := Sl.low h1
  have lo_a2 := Sl.low h2
  refine calls_W (n := 26) Try.func54 rfl rfl (Nat.le_of_ble_eq_true rfl) ?_
  refine W_seq ?_
  refine W_region (by kernel_rfl) ?_
  refine s_y (v := .bool false) rfl (y_assign rfl) ?_
  refine s_nil ?_
  refine W_seq ?_
  refine W_seq ?_
  refine W_region (by kernel_rfl) ?_
  refine s_y (v := .slice a n cc) rfl (y_move rfl) ?_
  refine s_y (v := .int .i64 ((n : Nat) : Int)) rfl (y_len T54.sl_74_2_1 rfl rfl) ?_
  refine s_y (v := .slice a2 m c2) rfl (y_move rfl) ?_
  refine s_y (v := .int .i64 ((m : Nat) : Int)) rfl (y_len T54.sl_74_2_1 rfl rfl) ?_
  by_cases c1 : ((n : Nat) : Int) ≠ ((m : Nat) : Int)
  · refine s_y (v := .bool true) rfl (y_neq rfl rfl (decide_eq_true c1)) ?_
    refine s_nil ?_
    refine W_if_t (by decide) rfl ?_
    refine W_seq ?_
    refine W_region (by kernel_rfl) ?_
    refine s_y (v := .bool false) rfl (y_assign rfl) ?_
    refine s_nil ?_
    refine W_ret ?_
    refine ret1 rfl rfl rfl ⟨_, rfl, ?_⟩
    omega
  · refine s_y (v := .bool false) rfl (y_neq rfl rfl (decide_eq_false c1)) ?_
    refine s_nil ?_
    refine W_if_f (by decide) rfl ?_
    refine W_skip ?_
    refine W_seq ?_
    refine W_seq ?_
    refine W_region (by kernel_rfl) ?_
    refine s_y (v := .int .i64 0) rfl (y_assign rfl) ?_
    refine s_nil ?_
    refine W_block ?_
-- loop drops slots [4]
    refine W_loop (fun ρ' w' => ∃ (ρ1 : Env) (k : Int), ρ' = updL ρ1 [(0, .slice a n cc), (1, .slice a2 m c2), (5, .int .i64 k)] ∧ Ext no w w' ∧ Sl w' a (flat inC x) ∧ Sl w' a2 (flat inC x) ∧ (0 ≤ k) ∧ (k ≤ (n : Int))) (fun ρ' _ => ((n : Int) - iv (ρ' 5)).toNat) ?_ ?_
    · exact ⟨_, 0, Fits.eq ⟨rfl, rfl, rfl, trivial⟩, E0, h1, h2, (Int.le_refl _), (by omega)⟩
    · rintro _ w2 ⟨ρ6, k, rfl, E3, hS4, hS5, h0k, h1k⟩
      refine W_seq ?_
      refine W_seq ?_
      refine W_region (by kernel_rfl) ?_
      refine s_y (v := .int .i64 k) rfl (y_move rfl) ?_
      refine s_y (v := .slice a n cc) rfl (y_move rfl) ?_
      refine s_y (v := .int .i64 ((n : Nat) : Int)) rfl (y_len T54.sl_74_2_1 rfl rfl) ?_
      by_cases c7 : k < ((n : Nat) : Int)
      · refine s_y (v := .bool true) rfl (y_lss rfl rfl (decide_eq_true c7)) ?_
        refine s_nil ?_
        refine W_if_t (by decide) rfl ?_
        refine W_skip ?_
        refine W_seq ?_
        refine W_block ?_
        refine W_seq ?_
        refine W_draw (no) T54.mx (by kernel_rfl) (fun w8 e9 => ?_)
        have hS10 := hS4.ext0 e9
        have hS11 := hS5.ext0 e9
        have E12 := E3.fresh e9 (fun _ h _ => h.elim)
        have R13 := (Ext.refl (no) w2).trans (Ext0.any e9)
        refine m_y (v := .slice a n cc) 0 rfl (by kernel_rfl) rfl rfl (fun w' e' => y_move rfl) ?_
        refine m_y (v := .int .i64 k) 1 rfl (by kernel_rfl) rfl rfl (fun w' e' => y_move rfl) ?_
        refine m_y (v := .pointer (some (sat a ((k).toNat * 1)))) 2 rfl (by kernel_rfl) rfl rfl (fun w' e' => y_idx T54.sl_74_2_1 rfl rfl (hS10.addr (by rw [flat_length inC_len]; omega)) (by omega) (by omega)) ?_
        refine m_y (v := .int .i64 (gl x k)) 3 rfl (by kernel_rfl) rfl rfl (fun w' e' => y_load T54.one_2 rfl ((hS4.ext0 e').cell (flat_cell inC_len (by omega) (by omega) (j := 0) rfl))) ?_
        refine m_y (v := .slice a2 m c2) 4 rfl (by kernel_rfl) rfl rfl (fun w' e' => y_move rfl) ?_
        refine m_y (v := .int .i64 k) 5 rfl (by kernel_rfl) rfl rfl (fun w' e' => y_move rfl) ?_
        refine m_y (v := .pointer (some (sat a2 ((k).toNat * 1)))) 6 rfl (by kernel_rfl) rfl rfl (fun w' e' => y_idx T54.sl_74_2_1 rfl rfl (hS11.addr (by rw [flat_length inC_len]; omega)) (by omega) (by omega)) ?_
        refine m_y (v := .int .i64 (gl x k)) 7 rfl (by kernel_rfl) rfl rfl (fun w' e' => y_load T54.one_2 rfl ((hS5.ext0 e').cell (flat_cell inC_len (by omega) (by omega) (j := 0) rfl))) ?_
        refine m_y (v := .bool false) 8 rfl (by kernel_rfl) rfl rfl (fun w' e' => y_neq rfl rfl (decide_eq_false (fun hq => hq rfl))) ?_
        refine m_done (by kernel_rfl) (fun w14 e15 => ?_)
        have hS16 := hS10.ext0 e15
        have hS17 := hS11.ext0 e15
        have E18 := E12.fresh e15 (fun _ h _ => h.elim)
        have R19 := R13.trans (Ext0.any e15)
        refine W_if_f (by decide) rfl ?_
        refine W_skip ?_
        refine W_region (by kernel_rfl) ?_
        refine s_y (v := .int .i64 k) rfl (y_move rfl) ?_
        refine s_y (v := .int .i64 (k + 1)) rfl (y_add rfl rfl rfl (by omega)) ?_
        refine s_y (v := .int .i64 (k + 1)) rfl (y_assign rfl) ?_
        refine s_nil ?_
        refine ⟨⟨_, k + 1, Fits.eq ⟨rfl, rfl, rfl, trivial⟩, E18, hS16, hS17, (by omega), (by omega)⟩, ?_⟩
        show ((n : Int) - (k + 1)).toNat < ((n : Int) - k).toNat
        omega
      · refine s_y (v := .bool false) rfl (y_lss rfl rfl (decide_eq_false c7)) ?_
        refine s_nil ?_
        refine W_if_f (by decide) rfl ?_
        refine W_exit ?_
        refine W_seq ?_
        refine W_region (by kernel_rfl) ?_
        refine s_y (v := .bool true) rfl (y_assign rfl) ?_
        refine s_nil ?_
        refine W_ret ?_
        refine ret1 rfl rfl rfl ⟨_, rfl, ?_⟩
        exact ⟨rfl, E3⟩
end Go.Proofs.Ytcggpjocghigcaa
