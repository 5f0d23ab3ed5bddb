/- Walks: what the functions under FnExactShiftSheet do (part 1). Printed by a program of this claim's author. -/
import Derived.Test.YtcggpjocghigcaaF3
import Derived.Test.YtcggpjocghigcaaModel
import Derived.Test.YtcggpjocghigcaaM2
import Derived.Test.YtcggpjocghigcaaM3
import Derived.Test.YtcggpjocghigcaaM4
import Derived.Test.YtcggpjocghigcaaProg
set_option linter.unusedSimpArgs false
set_option linter.unusedVariables false
open Go.Wv
namespace Go.Proofs.Ytcggpjocghigcaa
open Go.Proofs
namespace T68
theorem mx : Try.prog.follows .mixedOrders = true := by kernel_rfl
theorem sl_24_62_1 : slB Try.prog 24 62 1 = true := by kernel_rfl
end T68
set_option maxRecDepth 100000 in
set_option maxHeartbeats 4000000 in
theorem c_l_szFloat32S {a : Option Addr} {n cc : Nat} {left : Int} (w : World) (h0 : 0 ≤ left) (h1 : left ≤ 1048576) (h2 : n ≤ 9223372036854775807) :
    Calls Try.prog 68 #[.slice a n cc, .int .i64 left] w (Rt fun v w' => v = .int .i64 (if (n : Int) ≤ left then left - n else -1) ∧ Ext0 w w') := by
  have E0 : Ext no w w := Ext.refl _ _
  refine calls_W (n := 12) Try.func68 rfl rfl (Nat.le_of_ble_eq_true rfl) ?_
  refine W_seq ?_
  refine W_region (by kernel_rfl) ?_
  refine s_y (v := .int .i64 0) rfl (y_assign rfl) ?_
  refine s_nil ?_
  refine W_seq ?_
  refine W_region (by kernel_rfl) ?_
  refine s_y (v := .int .i64 left) rfl (y_move rfl) ?_
  refine s_y (v := .slice a n cc) rfl (y_move rfl) ?_
  refine s_y (v := .int .i64 ((n : Nat) : Int)) rfl (y_len T68.sl_24_62_1 rfl rfl) ?_
  refine s_y (v := .int .i64 (left - ((n : Nat) : Int))) rfl (y_sub rfl rfl rfl (by omega)) ?_
  refine s_y (v := .int .i64 (left - ((n : Nat) : Int))) rfl (y_assign rfl) ?_
  refine s_nil ?_
  refine W_seq ?_
  refine W_seq ?_
  refine W_region (by kernel_rfl) ?_
  refine s_y (v := .int .i64 (left - ((n : Nat) : Int))) rfl (y_move rfl) ?_
  by_cases c1 : (left - ((n : Nat) : Int)) < 0
  · refine s_y (v := .bool true) rfl (y_lss rfl rfl (decide_eq_true c1)) ?_
    refine s_nil ?_
    refine W_if_t (by decide) rfl ?_
    refine W_seq ?_
    refine W_region (by kernel_rfl) ?_
    refine s_y (v := .int .i64 (-1)) rfl (y_assign rfl) ?_
    refine s_nil ?_
    refine W_ret ?_
    refine ret1 rfl rfl rfl ⟨_, rfl, ?_⟩
    exact ⟨congrArg (Value.int .i64) (if_neg (by omega)).symm, E0⟩
  · refine s_y (v := .bool false) rfl (y_lss rfl rfl (decide_eq_false c1)) ?_
    refine s_nil ?_
    refine W_if_f (by decide) rfl ?_
    refine W_skip ?_
    refine W_seq ?_
    refine W_region (by kernel_rfl) ?_
    refine s_y (v := .int .i64 (left - ((n : Nat) : Int))) rfl (y_move rfl) ?_
    refine s_y (v := .int .i64 (left - ((n : Nat) : Int))) rfl (y_assign rfl) ?_
    refine s_nil ?_
    refine W_ret ?_
    refine ret1 rfl rfl rfl ⟨_, rfl, ?_⟩
    exact ⟨congrArg (Value.int .i64) (if_pos (by omega)).symm, E0⟩
namespace T21
theorem mx : Try.prog.follows .mixedOrders = true := by kernel_rfl
theorem fld_36_3_3 : fldB Try.prog 36 3 3 = true := by kernel_rfl
theorem fld_36_4_4 : fldB Try.prog 36 4 4 = true := by kernel_rfl
theorem fn_68 : fnB Try.prog 68 = true := by kernel_rfl
theorem one_24 : oneB Try.prog 24 = true := by kernel_rfl
end T21
set_option maxRecDepth 100000 in
set_option maxHeartbeats 4000000 in
theorem c_l_szSheet {wd hi : Int} {wr : Bool} {asp als : Option Addr} {nsp nls csp cls : Nat} {left : Int} (w : World) (h0 : 0 ≤ left) (h1 : left ≤ 1048576) (hnsp : nsp ≤ 9223372036854775807) (hnls : nls ≤ 9223372036854775807) :
    Calls Try.prog 21 #[.agg #[.int .i64 wd, .int .i64 hi, .bool wr, .slice asp nsp csp, .slice als nls cls], .int .i64 left] w (Rt fun v w' => v = .int .i64 (if ((nsp : Nat) : Int) + ((nls : Nat) : Int) ≤ left then left - ((nsp : Nat) : Int) - ((nls : Nat) : Int) else -1) ∧ Ext0 w w') := by
  have E0 : Ext no w w := Ext.refl _ _
  refine calls_W (n := 18) Try.func21 rfl rfl (Nat.le_of_ble_eq_true rfl) ?_
  refine W_seq ?_
  refine W_region (by kernel_rfl) ?_
  refine s_k rfl (k_box (v := .agg #[.int .i64 wd, .int .i64 hi, .bool wr, .slice asp nsp csp, .slice als nls cls]) (cs := [.int .i64 wd, .int .i64 hi, .bool wr, .slice asp nsp csp, .slice als nls cls]) rfl rfl (fun b1 w2 q4 e3 hB5 => ?_))
  have E6 := E0.fresh e3 (fun _ h _ => h.elim)
  have fr7 : NotLt b1 w.heap.size := fun h => Nat.not_lt.2 (Nat.le_trans E0.size (Nat.le_of_eq q4.symm)) h
  clear q4
  refine s_y (v := .int .i64 0) rfl (y_assign rfl) ?_
  refine s_nil ?_
  refine W_seq ?_
  refine W_region (by kernel_rfl) ?_
  refine s_y (v := .pointer (some ⟨b1, 3, none⟩)) rfl (y_fld (o := 0) T21.fld_36_3_3 rfl) ?_
  refine s_y (v := .slice asp nsp csp) rfl (y_load T21.one_24 rfl (hB5.cell (j := 3) rfl)) ?_
  refine s_y (v := .int .i64 left) rfl (y_move rfl) ?_
  refine s_k rfl (k_call T21.fn_68 (c_l_szFloat32S _ (by omega) (by omega) (by omega)) rfl ?_)
  rintro v10 w8 ⟨hv11, e9⟩
  have hB12 := hB5.ext0 e9
  have E13 := E6.fresh e9 (fun _ h _ => h.elim)
  by_cases c14 : ((nsp : Nat) : Int) ≤ left
  · obtain rfl : v10 = .int .i64 (left - (nsp : Nat)) := hv11.trans (congrArg _ (if_pos c14))
    have hk15 : ¬ (left - (nsp : Nat)) < 0 := by omega
    refine s_y (v := .int .i64 (left - (nsp : Nat))) rfl (y_assign rfl) ?_
    refine s_nil ?_
    refine W_seq ?_
    refine W_seq ?_
    refine W_region (by kernel_rfl) ?_
    refine s_y (v := .int .i64 (left - (nsp : Nat))) rfl (y_move rfl) ?_
    refine s_y (v := .bool false) rfl (y_lss rfl rfl (decide_eq_false hk15)) ?_
    refine s_nil ?_
    refine W_if_f (by decide) rfl ?_
    refine W_skip ?_
    refine W_seq ?_
    refine W_region (by kernel_rfl) ?_
    refine s_y (v := .pointer (some ⟨b1, 4, none⟩)) rfl (y_fld (o := 0) T21.fld_36_4_4 rfl) ?_
    refine s_y (v := .slice als nls cls) rfl (y_load T21.one_24 rfl (hB12.cell (j := 4) rfl)) ?_
    refine s_y (v := .int .i64 (left - (nsp : Nat))) rfl (y_move rfl) ?_
    refine s_k rfl (k_call T21.fn_68 (c_l_szFloat32S _ (by omega) (by omega) (by omega)) rfl ?_)
    rintro v18 w16 ⟨hv19, e17⟩
    have hB20 := hB12.ext0 e17
    have E21 := E13.fresh e17 (fun _ h _ => h.elim)
    by_cases c22 : ((nls : Nat) : Int) ≤ left - (nsp : Nat)
    · obtain rfl : v18 = .int .i64 ((left - (nsp : Nat)) - (nls : Nat)) := hv19.trans (congrArg _ (if_pos c22))
      have hk23 : ¬ ((left - (nsp : Nat)) - (nls : Nat)) < 0 := by omega
      refine s_y (v := .int .i64 ((left - (nsp : Nat)) - (nls : Nat))) rfl (y_assign rfl) ?_
      refine s_nil ?_
      refine W_seq ?_
      refine W_seq ?_
      refine W_region (by kernel_rfl) ?_
      refine s_y (v := .int .i64 ((left - (nsp : Nat)) - (nls : Nat))) rfl (y_move rfl) ?_
      refine s_y (v := .bool false) rfl (y_lss rfl rfl (decide_eq_false hk23)) ?_
      refine s_nil ?_
      refine W_if_f (by decide) rfl ?_
      refine W_skip ?_
      refine W_seq ?_
      refine W_region (by kernel_rfl) ?_
      refine s_y (v := .int .i64 ((left - (nsp : Nat)) - (nls : Nat))) rfl (y_move rfl) ?_
      refine s_y (v := .int .i64 ((left - (nsp : Nat)) - (nls : Nat))) rfl (y_assign rfl) ?_
      refine s_nil ?_
      refine W_ret ?_
      refine ret1 rfl rfl rfl ⟨_, rfl, ?_⟩
      exact ⟨congrArg (Value.int .i64) (if_pos (by omega)).symm, E21⟩
    · obtain rfl : v18 = .int .i64 (-1) := hv19.trans (congrArg _ (if_neg c22))
      refine s_y (v := .int .i64 (-1)) rfl (y_assign rfl) ?_
      refine s_nil ?_
      refine W_seq ?_
      refine W_seq ?_
      refine W_region (by kernel_rfl) ?_
      refine s_y (v := .int .i64 (-1)) rfl (y_move rfl) ?_
      have hk24 : (-1 : Int) < 0 := (by decide)
      refine s_y (v := .bool true) rfl (y_lss rfl rfl (decide_eq_true hk24)) ?_
      refine s_nil ?_
      refine W_if_t (by decide) rfl ?_
      refine W_seq ?_
      refine W_region (by kernel_rfl) ?_
      refine s_y (v := .int .i64 (-1)) rfl (y_assign rfl) ?_
      refine s_nil ?_
      refine W_ret ?_
      refine ret1 rfl rfl rfl ⟨_, rfl, ?_⟩
      exact ⟨congrArg (Value.int .i64) (if_neg (by omega)).symm, E21⟩
  · obtain rfl : v10 = .int .i64 (-1) := hv11.trans (congrArg _ (if_neg c14))
    refine s_y (v := .int .i64 (-1)) rfl (y_assign rfl) ?_
    refine s_nil ?_
    refine W_seq ?_
    refine W_seq ?_
    refine W_region (by kernel_rfl) ?_
    refine s_y (v := .int .i64 (-1)) rfl (y_move rfl) ?_
    have hk25 : (-1 : Int) < 0 := (by decide)
    refine s_y (v := .bool true) rfl (y_lss rfl rfl (decide_eq_true hk25)) ?_
    refine s_nil ?_
    refine W_if_t (by decide) rfl ?_
    refine W_seq ?_
    refine W_region (by kernel_rfl) ?_
    refine s_y (v := .int .i64 (-1)) rfl (y_assign rfl) ?_
    refine s_nil ?_
    refine W_ret ?_
    refine ret1 rfl rfl rfl ⟨_, rfl, ?_⟩
    exact ⟨congrArg (Value.int .i64) (if_neg (by omega)).symm, E13⟩
namespace T70
theorem mx : Try.prog.follows .mixedOrders = true := by kernel_rfl
theorem one_62 : oneB Try.prog 62 = true := by kernel_rfl
theorem sl_24_62_1 : slB Try.prog 24 62 1 = true := by kernel_rfl
theorem slt_24 : SlT Try.prog 24 62 1 4 (.float .f32 0) := ⟨by kernel_rfl, by kernel_rfl, rfl, by decide⟩
theorem sz_62_1 : szB Try.prog 62 1 = true := by kernel_rfl
end T70
set_option maxRecDepth 100000 in
set_option maxHeartbeats 4000000 in
theorem c_l_toFloat32S {a : Option Addr} {n c : Nat} {x X : List Nat} (w : World) (qs : Sl w a (flts x)) (ql : x.length = n) (qk : cn x = X) (hl : n ≤ 1048576) :
    Calls Try.prog 70 #[.slice a n c] w (Rt fun v w' => ∃ a', v = .slice a' n n ∧ Own w' w.heap.size a' n n 62 1 (flts x) ∧ Ext0 w w') := by
  have E0 : Ext no w w := Ext.refl _ _
  have lo_a := Sl.low qs
  refine calls_W (n := 22) Try.func70 rfl rfl (Nat.le_of_ble_eq_true rfl) ?_
  refine W_seq ?_
  refine W_region (by kernel_rfl) ?_
  refine s_y (v := .slice none 0 0) rfl (y_assign rfl) ?_
  refine s_nil ?_
  refine W_seq ?_
  refine W_region (by kernel_rfl) ?_
  refine s_y (v := .slice a n c) rfl (y_move rfl) ?_
  refine s_y (v := .int .i64 ((n : Nat) : Int)) rfl (y_len T70.sl_24_62_1 rfl rfl) ?_
  refine s_k rfl (k_mk T70.slt_24 rfl rfl (by omega) (by omega) (by omega) (fun b1 w2 q4 e3 hO5 => ?_))
  have hS6 := qs.ext0 e3
  have E7 := E0.fresh e3 (fun _ h _ => h.elim)
  have d8 : ∀ k, inA (some ⟨b1, 0, none⟩) k → w.heap.size ≤ k := fun kx hk => (hO5.blk kx hk).1
  have fr9 : ∀ k, inA (some ⟨b1, 0, none⟩) k → k < w.heap.size → False := fun kx h1 h2 => Nat.not_lt.2 (Nat.le_trans E0.size (d8 kx h1)) h2
  have hO10 := hO5.base E0.size
  have hO11 := hO10.cast rfl (made_flts ((((n : Nat) : Int)).toNat) rfl)
  have hl12 : (List.replicate ((((n : Nat) : Int)).toNat) 0).length = (((n : Nat) : Int)).toNat := List.length_replicate ..
  have hc13 := cn_zeros ((((n : Nat) : Int)).toNat)
  refine s_y (v := .slice (some ⟨b1, 0, none⟩) ((((n : Nat) : Int)).toNat) ((((n : Nat) : Int)).toNat)) rfl (y_assign rfl) ?_
  refine s_nil ?_
  refine W_seq ?_
  refine W_seq ?_
  refine W_region (by kernel_rfl) ?_
  refine s_y (v := .int .i64 0) rfl (y_assign rfl) ?_
  refine s_nil ?_
  refine W_block ?_
  refine W_loop (fun ρ' w' => ∃ (ρ1 : Env) (k : Int) (zs : List Nat), ρ' = updL ρ1 [(0, .slice a n c), (2, .slice none 0 0), (3, .slice (some ⟨b1, 0, none⟩) ((((n : Nat) : Int)).toNat) ((((n : Nat) : Int)).toNat)), (4, .int .i64 k)] ∧ Ext no w w' ∧ Sl w' a (flts x) ∧ Own w' w.heap.size (some ⟨b1, 0, none⟩) n n 62 1 (flts zs) ∧ (0 ≤ k) ∧ (k ≤ (n : Int)) ∧ (zs.length = n) ∧ (∀ i, 0 ≤ i → i < k → el zs i = el x i)) (fun ρ' _ => ((n : Int) - iv (ρ' 4)).toNat) ?_ ?_
  · exact ⟨_, 0, _, Fits.eq ⟨rfl, rfl, rfl, rfl, trivial⟩, E7, hS6, hO11, (Int.le_refl _), (by omega), (by simp), (by intro i h0 h1; omega)⟩
  · rintro _ w14 ⟨ρ18, k, zs, rfl, E15, hS16, hO17, h0k, h1k, hz, hq⟩
    refine W_seq ?_
    refine W_seq ?_
    refine W_region (by kernel_rfl) ?_
    refine s_y (v := .int .i64 k) rfl (y_move rfl) ?_
    refine s_y (v := .slice a n c) rfl (y_move rfl) ?_
    refine s_y (v := .int .i64 ((n : Nat) : Int)) rfl (y_len T70.sl_24_62_1 rfl rfl) ?_
    by_cases c19 : k < ((n : Nat) : Int)
    · refine s_y (v := .bool true) rfl (y_lss rfl rfl (decide_eq_true c19)) ?_
      refine s_nil ?_
      refine W_if_t (by decide) rfl ?_
      refine W_skip ?_
      refine W_seq ?_
      refine W_block ?_
      refine W_region (by kernel_rfl) ?_
      refine s_y (v := .slice (some ⟨b1, 0, none⟩) ((((n : Nat) : Int)).toNat) ((((n : Nat) : Int)).toNat)) rfl (y_move rfl) ?_
      refine s_y (v := .int .i64 k) rfl (y_move rfl) ?_
      refine s_y (v := .slice a n c) rfl (y_move rfl) ?_
      refine s_y (v := .int .i64 k) rfl (y_move rfl) ?_
      refine s_y (v := .pointer (some (sat a ((k).toNat * 1)))) rfl (y_idx T70.sl_24_62_1 rfl rfl (hS16.addr (by rw [flts_length]; omega)) (by omega) (by omega)) ?_
      refine s_y (v := .float .f32 (el x k)) rfl (y_load T70.one_62 rfl (hS16.cell (fl_at (by omega) (by omega)))) ?_
      refine s_y (v := .pointer (some (sat (some ⟨b1, 0, none⟩) ((k).toNat * 1)))) rfl (y_idx T70.sl_24_62_1 rfl rfl (hO17.sl.addr (by rw [flts_length]; omega)) (by omega) (by omega)) ?_
      refine s_k0 rfl (k_storeEl (v := .float .f32 (el x k)) T70.sz_62_1 rfl rfl rfl rfl hO17 (by rw [flts_length]; omega) (fun w20 e21 z22 hO23 => ?_))
      clear z22
      have hS24 := hS16.extL lo_a e21 (fun kx hs hl => (fun hs => fr9 kx hs hl) hs)
      have E25 := E15.fresh e21 (fun kx hs hl => (fun hs => (fr9 kx hs hl).elim) hs)
      have hO26 := hO23.cast rfl (flts_put zs k (el x k))
      have hl27 := (put_length zs k (el x k)).trans hz
      have hc28 := cn_put (rfl : cn zs = cn zs) (cn_el qk k) k
      refine s_nil ?_
      refine W_region (by kernel_rfl) ?_
      refine s_y (v := .int .i64 k) rfl (y_move rfl) ?_
      refine s_y (v := .int .i64 (k + 1)) rfl (y_add rfl rfl rfl (by omega)) ?_
      refine s_y (v := .int .i64 (k + 1)) rfl (y_assign rfl) ?_
      refine s_nil ?_
      refine ⟨⟨_, k + 1, _, Fits.eq ⟨rfl, rfl, rfl, rfl, trivial⟩, E25, hS24, hO26, (by omega), (by omega), hl27, (el_same (by omega) (by omega) (by omega) hq)⟩, ?_⟩
      show ((n : Int) - (k + 1)).toNat < ((n : Int) - k).toNat
      omega
    · refine s_y (v := .bool false) rfl (y_lss rfl rfl (decide_eq_false c19)) ?_
      refine s_nil ?_
      refine W_if_f (by decide) rfl ?_
      refine W_exit ?_
      refine W_seq ?_
      refine W_region (by kernel_rfl) ?_
      refine s_y (v := .slice (some ⟨b1, 0, none⟩) ((((n : Nat) : Int)).toNat) ((((n : Nat) : Int)).toNat)) rfl (y_move rfl) ?_
      refine s_y (v := .slice (some ⟨b1, 0, none⟩) ((((n : Nat) : Int)).toNat) ((((n : Nat) : Int)).toNat)) rfl (y_assign rfl) ?_
      refine s_nil ?_
      refine W_ret ?_
      refine ret1 rfl rfl rfl ⟨_, rfl, ?_⟩
      obtain rfl : zs = x := ext_el (by omega) (fun i h0 h1 => hq i h0 (by omega))
      exact ⟨_, rfl, hO17, E15⟩
namespace T23
theorem mx : Try.prog.follows .mixedOrders = true := by kernel_rfl
theorem agg_26_5 : aggB Try.prog 26 5 = true := by kernel_rfl
theorem fld_26_0_0 : fldB Try.prog 26 0 0 = true := by kernel_rfl
theorem fld_26_1_1 : fldB Try.prog 26 1 1 = true := by kernel_rfl
theorem fld_26_2_2 : fldB Try.prog 26 2 2 = true := by kernel_rfl
theorem fld_26_3_3 : fldB Try.prog 26 3 3 = true := by kernel_rfl
theorem fld_26_4_4 : fldB Try.prog 26 4 4 = true := by kernel_rfl
theorem fld_36_0_0 : fldB Try.prog 36 0 0 = true := by kernel_rfl
theorem fld_36_1_1 : fldB Try.prog 36 1 1 = true := by kernel_rfl
theorem fld_36_2_2 : fldB Try.prog 36 2 2 = true := by kernel_rfl
theorem fld_36_3_3 : fldB Try.prog 36 3 3 = true := by kernel_rfl
theorem fld_36_4_4 : fldB Try.prog 36 4 4 = true := by kernel_rfl
theorem fn_70 : fnB Try.prog 70 = true := by kernel_rfl
theorem one_2 : oneB Try.prog 2 = true := by kernel_rfl
theorem one_24 : oneB Try.prog 24 = true := by kernel_rfl
theorem one_4 : oneB Try.prog 4 = true := by kernel_rfl
theorem sz_2_1 : szB Try.prog 2 1 = true := by kernel_rfl
theorem sz_24_1 : szB Try.prog 24 1 = true := by kernel_rfl
theorem sz_26_5 : szB Try.prog 26 5 = true := by kernel_rfl
theorem sz_4_1 : szB Try.prog 4 1 = true := by kernel_rfl
theorem zero_26 : zeroB Try.prog 26 (.agg #[.int .i64 0, .int .i64 0, .bool false, .slice none 0 0, .slice none 0 0]) := by unfold zeroB; kernel_rfl
end T23
set_option maxRecDepth 100000 in
set_option maxHeartbeats 4000000 in
theorem c_l_toSheet {wd hi : Int} {wr : Bool} {asp : Option Addr} {nsp csp : Nat} {xsp Xsp : List Nat} {als : Option Addr} {nls cls : Nat} {xls Xls : List Nat} (w : World) (qssp : Sl w asp (flts xsp)) (qlsp : xsp.length = nsp) (qksp : cn xsp = Xsp) (qsls : Sl w als (flts xls)) (qlls : xls.length = nls) (qkls : cn xls = Xls) (b1 : nsp ≤ 1048576) (b2 : nls ≤ 1048576) :
    Calls Try.prog 23 #[.agg #[.int .i64 wd, .int .i64 hi, .bool wr, .slice asp nsp csp, .slice als nls cls]] w (Rt fun v w' => (∃ (a1 : Option Addr) (c1 : Nat) (z1 : List Nat) (a2 : Option Addr) (c2 : Nat) (z2 : List Nat), v = .agg #[.int .i64 wd, .int .i64 hi, .bool wr, .slice a1 nsp c1, .slice a2 nls c2] ∧ Own w' w.heap.size a1 nsp c1 62 1 (flts z1) ∧ z1.length = nsp ∧ cn z1 = Xsp ∧ Own w' w.heap.size a2 nls c2 62 1 (flts z2) ∧ z2.length = nls ∧ cn z2 = Xls ∧ (∀ k, inA a1 k → inA a2 k → False)) ∧ Ext0 w w') := by
  have E0 : Ext no w w := Ext.refl _ _
  have hlP : Xsp.length = nsp := (cn_lenX qksp).trans qlsp
  have hlL : Xls.length = nls := (cn_lenX qkls).trans qlls
  have lo_asp := Sl.low qssp
  have lo_als := Sl.low qsls
  refine calls_W (n := 22) Try.func23 rfl rfl (Nat.le_of_ble_eq_true rfl) ?_
  refine W_seq ?_
  refine W_region (by kernel_rfl) ?_
  refine s_k rfl (k_box (v := .agg #[.int .i64 wd, .int .i64 hi, .bool wr, .slice asp nsp csp, .slice als nls cls]) (cs := [.int .i64 wd, .int .i64 hi, .bool wr, .slice asp nsp csp, .slice als nls cls]) rfl rfl (fun b1 w2 q4 e3 hB5 => ?_))
  have hS6 := qssp.ext0 e3
  have hS7 := qsls.ext0 e3
  have E8 := E0.fresh e3 (fun _ h _ => h.elim)
  have fr9 : NotLt b1 w.heap.size := fun h => Nat.not_lt.2 (Nat.le_trans E0.size (Nat.le_of_eq q4.symm)) h
  clear q4
  refine s_k rfl (k_alloc (z := (.agg #[.int .i64 0, .int .i64 0, .bool false, .slice none 0 0, .slice none 0 0])) (cs := [.int .i64 0, .int .i64 0, .bool false, .slice none 0 0, .slice none 0 0]) T23.zero_26 rfl (fun b10 w11 q13 e12 hB14 => ?_))
  have hB15 := hB5.ext0 e12
  have hS16 := hS6.ext0 e12
  have hS17 := hS7.ext0 e12
  have E18 := E8.fresh e12 (fun _ h _ => h.elim)
  have dj19 : NeB b1 b10 := fun h => Nat.ne_of_lt hB5.lt (h.trans q13)
  have fr20 : NotLt b10 w.heap.size := fun h => Nat.not_lt.2 (Nat.le_trans E8.size (Nat.le_of_eq q13.symm)) h
  clear q13
  refine s_nil ?_
  refine W_seq ?_
  refine W_region (by kernel_rfl) ?_
  refine s_k rfl (k_alloc (z := (.agg #[.int .i64 0, .int .i64 0, .bool false, .slice none 0 0, .slice none 0 0])) (cs := [.int .i64 0, .int .i64 0, .bool false, .slice none 0 0, .slice none 0 0]) T23.zero_26 rfl (fun b21 w22 q24 e23 hB25 => ?_))
  have hB26 := hB15.ext0 e23
  have hB27 := hB14.ext0 e23
  have hS28 := hS16.ext0 e23
  have hS29 := hS17.ext0 e23
  have E30 := E18.fresh e23 (fun _ h _ => h.elim)
  have dj31 : NeB b1 b21 := fun h => Nat.ne_of_lt hB15.lt (h.trans q24)
  have dj32 : NeB b10 b21 := fun h => Nat.ne_of_lt hB14.lt (h.trans q24)
  have fr33 : NotLt b21 w.heap.size := fun h => Nat.not_lt.2 (Nat.le_trans E18.size (Nat.le_of_eq q24.symm)) h
  clear q24
  refine s_nil ?_
  refine W_seq ?_
  refine W_region (by kernel_rfl) ?_
  refine s_y (v := .pointer (some ⟨b1, 0, none⟩)) rfl (y_fld (o := 0) T23.fld_36_0_0 rfl) ?_
  refine s_y (v := .int .i64 wd) rfl (y_load T23.one_2 rfl (hB26.cell (j := 0) rfl)) ?_
  refine s_y (v := .pointer (some ⟨b21, 0, none⟩)) rfl (y_fld (o := 0) T23.fld_26_0_0 rfl) ?_
  refine s_k0 rfl (k_store (v := .int .i64 wd) (n := 1) (cs' := [.int .i64 wd, .int .i64 0, .bool false, .slice none 0 0, .slice none 0 0]) T23.sz_2_1 rfl rfl rfl hB25 (by simp [Value.cells, Value.oneCell']) (Nat.le_of_ble_eq_true rfl) rfl (fun w34 e35 z36 hB37 => ?_))
  clear z36
  have hB38 := hB26.ext e35 dj31
  have hB39 := hB27.ext e35 dj32
  have hS40 := hS28.extL lo_asp e35 (fun kx (hs : kx = b21) hl => fr33 (hs ▸ hl))
  have hS41 := hS29.extL lo_als e35 (fun kx (hs : kx = b21) hl => fr33 (hs ▸ hl))
  have E42 := E30.fresh e35 (fun kx (hs : kx = b21) hl => (fr33 (hs ▸ hl)).elim)
  refine s_nil ?_
  refine W_seq ?_
  refine W_region (by kernel_rfl) ?_
  refine s_y (v := .pointer (some ⟨b1, 1, none⟩)) rfl (y_fld (o := 0) T23.fld_36_1_1 rfl) ?_
  refine s_y (v := .int .i64 hi) rfl (y_load T23.one_2 rfl (hB38.cell (j := 1) rfl)) ?_
  refine s_y (v := .pointer (some ⟨b21, 1, none⟩)) rfl (y_fld (o := 0) T23.fld_26_1_1 rfl) ?_
  refine s_k0 rfl (k_store (v := .int .i64 hi) (n := 1) (cs' := [.int .i64 wd, .int .i64 hi, .bool false, .slice none 0 0, .slice none 0 0]) T23.sz_2_1 rfl rfl rfl hB37 (by simp [Value.cells, Value.oneCell']) (Nat.le_of_ble_eq_true rfl) rfl (fun w43 e44 z45 hB46 => ?_))
  clear z45
  have hB47 := hB38.ext e44 dj31
  have hB48 := hB39.ext e44 dj32
  have hS49 := hS40.extL lo_asp e44 (fun kx (hs : kx = b21) hl => fr33 (hs ▸ hl))
  have hS50 := hS41.extL lo_als e44 (fun kx (hs : kx = b21) hl => fr33 (hs ▸ hl))
  have E51 := E42.fresh e44 (fun kx (hs : kx = b21) hl => (fr33 (hs ▸ hl)).elim)
  refine s_nil ?_
  refine W_seq ?_
  refine W_region (by kernel_rfl) ?_
  refine s_y (v := .pointer (some ⟨b1, 2, none⟩)) rfl (y_fld (o := 0) T23.fld_36_2_2 rfl) ?_
  refine s_y (v := .bool wr) rfl (y_load T23.one_4 rfl (hB47.cell (j := 2) rfl)) ?_
  refine s_y (v := .pointer (some ⟨b21, 2, none⟩)) rfl (y_fld (o := 0) T23.fld_26_2_2 rfl) ?_
  refine s_k0 rfl (k_store (v := .bool wr) (n := 1) (cs' := [.int .i64 wd, .int .i64 hi, .bool wr, .slice none 0 0, .slice none 0 0]) T23.sz_4_1 rfl rfl rfl hB46 (by simp [Value.cells, Value.oneCell']) (Nat.le_of_ble_eq_true rfl) rfl (fun w52 e53 z54 hB55 => ?_))
  clear z54
  have hB56 := hB47.ext e53 dj31
  have hB57 := hB48.ext e53 dj32
  have hS58 := hS49.extL lo_asp e53 (fun kx (hs : kx = b21) hl => fr33 (hs ▸ hl))
  have hS59 := hS50.extL lo_als e53 (fun kx (hs : kx = b21) hl => fr33 (hs ▸ hl))
  have E60 := E51.fresh e53 (fun kx (hs : kx = b21) hl => (fr33 (hs ▸ hl)).elim)
  refine s_nil ?_
  refine W_seq ?_
  refine W_region (by kernel_rfl) ?_
  refine s_y (v := .pointer (some ⟨b1, 3, none⟩)) rfl (y_fld (o := 0) T23.fld_36_3_3 rfl) ?_
  refine s_y (v := .slice asp nsp csp) rfl (y_load T23.one_24 rfl (hB56.cell (j := 3) rfl)) ?_
  refine s_k rfl (k_call T23.fn_70 (c_l_toFloat32S _ hS58 qlsp rfl (by omega)) rfl ?_)
  rintro _ w61 ⟨a63, rfl, hO64, e62⟩
  have hB65 := hB56.ext0 e62
  have hB66 := hB57.ext0 e62
  have hB67 := hB55.ext0 e62
  have hS68 := hS58.ext0 e62
  have hS69 := hS59.ext0 e62
  have E70 := E60.fresh e62 (fun _ h _ => h.elim)
  have d71 : ∀ k, inA a63 k → w52.heap.size ≤ k := fun kx hk => (hO64.blk kx hk).1
  have dj72 : inA a63 b1 → False := fun h => Nat.not_lt.2 (d71 _ h) hB56.lt
  have dj73 : inA a63 b10 → False := fun h => Nat.not_lt.2 (d71 _ h) hB57.lt
  have dj74 : inA a63 b21 → False := fun h => Nat.not_lt.2 (d71 _ h) hB55.lt
  have fr75 : ∀ k, inA a63 k → k < w.heap.size → False := fun kx h1 h2 => Nat.not_lt.2 (Nat.le_trans E60.size (d71 kx h1)) h2
  have hO76 := hO64.base E60.size
  refine s_y (v := .pointer (some ⟨b21, 3, none⟩)) rfl (y_fld (o := 0) T23.fld_26_3_3 rfl) ?_
  refine s_k0 rfl (k_store (v := .slice a63 nsp nsp) (n := 1) (cs' := [.int .i64 wd, .int .i64 hi, .bool wr, .slice a63 nsp nsp, .slice none 0 0]) T23.sz_24_1 rfl rfl rfl hB67 (by simp [Value.cells, Value.oneCell']) (Nat.le_of_ble_eq_true rfl) rfl (fun w77 e78 z79 hB80 => ?_))
  clear z79
  have hB81 := hB65.ext e78 dj31
  have hB82 := hB66.ext e78 dj32
  have hS83 := hS68.extL lo_asp e78 (fun kx (hs : kx = b21) hl => fr33 (hs ▸ hl))
  have hS84 := hS69.extL lo_als e78 (fun kx (hs : kx = b21) hl => fr33 (hs ▸ hl))
  have hO85 := hO76.ext e78 (fun kx hk (hs : kx = b21) => dj74 (hs ▸ hk))
  have E86 := E70.fresh e78 (fun kx (hs : kx = b21) hl => (fr33 (hs ▸ hl)).elim)
  refine s_nil ?_
  refine W_seq ?_
  refine W_region (by kernel_rfl) ?_
  refine s_y (v := .pointer (some ⟨b1, 4, none⟩)) rfl (y_fld (o := 0) T23.fld_36_4_4 rfl) ?_
  refine s_y (v := .slice als nls cls) rfl (y_load T23.one_24 rfl (hB81.cell (j := 4) rfl)) ?_
  refine s_k rfl (k_call T23.fn_70 (c_l_toFloat32S _ hS84 qlls rfl (by omega)) rfl ?_)
  rintro _ w87 ⟨a89, rfl, hO90, e88⟩
  have hB91 := hB81.ext0 e88
  have hB92 := hB82.ext0 e88
  have hB93 := hB80.ext0 e88
  have hS94 := hS83.ext0 e88
  have hS95 := hS84.ext0 e88
  have hO96 := hO85.ext0 e88
  have E97 := E86.fresh e88 (fun _ h _ => h.elim)
  have d98 : ∀ k, inA a89 k → w77.heap.size ≤ k := fun kx hk => (hO90.blk kx hk).1
  have dj99 : inA a89 b1 → False := fun h => Nat.not_lt.2 (d98 _ h) hB81.lt
  have dj100 : inA a89 b10 → False := fun h => Nat.not_lt.2 (d98 _ h) hB82.lt
  have dj101 : inA a89 b21 → False := fun h => Nat.not_lt.2 (d98 _ h) hB80.lt
  have dj102 : ∀ k, inA a63 k → inA a89 k → False := fun kx h1 h2 => Nat.not_lt.2 (d98 kx h2) (hO85.blk kx h1).2
  have fr103 : ∀ k, inA a89 k → k < w.heap.size → False := fun kx h1 h2 => Nat.not_lt.2 (Nat.le_trans E86.size (d98 kx h1)) h2
  have hO104 := hO90.base E86.size
  refine s_y (v := .pointer (some ⟨b21, 4, none⟩)) rfl (y_fld (o := 0) T23.fld_26_4_4 rfl) ?_
  refine s_k0 rfl (k_store (v := .slice a89 nls nls) (n := 1) (cs' := [.int .i64 wd, .int .i64 hi, .bool wr, .slice a63 nsp nsp, .slice a89 nls nls]) T23.sz_24_1 rfl rfl rfl hB93 (by simp [Value.cells, Value.oneCell']) (Nat.le_of_ble_eq_true rfl) rfl (fun w105 e106 z107 hB108 => ?_))
  clear z107
  have hB109 := hB91.ext e106 dj31
  have hB110 := hB92.ext e106 dj32
  have hS111 := hS94.extL lo_asp e106 (fun kx (hs : kx = b21) hl => fr33 (hs ▸ hl))
  have hS112 := hS95.extL lo_als e106 (fun kx (hs : kx = b21) hl => fr33 (hs ▸ hl))
  have hO113 := hO96.ext e106 (fun kx hk (hs : kx = b21) => dj74 (hs ▸ hk))
  have hO114 := hO104.ext e106 (fun kx hk (hs : kx = b21) => dj101 (hs ▸ hk))
  have E115 := E97.fresh e106 (fun kx (hs : kx = b21) hl => (fr33 (hs ▸ hl)).elim)
  refine s_nil ?_
  refine W_seq ?_
  refine W_region (by kernel_rfl) ?_
  refine s_y (v := .agg #[.int .i64 wd, .int .i64 hi, .bool wr, .slice a63 nsp nsp, .slice a89 nls nls]) rfl (y_loadn (b := b21) (o := 0) (vs := [.int .i64 wd, .int .i64 hi, .bool wr, .slice a63 nsp nsp, .slice a89 nls nls]) T23.agg_26_5 rfl rfl (hB108.cells (o := 0) rfl)) ?_
  refine s_k0 rfl (k_store (v := .agg #[.int .i64 wd, .int .i64 hi, .bool wr, .slice a63 nsp nsp, .slice a89 nls nls]) (n := 5) (cs' := [.int .i64 wd, .int .i64 hi, .bool wr, .slice a63 nsp nsp, .slice a89 nls nls]) T23.sz_26_5 rfl rfl rfl hB110 (by simp [Value.cells, Value.oneCell']) (Nat.le_of_ble_eq_true rfl) rfl (fun w116 e117 z118 hB119 => ?_))
  clear z118
  have hB120 := hB109.ext e117 dj19
  have hB121 := hB108.ext e117 (fun h => dj32 h.symm)
  have hS122 := hS111.extL lo_asp e117 (fun kx (hs : kx = b10) hl => fr20 (hs ▸ hl))
  have hS123 := hS112.extL lo_als e117 (fun kx (hs : kx = b10) hl => fr20 (hs ▸ hl))
  have hO124 := hO113.ext e117 (fun kx hk (hs : kx = b10) => dj73 (hs ▸ hk))
  have hO125 := hO114.ext e117 (fun kx hk (hs : kx = b10) => dj100 (hs ▸ hk))
  have E126 := E115.fresh e117 (fun kx (hs : kx = b10) hl => (fr20 (hs ▸ hl)).elim)
  refine s_nil ?_
  refine W_ret ?_
  refine ret1 rfl rfl ⟨_, [.int .i64 wd, .int .i64 hi, .bool wr, .slice a63 nsp nsp, .slice a89 nls nls], _, rfl, hB119, T23.agg_26_5, rfl⟩ ⟨_, rfl, ?_⟩
  exact ⟨⟨_, _, _, _, _, _, rfl, hO124, qlsp, qksp, hO125, qlls, qkls, dj102⟩, E126⟩
namespace T88
theorem mx : Try.prog.follows .mixedOrders = true := by kernel_rfl
end T88
set_option maxRecDepth 100000 in
set_option maxHeartbeats 4000000 in
theorem c_s_l00In (n lo hi : Int) (w : World) :
    Calls Try.prog 88 #[.int .i64 n, .int .i64 lo, .int .i64 hi] w (Rt fun v w' => v = .bool (within n lo hi) ∧ Ext0 w w') := by
  have E0 : Ext no w w := Ext.refl _ _
  refine calls_W (n := 15) Try.func88 rfl rfl (Nat.le_of_ble_eq_true rfl) ?_
  refine W_seq ?_
  refine W_region (by kernel_rfl) ?_
  refine s_y (v := .bool false) rfl (y_assign rfl) ?_
  refine s_nil ?_
  refine W_seq ?_
  refine W_region (by kernel_rfl) ?_
  refine s_y (v := .int .i64 n) rfl (y_move rfl) ?_
  refine s_y (v := .int .i64 lo) rfl (y_move rfl) ?_
  by_cases c1 : lo ≤ n
  · refine s_y (v := .bool true) rfl (y_geq rfl rfl (decide_eq_true c1)) ?_
    refine s_y (v := .bool true) rfl (y_move rfl) ?_
    refine s_y (v := .int .i64 n) rfl (y_move rfl) ?_
    refine s_y (v := .int .i64 hi) rfl (y_move rfl) ?_
    by_cases c2 : n ≤ hi
    · refine s_y (v := .bool true) rfl (y_leq rfl rfl (decide_eq_true c2)) ?_
      refine s_y (v := .bool true) rfl (y_pick_t rfl rfl) ?_
      refine s_y (v := .bool true) rfl (y_assign rfl) ?_
      refine s_nil ?_
      refine W_ret ?_
      refine ret1 rfl rfl rfl ⟨_, rfl, ?_⟩
      exact ⟨congrArg Value.bool (by simp [within] <;> omega), E0⟩
    · refine s_y (v := .bool false) rfl (y_leq rfl rfl (decide_eq_false c2)) ?_
      refine s_y (v := .bool false) rfl (y_pick_t rfl rfl) ?_
      refine s_y (v := .bool false) rfl (y_assign rfl) ?_
      refine s_nil ?_
      refine W_ret ?_
      refine ret1 rfl rfl rfl ⟨_, rfl, ?_⟩
      exact ⟨congrArg Value.bool (by simp [within] <;> omega), E0⟩
  · refine s_y (v := .bool false) rfl (y_geq rfl rfl (decide_eq_false c1)) ?_
    refine s_y (v := .bool false) rfl (y_move rfl) ?_
    refine s_skip rfl ?_
    refine s_skip rfl ?_
    refine s_skip rfl ?_
    refine s_y (v := .bool false) rfl (y_pick_f rfl rfl) ?_
    refine s_y (v := .bool false) rfl (y_assign rfl) ?_
    refine s_nil ?_
    refine W_ret ?_
    refine ret1 rfl rfl rfl ⟨_, rfl, ?_⟩
    exact ⟨congrArg Value.bool (by simp [within] <;> omega), E0⟩
namespace T103
theorem mx : Try.prog.follows .mixedOrders = true := by kernel_rfl
theorem fn_88 : fnB Try.prog 88 = true := by kernel_rfl
end T103
set_option maxRecDepth 100000 in
set_option maxHeartbeats 4000000 in
theorem c_s_l02Sides {wd hi : Int} (w : World) :
    Calls Try.prog 103 #[.int .i64 wd, .int .i64 hi] w (Rt fun v w' => v = .bool (sidesB wd hi) ∧ Ext0 w w') := by
  have E0 : Ext no w w := Ext.refl _ _
  refine calls_W (n := 17) Try.func103 rfl rfl (Nat.le_of_ble_eq_true rfl) ?_
  refine W_seq ?_
  refine W_region (by kernel_rfl) ?_
  refine s_y (v := .bool false) rfl (y_assign rfl) ?_
  refine s_nil ?_
  refine W_seq ?_
  refine W_region (by kernel_rfl) ?_
  refine s_y (v := .int .i64 wd) rfl (y_move rfl) ?_
  refine s_k rfl (k_call T103.fn_88 (c_s_l00In _ _ _ _) rfl ?_)
  rintro v3 w1 ⟨hv4, e2⟩
  have E5 := E0.fresh e2 (fun _ h _ => h.elim)
  by_cases c6 : within wd 3 16 = true
  · have hb7 := within_b c6
    obtain rfl : v3 = .bool true := hv4.trans (congrArg Value.bool c6)
    refine s_y (v := .bool true) rfl (y_move rfl) ?_
    refine s_y (v := .int .i64 hi) rfl (y_move rfl) ?_
    refine s_k rfl (k_call T103.fn_88 (c_s_l00In _ _ _ _) rfl ?_)
    rintro v10 w8 ⟨hv11, e9⟩
    have E12 := E5.fresh e9 (fun _ h _ => h.elim)
    by_cases c13 : within hi 3 16 = true
    · have hb14 := within_b c13
      obtain rfl : v10 = .bool true := hv11.trans (congrArg Value.bool c13)
      refine s_y (v := .bool true) rfl (y_pick_t rfl rfl) ?_
      refine s_y (v := .bool true) rfl (y_move rfl) ?_
      refine s_y (v := .int .i64 wd) rfl (y_move rfl) ?_
      refine s_y (v := .int .i64 hi) rfl (y_move rfl) ?_
      have hm15 := mulb (a := wd) (b := hi) (by omega) (by omega) (by omega) (by omega)
      refine s_y (v := .int .i64 (wd * hi)) rfl (y_mul rfl rfl rfl (by omega)) ?_
      have hk16 : (wd * hi) ≤ 256 := (mul16 (And.intro (within_b c6) (within_b c13))).2
      refine s_y (v := .bool true) rfl (y_leq rfl rfl (decide_eq_true hk16)) ?_
      refine s_y (v := .bool true) rfl (y_pick_t rfl rfl) ?_
      refine s_y (v := .bool true) rfl (y_assign rfl) ?_
      refine s_nil ?_
      refine W_ret ?_
      refine ret1 rfl rfl rfl ⟨_, rfl, ?_⟩
      exact ⟨congrArg Value.bool (by simp only [sidesB, c6, c13, (decide_eq_true hk16), Bool.and_true, Bool.true_and, Bool.and_false, Bool.false_and, Bool.not_true, Bool.not_false, Bool.or_true, Bool.true_or, Bool.or_false, Bool.false_or]), E12⟩
    · obtain rfl : v10 = .bool false := hv11.trans (congrArg Value.bool (Bool.eq_false_iff.2 c13))
      refine s_y (v := .bool false) rfl (y_pick_t rfl rfl) ?_
      refine s_y (v := .bool false) rfl (y_move rfl) ?_
      refine s_skip rfl ?_
      refine s_skip rfl ?_
      refine s_skip rfl ?_
      refine s_skip rfl ?_
      refine s_y (v := .bool false) rfl (y_pick_f rfl rfl) ?_
      refine s_y (v := .bool false) rfl (y_assign rfl) ?_
      refine s_nil ?_
      refine W_ret ?_
      refine ret1 rfl rfl rfl ⟨_, rfl, ?_⟩
      exact ⟨congrArg Value.bool (by simp only [sidesB, c6, (Bool.eq_false_iff.2 c13), Bool.and_true, Bool.true_and, Bool.and_false, Bool.false_and, Bool.not_true, Bool.not_false, Bool.or_true, Bool.true_or, Bool.or_false, Bool.false_or]), E12⟩
  · obtain rfl : v3 = .bool false := hv4.trans (congrArg Value.bool (Bool.eq_false_iff.2 c6))
    refine s_y (v := .bool false) rfl (y_move rfl) ?_
    refine s_skip rfl ?_
    refine s_skip rfl ?_
    refine s_y (v := .bool false) rfl (y_pick_f rfl rfl) ?_
    refine s_y (v := .bool false) rfl (y_move rfl) ?_
    refine s_skip rfl ?_
    refine s_skip rfl ?_
    refine s_skip rfl ?_
    refine s_skip rfl ?_
    refine s_y (v := .bool false) rfl (y_pick_f rfl rfl) ?_
    refine s_y (v := .bool false) rfl (y_assign rfl) ?_
    refine s_nil ?_
    refine W_ret ?_
    refine ret1 rfl rfl rfl ⟨_, rfl, ?_⟩
    exact ⟨congrArg Value.bool (by simp only [sidesB, (Bool.eq_false_iff.2 c6), Bool.and_true, Bool.true_and, Bool.and_false, Bool.false_and, Bool.not_true, Bool.not_false, Bool.or_true, Bool.true_or, Bool.or_false, Bool.false_or]), E5⟩
namespace T69
theorem mx : Try.prog.follows .mixedOrders = true := by kernel_rfl
theorem fld_26_0_0 : fldB Try.prog 26 0 0 = true := by kernel_rfl
theorem fld_26_1_1 : fldB Try.prog 26 1 1 = true := by kernel_rfl
theorem fld_26_3_3 : fldB Try.prog 26 3 3 = true := by kernel_rfl
theorem fld_26_4_4 : fldB Try.prog 26 4 4 = true := by kernel_rfl
theorem fn_103 : fnB Try.prog 103 = true := by kernel_rfl
theorem one_2 : oneB Try.prog 2 = true := by kernel_rfl
theorem one_24 : oneB Try.prog 24 = true := by kernel_rfl
theorem one_62 : oneB Try.prog 62 = true := by kernel_rfl
theorem sl_24_62_1 : slB Try.prog 24 62 1 = true := by kernel_rfl
end T69
set_option maxRecDepth 100000 in
set_option maxHeartbeats 4000000 in
theorem c_s_l02Is {wd hi : Int} {wr : Bool} {asp : Option Addr} {nsp csp : Nat} {xsp Xsp : List Nat} {als : Option Addr} {nls cls : Nat} {xls Xls : List Nat} {b o : Nat} (w : World) (qssp : Sl w asp (flts xsp)) (qlsp : xsp.length = nsp) (qksp : cn xsp = Xsp) (qsls : Sl w als (flts xls)) (qlls : xls.length = nls) (qkls : cn xls = Xls) (hP : Sl w (some ⟨b, o, none⟩) [.int .i64 wd, .int .i64 hi, .bool wr, .slice asp nsp csp, .slice als nls cls]) (hb1 : nsp ≤ 9223372036854775806) (hb2 : nls ≤ 9223372036854775806) :
    Calls Try.prog 69 #[.pointer (some ⟨b, o, none⟩)] w (Rt fun v w' => v = .bool (validS wd hi Xsp Xls) ∧ Ext0 w w') := by
  have E0 : Ext no w w := Ext.refl _ _
  have hlP : Xsp.length = nsp := (cn_lenX qksp).trans qlsp
  have hlL : Xls.length = nls := (cn_lenX qkls).trans qlls
  have lo_asp := Sl.low qssp
  have lo_als := Sl.low qsls
  have lo_some_b_o_none := Sl.low hP
  refine calls_W (n := 97) Try.func69 rfl rfl (Nat.le_of_ble_eq_true rfl) ?_
  refine W_seq ?_
  refine W_region (by kernel_rfl) ?_
  refine s_y (v := .bool false) rfl (y_assign rfl) ?_
  refine s_nil ?_
  refine W_seq ?_
  refine W_seq ?_
  refine W_draw (no) T69.mx (by kernel_rfl) (fun w1 e2 => ?_)
  have hS3 := qssp.ext0 e2
  have hS4 := qsls.ext0 e2
  have hS5 := hP.ext0 e2
  have E6 := E0.fresh e2 (fun _ h _ => h.elim)
  have R7 := (Ext.refl (no) w).trans (Ext0.any e2)
  refine m_y (v := .pointer (some ⟨b, o, none⟩)) 0 rfl (by kernel_rfl) rfl rfl (fun w' e' => y_move rfl) ?_
  refine m_y (v := .pointer (some ⟨b, o, none⟩)) 1 rfl (by kernel_rfl) rfl rfl (fun w' e' => y_nil rfl) ?_
  refine m_y (v := .pointer (some ⟨b, o, none⟩)) 2 rfl (by kernel_rfl) rfl rfl (fun w' e' => y_fld (o := o + 0) T69.fld_26_0_0 rfl) ?_
  refine m_y (v := .int .i64 wd) 3 rfl (by kernel_rfl) rfl rfl (fun w' e' => y_load T69.one_2 rfl ((hP.ext0 e').cell (j := 0) rfl)) ?_
  refine m_y (v := .pointer (some ⟨b, o, none⟩)) 4 rfl (by kernel_rfl) rfl rfl (fun w' e' => y_move rfl) ?_
  refine m_y (v := .pointer (some ⟨b, o, none⟩)) 5 rfl (by kernel_rfl) rfl rfl (fun w' e' => y_nil rfl) ?_
  refine m_y (v := .pointer (some ⟨b, o + 1, none⟩)) 6 rfl (by kernel_rfl) rfl rfl (fun w' e' => y_fld (o := o + 0) T69.fld_26_1_1 rfl) ?_
  refine m_y (v := .int .i64 hi) 7 rfl (by kernel_rfl) rfl rfl (fun w' e' => y_load T69.one_2 rfl ((hP.ext0 e').cell (j := 1) rfl)) ?_
  refine m_k 8 [9, 10, 11, 12, 13, 14, 15, 16, 17, 18, 19, 20, 21, 22, 23, 24, 25, 26, 27, 28, 29, 30, 31, 32, 33, 34, 35, 36, 37, 38, 39, 40, 41, 42, 43] rfl (by kernel_rfl) rfl rfl (fun w8 e9 => ?_)
  have hS10 := hS3.ext0 e9
  have hS11 := hS4.ext0 e9
  have hS12 := hS5.ext0 e9
  have E13 := E6.fresh e9 (fun _ h _ => h.elim)
  have R14 := R7.trans (Ext0.any e9)
  refine k_call T69.fn_103 (c_s_l02Sides _) rfl ?_
  rintro v17 w15 ⟨hv18, e16⟩
  have hS19 := hS10.ext0 e16
  have hS20 := hS11.ext0 e16
  have hS21 := hS12.ext0 e16
  have E22 := E13.fresh e16 (fun _ h _ => h.elim)
  have R23 := R14.trans (Ext0.any e16)
  refine ⟨fun _ => R23, ?_⟩
  by_cases c24 : sidesB wd hi = true
  · have hb25 := sides_b c24
    obtain rfl : v17 = .bool true := hv18.trans (congrArg Value.bool c24)
    refine m_y (v := .bool false) 9 rfl (by kernel_rfl) rfl rfl (fun w' e' => y_not rfl rfl) ?_
    refine m_y (v := .bool false) 10 rfl (by kernel_rfl) rfl rfl (fun w' e' => y_move rfl) ?_
    refine m_y (v := .pointer (some ⟨b, o, none⟩)) 11 rfl (by kernel_rfl) rfl rfl (fun w' e' => y_move rfl) ?_
    refine m_y (v := .pointer (some ⟨b, o, none⟩)) 12 rfl (by kernel_rfl) rfl rfl (fun w' e' => y_nil rfl) ?_
    refine m_y (v := .pointer (some ⟨b, o + 3, none⟩)) 13 rfl (by kernel_rfl) rfl rfl (fun w' e' => y_fld (o := o + 0) T69.fld_26_3_3 rfl) ?_
    refine m_y (v := .slice asp nsp csp) 14 rfl (by kernel_rfl) rfl rfl (fun w' e' => y_load T69.one_24 rfl ((hP.ext0 e').cell (j := 3) rfl)) ?_
    refine m_y (v := .int .i64 ((nsp : Nat) : Int)) 15 rfl (by kernel_rfl) rfl rfl (fun w' e' => y_len T69.sl_24_62_1 rfl rfl) ?_
    refine m_y (v := .pointer (some ⟨b, o, none⟩)) 16 rfl (by kernel_rfl) rfl rfl (fun w' e' => y_move rfl) ?_
    refine m_y (v := .pointer (some ⟨b, o, none⟩)) 17 rfl (by kernel_rfl) rfl rfl (fun w' e' => y_nil rfl) ?_
    refine m_y (v := .pointer (some ⟨b, o, none⟩)) 18 rfl (by kernel_rfl) rfl rfl (fun w' e' => y_fld (o := o + 0) T69.fld_26_0_0 rfl) ?_
    refine m_y (v := .int .i64 wd) 19 rfl (by kernel_rfl) rfl rfl (fun w' e' => y_load T69.one_2 rfl ((hP.ext0 e').cell (j := 0) rfl)) ?_
    refine m_y (v := .pointer (some ⟨b, o, none⟩)) 20 rfl (by kernel_rfl) rfl rfl (fun w' e' => y_move rfl) ?_
    refine m_y (v := .pointer (some ⟨b, o, none⟩)) 21 rfl (by kernel_rfl) rfl rfl (fun w' e' => y_nil rfl) ?_
    refine m_y (v := .pointer (some ⟨b, o + 1, none⟩)) 22 rfl (by kernel_rfl) rfl rfl (fun w' e' => y_fld (o := o + 0) T69.fld_26_1_1 rfl) ?_
    refine m_y (v := .int .i64 hi) 23 rfl (by kernel_rfl) rfl rfl (fun w' e' => y_load T69.one_2 rfl ((hP.ext0 e').cell (j := 1) rfl)) ?_
    refine m_y (v := .int .i64 (wd * hi)) 24 rfl (by kernel_rfl) rfl rfl (fun w' e' => y_mul rfl rfl rfl (by omega)) ?_
    by_cases c27 : ((nsp : Nat) : Int) ≠ (wd * hi)
    · refine m_y (v := .bool true) 25 rfl (by kernel_rfl) rfl rfl (fun w' e' => y_neq rfl rfl (decide_eq_true c27)) ?_
      refine m_y (v := .bool true) 26 rfl (by kernel_rfl) rfl rfl (fun w' e' => y_pick_f rfl rfl) ?_
      refine m_y (v := .bool true) 27 rfl (by kernel_rfl) rfl rfl (fun w' e' => y_move rfl) ?_
      refine m_skip 28 rfl (by kernel_rfl) rfl ?_
      refine m_skip 29 rfl (by kernel_rfl) rfl ?_
      refine m_skip 30 rfl (by kernel_rfl) rfl ?_
      refine m_skip 31 rfl (by kernel_rfl) rfl ?_
      refine m_skip 32 rfl (by kernel_rfl) rfl ?_
      refine m_skip 33 rfl (by kernel_rfl) rfl ?_
      refine m_skip 34 rfl (by kernel_rfl) rfl ?_
      refine m_skip 35 rfl (by kernel_rfl) rfl ?_
      refine m_skip 36 rfl (by kernel_rfl) rfl ?_
      refine m_skip 37 rfl (by kernel_rfl) rfl ?_
      refine m_skip 38 rfl (by kernel_rfl) rfl ?_
      refine m_skip 39 rfl (by kernel_rfl) rfl ?_
      refine m_skip 40 rfl (by kernel_rfl) rfl ?_
      refine m_skip 41 rfl (by kernel_rfl) rfl ?_
      refine m_skip 42 rfl (by kernel_rfl) rfl ?_
      refine m_y (v := .bool true) 43 rfl (by kernel_rfl) rfl rfl (fun w' e' => y_pick_t rfl rfl) ?_
      refine m_done (by kernel_rfl) (fun w28 e29 => ?_)
      have hS30 := hS19.ext0 e29
      have hS31 := hS20.ext0 e29
      have hS32 := hS21.ext0 e29
      have E33 := E22.fresh e29 (fun _ h _ => h.elim)
      have R34 := R23.trans (Ext0.any e29)
      refine W_if_t (by decide) rfl ?_
      refine W_seq ?_
      refine W_region (by kernel_rfl) ?_
      refine s_y (v := .bool false) rfl (y_assign rfl) ?_
      refine s_nil ?_
      refine W_ret ?_
      refine ret1 rfl rfl rfl ⟨_, rfl, ?_⟩
      exact ⟨congrArg Value.bool (by simp [validS, hlP, hlL, *]), E33⟩
    · refine m_y (v := .bool false) 25 rfl (by kernel_rfl) rfl rfl (fun w' e' => y_neq rfl rfl (decide_eq_false c27)) ?_
      refine m_y (v := .bool false) 26 rfl (by kernel_rfl) rfl rfl (fun w' e' => y_pick_f rfl rfl) ?_
      refine m_y (v := .bool false) 27 rfl (by kernel_rfl) rfl rfl (fun w' e' => y_move rfl) ?_
      refine m_y (v := .pointer (some ⟨b, o, none⟩)) 28 rfl (by kernel_rfl) rfl rfl (fun w' e' => y_move rfl) ?_
      refine m_y (v := .pointer (some ⟨b, o, none⟩)) 29 rfl (by kernel_rfl) rfl rfl (fun w' e' => y_nil rfl) ?_
      refine m_y (v := .pointer (some ⟨b, o + 4, none⟩)) 30 rfl (by kernel_rfl) rfl rfl (fun w' e' => y_fld (o := o + 0) T69.fld_26_4_4 rfl) ?_
      refine m_y (v := .slice als nls cls) 31 rfl (by kernel_rfl) rfl rfl (fun w' e' => y_load T69.one_24 rfl ((hP.ext0 e').cell (j := 4) rfl)) ?_
      refine m_y (v := .int .i64 ((nls : Nat) : Int)) 32 rfl (by kernel_rfl) rfl rfl (fun w' e' => y_len T69.sl_24_62_1 rfl rfl) ?_
      refine m_y (v := .pointer (some ⟨b, o, none⟩)) 33 rfl (by kernel_rfl) rfl rfl (fun w' e' => y_move rfl) ?_
      refine m_y (v := .pointer (some ⟨b, o, none⟩)) 34 rfl (by kernel_rfl) rfl rfl (fun w' e' => y_nil rfl) ?_
      refine m_y (v := .pointer (some ⟨b, o, none⟩)) 35 rfl (by kernel_rfl) rfl rfl (fun w' e' => y_fld (o := o + 0) T69.fld_26_0_0 rfl) ?_
      refine m_y (v := .int .i64 wd) 36 rfl (by kernel_rfl) rfl rfl (fun w' e' => y_load T69.one_2 rfl ((hP.ext0 e').cell (j := 0) rfl)) ?_
      refine m_y (v := .pointer (some ⟨b, o, none⟩)) 37 rfl (by kernel_rfl) rfl rfl (fun w' e' => y_move rfl) ?_
      refine m_y (v := .pointer (some ⟨b, o, none⟩)) 38 rfl (by kernel_rfl) rfl rfl (fun w' e' => y_nil rfl) ?_
      refine m_y (v := .pointer (some ⟨b, o + 1, none⟩)) 39 rfl (by kernel_rfl) rfl rfl (fun w' e' => y_fld (o := o + 0) T69.fld_26_1_1 rfl) ?_
      refine m_y (v := .int .i64 hi) 40 rfl (by kernel_rfl) rfl rfl (fun w' e' => y_load T69.one_2 rfl ((hP.ext0 e').cell (j := 1) rfl)) ?_
      refine m_y (v := .int .i64 (wd * hi)) 41 rfl (by kernel_rfl) rfl rfl (fun w' e' => y_mul rfl rfl rfl (by omega)) ?_
      by_cases c36 : ((nls : Nat) : Int) ≠ (wd * hi)
      · refine m_y (v := .bool true) 42 rfl (by kernel_rfl) rfl rfl (fun w' e' => y_neq rfl rfl (decide_eq_true c36)) ?_
        refine m_y (v := .bool true) 43 rfl (by kernel_rfl) rfl rfl (fun w' e' => y_pick_f rfl rfl) ?_
        refine m_done (by kernel_rfl) (fun w37 e38 => ?_)
        have hS39 := hS19.ext0 e38
        have hS40 := hS20.ext0 e38
        have hS41 := hS21.ext0 e38
        have E42 := E22.fresh e38 (fun _ h _ => h.elim)
        have R43 := R23.trans (Ext0.any e38)
        refine W_if_t (by decide) rfl ?_
        refine W_seq ?_
        refine W_region (by kernel_rfl) ?_
        refine s_y (v := .bool false) rfl (y_assign rfl) ?_
        refine s_nil ?_
        refine W_ret ?_
        refine ret1 rfl rfl rfl ⟨_, rfl, ?_⟩
        exact ⟨congrArg Value.bool (by simp [validS, hlP, hlL, *]), E42⟩
      · refine m_y (v := .bool false) 42 rfl (by kernel_rfl) rfl rfl (fun w' e' => y_neq rfl rfl (decide_eq_false c36)) ?_
        refine m_y (v := .bool false) 43 rfl (by kernel_rfl) rfl rfl (fun w' e' => y_pick_f rfl rfl) ?_
        refine m_done (by kernel_rfl) (fun w44 e45 => ?_)
        have hS46 := hS19.ext0 e45
        have hS47 := hS20.ext0 e45
        have hS48 := hS21.ext0 e45
        have E49 := E22.fresh e45 (fun _ h _ => h.elim)
        have R50 := R23.trans (Ext0.any e45)
        refine W_if_f (by decide) rfl ?_
        refine W_skip ?_
        refine W_seq ?_
        refine W_seq ?_
        refine W_region (by kernel_rfl) ?_
        refine s_y (v := .int .i64 0) rfl (y_assign rfl) ?_
        refine s_nil ?_
        refine W_block ?_
-- loop drops slots [2]
        refine W_loop (fun ρ' w' => ∃ (ρ1 : Env) (k : Int), ρ' = updL ρ1 [(0, .pointer (some ⟨b, o, none⟩)), (3, .int .i64 k)] ∧ Ext no w w' ∧ Sl w' asp (flts xsp) ∧ Sl w' als (flts xls) ∧ Sl w' (some ⟨b, o, none⟩) [.int .i64 wd, .int .i64 hi, .bool wr, .slice asp nsp csp, .slice als nls cls] ∧ (0 ≤ k) ∧ (k ≤ wd * hi) ∧ (∀ i, 0 ≤ i → i < k → (betw 1056964608 Xsp i && betw 1065353216 Xls i) = true)) (fun ρ' _ => (wd * hi - iv (ρ' 3)).toNat) ?_ ?_
        · exact ⟨_, 0, Fits.eq ⟨rfl, rfl, trivial⟩, E49, hS46, hS47, hS48, (Int.le_refl _), (by omega), (by intro i h0 h1; omega)⟩
        · rintro _ w51 ⟨ρ56, k, rfl, E52, hS53, hS54, hS55, h0k, h1k, hq⟩
          refine W_seq ?_
          refine W_seq ?_
          refine W_region (by kernel_rfl) ?_
          refine s_y (v := .int .i64 k) rfl (y_move rfl) ?_
          refine s_y (v := .pointer (some ⟨b, o, none⟩)) rfl (y_move rfl) ?_
          refine s_y (v := .pointer (some ⟨b, o, none⟩)) rfl (y_nil rfl) ?_
          refine s_y (v := .pointer (some ⟨b, o + 3, none⟩)) rfl (y_fld (o := o + 0) T69.fld_26_3_3 rfl) ?_
          refine s_y (v := .slice asp nsp csp) rfl (y_load T69.one_24 rfl (hS55.cell (j := 3) rfl)) ?_
          refine s_y (v := .int .i64 ((nsp : Nat) : Int)) rfl (y_len T69.sl_24_62_1 rfl rfl) ?_
          by_cases c57 : k < ((nsp : Nat) : Int)
          · refine s_y (v := .bool true) rfl (y_lss rfl rfl (decide_eq_true c57)) ?_
            refine s_nil ?_
            refine W_if_t (by decide) rfl ?_
            refine W_skip ?_
            refine W_seq ?_
            refine W_block ?_
            refine W_seq ?_
            refine W_region (by kernel_rfl) ?_
            refine s_y (v := .pointer (some ⟨b, o, none⟩)) rfl (y_move rfl) ?_
            refine s_y (v := .pointer (some ⟨b, o, none⟩)) rfl (y_nil rfl) ?_
            refine s_y (v := .pointer (some ⟨b, o + 3, none⟩)) rfl (y_fld (o := o + 0) T69.fld_26_3_3 rfl) ?_
            refine s_y (v := .slice asp nsp csp) rfl (y_load T69.one_24 rfl (hS55.cell (j := 3) rfl)) ?_
            refine s_y (v := .int .i64 k) rfl (y_move rfl) ?_
            refine s_y (v := .pointer (some (sat asp ((k).toNat * 1)))) rfl (y_idx T69.sl_24_62_1 rfl rfl (hS53.addr (by rw [flts_length]; omega)) (by omega) (by omega)) ?_
            refine s_y (v := .float .f32 (el xsp k)) rfl (y_load T69.one_62 rfl (hS53.cell (fl_at (by omega) (by omega)))) ?_
            by_cases c58 : fge .f32 (el Xsp k) 0 = true
            · refine s_y (v := .bool true) rfl (y_fgeq rfl rfl (fgeC (cn_el qksp k) (show can .f32 0 = 0 by kernel_rfl) c58)) ?_
              refine s_y (v := .bool false) rfl (y_not rfl rfl) ?_
              refine s_y (v := .bool false) rfl (y_move rfl) ?_
              refine s_y (v := .pointer (some ⟨b, o, none⟩)) rfl (y_move rfl) ?_
              refine s_y (v := .pointer (some ⟨b, o, none⟩)) rfl (y_nil rfl) ?_
              refine s_y (v := .pointer (some ⟨b, o + 3, none⟩)) rfl (y_fld (o := o + 0) T69.fld_26_3_3 rfl) ?_
              refine s_y (v := .slice asp nsp csp) rfl (y_load T69.one_24 rfl (hS55.cell (j := 3) rfl)) ?_
              refine s_y (v := .int .i64 k) rfl (y_move rfl) ?_
              refine s_y (v := .pointer (some (sat asp ((k).toNat * 1)))) rfl (y_idx T69.sl_24_62_1 rfl rfl (hS53.addr (by rw [flts_length]; omega)) (by omega) (by omega)) ?_
              refine s_y (v := .float .f32 (el xsp k)) rfl (y_load T69.one_62 rfl (hS53.cell (fl_at (by omega) (by omega)))) ?_
              by_cases c59 : fgt .f32 (el Xsp k) 1056964608 = true
              · refine s_y (v := .bool true) rfl (y_fgtr rfl rfl (fgtC (cn_el qksp k) (show can .f32 1056964608 = 1056964608 by kernel_rfl) c59)) ?_
                refine s_y (v := .bool true) rfl (y_pick_f rfl rfl) ?_
                refine s_y (v := .bool true) rfl (y_move rfl) ?_
                refine s_skip rfl ?_
                refine s_skip rfl ?_
                refine s_skip rfl ?_
                refine s_skip rfl ?_
                refine s_skip rfl ?_
                refine s_skip rfl ?_
                refine s_skip rfl ?_
                refine s_skip rfl ?_
                refine s_skip rfl ?_
                refine s_y (v := .bool true) rfl (y_pick_t rfl rfl) ?_
                refine s_y (v := .bool true) rfl (y_move rfl) ?_
                refine s_skip rfl ?_
                refine s_skip rfl ?_
                refine s_skip rfl ?_
                refine s_skip rfl ?_
                refine s_skip rfl ?_
                refine s_skip rfl ?_
                refine s_skip rfl ?_
                refine s_skip rfl ?_
                refine s_y (v := .bool true) rfl (y_pick_t rfl rfl) ?_
                refine s_nil ?_
                refine W_if_t (by decide) rfl ?_
                refine W_seq ?_
                refine W_region (by kernel_rfl) ?_
                refine s_y (v := .bool false) rfl (y_assign rfl) ?_
                refine s_nil ?_
                refine W_ret ?_
                refine ret1 rfl rfl rfl ⟨_, rfl, ?_⟩
                exact ⟨congrArg Value.bool (validS_no (i := k) (by omega) (by omega) (by omega) (by first | exact .inl (betw_no1 (by assumption)) | exact .inl (betw_ng half_not (by assumption) (by assumption)) | exact .inr (betw_no1 (by assumption)) | exact .inr (betw_ng one_not (by assumption) (by assumption)))).symm, E52⟩
              · refine s_y (v := .bool false) rfl (y_fgtr rfl rfl (fgtC (cn_el qksp k) (show can .f32 1056964608 = 1056964608 by kernel_rfl) (Bool.eq_false_iff.2 c59))) ?_
                refine s_y (v := .bool false) rfl (y_pick_f rfl rfl) ?_
                refine s_y (v := .bool false) rfl (y_move rfl) ?_
                refine s_y (v := .pointer (some ⟨b, o, none⟩)) rfl (y_move rfl) ?_
                refine s_y (v := .pointer (some ⟨b, o, none⟩)) rfl (y_nil rfl) ?_
                refine s_y (v := .pointer (some ⟨b, o + 4, none⟩)) rfl (y_fld (o := o + 0) T69.fld_26_4_4 rfl) ?_
                refine s_y (v := .slice als nls cls) rfl (y_load T69.one_24 rfl (hS55.cell (j := 4) rfl)) ?_
                refine s_y (v := .int .i64 k) rfl (y_move rfl) ?_
                refine s_y (v := .pointer (some (sat als ((k).toNat * 1)))) rfl (y_idx T69.sl_24_62_1 rfl rfl (hS54.addr (by rw [flts_length]; omega)) (by omega) (by omega)) ?_
                refine s_y (v := .float .f32 (el xls k)) rfl (y_load T69.one_62 rfl (hS54.cell (fl_at (by omega) (by omega)))) ?_
                by_cases c60 : fge .f32 (el Xls k) 0 = true
                · refine s_y (v := .bool true) rfl (y_fgeq rfl rfl (fgeC (cn_el qkls k) (show can .f32 0 = 0 by kernel_rfl) c60)) ?_
                  refine s_y (v := .bool false) rfl (y_not rfl rfl) ?_
                  refine s_y (v := .bool false) rfl (y_pick_f rfl rfl) ?_
                  refine s_y (v := .bool false) rfl (y_move rfl) ?_
                  refine s_y (v := .pointer (some ⟨b, o, none⟩)) rfl (y_move rfl) ?_
                  refine s_y (v := .pointer (some ⟨b, o, none⟩)) rfl (y_nil rfl) ?_
                  refine s_y (v := .pointer (some ⟨b, o + 4, none⟩)) rfl (y_fld (o := o + 0) T69.fld_26_4_4 rfl) ?_
                  refine s_y (v := .slice als nls cls) rfl (y_load T69.one_24 rfl (hS55.cell (j := 4) rfl)) ?_
                  refine s_y (v := .int .i64 k) rfl (y_move rfl) ?_
                  refine s_y (v := .pointer (some (sat als ((k).toNat * 1)))) rfl (y_idx T69.sl_24_62_1 rfl rfl (hS54.addr (by rw [flts_length]; omega)) (by omega) (by omega)) ?_
                  refine s_y (v := .float .f32 (el xls k)) rfl (y_load T69.one_62 rfl (hS54.cell (fl_at (by omega) (by omega)))) ?_
                  by_cases c61 : fgt .f32 (el Xls k) 1065353216 = true
                  · refine s_y (v := .bool true) rfl (y_fgtr rfl rfl (fgtC (cn_el qkls k) (show can .f32 1065353216 = 1065353216 by kernel_rfl) c61)) ?_
                    refine s_y (v := .bool true) rfl (y_pick_f rfl rfl) ?_
                    refine s_nil ?_
                    refine W_if_t (by decide) rfl ?_
                    refine W_seq ?_
                    refine W_region (by kernel_rfl) ?_
                    refine s_y (v := .bool false) rfl (y_assign rfl) ?_
                    refine s_nil ?_
                    refine W_ret ?_
                    refine ret1 rfl rfl rfl ⟨_, rfl, ?_⟩
                    exact ⟨congrArg Value.bool (validS_no (i := k) (by omega) (by omega) (by omega) (by first | exact .inl (betw_no1 (by assumption)) | exact .inl (betw_ng half_not (by assumption) (by assumption)) | exact .inr (betw_no1 (by assumption)) | exact .inr (betw_ng one_not (by assumption) (by assumption)))).symm, E52⟩
                  · refine s_y (v := .bool false) rfl (y_fgtr rfl rfl (fgtC (cn_el qkls k) (show can .f32 1065353216 = 1065353216 by kernel_rfl) (Bool.eq_false_iff.2 c61))) ?_
                    refine s_y (v := .bool false) rfl (y_pick_f rfl rfl) ?_
                    refine s_nil ?_
                    refine W_if_f (by decide) rfl ?_
                    refine W_skip ?_
                    refine W_region (by kernel_rfl) ?_
                    refine s_y (v := .int .i64 k) rfl (y_move rfl) ?_
                    refine s_y (v := .int .i64 (k + 1)) rfl (y_add rfl rfl rfl (by omega)) ?_
                    refine s_y (v := .int .i64 (k + 1)) rfl (y_assign rfl) ?_
                    refine s_nil ?_
                    refine ⟨⟨_, k + 1, Fits.eq ⟨rfl, rfl, trivial⟩, E52, hS53, hS54, hS55, (by omega), (by omega), (allI_more hq (by simp only [Bool.and_eq_true]; exact ⟨betw_g half_not (by assumption) (by assumption), betw_g one_not (by assumption) (by assumption)⟩))⟩, ?_⟩
                    show (wd * hi - (k + 1)).toNat < (wd * hi - k).toNat
                    omega
                · refine s_y (v := .bool false) rfl (y_fgeq rfl rfl (fgeC (cn_el qkls k) (show can .f32 0 = 0 by kernel_rfl) (Bool.eq_false_iff.2 c60))) ?_
                  refine s_y (v := .bool true) rfl (y_not rfl rfl) ?_
                  refine s_y (v := .bool true) rfl (y_pick_f rfl rfl) ?_
                  refine s_y (v := .bool true) rfl (y_move rfl) ?_
                  refine s_skip rfl ?_
                  refine s_skip rfl ?_
                  refine s_skip rfl ?_
                  refine s_skip rfl ?_
                  refine s_skip rfl ?_
                  refine s_skip rfl ?_
                  refine s_skip rfl ?_
                  refine s_skip rfl ?_
                  refine s_y (v := .bool true) rfl (y_pick_t rfl rfl) ?_
                  refine s_nil ?_
                  refine W_if_t (by decide) rfl ?_
                  refine W_seq ?_
                  refine W_region (by kernel_rfl) ?_
                  refine s_y (v := .bool false) rfl (y_assign rfl) ?_
                  refine s_nil ?_
                  refine W_ret ?_
                  refine ret1 rfl rfl rfl ⟨_, rfl, ?_⟩
                  exact ⟨congrArg Value.bool (validS_no (i := k) (by omega) (by omega) (by omega) (by first | exact .inl (betw_no1 (by assumption)) | exact .inl (betw_ng half_not (by assumption) (by assumption)) | exact .inr (betw_no1 (by assumption)) | exact .inr (betw_ng one_not (by assumption) (by assumption)))).symm, E52⟩
            · refine s_y (v := .bool false) rfl (y_fgeq rfl rfl (fgeC (cn_el qksp k) (show can .f32 0 = 0 by kernel_rfl) (Bool.eq_false_iff.2 c58))) ?_
              refine s_y (v := .bool true) rfl (y_not rfl rfl) ?_
              refine s_y (v := .bool true) rfl (y_move rfl) ?_
              refine s_skip rfl ?_
              refine s_skip rfl ?_
              refine s_skip rfl ?_
              refine s_skip rfl ?_
              refine s_skip rfl ?_
              refine s_skip rfl ?_
              refine s_skip rfl ?_
              refine s_skip rfl ?_
              refine s_y (v := .bool true) rfl (y_pick_t rfl rfl) ?_
              refine s_y (v := .bool true) rfl (y_move rfl) ?_
              refine s_skip rfl ?_
              refine s_skip rfl ?_
              refine s_skip rfl ?_
              refine s_skip rfl ?_
              refine s_skip rfl ?_
              refine s_skip rfl ?_
              refine s_skip rfl ?_
              refine s_skip rfl ?_
              refine s_skip rfl ?_
              refine s_y (v := .bool true) rfl (y_pick_t rfl rfl) ?_
              refine s_y (v := .bool true) rfl (y_move rfl) ?_
              refine s_skip rfl ?_
              refine s_skip rfl ?_
              refine s_skip rfl ?_
              refine s_skip rfl ?_
              refine s_skip rfl ?_
              refine s_skip rfl ?_
              refine s_skip rfl ?_
              refine s_skip rfl ?_
              refine s_y (v := .bool true) rfl (y_pick_t rfl rfl) ?_
              refine s_nil ?_
              refine W_if_t (by decide) rfl ?_
              refine W_seq ?_
              refine W_region (by kernel_rfl) ?_
              refine s_y (v := .bool false) rfl (y_assign rfl) ?_
              refine s_nil ?_
              refine W_ret ?_
              refine ret1 rfl rfl rfl ⟨_, rfl, ?_⟩
              exact ⟨congrArg Value.bool (validS_no (i := k) (by omega) (by omega) (by omega) (by first | exact .inl (betw_no1 (by assumption)) | exact .inl (betw_ng half_not (by assumption) (by assumption)) | exact .inr (betw_no1 (by assumption)) | exact .inr (betw_ng one_not (by assumption) (by assumption)))).symm, E52⟩
          · refine s_y (v := .bool false) rfl (y_lss rfl rfl (decide_eq_false c57)) ?_
            refine s_nil ?_
            refine W_if_f (by decide) rfl ?_
            refine W_exit ?_
            refine W_seq ?_
            refine W_region (by kernel_rfl) ?_
            refine s_y (v := .bool true) rfl (y_assign rfl) ?_
            refine s_nil ?_
            refine W_ret ?_
            refine ret1 rfl rfl rfl ⟨_, rfl, ?_⟩
            exact ⟨congrArg Value.bool (validS_yes (by assumption) (by omega) (by omega) (fun i h0 h1 => hq i h0 (by omega))).symm, E52⟩
  · obtain rfl : v17 = .bool false := hv18.trans (congrArg Value.bool (Bool.eq_false_iff.2 c24))
    refine m_y (v := .bool true) 9 rfl (by kernel_rfl) rfl rfl (fun w' e' => y_not rfl rfl) ?_
    refine m_y (v := .bool true) 10 rfl (by kernel_rfl) rfl rfl (fun w' e' => y_move rfl) ?_
    refine m_skip 11 rfl (by kernel_rfl) rfl ?_
    refine m_skip 12 rfl (by kernel_rfl) rfl ?_
    refine m_skip 13 rfl (by kernel_rfl) rfl ?_
    refine m_skip 14 rfl (by kernel_rfl) rfl ?_
    refine m_skip 15 rfl (by kernel_rfl) rfl ?_
    refine m_skip 16 rfl (by kernel_rfl) rfl ?_
    refine m_skip 17 rfl (by kernel_rfl) rfl ?_
    refine m_skip 18 rfl (by kernel_rfl) rfl ?_
    refine m_skip 19 rfl (by kernel_rfl) rfl ?_
    refine m_skip 20 rfl (by kernel_rfl) rfl ?_
    refine m_skip 21 rfl (by kernel_rfl) rfl ?_
    refine m_skip 22 rfl (by kernel_rfl) rfl ?_
    refine m_skip 23 rfl (by kernel_rfl) rfl ?_
    refine m_skip 24 rfl (by kernel_rfl) rfl ?_
    refine m_skip 25 rfl (by kernel_rfl) rfl ?_
    refine m_y (v := .bool true) 26 rfl (by kernel_rfl) rfl rfl (fun w' e' => y_pick_t rfl rfl) ?_
    refine m_y (v := .bool true) 27 rfl (by kernel_rfl) rfl rfl (fun w' e' => y_move rfl) ?_
    refine m_skip 28 rfl (by kernel_rfl) rfl ?_
    refine m_skip 29 rfl (by kernel_rfl) rfl ?_
    refine m_skip 30 rfl (by kernel_rfl) rfl ?_
    refine m_skip 31 rfl (by kernel_rfl) rfl ?_
    refine m_skip 32 rfl (by kernel_rfl) rfl ?_
    refine m_skip 33 rfl (by kernel_rfl) rfl ?_
    refine m_skip 34 rfl (by kernel_rfl) rfl ?_
    refine m_skip 35 rfl (by kernel_rfl) rfl ?_
    refine m_skip 36 rfl (by kernel_rfl) rfl ?_
    refine m_skip 37 rfl (by kernel_rfl) rfl ?_
    refine m_skip 38 rfl (by kernel_rfl) rfl ?_
    refine m_skip 39 rfl (by kernel_rfl) rfl ?_
    refine m_skip 40 rfl (by kernel_rfl) rfl ?_
    refine m_skip 41 rfl (by kernel_rfl) rfl ?_
    refine m_skip 42 rfl (by kernel_rfl) rfl ?_
    refine m_y (v := .bool true) 43 rfl (by kernel_rfl) rfl rfl (fun w' e' => y_pick_t rfl rfl) ?_
    refine m_done (by kernel_rfl) (fun w62 e63 => ?_)
    have hS64 := hS19.ext0 e63
    have hS65 := hS20.ext0 e63
    have hS66 := hS21.ext0 e63
    have E67 := E22.fresh e63 (fun _ h _ => h.elim)
    have R68 := R23.trans (Ext0.any e63)
    refine W_if_t (by decide) rfl ?_
    refine W_seq ?_
    refine W_region (by kernel_rfl) ?_
    refine s_y (v := .bool false) rfl (y_assign rfl) ?_
    refine s_nil ?_
    refine W_ret ?_
    refine ret1 rfl rfl rfl ⟨_, rfl, ?_⟩
    exact ⟨congrArg Value.bool (by simp [validS, hlP, hlL, *]), E67⟩
namespace T89
theorem mx : Try.prog.follows .mixedOrders = true := by kernel_rfl
theorem fn_88 : fnB Try.prog 88 = true := by kernel_rfl
end T89
set_option maxRecDepth 100000 in
set_option maxHeartbeats 4000000 in
theorem c_s_l02Shift {x y : Int} (w : World) :
    Calls Try.prog 89 #[.int .i64 x, .int .i64 y] w (Rt fun v w' => v = .bool (shiftB x y) ∧ Ext0 w w') := by
  have E0 : Ext no w w := Ext.refl _ _
  refine calls_W (n := 11) Try.func89 rfl rfl (Nat.le_of_ble_eq_true rfl) ?_
  refine W_seq ?_
  refine W_region (by kernel_rfl) ?_
  refine s_y (v := .bool false) rfl (y_assign rfl) ?_
  refine s_nil ?_
  refine W_seq ?_
  refine W_region (by kernel_rfl) ?_
  refine s_y (v := .int .i64 x) rfl (y_move rfl) ?_
  refine s_k rfl (k_call T89.fn_88 (c_s_l00In _ _ _ _) rfl ?_)
  rintro v3 w1 ⟨hv4, e2⟩
  have E5 := E0.fresh e2 (fun _ h _ => h.elim)
  by_cases c6 : within x (-16) 16 = true
  · have hb7 := within_b c6
    obtain rfl : v3 = .bool true := hv4.trans (congrArg Value.bool c6)
    refine s_y (v := .bool true) rfl (y_move rfl) ?_
    refine s_y (v := .int .i64 y) rfl (y_move rfl) ?_
    refine s_k rfl (k_call T89.fn_88 (c_s_l00In _ _ _ _) rfl ?_)
    rintro v10 w8 ⟨hv11, e9⟩
    have E12 := E5.fresh e9 (fun _ h _ => h.elim)
    by_cases c13 : within y (-16) 16 = true
    · have hb14 := within_b c13
      obtain rfl : v10 = .bool true := hv11.trans (congrArg Value.bool c13)
      refine s_y (v := .bool true) rfl (y_pick_t rfl rfl) ?_
      refine s_y (v := .bool true) rfl (y_assign rfl) ?_
      refine s_nil ?_
      refine W_ret ?_
      refine ret1 rfl rfl rfl ⟨_, rfl, ?_⟩
      exact ⟨congrArg Value.bool (by simp only [shiftB, c6, c13, Bool.and_true, Bool.true_and, Bool.and_false, Bool.false_and, Bool.not_true, Bool.not_false, Bool.or_true, Bool.true_or, Bool.or_false, Bool.false_or]), E12⟩
    · obtain rfl : v10 = .bool false := hv11.trans (congrArg Value.bool (Bool.eq_false_iff.2 c13))
      refine s_y (v := .bool false) rfl (y_pick_t rfl rfl) ?_
      refine s_y (v := .bool false) rfl (y_assign rfl) ?_
      refine s_nil ?_
      refine W_ret ?_
      refine ret1 rfl rfl rfl ⟨_, rfl, ?_⟩
      exact ⟨congrArg Value.bool (by simp only [shiftB, c6, (Bool.eq_false_iff.2 c13), Bool.and_true, Bool.true_and, Bool.and_false, Bool.false_and, Bool.not_true, Bool.not_false, Bool.or_true, Bool.true_or, Bool.or_false, Bool.false_or]), E12⟩
  · obtain rfl : v3 = .bool false := hv4.trans (congrArg Value.bool (Bool.eq_false_iff.2 c6))
    refine s_y (v := .bool false) rfl (y_move rfl) ?_
    refine s_skip rfl ?_
    refine s_skip rfl ?_
    refine s_y (v := .bool false) rfl (y_pick_f rfl rfl) ?_
    refine s_y (v := .bool false) rfl (y_assign rfl) ?_
    refine s_nil ?_
    refine W_ret ?_
    refine ret1 rfl rfl rfl ⟨_, rfl, ?_⟩
    exact ⟨congrArg Value.bool (by simp only [shiftB, (Bool.eq_false_iff.2 c6), Bool.and_true, Bool.true_and, Bool.and_false, Bool.false_and, Bool.not_true, Bool.not_false, Bool.or_true, Bool.true_or, Bool.or_false, Bool.false_or]), E5⟩
namespace T105
theorem mx : Try.prog.follows .mixedOrders = true := by kernel_rfl
theorem one_62 : oneB Try.prog 62 = true := by kernel_rfl
theorem sl_24_62_1 : slB Try.prog 24 62 1 = true := by kernel_rfl
theorem slt_24 : SlT Try.prog 24 62 1 4 (.float .f32 0) := ⟨by kernel_rfl, by kernel_rfl, rfl, by decide⟩
end T105
set_option maxRecDepth 100000 in
set_option maxHeartbeats 4000000 in
theorem c_s_l02Place {a : Option Addr} {n c : Nat} {x X : List Nat} {W H way dx dy : Int} (w : World) (qs : Sl w a (flts x)) (ql : x.length = n) (qk : cn x = X) (h1 : 3 ≤ W) (h2 : W ≤ 16) (h3 : 3 ≤ H) (h4 : H ≤ 16) (hn : (n : Int) = W * H) (h5 : -W < dx) (h6 : dx < W) (h7 : -H < dy) (h8 : dy < H) :
    Calls Try.prog 105 #[.slice a n c, .int .i64 W, .int .i64 H, .int .i64 way, .int .i64 dx, .int .i64 dy] w (Rt fun v w' => (∃ (a1 : Option Addr) (c1 : Nat) (z1 : List Nat), v = .slice a1 ((W * H).toNat) c1 ∧ Own w' w.heap.size a1 ((W * H).toNat) c1 62 1 (flts z1) ∧ z1.length = (W * H).toNat ∧ cn z1 = placeL X W H way dx dy) ∧ Ext0 w w') := by
  have E0 : Ext no w w := Ext.refl _ _
  have hwh := mul16 (And.intro (And.intro h1 h2) (And.intro h3 h4))
  have lo_a := Sl.low qs
  refine calls_W (n := 107) Try.func105 rfl rfl (Nat.le_of_ble_eq_true rfl) ?_
  refine W_seq ?_
  refine W_region (by kernel_rfl) ?_
  refine s_y (v := .slice none 0 0) rfl (y_assign rfl) ?_
  refine s_nil ?_
  refine W_seq ?_
  refine W_region (by kernel_rfl) ?_
  refine s_k rfl (k_bslice (n := 0) (cells := #[]) T105.slt_24 (by decide) (by first | rfl | kernel_rfl) (by first | rfl | kernel_rfl) (fun b1 w2 q4 e3 hO5 => ?_))
  have hS6 := qs.ext0 e3
  have E7 := E0.fresh e3 (fun _ h _ => h.elim)
  have d8 : ∀ k, inA (some ⟨b1, 0, none⟩) k → w.heap.size ≤ k := fun kx hk => (hO5.blk kx hk).1
  have fr9 : ∀ k, inA (some ⟨b1, 0, none⟩) k → k < w.heap.size → False := fun kx h1 h2 => Nat.not_lt.2 (Nat.le_trans E0.size (d8 kx h1)) h2
  have hO10 := hO5.base E0.size
  have hO11 := hO10.cast (cs' := flts []) rfl rfl
  refine s_y (v := .slice (some ⟨b1, 0, none⟩) 0 0) rfl (y_assign rfl) ?_
  refine s_nil ?_
  refine W_seq ?_
  refine W_seq ?_
  refine W_region (by kernel_rfl) ?_
  refine s_y (v := .int .i64 0) rfl (y_assign rfl) ?_
  refine s_nil ?_
  refine W_block ?_
  refine W_loop (fun ρ' w' => ∃ (ρ1 : Env) (py : Int) (a0 : Option Addr) (cc0 : Nat) (z0 : List Nat) (nn0 : Nat), ρ' = updL ρ1 [(0, .slice a n c), (1, .int .i64 W), (2, .int .i64 H), (3, .int .i64 way), (4, .int .i64 dx), (5, .int .i64 dy), (12, .slice none 0 0), (13, .slice a0 nn0 cc0), (14, .int .i64 py)] ∧ Ext no w w' ∧ Sl w' a (flts x) ∧ Own w' w.heap.size a0 nn0 cc0 62 1 (flts z0) ∧ (0 ≤ py) ∧ (py ≤ H) ∧ (z0.length = nn0) ∧ (cn z0 = tab (W * py) (fun i => placeV X W H way dx dy (i % W) (i / W))) ∧ (∀ k, inA a0 k → k < w.heap.size → False)) (fun ρ' _ => (H - iv (ρ' 14)).toNat) ?_ ?_
  · exact ⟨_, 0, (some ⟨b1, 0, none⟩), 0, ([]), 0, Fits.eq ⟨rfl, rfl, rfl, rfl, rfl, rfl, rfl, rfl, rfl, trivial⟩, E7, hS6, hO11, (Int.le_refl _), (by omega), rfl, (rfl.trans (by rw [Int.mul_zero]; rfl)), fr9⟩
  · rintro _ w13 ⟨ρ17, py, a0, cc0, z0, nn0, rfl, E14, hS15, hO16, h0py, h1py, hl0, hz0, fr12⟩
    have hwy := mulb (a := W) (b := py) (by omega) (by omega) (by omega) (by omega)
    have hn0 := (cn_lenX hz0).symm.trans (tab_length _ _)
    refine W_seq ?_
    refine W_seq ?_
    refine W_region (by kernel_rfl) ?_
    refine s_y (v := .int .i64 py) rfl (y_move rfl) ?_
    refine s_y (v := .int .i64 H) rfl (y_move rfl) ?_
    by_cases c18 : py < H
    · refine s_y (v := .bool true) rfl (y_lss rfl rfl (decide_eq_true c18)) ?_
      refine s_nil ?_
      refine W_if_t (by decide) rfl ?_
      refine W_skip ?_
      refine W_seq ?_
      refine W_block ?_
      refine W_seq ?_
      refine W_region (by kernel_rfl) ?_
      refine s_y (v := .int .i64 0) rfl (y_assign rfl) ?_
      refine s_nil ?_
      refine W_block ?_
      refine W_loop (fun ρ' w' => ∃ (ρ1 : Env) (px : Int) (a1 : Option Addr) (cc1 : Nat) (z1 : List Nat) (nn1 : Nat), ρ' = updL ρ1 [(0, .slice a n c), (1, .int .i64 W), (2, .int .i64 H), (3, .int .i64 way), (4, .int .i64 dx), (5, .int .i64 dy), (12, .slice none 0 0), (13, .slice a1 nn1 cc1), (14, .int .i64 py), (15, .int .i64 px), (19, .int .i64 py), (20, .int .i64 H), (21, .bool true)] ∧ Ext no w w' ∧ Sl w' a (flts x) ∧ Own w' w.heap.size a1 nn1 cc1 62 1 (flts z1) ∧ (0 ≤ px) ∧ (px ≤ W) ∧ (z1.length = nn1) ∧ (cn z1 = tab (W * py + px) (fun i => placeV X W H way dx dy (i % W) (i / W))) ∧ (∀ k, inA a1 k → k < w.heap.size → False)) (fun ρ' _ => (W - iv (ρ' 15)).toNat) ?_ ?_
      · exact ⟨_, 0, a0, cc0, z0, nn0, Fits.eq ⟨rfl, rfl, rfl, rfl, rfl, rfl, rfl, rfl, rfl, rfl, rfl, rfl, rfl, trivial⟩, E14, hS15, hO16, (Int.le_refl _), (by omega), hl0, (hz0.trans (by rw [Int.add_zero])), fr12⟩
      · rintro _ w20 ⟨ρ24, px, a1, cc1, z1, nn1, rfl, E21, hS22, hO23, h0px, h1px, hl1, hz1, fr19⟩
        have hn1 := (cn_lenX hz1).symm.trans (tab_length _ _)
        refine W_seq ?_
        refine W_seq ?_
        refine W_region (by kernel_rfl) ?_
        refine s_y (v := .int .i64 px) rfl (y_move rfl) ?_
        refine s_y (v := .int .i64 W) rfl (y_move rfl) ?_
        by_cases c25 : px < W
        · refine s_y (v := .bool true) rfl (y_lss rfl rfl (decide_eq_true c25)) ?_
          refine s_nil ?_
          refine W_if_t (by decide) rfl ?_
          refine W_skip ?_
          refine W_seq ?_
          refine W_block ?_
          refine W_seq ?_
          refine W_region (by kernel_rfl) ?_
          refine s_y (v := .int .i64 way) rfl (y_move rfl) ?_
          refine s_nil ?_
          refine W_block ?_
          refine W_seq ?_
          refine W_region (by kernel_rfl) ?_
          by_cases c26 : way = 0
          · refine s_y (v := .bool true) rfl (y_eql rfl rfl (decide_eq_true c26)) ?_
            refine s_y (v := .bool true) rfl (y_assign rfl) ?_
            refine s_nil ?_
            refine W_if_t (by decide) rfl ?_
            refine W_region (by kernel_rfl) ?_
            refine s_y (v := .slice a1 nn1 cc1) rfl (y_move rfl) ?_
            refine s_y (v := .slice a n c) rfl (y_move rfl) ?_
            refine s_y (v := .int .i64 W) rfl (y_move rfl) ?_
            refine s_y (v := .int .i64 (W - 1)) rfl (y_sub rfl rfl rfl (by omega)) ?_
            refine s_y (v := .int .i64 px) rfl (y_move rfl) ?_
            refine s_y (v := .int .i64 ((W - 1) - px)) rfl (y_sub rfl rfl rfl (by omega)) ?_
            refine s_y (v := .int .i64 W) rfl (y_move rfl) ?_
            refine s_y (v := .int .i64 py) rfl (y_move rfl) ?_
            have hm27 := mulb (a := W) (b := py) (by omega) (by omega) (by omega) (by omega)
            refine s_y (v := .int .i64 (W * py)) rfl (y_mul rfl rfl rfl (by omega)) ?_
            refine s_y (v := .int .i64 (((W - 1) - px) + (W * py))) rfl (y_add rfl rfl rfl (by omega)) ?_
            have hx28 := row_lt (wd := W) (hi := H) (a := W - 1 - px) (b := py) (by omega) (by omega) (by omega) (by omega)
            refine s_y (v := .pointer (some (sat a ((((W - 1) - px) + (W * py)).toNat * 1)))) rfl (y_idx T105.sl_24_62_1 rfl rfl (hS22.addr (by rw [flts_length]; omega)) (by omega) (by omega)) ?_
            refine s_y (v := .float .f32 (el x (((W - 1) - px) + (W * py)))) rfl (y_load T105.one_62 rfl (hS22.cell (fl_at (by omega) (by omega)))) ?_
            refine s_k rfl (k_bslice (n := 1) (cells := #[.float .f32 (el x (((W - 1) - px) + (W * py)))]) T105.slt_24 (by decide) (by first | rfl | kernel_rfl) (by first | rfl | kernel_rfl) (fun b29 w30 q32 e31 hO33 => ?_))
            have hS34 := hS22.ext0 e31
            have hO35 := hO23.ext0 e31
            have E36 := E21.fresh e31 (fun _ h _ => h.elim)
            have d37 : ∀ k, inA (some ⟨b29, 0, none⟩) k → w20.heap.size ≤ k := fun kx hk => (hO33.blk kx hk).1
            have dj38 : ∀ k, inA a1 k → inA (some ⟨b29, 0, none⟩) k → False := fun kx h1 h2 => Nat.not_lt.2 (d37 kx h2) (hO23.blk kx h1).2
            have fr39 : ∀ k, inA (some ⟨b29, 0, none⟩) k → k < w.heap.size → False := fun kx h1 h2 => Nat.not_lt.2 (Nat.le_trans E21.size (d37 kx h1)) h2
            have hO40 := hO33.base E21.size
            refine s_k rfl (k_append T105.slt_24 rfl rfl rfl hO35 hO40.sl rfl (by simp [Value.oneCell']) (by omega) (by unfold maxLen; omega) E36.size (fun a41 c42 w43 e44 hO45 hd46 => ?_))
            have hS47 := hS34.extL lo_a e44 (fun kx hs hl => (fun hs => fr19 kx hs hl) hs)
            have hO48 := hO40.ext e44 (fun kx hk hs => (fun hs => dj38 kx hs hk) hs)
            have E49 := E36.fresh e44 (fun kx hs hl => (fun hs => (fr19 kx hs hl).elim) hs)
            have dj50 : ∀ k, inA a41 k → inA (some ⟨b29, 0, none⟩) k → False := fun kx h1 h2 => (hd46 kx h1).elim (fun h => dj38 kx h h2) (fun hx => Nat.not_lt.2 hx (hO40.blk kx h2).2)
            have fr51 : ∀ k, inA a41 k → k < w.heap.size → False := fun kx h1 h2 => (hd46 kx h1).elim (fun h => fr19 kx h h2) (fun hx => Nat.not_lt.2 (Nat.le_trans E36.size hx) h2)
            have hO52 := hO45.cast rfl (flts_snoc z1 (el x (((W - 1) - px) + (W * py))))
            have hl53 : (z1 ++ [el x (((W - 1) - px) + (W * py))]).length = nn1 + 1 := by simp only [List.length_append, List.length_cons, List.length_nil]; omega
            have hc54 := cn_snoc hz1 (cn_el qk (((W - 1) - px) + (W * py)))
            refine s_y (v := .slice a41 (nn1 + 1) c42) rfl (y_assign rfl) ?_
            refine s_nil ?_
            refine W_region (by kernel_rfl) ?_
            refine s_y (v := .int .i64 px) rfl (y_move rfl) ?_
            refine s_y (v := .int .i64 (px + 1)) rfl (y_add rfl rfl rfl (by omega)) ?_
            refine s_y (v := .int .i64 (px + 1)) rfl (y_assign rfl) ?_
            refine s_nil ?_
            refine ⟨⟨_, px + 1, a41, c42, (z1 ++ [el x (((W - 1) - px) + (W * py))]), nn1 + 1, Fits.eq ⟨rfl, rfl, rfl, rfl, rfl, rfl, rfl, rfl, rfl, rfl, rfl, rfl, rfl, trivial⟩, E49, hS47, hO52, (by omega), (by omega), hl53, (hc54.trans (tab_rowv (g := fun p q => placeV X W H way dx dy p q) (by simp [placeV, c26]) (by omega) (by omega) (by omega))), fr51⟩, ?_⟩
            show (W - (px + 1)).toNat < (W - px).toNat
            omega
          · refine s_y (v := .bool false) rfl (y_eql rfl rfl (decide_eq_false c26)) ?_
            refine s_y (v := .bool false) rfl (y_assign rfl) ?_
            refine s_nil ?_
            refine W_if_f (by decide) rfl ?_
            refine W_seq ?_
            refine W_region (by kernel_rfl) ?_
            by_cases c55 : way = 1
            · refine s_y (v := .bool true) rfl (y_eql rfl rfl (decide_eq_true c55)) ?_
              refine s_y (v := .bool true) rfl (y_assign rfl) ?_
              refine s_nil ?_
              refine W_if_t (by decide) rfl ?_
              refine W_region (by kernel_rfl) ?_
              refine s_y (v := .slice a1 nn1 cc1) rfl (y_move rfl) ?_
              refine s_y (v := .slice a n c) rfl (y_move rfl) ?_
              refine s_y (v := .int .i64 W) rfl (y_move rfl) ?_
              refine s_y (v := .int .i64 (2 * W)) rfl (y_mul rfl rfl rfl (by omega)) ?_
              refine s_y (v := .int .i64 ((2 * W) - 2)) rfl (y_sub rfl rfl rfl (by omega)) ?_
              refine s_y (v := .int .i64 px) rfl (y_move rfl) ?_
              refine s_y (v := .int .i64 (((2 * W) - 2) - px)) rfl (y_sub rfl rfl rfl (by omega)) ?_
              refine s_y (v := .int .i64 W) rfl (y_move rfl) ?_
              have hm56 := rem_b (x := ((2 * W) - 2) - px) (m := W) (by omega) (by omega)
              refine s_y (v := .int .i64 ((((2 * W) - 2) - px) % W)) rfl (y_rem rfl rfl (by omega) (by omega) rfl) ?_
              refine s_y (v := .int .i64 W) rfl (y_move rfl) ?_
              refine s_y (v := .int .i64 py) rfl (y_move rfl) ?_
              have hm57 := mulb (a := W) (b := py) (by omega) (by omega) (by omega) (by omega)
              refine s_y (v := .int .i64 (W * py)) rfl (y_mul rfl rfl rfl (by omega)) ?_
              refine s_y (v := .int .i64 (((((2 * W) - 2) - px) % W) + (W * py))) rfl (y_add rfl rfl rfl (by omega)) ?_
              have hx58 := row_lt (wd := W) (hi := H) (a := (2 * W - 2 - px) % W) (b := py) (by omega) (by omega) (by omega) (by omega)
              refine s_y (v := .pointer (some (sat a ((((((2 * W) - 2) - px) % W) + (W * py)).toNat * 1)))) rfl (y_idx T105.sl_24_62_1 rfl rfl (hS22.addr (by rw [flts_length]; omega)) (by omega) (by omega)) ?_
              refine s_y (v := .float .f32 (el x (((((2 * W) - 2) - px) % W) + (W * py)))) rfl (y_load T105.one_62 rfl (hS22.cell (fl_at (by omega) (by omega)))) ?_
              refine s_y (v := .float .f32 (Op.negFloat .f32 (el x (((((2 * W) - 2) - px) % W) + (W * py))))) rfl (y_fneg rfl) ?_
              refine s_k rfl (k_bslice (n := 1) (cells := #[.float .f32 (Op.negFloat .f32 (el x (((((2 * W) - 2) - px) % W) + (W * py))))]) T105.slt_24 (by decide) (by first | rfl | kernel_rfl) (by first | rfl | kernel_rfl) (fun b59 w60 q62 e61 hO63 => ?_))
              have hS64 := hS22.ext0 e61
              have hO65 := hO23.ext0 e61
              have E66 := E21.fresh e61 (fun _ h _ => h.elim)
              have d67 : ∀ k, inA (some ⟨b59, 0, none⟩) k → w20.heap.size ≤ k := fun kx hk => (hO63.blk kx hk).1
              have dj68 : ∀ k, inA a1 k → inA (some ⟨b59, 0, none⟩) k → False := fun kx h1 h2 => Nat.not_lt.2 (d67 kx h2) (hO23.blk kx h1).2
              have fr69 : ∀ k, inA (some ⟨b59, 0, none⟩) k → k < w.heap.size → False := fun kx h1 h2 => Nat.not_lt.2 (Nat.le_trans E21.size (d67 kx h1)) h2
              have hO70 := hO63.base E21.size
              refine s_k rfl (k_append T105.slt_24 rfl rfl rfl hO65 hO70.sl rfl (by simp [Value.oneCell']) (by omega) (by unfold maxLen; omega) E66.size (fun a71 c72 w73 e74 hO75 hd76 => ?_))
              have hS77 := hS64.extL lo_a e74 (fun kx hs hl => (fun hs => fr19 kx hs hl) hs)
              have hO78 := hO70.ext e74 (fun kx hk hs => (fun hs => dj68 kx hs hk) hs)
              have E79 := E66.fresh e74 (fun kx hs hl => (fun hs => (fr19 kx hs hl).elim) hs)
              have dj80 : ∀ k, inA a71 k → inA (some ⟨b59, 0, none⟩) k → False := fun kx h1 h2 => (hd76 kx h1).elim (fun h => dj68 kx h h2) (fun hx => Nat.not_lt.2 hx (hO70.blk kx h2).2)
              have fr81 : ∀ k, inA a71 k → k < w.heap.size → False := fun kx h1 h2 => (hd76 kx h1).elim (fun h => fr19 kx h h2) (fun hx => Nat.not_lt.2 (Nat.le_trans E66.size hx) h2)
              have hO82 := hO75.cast rfl (flts_snoc z1 (Op.negFloat .f32 (el x (((((2 * W) - 2) - px) % W) + (W * py)))))
              have hl83 : (z1 ++ [Op.negFloat .f32 (el x (((((2 * W) - 2) - px) % W) + (W * py)))]).length = nn1 + 1 := by simp only [List.length_append, List.length_cons, List.length_nil]; omega
              have hc84 := cn_snoc hz1 (negC (cn_el qk (((((2 * W) - 2) - px) % W) + (W * py))))
              refine s_y (v := .slice a71 (nn1 + 1) c72) rfl (y_assign rfl) ?_
              refine s_nil ?_
              refine W_region (by kernel_rfl) ?_
              refine s_y (v := .int .i64 px) rfl (y_move rfl) ?_
              refine s_y (v := .int .i64 (px + 1)) rfl (y_add rfl rfl rfl (by omega)) ?_
              refine s_y (v := .int .i64 (px + 1)) rfl (y_assign rfl) ?_
              refine s_nil ?_
              refine ⟨⟨_, px + 1, a71, c72, (z1 ++ [Op.negFloat .f32 (el x (((((2 * W) - 2) - px) % W) + (W * py)))]), nn1 + 1, Fits.eq ⟨rfl, rfl, rfl, rfl, rfl, rfl, rfl, rfl, rfl, rfl, rfl, rfl, rfl, trivial⟩, E79, hS77, hO82, (by omega), (by omega), hl83, (hc84.trans (tab_rowv (g := fun p q => placeV X W H way dx dy p q) (by simp [placeV, c26, c55]) (by omega) (by omega) (by omega))), fr81⟩, ?_⟩
              show (W - (px + 1)).toNat < (W - px).toNat
              omega
            · refine s_y (v := .bool false) rfl (y_eql rfl rfl (decide_eq_false c55)) ?_
              refine s_y (v := .bool false) rfl (y_assign rfl) ?_
              refine s_nil ?_
              refine W_if_f (by decide) rfl ?_
              refine W_seq ?_
              refine W_region (by kernel_rfl) ?_
              by_cases c85 : way = 2
              · refine s_y (v := .bool true) rfl (y_eql rfl rfl (decide_eq_true c85)) ?_
                refine s_y (v := .bool true) rfl (y_assign rfl) ?_
                refine s_nil ?_
                refine W_if_t (by decide) rfl ?_
                refine W_region (by kernel_rfl) ?_
                refine s_y (v := .slice a1 nn1 cc1) rfl (y_move rfl) ?_
                refine s_y (v := .slice a n c) rfl (y_move rfl) ?_
                refine s_y (v := .int .i64 py) rfl (y_move rfl) ?_
                refine s_y (v := .int .i64 H) rfl (y_move rfl) ?_
                refine s_y (v := .int .i64 px) rfl (y_move rfl) ?_
                have hm86 := mulb (a := H) (b := px) (by omega) (by omega) (by omega) (by omega)
                refine s_y (v := .int .i64 (H * px)) rfl (y_mul rfl rfl rfl (by omega)) ?_
                refine s_y (v := .int .i64 (py + (H * px))) rfl (y_add rfl rfl rfl (by omega)) ?_
                have hx87 := row_lt (wd := H) (hi := W) (a := py) (b := px) (by omega) (by omega) (by omega) (by omega)
                have hx88 := Int.mul_comm H W
                refine s_y (v := .pointer (some (sat a ((py + (H * px)).toNat * 1)))) rfl (y_idx T105.sl_24_62_1 rfl rfl (hS22.addr (by rw [flts_length]; omega)) (by omega) (by omega)) ?_
                refine s_y (v := .float .f32 (el x (py + (H * px)))) rfl (y_load T105.one_62 rfl (hS22.cell (fl_at (by omega) (by omega)))) ?_
                refine s_k rfl (k_bslice (n := 1) (cells := #[.float .f32 (el x (py + (H * px)))]) T105.slt_24 (by decide) (by first | rfl | kernel_rfl) (by first | rfl | kernel_rfl) (fun b89 w90 q92 e91 hO93 => ?_))
                have hS94 := hS22.ext0 e91
                have hO95 := hO23.ext0 e91
                have E96 := E21.fresh e91 (fun _ h _ => h.elim)
                have d97 : ∀ k, inA (some ⟨b89, 0, none⟩) k → w20.heap.size ≤ k := fun kx hk => (hO93.blk kx hk).1
                have dj98 : ∀ k, inA a1 k → inA (some ⟨b89, 0, none⟩) k → False := fun kx h1 h2 => Nat.not_lt.2 (d97 kx h2) (hO23.blk kx h1).2
                have fr99 : ∀ k, inA (some ⟨b89, 0, none⟩) k → k < w.heap.size → False := fun kx h1 h2 => Nat.not_lt.2 (Nat.le_trans E21.size (d97 kx h1)) h2
                have hO100 := hO93.base E21.size
                refine s_k rfl (k_append T105.slt_24 rfl rfl rfl hO95 hO100.sl rfl (by simp [Value.oneCell']) (by omega) (by unfold maxLen; omega) E96.size (fun a101 c102 w103 e104 hO105 hd106 => ?_))
                have hS107 := hS94.extL lo_a e104 (fun kx hs hl => (fun hs => fr19 kx hs hl) hs)
                have hO108 := hO100.ext e104 (fun kx hk hs => (fun hs => dj98 kx hs hk) hs)
                have E109 := E96.fresh e104 (fun kx hs hl => (fun hs => (fr19 kx hs hl).elim) hs)
                have dj110 : ∀ k, inA a101 k → inA (some ⟨b89, 0, none⟩) k → False := fun kx h1 h2 => (hd106 kx h1).elim (fun h => dj98 kx h h2) (fun hx => Nat.not_lt.2 hx (hO100.blk kx h2).2)
                have fr111 : ∀ k, inA a101 k → k < w.heap.size → False := fun kx h1 h2 => (hd106 kx h1).elim (fun h => fr19 kx h h2) (fun hx => Nat.not_lt.2 (Nat.le_trans E96.size hx) h2)
                have hO112 := hO105.cast rfl (flts_snoc z1 (el x (py + (H * px))))
                have hl113 : (z1 ++ [el x (py + (H * px))]).length = nn1 + 1 := by simp only [List.length_append, List.length_cons, List.length_nil]; omega
                have hc114 := cn_snoc hz1 (cn_el qk (py + (H * px)))
                refine s_y (v := .slice a101 (nn1 + 1) c102) rfl (y_assign rfl) ?_
                refine s_nil ?_
                refine W_region (by kernel_rfl) ?_
                refine s_y (v := .int .i64 px) rfl (y_move rfl) ?_
                refine s_y (v := .int .i64 (px + 1)) rfl (y_add rfl rfl rfl (by omega)) ?_
                refine s_y (v := .int .i64 (px + 1)) rfl (y_assign rfl) ?_
                refine s_nil ?_
                refine ⟨⟨_, px + 1, a101, c102, (z1 ++ [el x (py + (H * px))]), nn1 + 1, Fits.eq ⟨rfl, rfl, rfl, rfl, rfl, rfl, rfl, rfl, rfl, rfl, rfl, rfl, rfl, trivial⟩, E109, hS107, hO112, (by omega), (by omega), hl113, (hc114.trans (tab_rowv (g := fun p q => placeV X W H way dx dy p q) (by simp [placeV, c26, c55, c85]) (by omega) (by omega) (by omega))), fr111⟩, ?_⟩
                show (W - (px + 1)).toNat < (W - px).toNat
                omega
              · refine s_y (v := .bool false) rfl (y_eql rfl rfl (decide_eq_false c85)) ?_
                refine s_y (v := .bool false) rfl (y_assign rfl) ?_
                refine s_nil ?_
                refine W_if_f (by decide) rfl ?_
                refine W_seq ?_
                refine W_region (by kernel_rfl) ?_
                refine s_y (v := .int .i64 px) rfl (y_move rfl) ?_
                refine s_y (v := .int .i64 dx) rfl (y_move rfl) ?_
                refine s_y (v := .int .i64 (px - dx)) rfl (y_sub rfl rfl rfl (by omega)) ?_
                refine s_y (v := .int .i64 W) rfl (y_move rfl) ?_
                refine s_y (v := .int .i64 (2 * W)) rfl (y_mul rfl rfl rfl (by omega)) ?_
                refine s_y (v := .int .i64 ((px - dx) + (2 * W))) rfl (y_add rfl rfl rfl (by omega)) ?_
                refine s_y (v := .int .i64 W) rfl (y_move rfl) ?_
                have hm115 := rem_b (x := (px - dx) + (2 * W)) (m := W) (by omega) (by omega)
                refine s_y (v := .int .i64 (((px - dx) + (2 * W)) % W)) rfl (y_rem rfl rfl (by omega) (by omega) rfl) ?_
                refine s_y (v := .int .i64 (((px - dx) + (2 * W)) % W)) rfl (y_assign rfl) ?_
                refine s_nil ?_
                refine W_seq ?_
                refine W_region (by kernel_rfl) ?_
                refine s_y (v := .int .i64 py) rfl (y_move rfl) ?_
                refine s_y (v := .int .i64 dy) rfl (y_move rfl) ?_
                refine s_y (v := .int .i64 (py - dy)) rfl (y_sub rfl rfl rfl (by omega)) ?_
                refine s_y (v := .int .i64 H) rfl (y_move rfl) ?_
                refine s_y (v := .int .i64 (2 * H)) rfl (y_mul rfl rfl rfl (by omega)) ?_
                refine s_y (v := .int .i64 ((py - dy) + (2 * H))) rfl (y_add rfl rfl rfl (by omega)) ?_
                refine s_y (v := .int .i64 H) rfl (y_move rfl) ?_
                have hm116 := rem_b (x := (py - dy) + (2 * H)) (m := H) (by omega) (by omega)
                refine s_y (v := .int .i64 (((py - dy) + (2 * H)) % H)) rfl (y_rem rfl rfl (by omega) (by omega) rfl) ?_
                refine s_y (v := .int .i64 (((py - dy) + (2 * H)) % H)) rfl (y_assign rfl) ?_
                refine s_nil ?_
                refine W_region (by kernel_rfl) ?_
                refine s_y (v := .slice a1 nn1 cc1) rfl (y_move rfl) ?_
                refine s_y (v := .slice a n c) rfl (y_move rfl) ?_
                refine s_y (v := .int .i64 (((px - dx) + (2 * W)) % W)) rfl (y_move rfl) ?_
                refine s_y (v := .int .i64 W) rfl (y_move rfl) ?_
                refine s_y (v := .int .i64 (((py - dy) + (2 * H)) % H)) rfl (y_move rfl) ?_
                have hm117 := mulb (a := W) (b := ((py - dy) + (2 * H)) % H) (by omega) (by omega) (by omega) (by omega)
                refine s_y (v := .int .i64 (W * (((py - dy) + (2 * H)) % H))) rfl (y_mul rfl rfl rfl (by omega)) ?_
                refine s_y (v := .int .i64 ((((px - dx) + (2 * W)) % W) + (W * (((py - dy) + (2 * H)) % H)))) rfl (y_add rfl rfl rfl (by omega)) ?_
                have hx118 := row_lt (wd := W) (hi := H) (a := (px - dx + 2 * W) % W) (b := (py - dy + 2 * H) % H) (by omega) (by omega) (by omega) (by omega)
                refine s_y (v := .pointer (some (sat a (((((px - dx) + (2 * W)) % W) + (W * (((py - dy) + (2 * H)) % H))).toNat * 1)))) rfl (y_idx T105.sl_24_62_1 rfl rfl (hS22.addr (by rw [flts_length]; omega)) (by omega) (by omega)) ?_
                refine s_y (v := .float .f32 (el x ((((px - dx) + (2 * W)) % W) + (W * (((py - dy) + (2 * H)) % H))))) rfl (y_load T105.one_62 rfl (hS22.cell (fl_at (by omega) (by omega)))) ?_
                refine s_k rfl (k_bslice (n := 1) (cells := #[.float .f32 (el x ((((px - dx) + (2 * W)) % W) + (W * (((py - dy) + (2 * H)) % H))))]) T105.slt_24 (by decide) (by first | rfl | kernel_rfl) (by first | rfl | kernel_rfl) (fun b119 w120 q122 e121 hO123 => ?_))
                have hS124 := hS22.ext0 e121
                have hO125 := hO23.ext0 e121
                have E126 := E21.fresh e121 (fun _ h _ => h.elim)
                have d127 : ∀ k, inA (some ⟨b119, 0, none⟩) k → w20.heap.size ≤ k := fun kx hk => (hO123.blk kx hk).1
                have dj128 : ∀ k, inA a1 k → inA (some ⟨b119, 0, none⟩) k → False := fun kx h1 h2 => Nat.not_lt.2 (d127 kx h2) (hO23.blk kx h1).2
                have fr129 : ∀ k, inA (some ⟨b119, 0, none⟩) k → k < w.heap.size → False := fun kx h1 h2 => Nat.not_lt.2 (Nat.le_trans E21.size (d127 kx h1)) h2
                have hO130 := hO123.base E21.size
                refine s_k rfl (k_append T105.slt_24 rfl rfl rfl hO125 hO130.sl rfl (by simp [Value.oneCell']) (by omega) (by unfold maxLen; omega) E126.size (fun a131 c132 w133 e134 hO135 hd136 => ?_))
                have hS137 := hS124.extL lo_a e134 (fun kx hs hl => (fun hs => fr19 kx hs hl) hs)
                have hO138 := hO130.ext e134 (fun kx hk hs => (fun hs => dj128 kx hs hk) hs)
                have E139 := E126.fresh e134 (fun kx hs hl => (fun hs => (fr19 kx hs hl).elim) hs)
                have dj140 : ∀ k, inA a131 k → inA (some ⟨b119, 0, none⟩) k → False := fun kx h1 h2 => (hd136 kx h1).elim (fun h => dj128 kx h h2) (fun hx => Nat.not_lt.2 hx (hO130.blk kx h2).2)
                have fr141 : ∀ k, inA a131 k → k < w.heap.size → False := fun kx h1 h2 => (hd136 kx h1).elim (fun h => fr19 kx h h2) (fun hx => Nat.not_lt.2 (Nat.le_trans E126.size hx) h2)
                have hO142 := hO135.cast rfl (flts_snoc z1 (el x ((((px - dx) + (2 * W)) % W) + (W * (((py - dy) + (2 * H)) % H)))))
                have hl143 : (z1 ++ [el x ((((px - dx) + (2 * W)) % W) + (W * (((py - dy) + (2 * H)) % H)))]).length = nn1 + 1 := by simp only [List.length_append, List.length_cons, List.length_nil]; omega
                have hc144 := cn_snoc hz1 (cn_el qk ((((px - dx) + (2 * W)) % W) + (W * (((py - dy) + (2 * H)) % H))))
                refine s_y (v := .slice a131 (nn1 + 1) c132) rfl (y_assign rfl) ?_
                refine s_nil ?_
                refine W_region (by kernel_rfl) ?_
                refine s_y (v := .int .i64 px) rfl (y_move rfl) ?_
                refine s_y (v := .int .i64 (px + 1)) rfl (y_add rfl rfl rfl (by omega)) ?_
                refine s_y (v := .int .i64 (px + 1)) rfl (y_assign rfl) ?_
                refine s_nil ?_
                refine ⟨⟨_, px + 1, a131, c132, (z1 ++ [el x ((((px - dx) + (2 * W)) % W) + (W * (((py - dy) + (2 * H)) % H)))]), nn1 + 1, Fits.eq ⟨rfl, rfl, rfl, rfl, rfl, rfl, rfl, rfl, rfl, rfl, rfl, rfl, rfl, trivial⟩, E139, hS137, hO142, (by omega), (by omega), hl143, (hc144.trans (tab_rowv (g := fun p q => placeV X W H way dx dy p q) (by simp [placeV, c26, c55, c85]) (by omega) (by omega) (by omega))), fr141⟩, ?_⟩
                show (W - (px + 1)).toNat < (W - px).toNat
                omega
        · refine s_y (v := .bool false) rfl (y_lss rfl rfl (decide_eq_false c25)) ?_
          refine s_nil ?_
          refine W_if_f (by decide) rfl ?_
          refine W_exit ?_
          refine W_region (by kernel_rfl) ?_
          refine s_y (v := .int .i64 py) rfl (y_move rfl) ?_
          refine s_y (v := .int .i64 (py + 1)) rfl (y_add rfl rfl rfl (by omega)) ?_
          refine s_y (v := .int .i64 (py + 1)) rfl (y_assign rfl) ?_
          refine s_nil ?_
          refine ⟨⟨_, py + 1, a1, cc1, z1, nn1, Fits.eq ⟨rfl, rfl, rfl, rfl, rfl, rfl, rfl, rfl, rfl, trivial⟩, E21, hS22, hO23, (by omega), (by omega), hl1, (hz1.trans (congrArg (fun q => tab q _) (show W * py + px = W * (py + 1) by rw [Int.mul_add, Int.mul_one]; omega))), fr19⟩, ?_⟩
          show (H - (py + 1)).toNat < (H - py).toNat
          omega
    · refine s_y (v := .bool false) rfl (y_lss rfl rfl (decide_eq_false c18)) ?_
      refine s_nil ?_
      refine W_if_f (by decide) rfl ?_
      refine W_exit ?_
      refine W_seq ?_
      refine W_region (by kernel_rfl) ?_
      refine s_y (v := .slice a0 nn0 cc0) rfl (y_move rfl) ?_
      refine s_y (v := .slice a0 nn0 cc0) rfl (y_assign rfl) ?_
      refine s_nil ?_
      refine W_ret ?_
      refine ret1 rfl rfl rfl ⟨_, rfl, ?_⟩
      obtain rfl : py = H := by omega
      obtain rfl : nn0 = (W * py).toNat := by omega
      exact ⟨⟨_, _, _, rfl, hO16, hl0, hz0⟩, E14⟩
namespace T79
theorem mx : Try.prog.follows .mixedOrders = true := by kernel_rfl
theorem agg_26_5 : aggB Try.prog 26 5 = true := by kernel_rfl
theorem fld_26_2_2 : fldB Try.prog 26 2 2 = true := by kernel_rfl
theorem fld_26_3_3 : fldB Try.prog 26 3 3 = true := by kernel_rfl
theorem fld_26_4_4 : fldB Try.prog 26 4 4 = true := by kernel_rfl
theorem fn_105 : fnB Try.prog 105 = true := by kernel_rfl
theorem one_24 : oneB Try.prog 24 = true := by kernel_rfl
theorem one_4 : oneB Try.prog 4 = true := by kernel_rfl
theorem sz_24_1 : szB Try.prog 24 1 = true := by kernel_rfl
theorem sz_26_5 : szB Try.prog 26 5 = true := by kernel_rfl
theorem zero_26 : zeroB Try.prog 26 (.agg #[.int .i64 0, .int .i64 0, .bool false, .slice none 0 0, .slice none 0 0]) := by unfold zeroB; kernel_rfl
end T79
set_option maxRecDepth 100000 in
set_option maxHeartbeats 4000000 in
theorem c_s_l02Sheet {wd hi : Int} {wr : Bool} {asp : Option Addr} {nsp csp : Nat} {xsp Xsp : List Nat} {als : Option Addr} {nls cls : Nat} {xls Xls : List Nat} {b o : Nat} {W H way dx dy : Int} (w : World) (qssp : Sl w asp (flts xsp)) (qlsp : xsp.length = nsp) (qksp : cn xsp = Xsp) (qsls : Sl w als (flts xls)) (qlls : xls.length = nls) (qkls : cn xls = Xls) (hP : Sl w (some ⟨b, o, none⟩) [.int .i64 wd, .int .i64 hi, .bool wr, .slice asp nsp csp, .slice als nls cls]) (h1 : 3 ≤ W) (h2 : W ≤ 16) (h3 : 3 ≤ H) (h4 : H ≤ 16) (hn1 : (nsp : Int) = W * H) (hn2 : (nls : Int) = W * H) (h5 : -W < dx) (h6 : dx < W) (h7 : -H < dy) (h8 : dy < H) :
    Calls Try.prog 79 #[.pointer (some ⟨b, o, none⟩), .int .i64 W, .int .i64 H, .int .i64 way, .int .i64 dx, .int .i64 dy] w (Rt fun v w' => (∃ (a1 : Option Addr) (c1 : Nat) (z1 : List Nat) (a2 : Option Addr) (c2 : Nat) (z2 : List Nat), v = .agg #[.int .i64 W, .int .i64 H, .bool wr, .slice a1 ((W * H).toNat) c1, .slice a2 ((W * H).toNat) c2] ∧ Own w' w.heap.size a1 ((W * H).toNat) c1 62 1 (flts z1) ∧ z1.length = (W * H).toNat ∧ cn z1 = placeL Xsp W H way dx dy ∧ Own w' w.heap.size a2 ((W * H).toNat) c2 62 1 (flts z2) ∧ z2.length = (W * H).toNat ∧ cn z2 = placeL Xls W H way dx dy ∧ (∀ k, inA a1 k → inA a2 k → False)) ∧ Ext0 w w') := by
  have E0 : Ext no w w := Ext.refl _ _
  have hlP : Xsp.length = nsp := (cn_lenX qksp).trans qlsp
  have hlL : Xls.length = nls := (cn_lenX qkls).trans qlls
  have lo_asp := Sl.low qssp
  have lo_als := Sl.low qsls
  have lo_some_b_o_none := Sl.low hP
  refine calls_W (n := 44) Try.func79 rfl rfl (Nat.le_of_ble_eq_true rfl) ?_
  refine W_seq ?_
  refine W_region (by kernel_rfl) ?_
  refine s_k rfl (k_alloc (z := (.agg #[.int .i64 0, .int .i64 0, .bool false, .slice none 0 0, .slice none 0 0])) (cs := [.int .i64 0, .int .i64 0, .bool false, .slice none 0 0, .slice none 0 0]) T79.zero_26 rfl (fun b1 w2 q4 e3 hB5 => ?_))
  have hS6 := qssp.ext0 e3
  have hS7 := qsls.ext0 e3
  have hS8 := hP.ext0 e3
  have E9 := E0.fresh e3 (fun _ h _ => h.elim)
  have fr10 : NotLt b1 w.heap.size := fun h => Nat.not_lt.2 (Nat.le_trans E0.size (Nat.le_of_eq q4.symm)) h
  clear q4
  refine s_nil ?_
  refine W_seq ?_
  refine W_region (by kernel_rfl) ?_
  refine s_y (v := .int .i64 W) rfl (y_move rfl) ?_
  refine s_y (v := .int .i64 H) rfl (y_move rfl) ?_
  refine s_y (v := .pointer (some ⟨b, o, none⟩)) rfl (y_move rfl) ?_
  refine s_y (v := .pointer (some ⟨b, o, none⟩)) rfl (y_nil rfl) ?_
  refine s_y (v := .pointer (some ⟨b, o + 2, none⟩)) rfl (y_fld (o := o + 0) T79.fld_26_2_2 rfl) ?_
  refine s_y (v := .bool wr) rfl (y_load T79.one_4 rfl (hS8.cell (j := 2) rfl)) ?_
  refine s_y (v := .agg #[.int .i64 W, .int .i64 H, .bool wr, .slice none 0 0, .slice none 0 0]) rfl (y_build (cells := #[.int .i64 W, .int .i64 H, .bool wr, .slice none 0 0, .slice none 0 0]) (by kernel_rfl)) ?_
  refine s_k rfl (k_alloc (z := (.agg #[.int .i64 0, .int .i64 0, .bool false, .slice none 0 0, .slice none 0 0])) (cs := [.int .i64 0, .int .i64 0, .bool false, .slice none 0 0, .slice none 0 0]) T79.zero_26 rfl (fun b11 w12 q14 e13 hB15 => ?_))
  have hB16 := hB5.ext0 e13
  have hS17 := hS6.ext0 e13
  have hS18 := hS7.ext0 e13
  have hS19 := hS8.ext0 e13
  have E20 := E9.fresh e13 (fun _ h _ => h.elim)
  have dj21 : NeB b1 b11 := fun h => Nat.ne_of_lt hB5.lt (h.trans q14)
  have fr22 : NotLt b11 w.heap.size := fun h => Nat.not_lt.2 (Nat.le_trans E9.size (Nat.le_of_eq q14.symm)) h
  clear q14
  refine s_k0 rfl (k_store (v := .agg #[.int .i64 W, .int .i64 H, .bool wr, .slice none 0 0, .slice none 0 0]) (n := 5) (cs' := [.int .i64 W, .int .i64 H, .bool wr, .slice none 0 0, .slice none 0 0]) T79.sz_26_5 rfl rfl rfl hB15 (by simp [Value.cells, Value.oneCell']) (Nat.le_of_ble_eq_true rfl) rfl (fun w23 e24 z25 hB26 => ?_))
  clear z25
  have hB27 := hB16.ext e24 dj21
  have hS28 := hS17.extL lo_asp e24 (fun kx (hs : kx = b11) hl => fr22 (hs ▸ hl))
  have hS29 := hS18.extL lo_als e24 (fun kx (hs : kx = b11) hl => fr22 (hs ▸ hl))
  have hS30 := hS19.extL lo_some_b_o_none e24 (fun kx (hs : kx = b11) hl => fr22 (hs ▸ hl))
  have E31 := E20.fresh e24 (fun kx (hs : kx = b11) hl => (fr22 (hs ▸ hl)).elim)
  refine s_nil ?_
  refine W_seq ?_
  refine W_region (by kernel_rfl) ?_
  refine s_y (v := .pointer (some ⟨b, o, none⟩)) rfl (y_move rfl) ?_
  refine s_y (v := .pointer (some ⟨b, o, none⟩)) rfl (y_nil rfl) ?_
  refine s_y (v := .pointer (some ⟨b, o + 3, none⟩)) rfl (y_fld (o := o + 0) T79.fld_26_3_3 rfl) ?_
  refine s_y (v := .slice asp nsp csp) rfl (y_load T79.one_24 rfl (hS30.cell (j := 3) rfl)) ?_
  refine s_y (v := .int .i64 W) rfl (y_move rfl) ?_
  refine s_y (v := .int .i64 H) rfl (y_move rfl) ?_
  refine s_y (v := .int .i64 way) rfl (y_move rfl) ?_
  refine s_y (v := .int .i64 dx) rfl (y_move rfl) ?_
  refine s_y (v := .int .i64 dy) rfl (y_move rfl) ?_
  refine s_k rfl (k_call T79.fn_105 (c_s_l02Place _ hS28 qlsp qksp (by omega) (by omega) (by omega) (by omega) (by omega) (by omega) (by omega) (by omega) (by omega)) rfl ?_)
  rintro _ w32 ⟨⟨a34, c35, z36, rfl, hO37, hl38, hc39⟩, e33⟩
  have hB40 := hB27.ext0 e33
  have hB41 := hB26.ext0 e33
  have hS42 := hS28.ext0 e33
  have hS43 := hS29.ext0 e33
  have hS44 := hS30.ext0 e33
  have E45 := E31.fresh e33 (fun _ h _ => h.elim)
  have d46 : ∀ k, inA a34 k → w23.heap.size ≤ k := fun kx hk => (hO37.blk kx hk).1
  have dj47 : inA a34 b1 → False := fun h => Nat.not_lt.2 (d46 _ h) hB27.lt
  have dj48 : inA a34 b11 → False := fun h => Nat.not_lt.2 (d46 _ h) hB26.lt
  have fr49 : ∀ k, inA a34 k → k < w.heap.size → False := fun kx h1 h2 => Nat.not_lt.2 (Nat.le_trans E31.size (d46 kx h1)) h2
  have hO50 := hO37.base E31.size
  refine s_y (v := .pointer (some ⟨b11, 3, none⟩)) rfl (y_fld (o := 0) T79.fld_26_3_3 rfl) ?_
  refine s_k0 rfl (k_store (v := .slice a34 ((W * H).toNat) c35) (n := 1) (cs' := [.int .i64 W, .int .i64 H, .bool wr, .slice a34 ((W * H).toNat) c35, .slice none 0 0]) T79.sz_24_1 rfl rfl rfl hB41 (by simp [Value.cells, Value.oneCell']) (Nat.le_of_ble_eq_true rfl) rfl (fun w51 e52 z53 hB54 => ?_))
  clear z53
  have hB55 := hB40.ext e52 dj21
  have hS56 := hS42.extL lo_asp e52 (fun kx (hs : kx = b11) hl => fr22 (hs ▸ hl))
  have hS57 := hS43.extL lo_als e52 (fun kx (hs : kx = b11) hl => fr22 (hs ▸ hl))
  have hS58 := hS44.extL lo_some_b_o_none e52 (fun kx (hs : kx = b11) hl => fr22 (hs ▸ hl))
  have hO59 := hO50.ext e52 (fun kx hk (hs : kx = b11) => dj48 (hs ▸ hk))
  have E60 := E45.fresh e52 (fun kx (hs : kx = b11) hl => (fr22 (hs ▸ hl)).elim)
  refine s_nil ?_
  refine W_seq ?_
  refine W_region (by kernel_rfl) ?_
  refine s_y (v := .pointer (some ⟨b, o, none⟩)) rfl (y_move rfl) ?_
  refine s_y (v := .pointer (some ⟨b, o, none⟩)) rfl (y_nil rfl) ?_
  refine s_y (v := .pointer (some ⟨b, o + 4, none⟩)) rfl (y_fld (o := o + 0) T79.fld_26_4_4 rfl) ?_
  refine s_y (v := .slice als nls cls) rfl (y_load T79.one_24 rfl (hS58.cell (j := 4) rfl)) ?_
  refine s_y (v := .int .i64 W) rfl (y_move rfl) ?_
  refine s_y (v := .int .i64 H) rfl (y_move rfl) ?_
  refine s_y (v := .int .i64 way) rfl (y_move rfl) ?_
  refine s_y (v := .int .i64 dx) rfl (y_move rfl) ?_
  refine s_y (v := .int .i64 dy) rfl (y_move rfl) ?_
  refine s_k rfl (k_call T79.fn_105 (c_s_l02Place _ hS57 qlls qkls (by omega) (by omega) (by omega) (by omega) (by omega) (by omega) (by omega) (by omega) (by omega)) rfl ?_)
  rintro _ w61 ⟨⟨a63, c64, z65, rfl, hO66, hl67, hc68⟩, e62⟩
  have hB69 := hB55.ext0 e62
  have hB70 := hB54.ext0 e62
  have hS71 := hS56.ext0 e62
  have hS72 := hS57.ext0 e62
  have hS73 := hS58.ext0 e62
  have hO74 := hO59.ext0 e62
  have E75 := E60.fresh e62 (fun _ h _ => h.elim)
  have d76 : ∀ k, inA a63 k → w51.heap.size ≤ k := fun kx hk => (hO66.blk kx hk).1
  have dj77 : inA a63 b1 → False := fun h => Nat.not_lt.2 (d76 _ h) hB55.lt
  have dj78 : inA a63 b11 → False := fun h => Nat.not_lt.2 (d76 _ h) hB54.lt
  have dj79 : ∀ k, inA a34 k → inA a63 k → False := fun kx h1 h2 => Nat.not_lt.2 (d76 kx h2) (hO59.blk kx h1).2
  have fr80 : ∀ k, inA a63 k → k < w.heap.size → False := fun kx h1 h2 => Nat.not_lt.2 (Nat.le_trans E60.size (d76 kx h1)) h2
  have hO81 := hO66.base E60.size
  refine s_y (v := .pointer (some ⟨b11, 4, none⟩)) rfl (y_fld (o := 0) T79.fld_26_4_4 rfl) ?_
  refine s_k0 rfl (k_store (v := .slice a63 ((W * H).toNat) c64) (n := 1) (cs' := [.int .i64 W, .int .i64 H, .bool wr, .slice a34 ((W * H).toNat) c35, .slice a63 ((W * H).toNat) c64]) T79.sz_24_1 rfl rfl rfl hB70 (by simp [Value.cells, Value.oneCell']) (Nat.le_of_ble_eq_true rfl) rfl (fun w82 e83 z84 hB85 => ?_))
  clear z84
  have hB86 := hB69.ext e83 dj21
  have hS87 := hS71.extL lo_asp e83 (fun kx (hs : kx = b11) hl => fr22 (hs ▸ hl))
  have hS88 := hS72.extL lo_als e83 (fun kx (hs : kx = b11) hl => fr22 (hs ▸ hl))
  have hS89 := hS73.extL lo_some_b_o_none e83 (fun kx (hs : kx = b11) hl => fr22 (hs ▸ hl))
  have hO90 := hO74.ext e83 (fun kx hk (hs : kx = b11) => dj48 (hs ▸ hk))
  have hO91 := hO81.ext e83 (fun kx hk (hs : kx = b11) => dj78 (hs ▸ hk))
  have E92 := E75.fresh e83 (fun kx (hs : kx = b11) hl => (fr22 (hs ▸ hl)).elim)
  refine s_nil ?_
  refine W_seq ?_
  refine W_region (by kernel_rfl) ?_
  refine s_y (v := .agg #[.int .i64 W, .int .i64 H, .bool wr, .slice a34 ((W * H).toNat) c35, .slice a63 ((W * H).toNat) c64]) rfl (y_loadn (b := b11) (o := 0) (vs := [.int .i64 W, .int .i64 H, .bool wr, .slice a34 ((W * H).toNat) c35, .slice a63 ((W * H).toNat) c64]) T79.agg_26_5 rfl rfl (hB85.cells (o := 0) rfl)) ?_
  refine s_k0 rfl (k_store (v := .agg #[.int .i64 W, .int .i64 H, .bool wr, .slice a34 ((W * H).toNat) c35, .slice a63 ((W * H).toNat) c64]) (n := 5) (cs' := [.int .i64 W, .int .i64 H, .bool wr, .slice a34 ((W * H).toNat) c35, .slice a63 ((W * H).toNat) c64]) T79.sz_26_5 rfl rfl rfl hB86 (by simp [Value.cells, Value.oneCell']) (Nat.le_of_ble_eq_true rfl) rfl (fun w93 e94 z95 hB96 => ?_))
  clear z95
  have hB97 := hB85.ext e94 (fun h => dj21 h.symm)
  have hS98 := hS87.extL lo_asp e94 (fun kx (hs : kx = b1) hl => fr10 (hs ▸ hl))
  have hS99 := hS88.extL lo_als e94 (fun kx (hs : kx = b1) hl => fr10 (hs ▸ hl))
  have hS100 := hS89.extL lo_some_b_o_none e94 (fun kx (hs : kx = b1) hl => fr10 (hs ▸ hl))
  have hO101 := hO90.ext e94 (fun kx hk (hs : kx = b1) => dj47 (hs ▸ hk))
  have hO102 := hO91.ext e94 (fun kx hk (hs : kx = b1) => dj77 (hs ▸ hk))
  have E103 := E92.fresh e94 (fun kx (hs : kx = b1) hl => (fr10 (hs ▸ hl)).elim)
  refine s_nil ?_
  refine W_ret ?_
  refine ret1 rfl rfl ⟨_, [.int .i64 W, .int .i64 H, .bool wr, .slice a34 ((W * H).toNat) c35, .slice a63 ((W * H).toNat) c64], _, rfl, hB96, T79.agg_26_5, rfl⟩ ⟨_, rfl, ?_⟩
  exact ⟨⟨_, _, _, _, _, _, rfl, hO101, hl38, hc39, hO102, hl67, hc68, dj79⟩, E103⟩
namespace T50
theorem mx : Try.prog.follows .mixedOrders = true := by kernel_rfl
theorem agg_26_5 : aggB Try.prog 26 5 = true := by kernel_rfl
theorem fld_26_0_0 : fldB Try.prog 26 0 0 = true := by kernel_rfl
theorem fld_26_1_1 : fldB Try.prog 26 1 1 = true := by kernel_rfl
theorem fld_26_2_2 : fldB Try.prog 26 2 2 = true := by kernel_rfl
theorem fn_69 : fnB Try.prog 69 = true := by kernel_rfl
theorem fn_79 : fnB Try.prog 79 = true := by kernel_rfl
theorem fn_89 : fnB Try.prog 89 = true := by kernel_rfl
theorem one_2 : oneB Try.prog 2 = true := by kernel_rfl
theorem one_4 : oneB Try.prog 4 = true := by kernel_rfl
theorem sz_26_5 : szB Try.prog 26 5 = true := by kernel_rfl
theorem zero_26 : zeroB Try.prog 26 (.agg #[.int .i64 0, .int .i64 0, .bool false, .slice none 0 0, .slice none 0 0]) := by unfold zeroB; kernel_rfl
end T50
set_option maxRecDepth 100000 in
set_option maxHeartbeats 4000000 in
theorem c_s_ShiftSheet {wd hi : Int} {wr : Bool} {asp : Option Addr} {nsp csp : Nat} {xsp Xsp : List Nat} {als : Option Addr} {nls cls : Nat} {xls Xls : List Nat} {x y : Int} (w : World) (qssp : Sl w asp (flts xsp)) (qlsp : xsp.length = nsp) (qksp : cn xsp = Xsp) (qsls : Sl w als (flts xls)) (qlls : xls.length = nls) (qkls : cn xls = Xls) (hb1 : nsp ≤ 9223372036854775806) (hb2 : nls ≤ 9223372036854775806) :
    Calls Try.prog 50 #[.agg #[.int .i64 wd, .int .i64 hi, .bool wr, .slice asp nsp csp, .slice als nls cls], .int .i64 x, .int .i64 y] w (Rt fun v w' => ((shB wd hi wr Xsp Xls x y = true ∧ ∃ (a1 : Option Addr) (c1 : Nat) (z1 : List Nat) (a2 : Option Addr) (c2 : Nat) (z2 : List Nat), v = .tuple #[.agg #[.int .i64 wd, .int .i64 hi, .bool wr, .slice a1 ((wd * hi).toNat) c1, .slice a2 ((wd * hi).toNat) c2], .bool true] ∧ Own w' w.heap.size a1 ((wd * hi).toNat) c1 62 1 (flts z1) ∧ z1.length = (wd * hi).toNat ∧ cn z1 = shfS wd hi x y Xsp ∧ Own w' w.heap.size a2 ((wd * hi).toNat) c2 62 1 (flts z2) ∧ z2.length = (wd * hi).toNat ∧ cn z2 = shfS wd hi x y Xls ∧ (∀ k, inA a1 k → inA a2 k → False)) ∨ (shB wd hi wr Xsp Xls x y = false ∧ v = .tuple #[.agg #[.int .i64 0, .int .i64 0, .bool false, .slice none 0 0, .slice none 0 0], .bool false])) ∧ Ext0 w w') := by
  have E0 : Ext no w w := Ext.refl _ _
  have hlP : Xsp.length = nsp := (cn_lenX qksp).trans qlsp
  have hlL : Xls.length = nls := (cn_lenX qkls).trans qlls
  have lo_asp := Sl.low qssp
  have lo_als := Sl.low qsls
  refine calls_W (n := 35) Try.func50 rfl rfl (Nat.le_of_ble_eq_true rfl) ?_
  refine W_seq ?_
  refine W_region (by kernel_rfl) ?_
  refine s_k rfl (k_box (v := .agg #[.int .i64 wd, .int .i64 hi, .bool wr, .slice asp nsp csp, .slice als nls cls]) (cs := [.int .i64 wd, .int .i64 hi, .bool wr, .slice asp nsp csp, .slice als nls cls]) rfl rfl (fun b1 w2 q4 e3 hB5 => ?_))
  have hS6 := qssp.ext0 e3
  have hS7 := qsls.ext0 e3
  have E8 := E0.fresh e3 (fun _ h _ => h.elim)
  have fr9 : NotLt b1 w.heap.size := fun h => Nat.not_lt.2 (Nat.le_trans E0.size (Nat.le_of_eq q4.symm)) h
  clear q4
  refine s_k rfl (k_alloc (z := (.agg #[.int .i64 0, .int .i64 0, .bool false, .slice none 0 0, .slice none 0 0])) (cs := [.int .i64 0, .int .i64 0, .bool false, .slice none 0 0, .slice none 0 0]) T50.zero_26 rfl (fun b10 w11 q13 e12 hB14 => ?_))
  have hB15 := hB5.ext0 e12
  have hS16 := hS6.ext0 e12
  have hS17 := hS7.ext0 e12
  have E18 := E8.fresh e12 (fun _ h _ => h.elim)
  have dj19 : NeB b1 b10 := fun h => Nat.ne_of_lt hB5.lt (h.trans q13)
  have fr20 : NotLt b10 w.heap.size := fun h => Nat.not_lt.2 (Nat.le_trans E8.size (Nat.le_of_eq q13.symm)) h
  clear q13
  refine s_y (v := .bool false) rfl (y_assign rfl) ?_
  refine s_nil ?_
  refine W_seq ?_
  refine W_seq ?_
  refine W_region (by kernel_rfl) ?_
  refine s_k rfl (k_call T50.fn_69 (c_s_l02Is _ hS16 qlsp qksp hS17 qlls qkls hB15.sl (by omega) (by omega)) rfl ?_)
  rintro v23 w21 ⟨hv24, e22⟩
  have hB25 := hB15.ext0 e22
  have hB26 := hB14.ext0 e22
  have hS27 := hS16.ext0 e22
  have hS28 := hS17.ext0 e22
  have E29 := E18.fresh e22 (fun _ h _ => h.elim)
  by_cases c30 : validS wd hi Xsp Xls = true
  · have hb31 := validS_b c30
    obtain rfl : v23 = .bool true := hv24.trans (congrArg Value.bool c30)
    refine s_y (v := .bool false) rfl (y_not rfl rfl) ?_
    refine s_y (v := .bool false) rfl (y_move rfl) ?_
    refine s_y (v := .pointer (some ⟨b1, 2, none⟩)) rfl (y_fld (o := 0) T50.fld_26_2_2 rfl) ?_
    refine s_y (v := .bool wr) rfl (y_load T50.one_4 rfl (hB25.cell (j := 2) rfl)) ?_
    refine s_y (v := .bool (!wr)) rfl (y_not rfl rfl) ?_
    refine s_y (v := .bool (!wr)) rfl (y_pick_f rfl rfl) ?_
    refine s_y (v := .bool (!wr)) rfl (y_move rfl) ?_
    cases wr
    · refine s_skip rfl ?_
      refine s_skip rfl ?_
      refine s_skip rfl ?_
      refine s_skip rfl ?_
      refine s_y (v := .bool true) rfl (y_pick_t rfl rfl) ?_
      refine s_nil ?_
      refine W_if_t (by decide) rfl ?_
      refine W_seq ?_
      refine W_region (by kernel_rfl) ?_
      refine s_y (v := .agg #[.int .i64 0, .int .i64 0, .bool false, .slice none 0 0, .slice none 0 0]) rfl (y_build (cells := #[.int .i64 0, .int .i64 0, .bool false, .slice none 0 0, .slice none 0 0]) (by kernel_rfl)) ?_
      refine s_k0 rfl (k_store (v := .agg #[.int .i64 0, .int .i64 0, .bool false, .slice none 0 0, .slice none 0 0]) (n := 5) (cs' := [.int .i64 0, .int .i64 0, .bool false, .slice none 0 0, .slice none 0 0]) T50.sz_26_5 rfl rfl rfl hB26 (by simp [Value.cells, Value.oneCell']) (Nat.le_of_ble_eq_true rfl) rfl (fun w32 e33 z34 hB35 => ?_))
      clear z34
      have hB36 := hB25.ext e33 dj19
      have hS37 := hS27.extL lo_asp e33 (fun kx (hs : kx = b10) hl => fr20 (hs ▸ hl))
      have hS38 := hS28.extL lo_als e33 (fun kx (hs : kx = b10) hl => fr20 (hs ▸ hl))
      have E39 := E29.fresh e33 (fun kx (hs : kx = b10) hl => (fr20 (hs ▸ hl)).elim)
      refine s_y (v := .bool false) rfl (y_assign rfl) ?_
      refine s_nil ?_
      refine W_ret ?_
      refine ret2 rfl rfl rfl ⟨_, [.int .i64 0, .int .i64 0, .bool false, .slice none 0 0, .slice none 0 0], _, rfl, hB35, T50.agg_26_5, rfl⟩ rfl ⟨_, rfl, ?_⟩
      exact ⟨.inr ⟨by simp only [shB_eq, c30, Bool.and_true, Bool.true_and, Bool.and_false, Bool.false_and, Bool.not_true, Bool.not_false, Bool.or_true, Bool.true_or, Bool.or_false, Bool.false_or], rfl⟩, E39⟩
    · refine s_y (v := .int .i64 x) rfl (y_move rfl) ?_
      refine s_y (v := .int .i64 y) rfl (y_move rfl) ?_
      refine s_k rfl (k_call T50.fn_89 (c_s_l02Shift _) rfl ?_)
      rintro v42 w40 ⟨hv43, e41⟩
      have hB44 := hB25.ext0 e41
      have hB45 := hB26.ext0 e41
      have hS46 := hS27.ext0 e41
      have hS47 := hS28.ext0 e41
      have E48 := E29.fresh e41 (fun _ h _ => h.elim)
      by_cases c49 : shiftB x y = true
      · have hb50 := shiftB_b c49
        obtain rfl : v42 = .bool true := hv43.trans (congrArg Value.bool c49)
        refine s_y (v := .bool false) rfl (y_not rfl rfl) ?_
        refine s_y (v := .bool false) rfl (y_pick_f rfl rfl) ?_
        refine s_nil ?_
        refine W_if_f (by decide) rfl ?_
        refine W_skip ?_
        refine W_seq ?_
        refine W_draw (at1 b10) T50.mx (by kernel_rfl) (fun w51 e52 => ?_)
        have hB53 := hB44.ext0 e52
        have hB54 := hB45.ext0 e52
        have hS55 := hS46.ext0 e52
        have hS56 := hS47.ext0 e52
        have E57 := E48.fresh e52 (fun _ h _ => h.elim)
        have R58 := (Ext.refl (at1 b10) w40).trans (Ext0.any e52)
        refine m_y (v := .pointer (some ⟨b1, 0, none⟩)) 0 rfl (by kernel_rfl) rfl rfl (fun w' e' => y_fld (o := 0) T50.fld_26_0_0 rfl) ?_
        refine m_y (v := .int .i64 wd) 1 rfl (by kernel_rfl) rfl rfl (fun w' e' => y_load T50.one_2 rfl ((hB44.ext e' dj19).cell (j := 0) rfl)) ?_
        refine m_y (v := .pointer (some ⟨b1, 1, none⟩)) 2 rfl (by kernel_rfl) rfl rfl (fun w' e' => y_fld (o := 0) T50.fld_26_1_1 rfl) ?_
        refine m_y (v := .int .i64 hi) 3 rfl (by kernel_rfl) rfl rfl (fun w' e' => y_load T50.one_2 rfl ((hB44.ext e' dj19).cell (j := 1) rfl)) ?_
        refine m_y (v := .int .i64 x) 4 rfl (by kernel_rfl) rfl rfl (fun w' e' => y_move rfl) ?_
        refine m_y (v := .pointer (some ⟨b1, 0, none⟩)) 5 rfl (by kernel_rfl) rfl rfl (fun w' e' => y_fld (o := 0) T50.fld_26_0_0 rfl) ?_
        refine m_y (v := .int .i64 wd) 6 rfl (by kernel_rfl) rfl rfl (fun w' e' => y_load T50.one_2 rfl ((hB44.ext e' dj19).cell (j := 0) rfl)) ?_
        have hm59 := tmod_b (x := x) (m := wd) (by omega)
        refine m_y (v := .int .i64 (x.tmod wd)) 7 rfl (by kernel_rfl) rfl rfl (fun w' e' => y_tmod rfl rfl (by omega)) ?_
        refine m_y (v := .int .i64 y) 8 rfl (by kernel_rfl) rfl rfl (fun w' e' => y_move rfl) ?_
        refine m_y (v := .pointer (some ⟨b1, 1, none⟩)) 9 rfl (by kernel_rfl) rfl rfl (fun w' e' => y_fld (o := 0) T50.fld_26_1_1 rfl) ?_
        refine m_y (v := .int .i64 hi) 10 rfl (by kernel_rfl) rfl rfl (fun w' e' => y_load T50.one_2 rfl ((hB44.ext e' dj19).cell (j := 1) rfl)) ?_
        have hm60 := tmod_b (x := y) (m := hi) (by omega)
        refine m_y (v := .int .i64 (y.tmod hi)) 11 rfl (by kernel_rfl) rfl rfl (fun w' e' => y_tmod rfl rfl (by omega)) ?_
        refine m_k 12 [13, 14] rfl (by kernel_rfl) rfl rfl (fun w61 e62 => ?_)
        have hB63 := hB53.ext0 e62
        have hB64 := hB54.ext0 e62
        have hS65 := hS55.ext0 e62
        have hS66 := hS56.ext0 e62
        have E67 := E57.fresh e62 (fun _ h _ => h.elim)
        have R68 := R58.trans (Ext0.any e62)
        refine k_call T50.fn_79 (c_s_l02Sheet _ hS65 qlsp qksp hS66 qlls qkls hB63.sl (by omega) (by omega) (by omega) (by omega) (by omega) (by omega) (by omega) (by omega) (by omega) (by omega)) rfl ?_
        rintro _ w69 ⟨⟨a71, c72, z73, a74, c75, z76, rfl, hO77, hl78, hc79, hO80, hl81, hc82, dj83⟩, e70⟩
        have hB84 := hB63.ext0 e70
        have hB85 := hB64.ext0 e70
        have hS86 := hS65.ext0 e70
        have hS87 := hS66.ext0 e70
        have E88 := E67.fresh e70 (fun _ h _ => h.elim)
        have R89 := R68.trans (Ext0.any e70)
        refine ⟨fun _ => R89, ?_⟩
        have d90 : ∀ k, inA a71 k → w61.heap.size ≤ k := fun kx hk => (hO77.blk kx hk).1
        have dj91 : inA a71 b1 → False := fun h => Nat.not_lt.2 (d90 _ h) hB63.lt
        have dj92 : inA a71 b10 → False := fun h => Nat.not_lt.2 (d90 _ h) hB64.lt
        have fr93 : ∀ k, inA a71 k → k < w.heap.size → False := fun kx h1 h2 => Nat.not_lt.2 (Nat.le_trans E67.size (d90 kx h1)) h2
        have hO94 := hO77.base E67.size
        have d95 : ∀ k, inA a74 k → w61.heap.size ≤ k := fun kx hk => (hO80.blk kx hk).1
        have dj96 : inA a74 b1 → False := fun h => Nat.not_lt.2 (d95 _ h) hB63.lt
        have dj97 : inA a74 b10 → False := fun h => Nat.not_lt.2 (d95 _ h) hB64.lt
        have fr98 : ∀ k, inA a74 k → k < w.heap.size → False := fun kx h1 h2 => Nat.not_lt.2 (Nat.le_trans E67.size (d95 kx h1)) h2
        have hO99 := hO80.base E67.size
        refine m_k 13 [14] rfl (by kernel_rfl) rfl rfl (fun w104 e105 => ?_)
        have hB106 := hB84.ext0 e105
        have hB107 := hB85.ext0 e105
        have hS108 := hS86.ext0 e105
        have hS109 := hS87.ext0 e105
        have hO110 := hO94.ext0 e105
        have hO111 := hO99.ext0 e105
        have E112 := E88.fresh e105 (fun _ h _ => h.elim)
        have R113 := R89.trans (Ext0.any e105)
        refine k_store (v := .agg #[.int .i64 wd, .int .i64 hi, .bool true, .slice a71 ((wd * hi).toNat) c72, .slice a74 ((wd * hi).toNat) c75]) (n := 5) (cs' := [.int .i64 wd, .int .i64 hi, .bool true, .slice a71 ((wd * hi).toNat) c72, .slice a74 ((wd * hi).toNat) c75]) T50.sz_26_5 rfl rfl rfl hB107 (by simp [Value.cells, Value.oneCell']) (Nat.le_of_ble_eq_true rfl) rfl (fun w100 e101 z102 hB103 => ?_)
        clear z102
        have hB114 := hB106.ext e101 dj19
        have hS115 := hS108.extL lo_asp e101 (fun kx (hs : kx = b10) hl => fr20 (hs ▸ hl))
        have hS116 := hS109.extL lo_als e101 (fun kx (hs : kx = b10) hl => fr20 (hs ▸ hl))
        have hO117 := hO110.ext e101 (fun kx hk (hs : kx = b10) => dj92 (hs ▸ hk))
        have hO118 := hO111.ext e101 (fun kx hk (hs : kx = b10) => dj97 (hs ▸ hk))
        have E119 := E112.fresh e101 (fun kx (hs : kx = b10) hl => (fr20 (hs ▸ hl)).elim)
        have R120 := R113.fresh e101 (fun kx hs hl => hs)
        refine ⟨fun _ => R120, ?_⟩
        refine m_y (v := .bool true) 14 rfl (by kernel_rfl) rfl rfl (fun w' e' => y_assign rfl) ?_
        refine m_done (by kernel_rfl) (fun w121 e122 => ?_)
        have hB123 := hB114.ext0 e122
        have hB124 := hB103.ext0 e122
        have hS125 := hS115.ext0 e122
        have hS126 := hS116.ext0 e122
        have hO127 := hO117.ext0 e122
        have hO128 := hO118.ext0 e122
        have E129 := E119.fresh e122 (fun _ h _ => h.elim)
        have R130 := R120.trans (Ext0.any e122)
        refine W_ret ?_
        refine ret2 rfl rfl rfl ⟨_, [.int .i64 wd, .int .i64 hi, .bool true, .slice a71 ((wd * hi).toNat) c72, .slice a74 ((wd * hi).toNat) c75], _, rfl, hB124, T50.agg_26_5, rfl⟩ rfl ⟨_, rfl, ?_⟩
        exact ⟨.inl ⟨by simp only [shB_eq, c30, c49, Bool.and_true, Bool.true_and, Bool.and_false, Bool.false_and, Bool.not_true, Bool.not_false, Bool.or_true, Bool.true_or, Bool.or_false, Bool.false_or], ⟨_, _, _, _, _, _, rfl, hO127, hl78, (hc79.trans place_3), hO128, hl81, (hc82.trans place_3), dj83⟩⟩, E129⟩
      · obtain rfl : v42 = .bool false := hv43.trans (congrArg Value.bool (Bool.eq_false_iff.2 c49))
        refine s_y (v := .bool true) rfl (y_not rfl rfl) ?_
        refine s_y (v := .bool true) rfl (y_pick_f rfl rfl) ?_
        refine s_nil ?_
        refine W_if_t (by decide) rfl ?_
        refine W_seq ?_
        refine W_region (by kernel_rfl) ?_
        refine s_y (v := .agg #[.int .i64 0, .int .i64 0, .bool false, .slice none 0 0, .slice none 0 0]) rfl (y_build (cells := #[.int .i64 0, .int .i64 0, .bool false, .slice none 0 0, .slice none 0 0]) (by kernel_rfl)) ?_
        refine s_k0 rfl (k_store (v := .agg #[.int .i64 0, .int .i64 0, .bool false, .slice none 0 0, .slice none 0 0]) (n := 5) (cs' := [.int .i64 0, .int .i64 0, .bool false, .slice none 0 0, .slice none 0 0]) T50.sz_26_5 rfl rfl rfl hB45 (by simp [Value.cells, Value.oneCell']) (Nat.le_of_ble_eq_true rfl) rfl (fun w131 e132 z133 hB134 => ?_))
        clear z133
        have hB135 := hB44.ext e132 dj19
        have hS136 := hS46.extL lo_asp e132 (fun kx (hs : kx = b10) hl => fr20 (hs ▸ hl))
        have hS137 := hS47.extL lo_als e132 (fun kx (hs : kx = b10) hl => fr20 (hs ▸ hl))
        have E138 := E48.fresh e132 (fun kx (hs : kx = b10) hl => (fr20 (hs ▸ hl)).elim)
        refine s_y (v := .bool false) rfl (y_assign rfl) ?_
        refine s_nil ?_
        refine W_ret ?_
        refine ret2 rfl rfl rfl ⟨_, [.int .i64 0, .int .i64 0, .bool false, .slice none 0 0, .slice none 0 0], _, rfl, hB134, T50.agg_26_5, rfl⟩ rfl ⟨_, rfl, ?_⟩
        exact ⟨.inr ⟨by simp only [shB_eq, c30, (Bool.eq_false_iff.2 c49), Bool.and_true, Bool.true_and, Bool.and_false, Bool.false_and, Bool.not_true, Bool.not_false, Bool.or_true, Bool.true_or, Bool.or_false, Bool.false_or], rfl⟩, E138⟩
  · obtain rfl : v23 = .bool false := hv24.trans (congrArg Value.bool (Bool.eq_false_iff.2 c30))
    refine s_y (v := .bool true) rfl (y_not rfl rfl) ?_
    refine s_y (v := .bool true) rfl (y_move rfl) ?_
    refine s_skip rfl ?_
    refine s_skip rfl ?_
    refine s_skip rfl ?_
    refine s_y (v := .bool true) rfl (y_pick_t rfl rfl) ?_
    refine s_y (v := .bool true) rfl (y_move rfl) ?_
    refine s_skip rfl ?_
    refine s_skip rfl ?_
    refine s_skip rfl ?_
    refine s_skip rfl ?_
    refine s_y (v := .bool true) rfl (y_pick_t rfl rfl) ?_
    refine s_nil ?_
    refine W_if_t (by decide) rfl ?_
    refine W_seq ?_
    refine W_region (by kernel_rfl) ?_
    refine s_y (v := .agg #[.int .i64 0, .int .i64 0, .bool false, .slice none 0 0, .slice none 0 0]) rfl (y_build (cells := #[.int .i64 0, .int .i64 0, .bool false, .slice none 0 0, .slice none 0 0]) (by kernel_rfl)) ?_
    refine s_k0 rfl (k_store (v := .agg #[.int .i64 0, .int .i64 0, .bool false, .slice none 0 0, .slice none 0 0]) (n := 5) (cs' := [.int .i64 0, .int .i64 0, .bool false, .slice none 0 0, .slice none 0 0]) T50.sz_26_5 rfl rfl rfl hB26 (by simp [Value.cells, Value.oneCell']) (Nat.le_of_ble_eq_true rfl) rfl (fun w139 e140 z141 hB142 => ?_))
    clear z141
    have hB143 := hB25.ext e140 dj19
    have hS144 := hS27.extL lo_asp e140 (fun kx (hs : kx = b10) hl => fr20 (hs ▸ hl))
    have hS145 := hS28.extL lo_als e140 (fun kx (hs : kx = b10) hl => fr20 (hs ▸ hl))
    have E146 := E29.fresh e140 (fun kx (hs : kx = b10) hl => (fr20 (hs ▸ hl)).elim)
    refine s_y (v := .bool false) rfl (y_assign rfl) ?_
    refine s_nil ?_
    refine W_ret ?_
    refine ret2 rfl rfl rfl ⟨_, [.int .i64 0, .int .i64 0, .bool false, .slice none 0 0, .slice none 0 0], _, rfl, hB142, T50.agg_26_5, rfl⟩ rfl ⟨_, rfl, ?_⟩
    exact ⟨.inr ⟨by simp only [shB_eq, (Bool.eq_false_iff.2 c30), Bool.and_true, Bool.true_and, Bool.and_false, Bool.false_and, Bool.not_true, Bool.not_false, Bool.or_true, Bool.true_or, Bool.or_false, Bool.false_or], rfl⟩, E146⟩
namespace T65
theorem mx : Try.prog.follows .mixedOrders = true := by kernel_rfl
end T65
set_option maxRecDepth 100000 in
set_option maxHeartbeats 4000000 in
theorem c_i_within (n lo hi : Int) (w : World) :
    Calls Try.prog 65 #[.int .i64 n, .int .i64 lo, .int .i64 hi] w (Rt fun v w' => v = .bool (within n lo hi) ∧ Ext0 w w') := by
  have E0 : Ext no w w := Ext.refl _ _
  refine calls_W (n := 15) Try.func65 rfl rfl (Nat.le_of_ble_eq_true rfl) ?_
  refine W_seq ?_
  refine W_region (by kernel_rfl) ?_
  refine s_y (v := .bool false) rfl (y_assign rfl) ?_
  refine s_nil ?_
  refine W_seq ?_
  refine W_region (by kernel_rfl) ?_
  refine s_y (v := .int .i64 n) rfl (y_move rfl) ?_
  refine s_y (v := .int .i64 lo) rfl (y_move rfl) ?_
  by_cases c1 : lo ≤ n
  · refine s_y (v := .bool true) rfl (y_geq rfl rfl (decide_eq_true c1)) ?_
    refine s_y (v := .bool true) rfl (y_move rfl) ?_
    refine s_y (v := .int .i64 n) rfl (y_move rfl) ?_
    refine s_y (v := .int .i64 hi) rfl (y_move rfl) ?_
    by_cases c2 : n ≤ hi
    · refine s_y (v := .bool true) rfl (y_leq rfl rfl (decide_eq_true c2)) ?_
      refine s_y (v := .bool true) rfl (y_pick_t rfl rfl) ?_
      refine s_y (v := .bool true) rfl (y_assign rfl) ?_
      refine s_nil ?_
      refine W_ret ?_
      refine ret1 rfl rfl rfl ⟨_, rfl, ?_⟩
      exact ⟨congrArg Value.bool (by simp [within] <;> omega), E0⟩
    · refine s_y (v := .bool false) rfl (y_leq rfl rfl (decide_eq_false c2)) ?_
      refine s_y (v := .bool false) rfl (y_pick_t rfl rfl) ?_
      refine s_y (v := .bool false) rfl (y_assign rfl) ?_
      refine s_nil ?_
      refine W_ret ?_
      refine ret1 rfl rfl rfl ⟨_, rfl, ?_⟩
      exact ⟨congrArg Value.bool (by simp [within] <;> omega), E0⟩
  · refine s_y (v := .bool false) rfl (y_geq rfl rfl (decide_eq_false c1)) ?_
    refine s_y (v := .bool false) rfl (y_move rfl) ?_
    refine s_skip rfl ?_
    refine s_skip rfl ?_
    refine s_skip rfl ?_
    refine s_y (v := .bool false) rfl (y_pick_f rfl rfl) ?_
    refine s_y (v := .bool false) rfl (y_assign rfl) ?_
    refine s_nil ?_
    refine W_ret ?_
    refine ret1 rfl rfl rfl ⟨_, rfl, ?_⟩
    exact ⟨congrArg Value.bool (by simp [within] <;> omega), E0⟩
namespace T66
theorem mx : Try.prog.follows .mixedOrders = true := by kernel_rfl
theorem one_62 : oneB Try.prog 62 = true := by kernel_rfl
theorem sl_24_62_1 : slB Try.prog 24 62 1 = true := by kernel_rfl
end T66
set_option maxRecDepth 100000 in
set_option maxHeartbeats 4000000 in
theorem c_i_areBetween {a : Option Addr} {n c : Nat} {x X : List Nat} {m M : Nat} (w : World) (qs : Sl w a (flts x)) (ql : x.length = n) (qk : cn x = X) (hm : can .f32 m = M) (hb : n ≤ 9223372036854775806) :
    Calls Try.prog 66 #[.slice a n c, .float .f32 m] w (Rt fun v w' => v = .bool (allI (n : Nat) (betw M X)) ∧ Ext0 w w') := by
  have E0 : Ext no w w := Ext.refl _ _
  have lo_a := Sl.low qs
  refine calls_W (n := 22) Try.func66 rfl rfl (Nat.le_of_ble_eq_true rfl) ?_
  refine W_seq ?_
  refine W_region (by kernel_rfl) ?_
  refine s_y (v := .bool false) rfl (y_assign rfl) ?_
  refine s_nil ?_
  refine W_seq ?_
  refine W_seq ?_
  refine W_region (by kernel_rfl) ?_
  refine s_y (v := .slice a n c) rfl (y_move rfl) ?_
  refine s_y (v := .int .i64 ((n : Nat) : Int)) rfl (y_len T66.sl_24_62_1 rfl rfl) ?_
  refine s_y (v := .int .i64 0) rfl (y_move rfl) ?_
  refine s_nil ?_
  refine W_block ?_
-- loop drops slots [4]
  refine W_loop (fun ρ' w' => ∃ (ρ1 : Env) (k : Int), ρ' = updL ρ1 [(1, .float .f32 m), (7, .slice a n c), (8, .int .i64 ((n : Nat) : Int)), (9, .int .i64 k)] ∧ Ext no w w' ∧ Sl w' a (flts x) ∧ (0 ≤ k) ∧ (k ≤ (n : Int)) ∧ (∀ i, 0 ≤ i → i < k → betw M X i = true)) (fun ρ' _ => ((n : Int) - iv (ρ' 9)).toNat) ?_ ?_
  · exact ⟨_, 0, Fits.eq ⟨rfl, rfl, rfl, rfl, trivial⟩, E0, qs, (Int.le_refl _), (by omega), (by intro i h0 h1; omega)⟩
  · rintro _ w1 ⟨ρ4, k, rfl, E2, hS3, h0k, h1k, hq⟩
    refine W_seq ?_
    refine W_region (by kernel_rfl) ?_
    by_cases c5 : k < ((n : Nat) : Int)
    · refine s_y (v := .bool true) rfl (y_lss rfl rfl (decide_eq_true c5)) ?_
      refine s_nil ?_
      refine W_seq ?_
      refine W_if_t (by decide) rfl ?_
      refine W_skip ?_
      refine W_seq ?_
      refine W_block ?_
      refine W_seq ?_
      refine W_region (by kernel_rfl) ?_
      refine s_y (v := .pointer (some (sat a ((k).toNat * 1)))) rfl (y_idx T66.sl_24_62_1 rfl rfl (hS3.addr (by rw [flts_length]; omega)) (by omega) (by omega)) ?_
      refine s_y (v := .float .f32 (el x k)) rfl (y_load T66.one_62 rfl (hS3.cell (fl_at (by omega) (by omega)))) ?_
      refine s_y (v := .float .f32 (el x k)) rfl (y_assign rfl) ?_
      refine s_nil ?_
      refine W_seq ?_
      refine W_region (by kernel_rfl) ?_
      refine s_y (v := .float .f32 (el x k)) rfl (y_move rfl) ?_
      by_cases c6 : fge .f32 (el X k) 0 = true
      · refine s_y (v := .bool true) rfl (y_fgeq rfl rfl (fgeC (cn_el qk k) (show can .f32 0 = 0 by kernel_rfl) c6)) ?_
        refine s_y (v := .bool true) rfl (y_move rfl) ?_
        refine s_y (v := .float .f32 (el x k)) rfl (y_move rfl) ?_
        refine s_y (v := .float .f32 m) rfl (y_move rfl) ?_
        by_cases c7 : fle .f32 (el X k) M = true
        · refine s_y (v := .bool true) rfl (y_fleq rfl rfl (fleC (cn_el qk k) hm c7)) ?_
          refine s_y (v := .bool true) rfl (y_pick_t rfl rfl) ?_
          refine s_y (v := .bool false) rfl (y_not rfl rfl) ?_
          refine s_nil ?_
          refine W_if_f (by decide) rfl ?_
          refine W_skip ?_
          refine W_region (by kernel_rfl) ?_
          refine s_y (v := .int .i64 (k + 1)) rfl (y_add rfl rfl rfl (by omega)) ?_
          refine s_y (v := .int .i64 (k + 1)) rfl (y_move rfl) ?_
          refine s_nil ?_
          refine ⟨⟨_, k + 1, Fits.eq ⟨rfl, rfl, rfl, rfl, trivial⟩, E2, hS3, (by omega), (by omega), (allI_more hq (betw_yes (by assumption) (by assumption)))⟩, ?_⟩
          show ((n : Int) - (k + 1)).toNat < ((n : Int) - k).toNat
          omega
        · refine s_y (v := .bool false) rfl (y_fleq rfl rfl (fleC (cn_el qk k) hm (Bool.eq_false_iff.2 c7))) ?_
          refine s_y (v := .bool false) rfl (y_pick_t rfl rfl) ?_
          refine s_y (v := .bool true) rfl (y_not rfl rfl) ?_
          refine s_nil ?_
          refine W_if_t (by decide) rfl ?_
          refine W_seq ?_
          refine W_region (by kernel_rfl) ?_
          refine s_y (v := .bool false) rfl (y_assign rfl) ?_
          refine s_nil ?_
          refine W_ret ?_
          refine ret1 rfl rfl rfl ⟨_, rfl, ?_⟩
          exact ⟨congrArg Value.bool (allI_false (by omega) (by omega) (by first | exact betw_no1 (by assumption) | exact betw_no2 (by assumption))).symm, E2⟩
      · refine s_y (v := .bool false) rfl (y_fgeq rfl rfl (fgeC (cn_el qk k) (show can .f32 0 = 0 by kernel_rfl) (Bool.eq_false_iff.2 c6))) ?_
        refine s_y (v := .bool false) rfl (y_move rfl) ?_
        refine s_skip rfl ?_
        refine s_skip rfl ?_
        refine s_skip rfl ?_
        refine s_y (v := .bool false) rfl (y_pick_f rfl rfl) ?_
        refine s_y (v := .bool true) rfl (y_not rfl rfl) ?_
        refine s_nil ?_
        refine W_if_t (by decide) rfl ?_
        refine W_seq ?_
        refine W_region (by kernel_rfl) ?_
        refine s_y (v := .bool false) rfl (y_assign rfl) ?_
        refine s_nil ?_
        refine W_ret ?_
        refine ret1 rfl rfl rfl ⟨_, rfl, ?_⟩
        exact ⟨congrArg Value.bool (allI_false (by omega) (by omega) (by first | exact betw_no1 (by assumption) | exact betw_no2 (by assumption))).symm, E2⟩
    · refine s_y (v := .bool false) rfl (y_lss rfl rfl (decide_eq_false c5)) ?_
      refine s_nil ?_
      refine W_seq ?_
      refine W_if_f (by decide) rfl ?_
      refine W_exit ?_
      refine W_seq ?_
      refine W_region (by kernel_rfl) ?_
      refine s_y (v := .bool true) rfl (y_assign rfl) ?_
      refine s_nil ?_
      refine W_ret ?_
      refine ret1 rfl rfl rfl ⟨_, rfl, ?_⟩
      exact ⟨congrArg Value.bool (allI_true (fun i h0 h1 => hq i h0 (by omega))).symm, E2⟩
namespace T19
theorem mx : Try.prog.follows .mixedOrders = true := by kernel_rfl
theorem fld_26_0_0 : fldB Try.prog 26 0 0 = true := by kernel_rfl
theorem fld_26_1_1 : fldB Try.prog 26 1 1 = true := by kernel_rfl
theorem fld_26_3_3 : fldB Try.prog 26 3 3 = true := by kernel_rfl
theorem fld_26_4_4 : fldB Try.prog 26 4 4 = true := by kernel_rfl
theorem fn_65 : fnB Try.prog 65 = true := by kernel_rfl
theorem fn_66 : fnB Try.prog 66 = true := by kernel_rfl
theorem one_2 : oneB Try.prog 2 = true := by kernel_rfl
theorem one_24 : oneB Try.prog 24 = true := by kernel_rfl
theorem sl_24_62_1 : slB Try.prog 24 62 1 = true := by kernel_rfl
end T19
set_option maxRecDepth 100000 in
set_option maxHeartbeats 4000000 in
theorem c_i_ValidSheet {wd hi : Int} {wr : Bool} {asp : Option Addr} {nsp csp : Nat} {xsp Xsp : List Nat} {als : Option Addr} {nls cls : Nat} {xls Xls : List Nat} (w : World) (qssp : Sl w asp (flts xsp)) (qlsp : xsp.length = nsp) (qksp : cn xsp = Xsp) (qsls : Sl w als (flts xls)) (qlls : xls.length = nls) (qkls : cn xls = Xls) (hb1 : nsp ≤ 9223372036854775806) (hb2 : nls ≤ 9223372036854775806) :
    Calls Try.prog 19 #[.agg #[.int .i64 wd, .int .i64 hi, .bool wr, .slice asp nsp csp, .slice als nls cls]] w (Rt fun v w' => v = .bool (validS wd hi Xsp Xls) ∧ Ext0 w w') := by
  have E0 : Ext no w w := Ext.refl _ _
  have hlP : Xsp.length = nsp := (cn_lenX qksp).trans qlsp
  have hlL : Xls.length = nls := (cn_lenX qkls).trans qlls
  have lo_asp := Sl.low qssp
  have lo_als := Sl.low qsls
  refine calls_W (n := 45) Try.func19 rfl rfl (Nat.le_of_ble_eq_true rfl) ?_
  refine W_seq ?_
  refine W_region (by kernel_rfl) ?_
  refine s_k rfl (k_box (v := .agg #[.int .i64 wd, .int .i64 hi, .bool wr, .slice asp nsp csp, .slice als nls cls]) (cs := [.int .i64 wd, .int .i64 hi, .bool wr, .slice asp nsp csp, .slice als nls cls]) rfl rfl (fun b1 w2 q4 e3 hB5 => ?_))
  have hS6 := qssp.ext0 e3
  have hS7 := qsls.ext0 e3
  have E8 := E0.fresh e3 (fun _ h _ => h.elim)
  have fr9 : NotLt b1 w.heap.size := fun h => Nat.not_lt.2 (Nat.le_trans E0.size (Nat.le_of_eq q4.symm)) h
  clear q4
  refine s_y (v := .bool false) rfl (y_assign rfl) ?_
  refine s_nil ?_
  refine W_seq ?_
  refine W_region (by kernel_rfl) ?_
  refine s_y (v := .pointer (some ⟨b1, 0, none⟩)) rfl (y_fld (o := 0) T19.fld_26_0_0 rfl) ?_
  refine s_y (v := .int .i64 wd) rfl (y_load T19.one_2 rfl (hB5.cell (j := 0) rfl)) ?_
  refine s_y (v := .pointer (some ⟨b1, 1, none⟩)) rfl (y_fld (o := 0) T19.fld_26_1_1 rfl) ?_
  refine s_y (v := .int .i64 hi) rfl (y_load T19.one_2 rfl (hB5.cell (j := 1) rfl)) ?_
  by_cases hr10 : -9223372036854775808 ≤ wd * hi ∧ wd * hi ≤ 9223372036854775807
  · refine s_y (v := .int .i64 (wd * hi)) rfl (y_mul rfl rfl rfl hr10) ?_
    refine s_y (v := .int .i64 (wd * hi)) rfl (y_assign rfl) ?_
    refine s_nil ?_
    refine W_seq ?_
    refine W_seq ?_
    refine W_region (by kernel_rfl) ?_
    refine s_y (v := .pointer (some ⟨b1, 0, none⟩)) rfl (y_fld (o := 0) T19.fld_26_0_0 rfl) ?_
    refine s_y (v := .int .i64 wd) rfl (y_load T19.one_2 rfl (hB5.cell (j := 0) rfl)) ?_
    refine s_k rfl (k_call T19.fn_65 (c_i_within _ _ _ _) rfl ?_)
    rintro v13 w11 ⟨hv14, e12⟩
    have hB15 := hB5.ext0 e12
    have hS16 := hS6.ext0 e12
    have hS17 := hS7.ext0 e12
    have E18 := E8.fresh e12 (fun _ h _ => h.elim)
    by_cases c19 : within wd 3 16 = true
    · have hb20 := within_b c19
      obtain rfl : v13 = .bool true := hv14.trans (congrArg Value.bool c19)
      refine s_y (v := .bool false) rfl (y_not rfl rfl) ?_
      refine s_y (v := .bool false) rfl (y_move rfl) ?_
      refine s_y (v := .pointer (some ⟨b1, 1, none⟩)) rfl (y_fld (o := 0) T19.fld_26_1_1 rfl) ?_
      refine s_y (v := .int .i64 hi) rfl (y_load T19.one_2 rfl (hB15.cell (j := 1) rfl)) ?_
      refine s_k rfl (k_call T19.fn_65 (c_i_within _ _ _ _) rfl ?_)
      rintro v23 w21 ⟨hv24, e22⟩
      have hB25 := hB15.ext0 e22
      have hS26 := hS16.ext0 e22
      have hS27 := hS17.ext0 e22
      have E28 := E18.fresh e22 (fun _ h _ => h.elim)
      by_cases c29 : within hi 3 16 = true
      · have hb30 := within_b c29
        obtain rfl : v23 = .bool true := hv24.trans (congrArg Value.bool c29)
        refine s_y (v := .bool false) rfl (y_not rfl rfl) ?_
        refine s_y (v := .bool false) rfl (y_pick_f rfl rfl) ?_
        refine s_y (v := .bool false) rfl (y_move rfl) ?_
        refine s_y (v := .int .i64 (wd * hi)) rfl (y_move rfl) ?_
        have hk31 : ¬ (256 < (wd * hi)) := (by have hz := mul16 (And.intro (within_b c19) (within_b c29)); omega)
        refine s_y (v := .bool false) rfl (y_gtr rfl rfl (decide_eq_false hk31)) ?_
        refine s_y (v := .bool false) rfl (y_pick_f rfl rfl) ?_
        refine s_nil ?_
        refine W_if_f (by decide) rfl ?_
        refine W_skip ?_
        refine W_seq ?_
        refine W_region (by kernel_rfl) ?_
        refine s_y (v := .pointer (some ⟨b1, 3, none⟩)) rfl (y_fld (o := 0) T19.fld_26_3_3 rfl) ?_
        refine s_y (v := .slice asp nsp csp) rfl (y_load T19.one_24 rfl (hB25.cell (j := 3) rfl)) ?_
        refine s_y (v := .int .i64 ((nsp : Nat) : Int)) rfl (y_len T19.sl_24_62_1 rfl rfl) ?_
        refine s_y (v := .int .i64 (wd * hi)) rfl (y_move rfl) ?_
        by_cases c32 : ((nsp : Nat) : Int) = (wd * hi)
        · refine s_y (v := .bool true) rfl (y_eql rfl rfl (decide_eq_true c32)) ?_
          refine s_y (v := .bool true) rfl (y_move rfl) ?_
          refine s_y (v := .pointer (some ⟨b1, 4, none⟩)) rfl (y_fld (o := 0) T19.fld_26_4_4 rfl) ?_
          refine s_y (v := .slice als nls cls) rfl (y_load T19.one_24 rfl (hB25.cell (j := 4) rfl)) ?_
          refine s_y (v := .int .i64 ((nls : Nat) : Int)) rfl (y_len T19.sl_24_62_1 rfl rfl) ?_
          refine s_y (v := .int .i64 (wd * hi)) rfl (y_move rfl) ?_
          by_cases c33 : ((nls : Nat) : Int) = (wd * hi)
          · refine s_y (v := .bool true) rfl (y_eql rfl rfl (decide_eq_true c33)) ?_
            refine s_y (v := .bool true) rfl (y_pick_t rfl rfl) ?_
            refine s_y (v := .bool true) rfl (y_move rfl) ?_
            refine s_y (v := .pointer (some ⟨b1, 3, none⟩)) rfl (y_fld (o := 0) T19.fld_26_3_3 rfl) ?_
            refine s_y (v := .slice asp nsp csp) rfl (y_load T19.one_24 rfl (hB25.cell (j := 3) rfl)) ?_
            refine s_k rfl (k_call T19.fn_66 (c_i_areBetween _ hS26 qlsp qksp (show can .f32 1056964608 = 1056964608 by kernel_rfl) (by omega)) rfl ?_)
            rintro v36 w34 ⟨hv37, e35⟩
            have hB38 := hB25.ext0 e35
            have hS39 := hS26.ext0 e35
            have hS40 := hS27.ext0 e35
            have E41 := E28.fresh e35 (fun _ h _ => h.elim)
            by_cases c42 : allI (nsp : Nat) (betw 1056964608 Xsp) = true
            · obtain rfl : v36 = .bool true := hv37.trans (congrArg Value.bool c42)
              refine s_y (v := .bool true) rfl (y_pick_t rfl rfl) ?_
              refine s_y (v := .bool true) rfl (y_move rfl) ?_
              refine s_y (v := .pointer (some ⟨b1, 4, none⟩)) rfl (y_fld (o := 0) T19.fld_26_4_4 rfl) ?_
              refine s_y (v := .slice als nls cls) rfl (y_load T19.one_24 rfl (hB38.cell (j := 4) rfl)) ?_
              refine s_k rfl (k_call T19.fn_66 (c_i_areBetween _ hS40 qlls qkls (show can .f32 1065353216 = 1065353216 by kernel_rfl) (by omega)) rfl ?_)
              rintro v45 w43 ⟨hv46, e44⟩
              have hB47 := hB38.ext0 e44
              have hS48 := hS39.ext0 e44
              have hS49 := hS40.ext0 e44
              have E50 := E41.fresh e44 (fun _ h _ => h.elim)
              by_cases c51 : allI (nls : Nat) (betw 1065353216 Xls) = true
              · obtain rfl : v45 = .bool true := hv46.trans (congrArg Value.bool c51)
                refine s_y (v := .bool true) rfl (y_pick_t rfl rfl) ?_
                refine s_y (v := .bool true) rfl (y_assign rfl) ?_
                refine s_nil ?_
                refine W_ret ?_
                refine ret1 rfl rfl rfl ⟨_, rfl, ?_⟩
                exact ⟨congrArg Value.bool (by simp only [validS_eq hlP hlL, c19, c29, (decide_eq_false hk31), (decide_eq_true c32), (decide_eq_true c33), c42, c51, Bool.and_true, Bool.true_and, Bool.and_false, Bool.false_and, Bool.not_true, Bool.not_false, Bool.or_true, Bool.true_or, Bool.or_false, Bool.false_or]), E50⟩
              · obtain rfl : v45 = .bool false := hv46.trans (congrArg Value.bool (Bool.eq_false_iff.2 c51))
                refine s_y (v := .bool false) rfl (y_pick_t rfl rfl) ?_
                refine s_y (v := .bool false) rfl (y_assign rfl) ?_
                refine s_nil ?_
                refine W_ret ?_
                refine ret1 rfl rfl rfl ⟨_, rfl, ?_⟩
                exact ⟨congrArg Value.bool (by simp only [validS_eq hlP hlL, c19, c29, (decide_eq_false hk31), (decide_eq_true c32), (decide_eq_true c33), c42, (Bool.eq_false_iff.2 c51), Bool.and_true, Bool.true_and, Bool.and_false, Bool.false_and, Bool.not_true, Bool.not_false, Bool.or_true, Bool.true_or, Bool.or_false, Bool.false_or]), E50⟩
            · obtain rfl : v36 = .bool false := hv37.trans (congrArg Value.bool (Bool.eq_false_iff.2 c42))
              refine s_y (v := .bool false) rfl (y_pick_t rfl rfl) ?_
              refine s_y (v := .bool false) rfl (y_move rfl) ?_
              refine s_skip rfl ?_
              refine s_skip rfl ?_
              refine s_skip rfl ?_
              refine s_y (v := .bool false) rfl (y_pick_f rfl rfl) ?_
              refine s_y (v := .bool false) rfl (y_assign rfl) ?_
              refine s_nil ?_
              refine W_ret ?_
              refine ret1 rfl rfl rfl ⟨_, rfl, ?_⟩
              exact ⟨congrArg Value.bool (by simp only [validS_eq hlP hlL, c19, c29, (decide_eq_false hk31), (decide_eq_true c32), (decide_eq_true c33), (Bool.eq_false_iff.2 c42), Bool.and_true, Bool.true_and, Bool.and_false, Bool.false_and, Bool.not_true, Bool.not_false, Bool.or_true, Bool.true_or, Bool.or_false, Bool.false_or]), E41⟩
          · refine s_y (v := .bool false) rfl (y_eql rfl rfl (decide_eq_false c33)) ?_
            refine s_y (v := .bool false) rfl (y_pick_t rfl rfl) ?_
            refine s_y (v := .bool false) rfl (y_move rfl) ?_
            refine s_skip rfl ?_
            refine s_skip rfl ?_
            refine s_skip rfl ?_
            refine s_y (v := .bool false) rfl (y_pick_f rfl rfl) ?_
            refine s_y (v := .bool false) rfl (y_move rfl) ?_
            refine s_skip rfl ?_
            refine s_skip rfl ?_
            refine s_skip rfl ?_
            refine s_y (v := .bool false) rfl (y_pick_f rfl rfl) ?_
            refine s_y (v := .bool false) rfl (y_assign rfl) ?_
            refine s_nil ?_
            refine W_ret ?_
            refine ret1 rfl rfl rfl ⟨_, rfl, ?_⟩
            exact ⟨congrArg Value.bool (by simp only [validS_eq hlP hlL, c19, c29, (decide_eq_false hk31), (decide_eq_true c32), (decide_eq_false c33), Bool.and_true, Bool.true_and, Bool.and_false, Bool.false_and, Bool.not_true, Bool.not_false, Bool.or_true, Bool.true_or, Bool.or_false, Bool.false_or]), E28⟩
        · refine s_y (v := .bool false) rfl (y_eql rfl rfl (decide_eq_false c32)) ?_
          refine s_y (v := .bool false) rfl (y_move rfl) ?_
          refine s_skip rfl ?_
          refine s_skip rfl ?_
          refine s_skip rfl ?_
          refine s_skip rfl ?_
          refine s_skip rfl ?_
          refine s_y (v := .bool false) rfl (y_pick_f rfl rfl) ?_
          refine s_y (v := .bool false) rfl (y_move rfl) ?_
          refine s_skip rfl ?_
          refine s_skip rfl ?_
          refine s_skip rfl ?_
          refine s_y (v := .bool false) rfl (y_pick_f rfl rfl) ?_
          refine s_y (v := .bool false) rfl (y_move rfl) ?_
          refine s_skip rfl ?_
          refine s_skip rfl ?_
          refine s_skip rfl ?_
          refine s_y (v := .bool false) rfl (y_pick_f rfl rfl) ?_
          refine s_y (v := .bool false) rfl (y_assign rfl) ?_
          refine s_nil ?_
          refine W_ret ?_
          refine ret1 rfl rfl rfl ⟨_, rfl, ?_⟩
          exact ⟨congrArg Value.bool (by simp only [validS_eq hlP hlL, c19, c29, (decide_eq_false hk31), (decide_eq_false c32), Bool.and_true, Bool.true_and, Bool.and_false, Bool.false_and, Bool.not_true, Bool.not_false, Bool.or_true, Bool.true_or, Bool.or_false, Bool.false_or]), E28⟩
      · obtain rfl : v23 = .bool false := hv24.trans (congrArg Value.bool (Bool.eq_false_iff.2 c29))
        refine s_y (v := .bool true) rfl (y_not rfl rfl) ?_
        refine s_y (v := .bool true) rfl (y_pick_f rfl rfl) ?_
        refine s_y (v := .bool true) rfl (y_move rfl) ?_
        refine s_skip rfl ?_
        refine s_skip rfl ?_
        refine s_y (v := .bool true) rfl (y_pick_t rfl rfl) ?_
        refine s_nil ?_
        refine W_if_t (by decide) rfl ?_
        refine W_seq ?_
        refine W_region (by kernel_rfl) ?_
        refine s_y (v := .bool false) rfl (y_assign rfl) ?_
        refine s_nil ?_
        refine W_ret ?_
        refine ret1 rfl rfl rfl ⟨_, rfl, ?_⟩
        exact ⟨congrArg Value.bool (by simp only [validS_eq hlP hlL, c19, (Bool.eq_false_iff.2 c29), Bool.and_true, Bool.true_and, Bool.and_false, Bool.false_and, Bool.not_true, Bool.not_false, Bool.or_true, Bool.true_or, Bool.or_false, Bool.false_or]), E28⟩
    · obtain rfl : v13 = .bool false := hv14.trans (congrArg Value.bool (Bool.eq_false_iff.2 c19))
      refine s_y (v := .bool true) rfl (y_not rfl rfl) ?_
      refine s_y (v := .bool true) rfl (y_move rfl) ?_
      refine s_skip rfl ?_
      refine s_skip rfl ?_
      refine s_skip rfl ?_
      refine s_skip rfl ?_
      refine s_y (v := .bool true) rfl (y_pick_t rfl rfl) ?_
      refine s_y (v := .bool true) rfl (y_move rfl) ?_
      refine s_skip rfl ?_
      refine s_skip rfl ?_
      refine s_y (v := .bool true) rfl (y_pick_t rfl rfl) ?_
      refine s_nil ?_
      refine W_if_t (by decide) rfl ?_
      refine W_seq ?_
      refine W_region (by kernel_rfl) ?_
      refine s_y (v := .bool false) rfl (y_assign rfl) ?_
      refine s_nil ?_
      refine W_ret ?_
      refine ret1 rfl rfl rfl ⟨_, rfl, ?_⟩
      exact ⟨congrArg Value.bool (by simp only [validS_eq hlP hlL, (Bool.eq_false_iff.2 c19), Bool.and_true, Bool.true_and, Bool.and_false, Bool.false_and, Bool.not_true, Bool.not_false, Bool.or_true, Bool.true_or, Bool.or_false, Bool.false_or]), E18⟩
  · have hw52 := wrap64_b (wd * hi)
    refine s_y (v := .int .i64 (IntKind.i64.wrap (wd * hi))) rfl (y_mulw rfl rfl) ?_
    refine s_y (v := .int .i64 (IntKind.i64.wrap (wd * hi))) rfl (y_assign rfl) ?_
    refine s_nil ?_
    refine W_seq ?_
    refine W_seq ?_
    refine W_region (by kernel_rfl) ?_
    refine s_y (v := .pointer (some ⟨b1, 0, none⟩)) rfl (y_fld (o := 0) T19.fld_26_0_0 rfl) ?_
    refine s_y (v := .int .i64 wd) rfl (y_load T19.one_2 rfl (hB5.cell (j := 0) rfl)) ?_
    refine s_k rfl (k_call T19.fn_65 (c_i_within _ _ _ _) rfl ?_)
    rintro v55 w53 ⟨hv56, e54⟩
    have hB57 := hB5.ext0 e54
    have hS58 := hS6.ext0 e54
    have hS59 := hS7.ext0 e54
    have E60 := E8.fresh e54 (fun _ h _ => h.elim)
    by_cases c61 : within wd 3 16 = true
    · have hb62 := within_b c61
      obtain rfl : v55 = .bool true := hv56.trans (congrArg Value.bool c61)
      refine s_y (v := .bool false) rfl (y_not rfl rfl) ?_
      refine s_y (v := .bool false) rfl (y_move rfl) ?_
      refine s_y (v := .pointer (some ⟨b1, 1, none⟩)) rfl (y_fld (o := 0) T19.fld_26_1_1 rfl) ?_
      refine s_y (v := .int .i64 hi) rfl (y_load T19.one_2 rfl (hB57.cell (j := 1) rfl)) ?_
      refine s_k rfl (k_call T19.fn_65 (c_i_within _ _ _ _) rfl ?_)
      rintro v65 w63 ⟨hv66, e64⟩
      have hB67 := hB57.ext0 e64
      have hS68 := hS58.ext0 e64
      have hS69 := hS59.ext0 e64
      have E70 := E60.fresh e64 (fun _ h _ => h.elim)
      have hk71 : ¬ (within hi 3 16 = true) := (fun hq => by have hz := mul16 (And.intro (within_b c61) (within_b hq)); omega)
      obtain rfl : v65 = .bool false := hv66.trans (congrArg Value.bool (Bool.eq_false_iff.2 hk71))
      refine s_y (v := .bool true) rfl (y_not rfl rfl) ?_
      refine s_y (v := .bool true) rfl (y_pick_f rfl rfl) ?_
      refine s_y (v := .bool true) rfl (y_move rfl) ?_
      refine s_skip rfl ?_
      refine s_skip rfl ?_
      refine s_y (v := .bool true) rfl (y_pick_t rfl rfl) ?_
      refine s_nil ?_
      refine W_if_t (by decide) rfl ?_
      refine W_seq ?_
      refine W_region (by kernel_rfl) ?_
      refine s_y (v := .bool false) rfl (y_assign rfl) ?_
      refine s_nil ?_
      refine W_ret ?_
      refine ret1 rfl rfl rfl ⟨_, rfl, ?_⟩
      exact ⟨congrArg Value.bool (by simp only [validS_eq hlP hlL, c61, (Bool.eq_false_iff.2 hk71), Bool.and_true, Bool.true_and, Bool.and_false, Bool.false_and, Bool.not_true, Bool.not_false, Bool.or_true, Bool.true_or, Bool.or_false, Bool.false_or]), E70⟩
    · obtain rfl : v55 = .bool false := hv56.trans (congrArg Value.bool (Bool.eq_false_iff.2 c61))
      refine s_y (v := .bool true) rfl (y_not rfl rfl) ?_
      refine s_y (v := .bool true) rfl (y_move rfl) ?_
      refine s_skip rfl ?_
      refine s_skip rfl ?_
      refine s_skip rfl ?_
      refine s_skip rfl ?_
      refine s_y (v := .bool true) rfl (y_pick_t rfl rfl) ?_
      refine s_y (v := .bool true) rfl (y_move rfl) ?_
      refine s_skip rfl ?_
      refine s_skip rfl ?_
      refine s_y (v := .bool true) rfl (y_pick_t rfl rfl) ?_
      refine s_nil ?_
      refine W_if_t (by decide) rfl ?_
      refine W_seq ?_
      refine W_region (by kernel_rfl) ?_
      refine s_y (v := .bool false) rfl (y_assign rfl) ?_
      refine s_nil ?_
      refine W_ret ?_
      refine ret1 rfl rfl rfl ⟨_, rfl, ?_⟩
      exact ⟨congrArg Value.bool (by simp only [validS_eq hlP hlL, (Bool.eq_false_iff.2 c61), Bool.and_true, Bool.true_and, Bool.and_false, Bool.false_and, Bool.not_true, Bool.not_false, Bool.or_true, Bool.true_or, Bool.or_false, Bool.false_or]), E60⟩
namespace T90
theorem mx : Try.prog.follows .mixedOrders = true := by kernel_rfl
theorem agg_26_5 : aggB Try.prog 26 5 = true := by kernel_rfl
theorem fld_26_2_2 : fldB Try.prog 26 2 2 = true := by kernel_rfl
theorem fn_19 : fnB Try.prog 19 = true := by kernel_rfl
theorem fn_65 : fnB Try.prog 65 = true := by kernel_rfl
theorem one_4 : oneB Try.prog 4 = true := by kernel_rfl
end T90
set_option maxRecDepth 100000 in
set_option maxHeartbeats 4000000 in
theorem c_i_isShift {wd hi : Int} {wr : Bool} {asp : Option Addr} {nsp csp : Nat} {xsp Xsp : List Nat} {als : Option Addr} {nls cls : Nat} {xls Xls : List Nat} {x y : Int} (w : World) (qssp : Sl w asp (flts xsp)) (qlsp : xsp.length = nsp) (qksp : cn xsp = Xsp) (qsls : Sl w als (flts xls)) (qlls : xls.length = nls) (qkls : cn xls = Xls) (hb1 : nsp ≤ 9223372036854775806) (hb2 : nls ≤ 9223372036854775806) :
    Calls Try.prog 90 #[.agg #[.int .i64 wd, .int .i64 hi, .bool wr, .slice asp nsp csp, .slice als nls cls], .int .i64 x, .int .i64 y] w (Rt fun v w' => v = .bool (shB wd hi wr Xsp Xls x y) ∧ Ext0 w w') := by
  have E0 : Ext no w w := Ext.refl _ _
  have hlP : Xsp.length = nsp := (cn_lenX qksp).trans qlsp
  have hlL : Xls.length = nls := (cn_lenX qkls).trans qlls
  have lo_asp := Sl.low qssp
  have lo_als := Sl.low qsls
  refine calls_W (n := 21) Try.func90 rfl rfl (Nat.le_of_ble_eq_true rfl) ?_
  refine W_seq ?_
  refine W_region (by kernel_rfl) ?_
  refine s_k rfl (k_box (v := .agg #[.int .i64 wd, .int .i64 hi, .bool wr, .slice asp nsp csp, .slice als nls cls]) (cs := [.int .i64 wd, .int .i64 hi, .bool wr, .slice asp nsp csp, .slice als nls cls]) rfl rfl (fun b1 w2 q4 e3 hB5 => ?_))
  have hS6 := qssp.ext0 e3
  have hS7 := qsls.ext0 e3
  have E8 := E0.fresh e3 (fun _ h _ => h.elim)
  have fr9 : NotLt b1 w.heap.size := fun h => Nat.not_lt.2 (Nat.le_trans E0.size (Nat.le_of_eq q4.symm)) h
  clear q4
  refine s_y (v := .bool false) rfl (y_assign rfl) ?_
  refine s_nil ?_
  refine W_seq ?_
  refine W_region (by kernel_rfl) ?_
  refine s_y (v := .agg #[.int .i64 wd, .int .i64 hi, .bool wr, .slice asp nsp csp, .slice als nls cls]) rfl (y_loadn (b := b1) (o := 0) (vs := [.int .i64 wd, .int .i64 hi, .bool wr, .slice asp nsp csp, .slice als nls cls]) T90.agg_26_5 rfl rfl (hB5.cells (o := 0) rfl)) ?_
  refine s_k rfl (k_call T90.fn_19 (c_i_ValidSheet _ hS6 qlsp qksp hS7 qlls qkls (by omega) (by omega)) rfl ?_)
  rintro v12 w10 ⟨hv13, e11⟩
  have hB14 := hB5.ext0 e11
  have hS15 := hS6.ext0 e11
  have hS16 := hS7.ext0 e11
  have E17 := E8.fresh e11 (fun _ h _ => h.elim)
  by_cases c18 : validS wd hi Xsp Xls = true
  · have hb19 := validS_b c18
    obtain rfl : v12 = .bool true := hv13.trans (congrArg Value.bool c18)
    refine s_y (v := .bool true) rfl (y_move rfl) ?_
    refine s_y (v := .pointer (some ⟨b1, 2, none⟩)) rfl (y_fld (o := 0) T90.fld_26_2_2 rfl) ?_
    refine s_y (v := .bool wr) rfl (y_load T90.one_4 rfl (hB14.cell (j := 2) rfl)) ?_
    refine s_y (v := .bool wr) rfl (y_pick_t rfl rfl) ?_
    refine s_y (v := .bool wr) rfl (y_move rfl) ?_
    cases wr
    · refine s_skip rfl ?_
      refine s_skip rfl ?_
      refine s_y (v := .bool false) rfl (y_pick_f rfl rfl) ?_
      refine s_y (v := .bool false) rfl (y_move rfl) ?_
      refine s_skip rfl ?_
      refine s_skip rfl ?_
      refine s_y (v := .bool false) rfl (y_pick_f rfl rfl) ?_
      refine s_y (v := .bool false) rfl (y_assign rfl) ?_
      refine s_nil ?_
      refine W_ret ?_
      refine ret1 rfl rfl rfl ⟨_, rfl, ?_⟩
      exact ⟨congrArg Value.bool (by simp only [shB, c18, Bool.and_true, Bool.true_and, Bool.and_false, Bool.false_and, Bool.not_true, Bool.not_false, Bool.or_true, Bool.true_or, Bool.or_false, Bool.false_or]), E17⟩
    · refine s_y (v := .int .i64 x) rfl (y_move rfl) ?_
      refine s_k rfl (k_call T90.fn_65 (c_i_within _ _ _ _) rfl ?_)
      rintro v22 w20 ⟨hv23, e21⟩
      have hB24 := hB14.ext0 e21
      have hS25 := hS15.ext0 e21
      have hS26 := hS16.ext0 e21
      have E27 := E17.fresh e21 (fun _ h _ => h.elim)
      by_cases c28 : within x (-16) 16 = true
      · have hb29 := within_b c28
        obtain rfl : v22 = .bool true := hv23.trans (congrArg Value.bool c28)
        refine s_y (v := .bool true) rfl (y_pick_t rfl rfl) ?_
        refine s_y (v := .bool true) rfl (y_move rfl) ?_
        refine s_y (v := .int .i64 y) rfl (y_move rfl) ?_
        refine s_k rfl (k_call T90.fn_65 (c_i_within _ _ _ _) rfl ?_)
        rintro v32 w30 ⟨hv33, e31⟩
        have hB34 := hB24.ext0 e31
        have hS35 := hS25.ext0 e31
        have hS36 := hS26.ext0 e31
        have E37 := E27.fresh e31 (fun _ h _ => h.elim)
        by_cases c38 : within y (-16) 16 = true
        · have hb39 := within_b c38
          obtain rfl : v32 = .bool true := hv33.trans (congrArg Value.bool c38)
          refine s_y (v := .bool true) rfl (y_pick_t rfl rfl) ?_
          refine s_y (v := .bool true) rfl (y_assign rfl) ?_
          refine s_nil ?_
          refine W_ret ?_
          refine ret1 rfl rfl rfl ⟨_, rfl, ?_⟩
          exact ⟨congrArg Value.bool (by simp only [shB, c18, c28, c38, Bool.and_true, Bool.true_and, Bool.and_false, Bool.false_and, Bool.not_true, Bool.not_false, Bool.or_true, Bool.true_or, Bool.or_false, Bool.false_or]), E37⟩
        · obtain rfl : v32 = .bool false := hv33.trans (congrArg Value.bool (Bool.eq_false_iff.2 c38))
          refine s_y (v := .bool false) rfl (y_pick_t rfl rfl) ?_
          refine s_y (v := .bool false) rfl (y_assign rfl) ?_
          refine s_nil ?_
          refine W_ret ?_
          refine ret1 rfl rfl rfl ⟨_, rfl, ?_⟩
          exact ⟨congrArg Value.bool (by simp only [shB, c18, c28, (Bool.eq_false_iff.2 c38), Bool.and_true, Bool.true_and, Bool.and_false, Bool.false_and, Bool.not_true, Bool.not_false, Bool.or_true, Bool.true_or, Bool.or_false, Bool.false_or]), E37⟩
      · obtain rfl : v22 = .bool false := hv23.trans (congrArg Value.bool (Bool.eq_false_iff.2 c28))
        refine s_y (v := .bool false) rfl (y_pick_t rfl rfl) ?_
        refine s_y (v := .bool false) rfl (y_move rfl) ?_
        refine s_skip rfl ?_
        refine s_skip rfl ?_
        refine s_y (v := .bool false) rfl (y_pick_f rfl rfl) ?_
        refine s_y (v := .bool false) rfl (y_assign rfl) ?_
        refine s_nil ?_
        refine W_ret ?_
        refine ret1 rfl rfl rfl ⟨_, rfl, ?_⟩
        exact ⟨congrArg Value.bool (by simp only [shB, c18, (Bool.eq_false_iff.2 c28), Bool.and_true, Bool.true_and, Bool.and_false, Bool.false_and, Bool.not_true, Bool.not_false, Bool.or_true, Bool.true_or, Bool.or_false, Bool.false_or]), E27⟩
  · obtain rfl : v12 = .bool false := hv13.trans (congrArg Value.bool (Bool.eq_false_iff.2 c18))
    refine s_y (v := .bool false) rfl (y_move rfl) ?_
    refine s_skip rfl ?_
    refine s_skip rfl ?_
    refine s_y (v := .bool false) rfl (y_pick_f rfl rfl) ?_
    refine s_y (v := .bool false) rfl (y_move rfl) ?_
    refine s_skip rfl ?_
    refine s_skip rfl ?_
    refine s_y (v := .bool false) rfl (y_pick_f rfl rfl) ?_
    refine s_y (v := .bool false) rfl (y_move rfl) ?_
    refine s_skip rfl ?_
    refine s_skip rfl ?_
    refine s_y (v := .bool false) rfl (y_pick_f rfl rfl) ?_
    refine s_y (v := .bool false) rfl (y_assign rfl) ?_
    refine s_nil ?_
    refine W_ret ?_
    refine ret1 rfl rfl rfl ⟨_, rfl, ?_⟩
    exact ⟨congrArg Value.bool (by simp only [shB, (Bool.eq_false_iff.2 c18), Bool.and_true, Bool.true_and, Bool.and_false, Bool.false_and, Bool.not_true, Bool.not_false, Bool.or_true, Bool.true_or, Bool.or_false, Bool.false_or]), E17⟩
namespace T107
theorem mx : Try.prog.follows .mixedOrders = true := by kernel_rfl
theorem fld_26_0_0 : fldB Try.prog 26 0 0 = true := by kernel_rfl
theorem fld_26_1_1 : fldB Try.prog 26 1 1 = true := by kernel_rfl
theorem one_2 : oneB Try.prog 2 = true := by kernel_rfl
end T107
set_option maxRecDepth 100000 in
set_option maxHeartbeats 4000000 in
theorem c_i_backBy_1 {wd hi x y u u2 : Int} {wr : Bool} {asp als : Option Addr} {nsp nls csp cls : Nat} {b1 b2 b3 : Nat} (w : World) (pb1 : Sl w (some ⟨b1, 0, none⟩) [.int .i64 x]) (pb2 : Sl w (some ⟨b2, 0, none⟩) [.int .i64 wd, .int .i64 hi, .bool wr, .slice asp nsp csp, .slice als nls cls]) (pb3 : Sl w (some ⟨b3, 0, none⟩) [.int .i64 y]) (h1 : 3 ≤ wd) (h2 : wd ≤ 16) (h3 : 3 ≤ hi) (h4 : hi ≤ 16) (h5 : -16 ≤ x) (h6 : x ≤ 16) (h7 : -16 ≤ y) (h8 : y ≤ 16) (h9 : 0 ≤ u) (g1 : u ≤ 16) (g2 : 0 ≤ u2) (g3 : u2 ≤ 16) :
    Calls Try.prog 107 #[.int .i64 u, .int .i64 u2, .pointer (some ⟨b1, 0, none⟩), .pointer (some ⟨b2, 0, none⟩), .pointer (some ⟨b3, 0, none⟩)] w (Rt fun v w' => v = .tuple #[.int .i64 ((u - x + 16 * wd) % wd), .int .i64 ((u2 - y + 16 * hi) % hi)] ∧ Ext0 w w') := by
  have E0 : Ext no w w := Ext.refl _ _
  have lo_some_b1_0_none := Sl.low pb1
  have lo_some_b2_0_none := Sl.low pb2
  have lo_some_b3_0_none := Sl.low pb3
  refine calls_W (n := 29) Try.func107 rfl rfl (Nat.le_of_ble_eq_true rfl) ?_
  refine W_seq ?_
  refine W_region (by kernel_rfl) ?_
  refine s_y (v := .int .i64 0) rfl (y_assign rfl) ?_
  refine s_y (v := .int .i64 0) rfl (y_assign rfl) ?_
  refine s_nil ?_
  refine W_seq ?_
  refine W_draw (no) T107.mx (by kernel_rfl) (fun w1 e2 => ?_)
  have hS3 := pb1.ext0 e2
  have hS4 := pb2.ext0 e2
  have hS5 := pb3.ext0 e2
  have E6 := E0.fresh e2 (fun _ h _ => h.elim)
  have R7 := (Ext.refl (no) w).trans (Ext0.any e2)
  refine m_y (v := .int .i64 u) 0 rfl (by kernel_rfl) rfl rfl (fun w' e' => y_move rfl) ?_
  refine m_y (v := .int .i64 x) 1 rfl (by kernel_rfl) rfl rfl (fun w' e' => y_load T107.one_2 rfl ((pb1.ext0 e').cell (j := 0) rfl)) ?_
  refine m_y (v := .int .i64 (u - x)) 2 rfl (by kernel_rfl) rfl rfl (fun w' e' => y_sub rfl rfl rfl (by omega)) ?_
  refine m_y (v := .pointer (some ⟨b2, 0, none⟩)) 3 rfl (by kernel_rfl) rfl rfl (fun w' e' => y_fld (o := 0 + 0) T107.fld_26_0_0 rfl) ?_
  refine m_y (v := .int .i64 wd) 4 rfl (by kernel_rfl) rfl rfl (fun w' e' => y_load T107.one_2 rfl ((pb2.ext0 e').cell (j := 0) rfl)) ?_
  refine m_y (v := .int .i64 (16 * wd)) 5 rfl (by kernel_rfl) rfl rfl (fun w' e' => y_mul rfl rfl rfl (by omega)) ?_
  refine m_y (v := .int .i64 ((u - x) + (16 * wd))) 6 rfl (by kernel_rfl) rfl rfl (fun w' e' => y_add rfl rfl rfl (by omega)) ?_
  refine m_y (v := .pointer (some ⟨b2, 0, none⟩)) 7 rfl (by kernel_rfl) rfl rfl (fun w' e' => y_fld (o := 0 + 0) T107.fld_26_0_0 rfl) ?_
  refine m_y (v := .int .i64 wd) 8 rfl (by kernel_rfl) rfl rfl (fun w' e' => y_load T107.one_2 rfl ((pb2.ext0 e').cell (j := 0) rfl)) ?_
  have hm8 := rem_b (x := (u - x) + (16 * wd)) (m := wd) (by omega) (by omega)
  refine m_y (v := .int .i64 (((u - x) + (16 * wd)) % wd)) 9 rfl (by kernel_rfl) rfl rfl (fun w' e' => y_rem rfl rfl (by omega) (by omega) rfl) ?_
  refine m_y (v := .int .i64 u2) 10 rfl (by kernel_rfl) rfl rfl (fun w' e' => y_move rfl) ?_
  refine m_y (v := .int .i64 y) 11 rfl (by kernel_rfl) rfl rfl (fun w' e' => y_load T107.one_2 rfl ((pb3.ext0 e').cell (j := 0) rfl)) ?_
  refine m_y (v := .int .i64 (u2 - y)) 12 rfl (by kernel_rfl) rfl rfl (fun w' e' => y_sub rfl rfl rfl (by omega)) ?_
  refine m_y (v := .pointer (some ⟨b2, 0 + 1, none⟩)) 13 rfl (by kernel_rfl) rfl rfl (fun w' e' => y_fld (o := 0 + 0) T107.fld_26_1_1 rfl) ?_
  refine m_y (v := .int .i64 hi) 14 rfl (by kernel_rfl) rfl rfl (fun w' e' => y_load T107.one_2 rfl ((pb2.ext0 e').cell (j := 1) rfl)) ?_
  refine m_y (v := .int .i64 (16 * hi)) 15 rfl (by kernel_rfl) rfl rfl (fun w' e' => y_mul rfl rfl rfl (by omega)) ?_
  refine m_y (v := .int .i64 ((u2 - y) + (16 * hi))) 16 rfl (by kernel_rfl) rfl rfl (fun w' e' => y_add rfl rfl rfl (by omega)) ?_
  refine m_y (v := .pointer (some ⟨b2, 0 + 1, none⟩)) 17 rfl (by kernel_rfl) rfl rfl (fun w' e' => y_fld (o := 0 + 0) T107.fld_26_1_1 rfl) ?_
  refine m_y (v := .int .i64 hi) 18 rfl (by kernel_rfl) rfl rfl (fun w' e' => y_load T107.one_2 rfl ((pb2.ext0 e').cell (j := 1) rfl)) ?_
  have hm9 := rem_b (x := (u2 - y) + (16 * hi)) (m := hi) (by omega) (by omega)
  refine m_y (v := .int .i64 (((u2 - y) + (16 * hi)) % hi)) 19 rfl (by kernel_rfl) rfl rfl (fun w' e' => y_rem rfl rfl (by omega) (by omega) rfl) ?_
  refine m_y (v := .int .i64 (((u - x) + (16 * wd)) % wd)) 20 rfl (by kernel_rfl) rfl rfl (fun w' e' => y_assign rfl) ?_
  refine m_y (v := .int .i64 (((u2 - y) + (16 * hi)) % hi)) 21 rfl (by kernel_rfl) rfl rfl (fun w' e' => y_assign rfl) ?_
  refine m_done (by kernel_rfl) (fun w10 e11 => ?_)
  have hS12 := hS3.ext0 e11
  have hS13 := hS4.ext0 e11
  have hS14 := hS5.ext0 e11
  have E15 := E6.fresh e11 (fun _ h _ => h.elim)
  have R16 := R7.trans (Ext0.any e11)
  refine W_ret ?_
  refine ret2 rfl rfl rfl rfl rfl ⟨_, rfl, ?_⟩
  exact ⟨rfl, E15⟩
namespace T91
theorem mx : Try.prog.follows .mixedOrders = true := by kernel_rfl
end T91
set_option maxRecDepth 100000 in
set_option maxHeartbeats 4000000 in
theorem c_i_backBy {wd hi x y : Int} {wr : Bool} {asp als : Option Addr} {nsp nls csp cls : Nat} (w : World) :
    Calls Try.prog 91 #[.agg #[.int .i64 wd, .int .i64 hi, .bool wr, .slice asp nsp csp, .slice als nls cls], .int .i64 x, .int .i64 y] w (Rt fun v w' => (∃ b1 b2 b3, v = .func (.func 107) #[] #[.pointer (some ⟨b1, 0, none⟩), .pointer (some ⟨b2, 0, none⟩), .pointer (some ⟨b3, 0, none⟩)] ∧ Blk w' b1 [.int .i64 x] 2 ∧ Blk w' b2 [.int .i64 wd, .int .i64 hi, .bool wr, .slice asp nsp csp, .slice als nls cls] 26 ∧ Blk w' b3 [.int .i64 y] 2 ∧ w.heap.size ≤ b1 ∧ w.heap.size ≤ b2 ∧ w.heap.size ≤ b3) ∧ Ext0 w w') := by
  have E0 : Ext no w w := Ext.refl _ _
  refine calls_W (n := 8) Try.func91 rfl rfl (Nat.le_of_ble_eq_true rfl) ?_
  refine W_seq ?_
  refine W_region (by kernel_rfl) ?_
  refine s_k rfl (k_box (v := .agg #[.int .i64 wd, .int .i64 hi, .bool wr, .slice asp nsp csp, .slice als nls cls]) (cs := [.int .i64 wd, .int .i64 hi, .bool wr, .slice asp nsp csp, .slice als nls cls]) rfl rfl (fun b1 w2 q4 e3 hB5 => ?_))
  have E6 := E0.fresh e3 (fun _ h _ => h.elim)
  have fr7 : NotLt b1 w.heap.size := fun h => Nat.not_lt.2 (Nat.le_trans E0.size (Nat.le_of_eq q4.symm)) h
  clear q4
  refine s_k rfl (k_box (v := .int .i64 x) (cs := [.int .i64 x]) rfl rfl (fun b8 w9 q11 e10 hB12 => ?_))
  have hB13 := hB5.ext0 e10
  have E14 := E6.fresh e10 (fun _ h _ => h.elim)
  have dj15 : NeB b1 b8 := fun h => Nat.ne_of_lt hB5.lt (h.trans q11)
  have fr16 : NotLt b8 w.heap.size := fun h => Nat.not_lt.2 (Nat.le_trans E6.size (Nat.le_of_eq q11.symm)) h
  clear q11
  refine s_k rfl (k_box (v := .int .i64 y) (cs := [.int .i64 y]) rfl rfl (fun b17 w18 q20 e19 hB21 => ?_))
  have hB22 := hB13.ext0 e19
  have hB23 := hB12.ext0 e19
  have E24 := E14.fresh e19 (fun _ h _ => h.elim)
  have dj25 : NeB b1 b17 := fun h => Nat.ne_of_lt hB13.lt (h.trans q20)
  have dj26 : NeB b8 b17 := fun h => Nat.ne_of_lt hB12.lt (h.trans q20)
  have fr27 : NotLt b17 w.heap.size := fun h => Nat.not_lt.2 (Nat.le_trans E14.size (Nat.le_of_eq q20.symm)) h
  clear q20
  refine s_y (v := .nilFunc) rfl (y_assign rfl) ?_
  refine s_nil ?_
  refine W_seq ?_
  refine W_region (by kernel_rfl) ?_
  refine s_y (v := .func (.func 107) #[] #[.pointer (some ⟨b8, 0, none⟩), .pointer (some ⟨b1, 0, none⟩), .pointer (some ⟨b17, 0, none⟩)]) rfl (y_func rfl rfl) ?_
  refine s_y (v := .func (.func 107) #[] #[.pointer (some ⟨b8, 0, none⟩), .pointer (some ⟨b1, 0, none⟩), .pointer (some ⟨b17, 0, none⟩)]) rfl (y_assign rfl) ?_
  refine s_nil ?_
  refine W_ret ?_
  refine ret1 rfl rfl rfl ⟨_, rfl, ?_⟩
  exact ⟨⟨_, _, _, rfl, hB23, hB22, hB21, Nat.not_lt.1 fr16, Nat.not_lt.1 fr7, Nat.not_lt.1 fr27⟩, E24⟩
namespace T87
theorem mx : Try.prog.follows .mixedOrders = true := by kernel_rfl
theorem fld_26_0_0 : fldB Try.prog 26 0 0 = true := by kernel_rfl
theorem fld_26_1_1 : fldB Try.prog 26 1 1 = true := by kernel_rfl
theorem one_2 : oneB Try.prog 2 = true := by kernel_rfl
end T87
set_option maxRecDepth 100000 in
set_option maxHeartbeats 4000000 in
theorem c_i_at {wd hi x y : Int} {wr : Bool} {asp als : Option Addr} {nsp nls csp cls : Nat} (w : World) (h1 : 3 ≤ wd) (h2 : wd ≤ 16) (h3 : 3 ≤ hi) (h4 : hi ≤ 16) (h5 : -wd ≤ x) (h6 : x ≤ 1000000) (h7 : -hi ≤ y) (h8 : y ≤ 1000000) :
    Calls Try.prog 87 #[.agg #[.int .i64 wd, .int .i64 hi, .bool wr, .slice asp nsp csp, .slice als nls cls], .int .i64 x, .int .i64 y] w (Rt fun v w' => v = .int .i64 (atI wd hi x y) ∧ Ext0 w w') := by
  have E0 : Ext no w w := Ext.refl _ _
  refine calls_W (n := 25) Try.func87 rfl rfl (Nat.le_of_ble_eq_true rfl) ?_
  refine W_seq ?_
  refine W_region (by kernel_rfl) ?_
  refine s_k rfl (k_box (v := .agg #[.int .i64 wd, .int .i64 hi, .bool wr, .slice asp nsp csp, .slice als nls cls]) (cs := [.int .i64 wd, .int .i64 hi, .bool wr, .slice asp nsp csp, .slice als nls cls]) rfl rfl (fun b1 w2 q4 e3 hB5 => ?_))
  have E6 := E0.fresh e3 (fun _ h _ => h.elim)
  have fr7 : NotLt b1 w.heap.size := fun h => Nat.not_lt.2 (Nat.le_trans E0.size (Nat.le_of_eq q4.symm)) h
  clear q4
  refine s_y (v := .int .i64 0) rfl (y_assign rfl) ?_
  refine s_nil ?_
  refine W_seq ?_
  refine W_draw (no) T87.mx (by kernel_rfl) (fun w8 e9 => ?_)
  have hB10 := hB5.ext0 e9
  have E11 := E6.fresh e9 (fun _ h _ => h.elim)
  have R12 := (Ext.refl (no) w2).trans (Ext0.any e9)
  refine m_y (v := .int .i64 x) 0 rfl (by kernel_rfl) rfl rfl (fun w' e' => y_move rfl) ?_
  refine m_y (v := .pointer (some ⟨b1, 0, none⟩)) 1 rfl (by kernel_rfl) rfl rfl (fun w' e' => y_fld (o := 0) T87.fld_26_0_0 rfl) ?_
  refine m_y (v := .int .i64 wd) 2 rfl (by kernel_rfl) rfl rfl (fun w' e' => y_load T87.one_2 rfl ((hB5.ext0 e').cell (j := 0) rfl)) ?_
  refine m_y (v := .int .i64 (x + wd)) 3 rfl (by kernel_rfl) rfl rfl (fun w' e' => y_add rfl rfl rfl (by omega)) ?_
  refine m_y (v := .pointer (some ⟨b1, 0, none⟩)) 4 rfl (by kernel_rfl) rfl rfl (fun w' e' => y_fld (o := 0) T87.fld_26_0_0 rfl) ?_
  refine m_y (v := .int .i64 wd) 5 rfl (by kernel_rfl) rfl rfl (fun w' e' => y_load T87.one_2 rfl ((hB5.ext0 e').cell (j := 0) rfl)) ?_
  have hm13 := rem_b (x := x + wd) (m := wd) (by omega) (by omega)
  refine m_y (v := .int .i64 ((x + wd) % wd)) 6 rfl (by kernel_rfl) rfl rfl (fun w' e' => y_rem rfl rfl (by omega) (by omega) rfl) ?_
  refine m_y (v := .pointer (some ⟨b1, 0, none⟩)) 7 rfl (by kernel_rfl) rfl rfl (fun w' e' => y_fld (o := 0) T87.fld_26_0_0 rfl) ?_
  refine m_y (v := .int .i64 wd) 8 rfl (by kernel_rfl) rfl rfl (fun w' e' => y_load T87.one_2 rfl ((hB5.ext0 e').cell (j := 0) rfl)) ?_
  refine m_y (v := .int .i64 y) 9 rfl (by kernel_rfl) rfl rfl (fun w' e' => y_move rfl) ?_
  refine m_y (v := .pointer (some ⟨b1, 1, none⟩)) 10 rfl (by kernel_rfl) rfl rfl (fun w' e' => y_fld (o := 0) T87.fld_26_1_1 rfl) ?_
  refine m_y (v := .int .i64 hi) 11 rfl (by kernel_rfl) rfl rfl (fun w' e' => y_load T87.one_2 rfl ((hB5.ext0 e').cell (j := 1) rfl)) ?_
  refine m_y (v := .int .i64 (y + hi)) 12 rfl (by kernel_rfl) rfl rfl (fun w' e' => y_add rfl rfl rfl (by omega)) ?_
  refine m_y (v := .pointer (some ⟨b1, 1, none⟩)) 13 rfl (by kernel_rfl) rfl rfl (fun w' e' => y_fld (o := 0) T87.fld_26_1_1 rfl) ?_
  refine m_y (v := .int .i64 hi) 14 rfl (by kernel_rfl) rfl rfl (fun w' e' => y_load T87.one_2 rfl ((hB5.ext0 e').cell (j := 1) rfl)) ?_
  have hm14 := rem_b (x := y + hi) (m := hi) (by omega) (by omega)
  refine m_y (v := .int .i64 ((y + hi) % hi)) 15 rfl (by kernel_rfl) rfl rfl (fun w' e' => y_rem rfl rfl (by omega) (by omega) rfl) ?_
  have hm15 := mul_rem (a := wd) (x := y + hi) (m := hi) (by omega) (by omega) (by omega) (by omega)
  refine m_y (v := .int .i64 (wd * ((y + hi) % hi))) 16 rfl (by kernel_rfl) rfl rfl (fun w' e' => y_mul rfl rfl rfl (by omega)) ?_
  refine m_y (v := .int .i64 (((x + wd) % wd) + (wd * ((y + hi) % hi)))) 17 rfl (by kernel_rfl) rfl rfl (fun w' e' => y_add rfl rfl rfl (by omega)) ?_
  refine m_y (v := .int .i64 (((x + wd) % wd) + (wd * ((y + hi) % hi)))) 18 rfl (by kernel_rfl) rfl rfl (fun w' e' => y_assign rfl) ?_
  refine m_done (by kernel_rfl) (fun w16 e17 => ?_)
  have hB18 := hB10.ext0 e17
  have E19 := E11.fresh e17 (fun _ h _ => h.elim)
  have R20 := R12.trans (Ext0.any e17)
  refine W_ret ?_
  refine ret1 rfl rfl rfl ⟨_, rfl, ?_⟩
  exact ⟨rfl, E19⟩
end Go.Proofs.Ytcggpjocghigcaa
