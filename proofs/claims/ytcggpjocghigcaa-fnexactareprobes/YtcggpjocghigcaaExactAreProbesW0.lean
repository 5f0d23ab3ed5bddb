/- Walks: what the functions under FnExactAreProbes do (part 1). Printed by a program of this claim's author. -/
import Derived.Test.YtcggpjocghigcaaL3
import Derived.Test.YtcggpjocghigcaaModel
import Derived.Test.YtcggpjocghigcaaM2
import Derived.Test.YtcggpjocghigcaaM3
import Derived.Test.YtcggpjocghigcaaM4
import Derived.Test.YtcggpjocghigcaaM5
import Derived.Test.YtcggpjocghigcaaProg
set_option linter.unusedSimpArgs false
set_option linter.unusedVariables false
open Go.Wv
namespace Go.Proofs.Ytcggpjocghigcaa
open Go.Proofs
namespace T68
theorem mx : Try.prog.follows .mixedOrders = true := by kernel_rfl
theorem sl_24_62_1 : slB Try.prog 24 62 1 = true := by kernel_rfl
end T68
set_option maxRecDepth 100000 in
set_option maxHeartbeats 4000000 in
theorem c_l_szFloat32S {a : Option Addr} {n cc : Nat} {left : Int} (w : World) (h0 : 0 ≤ left) (h1 : left ≤ 1048576) (h2 : n ≤ 9223372036854775807) :
    Calls Try.prog 68 #[.slice a n cc, .int .i64 left] w (Rt fun v w' => v = .int .i64 (if (n : Int) ≤ left then left - n else -1) ∧ Ext0 w w') := by
  have E0 : Ext no w w := Ext.refl _ _
  refine calls_W (n := 12) Try.func68 rfl rfl (Nat.le_of_ble_eq_true rfl) ?_
  refine W_seq ?_
  refine W_region (by kernel_rfl) ?_
  refine s_y (v := .int .i64 0) rfl (y_assign rfl) ?_
  refine s_nil ?_
  refine W_seq ?_
  refine W_region (by kernel_rfl) ?_
  refine s_y (v := .int .i64 left) rfl (y_move rfl) ?_
  refine s_y (v := .slice a n cc) rfl (y_move rfl) ?_
  refine s_y (v := .int .i64 ((n : Nat) : Int)) rfl (y_len T68.sl_24_62_1 rfl rfl) ?_
  refine s_y (v := .int .i64 (left - ((n : Nat) : Int))) rfl (y_sub rfl rfl rfl (by omega)) ?_
  refine s_y (v := .int .i64 (left - ((n : Nat) : Int))) rfl (y_assign rfl) ?_
  refine s_nil ?_
  refine W_seq ?_
  refine W_seq ?_
  refine W_region (by kernel_rfl) ?_
  refine s_y (v := .int .i64 (left - ((n : Nat) : Int))) rfl (y_move rfl) ?_
  by_cases c1 : (left - ((n : Nat) : Int)) < 0
  · refine s_y (v := .bool true) rfl (y_lss rfl rfl (decide_eq_true c1)) ?_
    refine s_nil ?_
    refine W_if_t (by decide) rfl ?_
    refine W_seq ?_
    refine W_region (by kernel_rfl) ?_
    refine s_y (v := .int .i64 (-1)) rfl (y_assign rfl) ?_
    refine s_nil ?_
    refine W_ret ?_
    refine ret1 rfl rfl rfl ⟨_, rfl, ?_⟩
    exact ⟨congrArg (Value.int .i64) (if_neg (by omega)).symm, E0⟩
  · refine s_y (v := .bool false) rfl (y_lss rfl rfl (decide_eq_false c1)) ?_
    refine s_nil ?_
    refine W_if_f (by decide) rfl ?_
    refine W_skip ?_
    refine W_seq ?_
    refine W_region (by kernel_rfl) ?_
    refine s_y (v := .int .i64 (left - ((n : Nat) : Int))) rfl (y_move rfl) ?_
    refine s_y (v := .int .i64 (left - ((n : Nat) : Int))) rfl (y_assign rfl) ?_
    refine s_nil ?_
    refine W_ret ?_
    refine ret1 rfl rfl rfl ⟨_, rfl, ?_⟩
    exact ⟨congrArg (Value.int .i64) (if_pos (by omega)).symm, E0⟩
namespace T21
theorem mx : Try.prog.follows .mixedOrders = true := by kernel_rfl
theorem fld_36_3_3 : fldB Try.prog 36 3 3 = true := by kernel_rfl
theorem fld_36_4_4 : fldB Try.prog 36 4 4 = true := by kernel_rfl
theorem fn_68 : fnB Try.prog 68 = true := by kernel_rfl
theorem one_24 : oneB Try.prog 24 = true := by kernel_rfl
end T21
set_option maxRecDepth 100000 in
set_option maxHeartbeats 4000000 in
theorem c_l_szSheet {wd hi : Int} {wr : Bool} {asp als : Option Addr} {nsp nls csp cls : Nat} {left : Int} (w : World) (h0 : 0 ≤ left) (h1 : left ≤ 1048576) (hnsp : nsp ≤ 9223372036854775807) (hnls : nls ≤ 9223372036854775807) :
    Calls Try.prog 21 #[.agg #[.int .i64 wd, .int .i64 hi, .bool wr, .slice asp nsp csp, .slice als nls cls], .int .i64 left] w (Rt fun v w' => v = .int .i64 (if ((nsp : Nat) : Int) + ((nls : Nat) : Int) ≤ left then left - ((nsp : Nat) : Int) - ((nls : Nat) : Int) else -1) ∧ Ext0 w w') := by
  have E0 : Ext no w w := Ext.refl _ _
  refine calls_W (n := 18) Try.func21 rfl rfl (Nat.le_of_ble_eq_true rfl) ?_
  refine W_seq ?_
  refine W_region (by kernel_rfl) ?_
  refine s_k rfl (k_box (v := .agg #[.int .i64 wd, .int .i64 hi, .bool wr, .slice asp nsp csp, .slice als nls cls]) (cs := [.int .i64 wd, .int .i64 hi, .bool wr, .slice asp nsp csp, .slice als nls cls]) rfl rfl (fun b1 w2 q4 e3 hB5 => ?_))
  have E6 := E0.fresh e3 (fun _ h _ => h.elim)
  have fr7 : NotLt b1 w.heap.size := fun h => Nat.not_lt.2 (Nat.le_trans E0.size (Nat.le_of_eq q4.symm)) h
  clear q4
  refine s_y (v := .int .i64 0) rfl (y_assign rfl) ?_
  refine s_nil ?_
  refine W_seq ?_
  refine W_region (by kernel_rfl) ?_
  refine s_y (v := .pointer (some ⟨b1, 3, none⟩)) rfl (y_fld (o := 0) T21.fld_36_3_3 rfl) ?_
  refine s_y (v := .slice asp nsp csp) rfl (y_load T21.one_24 rfl (hB5.cell (j := 3) rfl)) ?_
  refine s_y (v := .int .i64 left) rfl (y_move rfl) ?_
  refine s_k rfl (k_call T21.fn_68 (c_l_szFloat32S _ (by omega) (by omega) (by omega)) rfl ?_)
  rintro v10 w8 ⟨hv11, e9⟩
  have hB12 := hB5.ext0 e9
  have E13 := E6.fresh e9 (fun _ h _ => h.elim)
  by_cases c14 : ((nsp : Nat) : Int) ≤ left
  · obtain rfl : v10 = .int .i64 (left - (nsp : Nat)) := hv11.trans (congrArg _ (if_pos c14))
    have hk15 : ¬ (left - (nsp : Nat)) < 0 := by omega
    refine s_y (v := .int .i64 (left - (nsp : Nat))) rfl (y_assign rfl) ?_
    refine s_nil ?_
    refine W_seq ?_
    refine W_seq ?_
    refine W_region (by kernel_rfl) ?_
    refine s_y (v := .int .i64 (left - (nsp : Nat))) rfl (y_move rfl) ?_
    refine s_y (v := .bool false) rfl (y_lss rfl rfl (decide_eq_false hk15)) ?_
    refine s_nil ?_
    refine W_if_f (by decide) rfl ?_
    refine W_skip ?_
    refine W_seq ?_
    refine W_region (by kernel_rfl) ?_
    refine s_y (v := .pointer (some ⟨b1, 4, none⟩)) rfl (y_fld (o := 0) T21.fld_36_4_4 rfl) ?_
    refine s_y (v := .slice als nls cls) rfl (y_load T21.one_24 rfl (hB12.cell (j := 4) rfl)) ?_
    refine s_y (v := .int .i64 (left - (nsp : Nat))) rfl (y_move rfl) ?_
    refine s_k rfl (k_call T21.fn_68 (c_l_szFloat32S _ (by omega) (by omega) (by omega)) rfl ?_)
    rintro v18 w16 ⟨hv19, e17⟩
    have hB20 := hB12.ext0 e17
    have E21 := E13.fresh e17 (fun _ h _ => h.elim)
    by_cases c22 : ((nls : Nat) : Int) ≤ left - (nsp : Nat)
    · obtain rfl : v18 = .int .i64 ((left - (nsp : Nat)) - (nls : Nat)) := hv19.trans (congrArg _ (if_pos c22))
      have hk23 : ¬ ((left - (nsp : Nat)) - (nls : Nat)) < 0 := by omega
      refine s_y (v := .int .i64 ((left - (nsp : Nat)) - (nls : Nat))) rfl (y_assign rfl) ?_
      refine s_nil ?_
      refine W_seq ?_
      refine W_seq ?_
      refine W_region (by kernel_rfl) ?_
      refine s_y (v := .int .i64 ((left - (nsp : Nat)) - (nls : Nat))) rfl (y_move rfl) ?_
      refine s_y (v := .bool false) rfl (y_lss rfl rfl (decide_eq_false hk23)) ?_
      refine s_nil ?_
      refine W_if_f (by decide) rfl ?_
      refine W_skip ?_
      refine W_seq ?_
      refine W_region (by kernel_rfl) ?_
      refine s_y (v := .int .i64 ((left - (nsp : Nat)) - (nls : Nat))) rfl (y_move rfl) ?_
      refine s_y (v := .int .i64 ((left - (nsp : Nat)) - (nls : Nat))) rfl (y_assign rfl) ?_
      refine s_nil ?_
      refine W_ret ?_
      refine ret1 rfl rfl rfl ⟨_, rfl, ?_⟩
      exact ⟨congrArg (Value.int .i64) (if_pos (by omega)).symm, E21⟩
    · obtain rfl : v18 = .int .i64 (-1) := hv19.trans (congrArg _ (if_neg c22))
      refine s_y (v := .int .i64 (-1)) rfl (y_assign rfl) ?_
      refine s_nil ?_
      refine W_seq ?_
      refine W_seq ?_
      refine W_region (by kernel_rfl) ?_
      refine s_y (v := .int .i64 (-1)) rfl (y_move rfl) ?_
      have hk24 : (-1 : Int) < 0 := (by decide)
      refine s_y (v := .bool true) rfl (y_lss rfl rfl (decide_eq_true hk24)) ?_
      refine s_nil ?_
      refine W_if_t (by decide) rfl ?_
      refine W_seq ?_
      refine W_region (by kernel_rfl) ?_
      refine s_y (v := .int .i64 (-1)) rfl (y_assign rfl) ?_
      refine s_nil ?_
      refine W_ret ?_
      refine ret1 rfl rfl rfl ⟨_, rfl, ?_⟩
      exact ⟨congrArg (Value.int .i64) (if_neg (by omega)).symm, E21⟩
  · obtain rfl : v10 = .int .i64 (-1) := hv11.trans (congrArg _ (if_neg c14))
    refine s_y (v := .int .i64 (-1)) rfl (y_assign rfl) ?_
    refine s_nil ?_
    refine W_seq ?_
    refine W_seq ?_
    refine W_region (by kernel_rfl) ?_
    refine s_y (v := .int .i64 (-1)) rfl (y_move rfl) ?_
    have hk25 : (-1 : Int) < 0 := (by decide)
    refine s_y (v := .bool true) rfl (y_lss rfl rfl (decide_eq_true hk25)) ?_
    refine s_nil ?_
    refine W_if_t (by decide) rfl ?_
    refine W_seq ?_
    refine W_region (by kernel_rfl) ?_
    refine s_y (v := .int .i64 (-1)) rfl (y_assign rfl) ?_
    refine s_nil ?_
    refine W_ret ?_
    refine ret1 rfl rfl rfl ⟨_, rfl, ?_⟩
    exact ⟨congrArg (Value.int .i64) (if_neg (by omega)).symm, E13⟩
namespace T31
theorem mx : Try.prog.follows .mixedOrders = true := by kernel_rfl
theorem sl_51_105_2 : slB Try.prog 51 105 2 = true := by kernel_rfl
end T31
set_option maxRecDepth 100000 in
set_option maxHeartbeats 4000000 in
theorem c_l_szProbeS {a : Option Addr} {n cc : Nat} {left : Int} (w : World) (h0 : 0 ≤ left) (h1 : left ≤ 1048576) (h2 : n ≤ 9223372036854775807) :
    Calls Try.prog 31 #[.slice a n cc, .int .i64 left] w (Rt fun v w' => v = .int .i64 (if (n : Int) ≤ left then left - n else -1) ∧ Ext0 w w') := by
  have E0 : Ext no w w := Ext.refl _ _
  refine calls_W (n := 12) Try.func31 rfl rfl (Nat.le_of_ble_eq_true rfl) ?_
  refine W_seq ?_
  refine W_region (by kernel_rfl) ?_
  refine s_y (v := .int .i64 0) rfl (y_assign rfl) ?_
  refine s_nil ?_
  refine W_seq ?_
  refine W_region (by kernel_rfl) ?_
  refine s_y (v := .int .i64 left) rfl (y_move rfl) ?_
  refine s_y (v := .slice a n cc) rfl (y_move rfl) ?_
  refine s_y (v := .int .i64 ((n : Nat) : Int)) rfl (y_len T31.sl_51_105_2 rfl rfl) ?_
  refine s_y (v := .int .i64 (left - ((n : Nat) : Int))) rfl (y_sub rfl rfl rfl (by omega)) ?_
  refine s_y (v := .int .i64 (left - ((n : Nat) : Int))) rfl (y_assign rfl) ?_
  refine s_nil ?_
  refine W_seq ?_
  refine W_seq ?_
  refine W_region (by kernel_rfl) ?_
  refine s_y (v := .int .i64 (left - ((n : Nat) : Int))) rfl (y_move rfl) ?_
  by_cases c1 : (left - ((n : Nat) : Int)) < 0
  · refine s_y (v := .bool true) rfl (y_lss rfl rfl (decide_eq_true c1)) ?_
    refine s_nil ?_
    refine W_if_t (by decide) rfl ?_
    refine W_seq ?_
    refine W_region (by kernel_rfl) ?_
    refine s_y (v := .int .i64 (-1)) rfl (y_assign rfl) ?_
    refine s_nil ?_
    refine W_ret ?_
    refine ret1 rfl rfl rfl ⟨_, rfl, ?_⟩
    exact ⟨congrArg (Value.int .i64) (if_neg (by omega)).symm, E0⟩
  · refine s_y (v := .bool false) rfl (y_lss rfl rfl (decide_eq_false c1)) ?_
    refine s_nil ?_
    refine W_if_f (by decide) rfl ?_
    refine W_skip ?_
    refine W_seq ?_
    refine W_region (by kernel_rfl) ?_
    refine s_y (v := .int .i64 (left - ((n : Nat) : Int))) rfl (y_move rfl) ?_
    refine s_y (v := .int .i64 (left - ((n : Nat) : Int))) rfl (y_assign rfl) ?_
    refine s_nil ?_
    refine W_ret ?_
    refine ret1 rfl rfl rfl ⟨_, rfl, ?_⟩
    exact ⟨congrArg (Value.int .i64) (if_pos (by omega)).symm, E0⟩
namespace T70
theorem mx : Try.prog.follows .mixedOrders = true := by kernel_rfl
theorem one_62 : oneB Try.prog 62 = true := by kernel_rfl
theorem sl_24_62_1 : slB Try.prog 24 62 1 = true := by kernel_rfl
theorem slt_24 : SlT Try.prog 24 62 1 4 (.float .f32 0) := ⟨by kernel_rfl, by kernel_rfl, rfl, by decide⟩
theorem sz_62_1 : szB Try.prog 62 1 = true := by kernel_rfl
end T70
set_option maxRecDepth 100000 in
set_option maxHeartbeats 4000000 in
theorem c_l_toFloat32S {a : Option Addr} {n c : Nat} {x X : List Nat} (w : World) (qs : Sl w a (flts x)) (ql : x.length = n) (qk : cn x = X) (hl : n ≤ 1048576) :
    Calls Try.prog 70 #[.slice a n c] w (Rt fun v w' => ∃ a', v = .slice a' n n ∧ Own w' w.heap.size a' n n 62 1 (flts x) ∧ Ext0 w w') := by
  have E0 : Ext no w w := Ext.refl _ _
  have lo_a := Sl.low qs
  refine calls_W (n := 22) Try.func70 rfl rfl (Nat.le_of_ble_eq_true rfl) ?_
  refine W_seq ?_
  refine W_region (by kernel_rfl) ?_
  refine s_y (v := .slice none 0 0) rfl (y_assign rfl) ?_
  refine s_nil ?_
  refine W_seq ?_
  refine W_region (by kernel_rfl) ?_
  refine s_y (v := .slice a n c) rfl (y_move rfl) ?_
  refine s_y (v := .int .i64 ((n : Nat) : Int)) rfl (y_len T70.sl_24_62_1 rfl rfl) ?_
  refine s_k rfl (k_mk T70.slt_24 rfl rfl (by omega) (by omega) (by omega) (fun b1 w2 q4 e3 hO5 => ?_))
  have hS6 := qs.ext0 e3
  have E7 := E0.fresh e3 (fun _ h _ => h.elim)
  have d8 : ∀ k, inA (some ⟨b1, 0, none⟩) k → w.heap.size ≤ k := fun kx hk => (hO5.blk kx hk).1
  have fr9 : ∀ k, inA (some ⟨b1, 0, none⟩) k → k < w.heap.size → False := fun kx h1 h2 => Nat.not_lt.2 (Nat.le_trans E0.size (d8 kx h1)) h2
  have hO10 := hO5.base E0.size
  have hO11 := hO10.cast rfl (made_flts ((((n : Nat) : Int)).toNat) rfl)
  have hl12 : (List.replicate ((((n : Nat) : Int)).toNat) 0).length = (((n : Nat) : Int)).toNat := List.length_replicate ..
  have hc13 := cn_zeros ((((n : Nat) : Int)).toNat)
  refine s_y (v := .slice (some ⟨b1, 0, none⟩) ((((n : Nat) : Int)).toNat) ((((n : Nat) : Int)).toNat)) rfl (y_assign rfl) ?_
  refine s_nil ?_
  refine W_seq ?_
  refine W_seq ?_
  refine W_region (by kernel_rfl) ?_
  refine s_y (v := .int .i64 0) rfl (y_assign rfl) ?_
  refine s_nil ?_
  refine W_block ?_
  refine W_loop (fun ρ' w' => ∃ (ρ1 : Env) (k : Int) (zs : List Nat), ρ' = updL ρ1 [(0, .slice a n c), (2, .slice none 0 0), (3, .slice (some ⟨b1, 0, none⟩) ((((n : Nat) : Int)).toNat) ((((n : Nat) : Int)).toNat)), (4, .int .i64 k)] ∧ Ext no w w' ∧ Sl w' a (flts x) ∧ Own w' w.heap.size (some ⟨b1, 0, none⟩) n n 62 1 (flts zs) ∧ (0 ≤ k) ∧ (k ≤ (n : Int)) ∧ (zs.length = n) ∧ (∀ i, 0 ≤ i → i < k → el zs i = el x i)) (fun ρ' _ => ((n : Int) - iv (ρ' 4)).toNat) ?_ ?_
  · exact ⟨_, 0, _, Fits.eq ⟨rfl, rfl, rfl, rfl, trivial⟩, E7, hS6, hO11, (Int.le_refl _), (by omega), (by simp), (by intro i h0 h1; omega)⟩
  · rintro _ w14 ⟨ρ18, k, zs, rfl, E15, hS16, hO17, h0k, h1k, hz, hq⟩
    refine W_seq ?_
    refine W_seq ?_
    refine W_region (by kernel_rfl) ?_
    refine s_y (v := .int .i64 k) rfl (y_move rfl) ?_
    refine s_y (v := .slice a n c) rfl (y_move rfl) ?_
    refine s_y (v := .int .i64 ((n : Nat) : Int)) rfl (y_len T70.sl_24_62_1 rfl rfl) ?_
    by_cases c19 : k < ((n : Nat) : Int)
    · refine s_y (v := .bool true) rfl (y_lss rfl rfl (decide_eq_true c19)) ?_
      refine s_nil ?_
      refine W_if_t (by decide) rfl ?_
      refine W_skip ?_
      refine W_seq ?_
      refine W_block ?_
      refine W_region (by kernel_rfl) ?_
      refine s_y (v := .slice (some ⟨b1, 0, none⟩) ((((n : Nat) : Int)).toNat) ((((n : Nat) : Int)).toNat)) rfl (y_move rfl) ?_
      refine s_y (v := .int .i64 k) rfl (y_move rfl) ?_
      refine s_y (v := .slice a n c) rfl (y_move rfl) ?_
      refine s_y (v := .int .i64 k) rfl (y_move rfl) ?_
      refine s_y (v := .pointer (some (sat a ((k).toNat * 1)))) rfl (y_idx T70.sl_24_62_1 rfl rfl (hS16.addr (by rw [flts_length]; omega)) (by omega) (by omega)) ?_
      refine s_y (v := .float .f32 (el x k)) rfl (y_load T70.one_62 rfl (hS16.cell (fl_at (by omega) (by omega)))) ?_
      refine s_y (v := .pointer (some (sat (some ⟨b1, 0, none⟩) ((k).toNat * 1)))) rfl (y_idx T70.sl_24_62_1 rfl rfl (hO17.sl.addr (by rw [flts_length]; omega)) (by omega) (by omega)) ?_
      refine s_k0 rfl (k_storeEl (v := .float .f32 (el x k)) T70.sz_62_1 rfl rfl rfl rfl hO17 (by rw [flts_length]; omega) (fun w20 e21 z22 hO23 => ?_))
      clear z22
      have hS24 := hS16.extL lo_a e21 (fun kx hs hl => (fun hs => fr9 kx hs hl) hs)
      have E25 := E15.fresh e21 (fun kx hs hl => (fun hs => (fr9 kx hs hl).elim) hs)
      have hO26 := hO23.cast rfl (flts_put zs k (el x k))
      have hl27 := (put_length zs k (el x k)).trans hz
      have hc28 := cn_put (rfl : cn zs = cn zs) (cn_el qk k) k
      refine s_nil ?_
      refine W_region (by kernel_rfl) ?_
      refine s_y (v := .int .i64 k) rfl (y_move rfl) ?_
      refine s_y (v := .int .i64 (k + 1)) rfl (y_add rfl rfl rfl (by omega)) ?_
      refine s_y (v := .int .i64 (k + 1)) rfl (y_assign rfl) ?_
      refine s_nil ?_
      refine ⟨⟨_, k + 1, _, Fits.eq ⟨rfl, rfl, rfl, rfl, trivial⟩, E25, hS24, hO26, (by omega), (by omega), hl27, (el_same (by omega) (by omega) (by omega) hq)⟩, ?_⟩
      show ((n : Int) - (k + 1)).toNat < ((n : Int) - k).toNat
      omega
    · refine s_y (v := .bool false) rfl (y_lss rfl rfl (decide_eq_false c19)) ?_
      refine s_nil ?_
      refine W_if_f (by decide) rfl ?_
      refine W_exit ?_
      refine W_seq ?_
      refine W_region (by kernel_rfl) ?_
      refine s_y (v := .slice (some ⟨b1, 0, none⟩) ((((n : Nat) : Int)).toNat) ((((n : Nat) : Int)).toNat)) rfl (y_move rfl) ?_
      refine s_y (v := .slice (some ⟨b1, 0, none⟩) ((((n : Nat) : Int)).toNat) ((((n : Nat) : Int)).toNat)) rfl (y_assign rfl) ?_
      refine s_nil ?_
      refine W_ret ?_
      refine ret1 rfl rfl rfl ⟨_, rfl, ?_⟩
      obtain rfl : zs = x := ext_el (by omega) (fun i h0 h1 => hq i h0 (by omega))
      exact ⟨_, rfl, hO17, E15⟩
namespace T23
theorem mx : Try.prog.follows .mixedOrders = true := by kernel_rfl
theorem agg_26_5 : aggB Try.prog 26 5 = true := by kernel_rfl
theorem fld_26_0_0 : fldB Try.prog 26 0 0 = true := by kernel_rfl
theorem fld_26_1_1 : fldB Try.prog 26 1 1 = true := by kernel_rfl
theorem fld_26_2_2 : fldB Try.prog 26 2 2 = true := by kernel_rfl
theorem fld_26_3_3 : fldB Try.prog 26 3 3 = true := by kernel_rfl
theorem fld_26_4_4 : fldB Try.prog 26 4 4 = true := by kernel_rfl
theorem fld_36_0_0 : fldB Try.prog 36 0 0 = true := by kernel_rfl
theorem fld_36_1_1 : fldB Try.prog 36 1 1 = true := by kernel_rfl
theorem fld_36_2_2 : fldB Try.prog 36 2 2 = true := by kernel_rfl
theorem fld_36_3_3 : fldB Try.prog 36 3 3 = true := by kernel_rfl
theorem fld_36_4_4 : fldB Try.prog 36 4 4 = true := by kernel_rfl
theorem fn_70 : fnB Try.prog 70 = true := by kernel_rfl
theorem one_2 : oneB Try.prog 2 = true := by kernel_rfl
theorem one_24 : oneB Try.prog 24 = true := by kernel_rfl
theorem one_4 : oneB Try.prog 4 = true := by kernel_rfl
theorem sz_2_1 : szB Try.prog 2 1 = true := by kernel_rfl
theorem sz_24_1 : szB Try.prog 24 1 = true := by kernel_rfl
theorem sz_26_5 : szB Try.prog 26 5 = true := by kernel_rfl
theorem sz_4_1 : szB Try.prog 4 1 = true := by kernel_rfl
theorem zero_26 : zeroB Try.prog 26 (.agg #[.int .i64 0, .int .i64 0, .bool false, .slice none 0 0, .slice none 0 0]) := by unfold zeroB; kernel_rfl
end T23
set_option maxRecDepth 100000 in
set_option maxHeartbeats 4000000 in
theorem c_l_toSheet {wd hi : Int} {wr : Bool} {asp : Option Addr} {nsp csp : Nat} {xsp Xsp : List Nat} {als : Option Addr} {nls cls : Nat} {xls Xls : List Nat} (w : World) (qssp : Sl w asp (flts xsp)) (qlsp : xsp.length = nsp) (qksp : cn xsp = Xsp) (qsls : Sl w als (flts xls)) (qlls : xls.length = nls) (qkls : cn xls = Xls) (b1 : nsp ≤ 1048576) (b2 : nls ≤ 1048576) :
    Calls Try.prog 23 #[.agg #[.int .i64 wd, .int .i64 hi, .bool wr, .slice asp nsp csp, .slice als nls cls]] w (Rt fun v w' => (∃ (a1 : Option Addr) (c1 : Nat) (z1 : List Nat) (a2 : Option Addr) (c2 : Nat) (z2 : List Nat), v = .agg #[.int .i64 wd, .int .i64 hi, .bool wr, .slice a1 nsp c1, .slice a2 nls c2] ∧ Own w' w.heap.size a1 nsp c1 62 1 (flts z1) ∧ z1.length = nsp ∧ cn z1 = Xsp ∧ Own w' w.heap.size a2 nls c2 62 1 (flts z2) ∧ z2.length = nls ∧ cn z2 = Xls ∧ (∀ k, inA a1 k → inA a2 k → False)) ∧ Ext0 w w') := by
  have E0 : Ext no w w := Ext.refl _ _
  have hlP : Xsp.length = nsp := (cn_lenX qksp).trans qlsp
  have hlL : Xls.length = nls := (cn_lenX qkls).trans qlls
  have lo_asp := Sl.low qssp
  have lo_als := Sl.low qsls
  refine calls_W (n := 22) Try.func23 rfl rfl (Nat.le_of_ble_eq_true rfl) ?_
  refine W_seq ?_
  refine W_region (by kernel_rfl) ?_
  refine s_k rfl (k_box (v := .agg #[.int .i64 wd, .int .i64 hi, .bool wr, .slice asp nsp csp, .slice als nls cls]) (cs := [.int .i64 wd, .int .i64 hi, .bool wr, .slice asp nsp csp, .slice als nls cls]) rfl rfl (fun b1 w2 q4 e3 hB5 => ?_))
  have hS6 := qssp.ext0 e3
  have hS7 := qsls.ext0 e3
  have E8 := E0.fresh e3 (fun _ h _ => h.elim)
  have fr9 : NotLt b1 w.heap.size := fun h => Nat.not_lt.2 (Nat.le_trans E0.size (Nat.le_of_eq q4.symm)) h
  clear q4
  refine s_k rfl (k_alloc (z := (.agg #[.int .i64 0, .int .i64 0, .bool false, .slice none 0 0, .slice none 0 0])) (cs := [.int .i64 0, .int .i64 0, .bool false, .slice none 0 0, .slice none 0 0]) T23.zero_26 rfl (fun b10 w11 q13 e12 hB14 => ?_))
  have hB15 := hB5.ext0 e12
  have hS16 := hS6.ext0 e12
  have hS17 := hS7.ext0 e12
  have E18 := E8.fresh e12 (fun _ h _ => h.elim)
  have dj19 : NeB b1 b10 := fun h => Nat.ne_of_lt hB5.lt (h.trans q13)
  have fr20 : NotLt b10 w.heap.size := fun h => Nat.not_lt.2 (Nat.le_trans E8.size (Nat.le_of_eq q13.symm)) h
  clear q13
  refine s_nil ?_
  refine W_seq ?_
  refine W_region (by kernel_rfl) ?_
  refine s_k rfl (k_alloc (z := (.agg #[.int .i64 0, .int .i64 0, .bool false, .slice none 0 0, .slice none 0 0])) (cs := [.int .i64 0, .int .i64 0, .bool false, .slice none 0 0, .slice none 0 0]) T23.zero_26 rfl (fun b21 w22 q24 e23 hB25 => ?_))
  have hB26 := hB15.ext0 e23
  have hB27 := hB14.ext0 e23
  have hS28 := hS16.ext0 e23
  have hS29 := hS17.ext0 e23
  have E30 := E18.fresh e23 (fun _ h _ => h.elim)
  have dj31 : NeB b1 b21 := fun h => Nat.ne_of_lt hB15.lt (h.trans q24)
  have dj32 : NeB b10 b21 := fun h => Nat.ne_of_lt hB14.lt (h.trans q24)
  have fr33 : NotLt b21 w.heap.size := fun h => Nat.not_lt.2 (Nat.le_trans E18.size (Nat.le_of_eq q24.symm)) h
  clear q24
  refine s_nil ?_
  refine W_seq ?_
  refine W_region (by kernel_rfl) ?_
  refine s_y (v := .pointer (some ⟨b1, 0, none⟩)) rfl (y_fld (o := 0) T23.fld_36_0_0 rfl) ?_
  refine s_y (v := .int .i64 wd) rfl (y_load T23.one_2 rfl (hB26.cell (j := 0) rfl)) ?_
  refine s_y (v := .pointer (some ⟨b21, 0, none⟩)) rfl (y_fld (o := 0) T23.fld_26_0_0 rfl) ?_
  refine s_k0 rfl (k_store (v := .int .i64 wd) (n := 1) (cs' := [.int .i64 wd, .int .i64 0, .bool false, .slice none 0 0, .slice none 0 0]) T23.sz_2_1 rfl rfl rfl hB25 (by simp [Value.cells, Value.oneCell']) (Nat.le_of_ble_eq_true rfl) rfl (fun w34 e35 z36 hB37 => ?_))
  clear z36
  have hB38 := hB26.ext e35 dj31
  have hB39 := hB27.ext e35 dj32
  have hS40 := hS28.extL lo_asp e35 (fun kx (hs : kx = b21) hl => fr33 (hs ▸ hl))
  have hS41 := hS29.extL lo_als e35 (fun kx (hs : kx = b21) hl => fr33 (hs ▸ hl))
  have E42 := E30.fresh e35 (fun kx (hs : kx = b21) hl => (fr33 (hs ▸ hl)).elim)
  refine s_nil ?_
  refine W_seq ?_
  refine W_region (by kernel_rfl) ?_
  refine s_y (v := .pointer (some ⟨b1, 1, none⟩)) rfl (y_fld (o := 0) T23.fld_36_1_1 rfl) ?_
  refine s_y (v := .int .i64 hi) rfl (y_load T23.one_2 rfl (hB38.cell (j := 1) rfl)) ?_
  refine s_y (v := .pointer (some ⟨b21, 1, none⟩)) rfl (y_fld (o := 0) T23.fld_26_1_1 rfl) ?_
  refine s_k0 rfl (k_store (v := .int .i64 hi) (n := 1) (cs' := [.int .i64 wd, .int .i64 hi, .bool false, .slice none 0 0, .slice none 0 0]) T23.sz_2_1 rfl rfl rfl hB37 (by simp [Value.cells, Value.oneCell']) (Nat.le_of_ble_eq_true rfl) rfl (fun w43 e44 z45 hB46 => ?_))
  clear z45
  have hB47 := hB38.ext e44 dj31
  have hB48 := hB39.ext e44 dj32
  have hS49 := hS40.extL lo_asp e44 (fun kx (hs : kx = b21) hl => fr33 (hs ▸ hl))
  have hS50 := hS41.extL lo_als e44 (fun kx (hs : kx = b21) hl => fr33 (hs ▸ hl))
  have E51 := E42.fresh e44 (fun kx (hs : kx = b21) hl => (fr33 (hs ▸ hl)).elim)
  refine s_nil ?_
  refine W_seq ?_
  refine W_region (by kernel_rfl) ?_
  refine s_y (v := .pointer (some ⟨b1, 2, none⟩)) rfl (y_fld (o := 0) T23.fld_36_2_2 rfl) ?_
  refine s_y (v := .bool wr) rfl (y_load T23.one_4 rfl (hB47.cell (j := 2) rfl)) ?_
  refine s_y (v := .pointer (some ⟨b21, 2, none⟩)) rfl (y_fld (o := 0) T23.fld_26_2_2 rfl) ?_
  refine s_k0 rfl (k_store (v := .bool wr) (n := 1) (cs' := [.int .i64 wd, .int .i64 hi, .bool wr, .slice none 0 0, .slice none 0 0]) T23.sz_4_1 rfl rfl rfl hB46 (by simp [Value.cells, Value.oneCell']) (Nat.le_of_ble_eq_true rfl) rfl (fun w52 e53 z54 hB55 => ?_))
  clear z54
  have hB56 := hB47.ext e53 dj31
  have hB57 := hB48.ext e53 dj32
  have hS58 := hS49.extL lo_asp e53 (fun kx (hs : kx = b21) hl => fr33 (hs ▸ hl))
  have hS59 := hS50.extL lo_als e53 (fun kx (hs : kx = b21) hl => fr33 (hs ▸ hl))
  have E60 := E51.fresh e53 (fun kx (hs : kx = b21) hl => (fr33 (hs ▸ hl)).elim)
  refine s_nil ?_
  refine W_seq ?_
  refine W_region (by kernel_rfl) ?_
  refine s_y (v := .pointer (some ⟨b1, 3, none⟩)) rfl (y_fld (o := 0) T23.fld_36_3_3 rfl) ?_
  refine s_y (v := .slice asp nsp csp) rfl (y_load T23.one_24 rfl (hB56.cell (j := 3) rfl)) ?_
  refine s_k rfl (k_call T23.fn_70 (c_l_toFloat32S _ hS58 qlsp rfl (by omega)) rfl ?_)
  rintro _ w61 ⟨a63, rfl, hO64, e62⟩
  have hB65 := hB56.ext0 e62
  have hB66 := hB57.ext0 e62
  have hB67 := hB55.ext0 e62
  have hS68 := hS58.ext0 e62
  have hS69 := hS59.ext0 e62
  have E70 := E60.fresh e62 (fun _ h _ => h.elim)
  have d71 : ∀ k, inA a63 k → w52.heap.size ≤ k := fun kx hk => (hO64.blk kx hk).1
  have dj72 : inA a63 b1 → False := fun h => Nat.not_lt.2 (d71 _ h) hB56.lt
  have dj73 : inA a63 b10 → False := fun h => Nat.not_lt.2 (d71 _ h) hB57.lt
  have dj74 : inA a63 b21 → False := fun h => Nat.not_lt.2 (d71 _ h) hB55.lt
  have fr75 : ∀ k, inA a63 k → k < w.heap.size → False := fun kx h1 h2 => Nat.not_lt.2 (Nat.le_trans E60.size (d71 kx h1)) h2
  have hO76 := hO64.base E60.size
  refine s_y (v := .pointer (some ⟨b21, 3, none⟩)) rfl (y_fld (o := 0) T23.fld_26_3_3 rfl) ?_
  refine s_k0 rfl (k_store (v := .slice a63 nsp nsp) (n := 1) (cs' := [.int .i64 wd, .int .i64 hi, .bool wr, .slice a63 nsp nsp, .slice none 0 0]) T23.sz_24_1 rfl rfl rfl hB67 (by simp [Value.cells, Value.oneCell']) (Nat.le_of_ble_eq_true rfl) rfl (fun w77 e78 z79 hB80 => ?_))
  clear z79
  have hB81 := hB65.ext e78 dj31
  have hB82 := hB66.ext e78 dj32
  have hS83 := hS68.extL lo_asp e78 (fun kx (hs : kx = b21) hl => fr33 (hs ▸ hl))
  have hS84 := hS69.extL lo_als e78 (fun kx (hs : kx = b21) hl => fr33 (hs ▸ hl))
  have hO85 := hO76.ext e78 (fun kx hk (hs : kx = b21) => dj74 (hs ▸ hk))
  have E86 := E70.fresh e78 (fun kx (hs : kx = b21) hl => (fr33 (hs ▸ hl)).elim)
  refine s_nil ?_
  refine W_seq ?_
  refine W_region (by kernel_rfl) ?_
  refine s_y (v := .pointer (some ⟨b1, 4, none⟩)) rfl (y_fld (o := 0) T23.fld_36_4_4 rfl) ?_
  refine s_y (v := .slice als nls cls) rfl (y_load T23.one_24 rfl (hB81.cell (j := 4) rfl)) ?_
  refine s_k rfl (k_call T23.fn_70 (c_l_toFloat32S _ hS84 qlls rfl (by omega)) rfl ?_)
  rintro _ w87 ⟨a89, rfl, hO90, e88⟩
  have hB91 := hB81.ext0 e88
  have hB92 := hB82.ext0 e88
  have hB93 := hB80.ext0 e88
  have hS94 := hS83.ext0 e88
  have hS95 := hS84.ext0 e88
  have hO96 := hO85.ext0 e88
  have E97 := E86.fresh e88 (fun _ h _ => h.elim)
  have d98 : ∀ k, inA a89 k → w77.heap.size ≤ k := fun kx hk => (hO90.blk kx hk).1
  have dj99 : inA a89 b1 → False := fun h => Nat.not_lt.2 (d98 _ h) hB81.lt
  have dj100 : inA a89 b10 → False := fun h => Nat.not_lt.2 (d98 _ h) hB82.lt
  have dj101 : inA a89 b21 → False := fun h => Nat.not_lt.2 (d98 _ h) hB80.lt
  have dj102 : ∀ k, inA a63 k → inA a89 k → False := fun kx h1 h2 => Nat.not_lt.2 (d98 kx h2) (hO85.blk kx h1).2
  have fr103 : ∀ k, inA a89 k → k < w.heap.size → False := fun kx h1 h2 => Nat.not_lt.2 (Nat.le_trans E86.size (d98 kx h1)) h2
  have hO104 := hO90.base E86.size
  refine s_y (v := .pointer (some ⟨b21, 4, none⟩)) rfl (y_fld (o := 0) T23.fld_26_4_4 rfl) ?_
  refine s_k0 rfl (k_store (v := .slice a89 nls nls) (n := 1) (cs' := [.int .i64 wd, .int .i64 hi, .bool wr, .slice a63 nsp nsp, .slice a89 nls nls]) T23.sz_24_1 rfl rfl rfl hB93 (by simp [Value.cells, Value.oneCell']) (Nat.le_of_ble_eq_true rfl) rfl (fun w105 e106 z107 hB108 => ?_))
  clear z107
  have hB109 := hB91.ext e106 dj31
  have hB110 := hB92.ext e106 dj32
  have hS111 := hS94.extL lo_asp e106 (fun kx (hs : kx = b21) hl => fr33 (hs ▸ hl))
  have hS112 := hS95.extL lo_als e106 (fun kx (hs : kx = b21) hl => fr33 (hs ▸ hl))
  have hO113 := hO96.ext e106 (fun kx hk (hs : kx = b21) => dj74 (hs ▸ hk))
  have hO114 := hO104.ext e106 (fun kx hk (hs : kx = b21) => dj101 (hs ▸ hk))
  have E115 := E97.fresh e106 (fun kx (hs : kx = b21) hl => (fr33 (hs ▸ hl)).elim)
  refine s_nil ?_
  refine W_seq ?_
  refine W_region (by kernel_rfl) ?_
  refine s_y (v := .agg #[.int .i64 wd, .int .i64 hi, .bool wr, .slice a63 nsp nsp, .slice a89 nls nls]) rfl (y_loadn (b := b21) (o := 0) (vs := [.int .i64 wd, .int .i64 hi, .bool wr, .slice a63 nsp nsp, .slice a89 nls nls]) T23.agg_26_5 rfl rfl (hB108.cells (o := 0) rfl)) ?_
  refine s_k0 rfl (k_store (v := .agg #[.int .i64 wd, .int .i64 hi, .bool wr, .slice a63 nsp nsp, .slice a89 nls nls]) (n := 5) (cs' := [.int .i64 wd, .int .i64 hi, .bool wr, .slice a63 nsp nsp, .slice a89 nls nls]) T23.sz_26_5 rfl rfl rfl hB110 (by simp [Value.cells, Value.oneCell']) (Nat.le_of_ble_eq_true rfl) rfl (fun w116 e117 z118 hB119 => ?_))
  clear z118
  have hB120 := hB109.ext e117 dj19
  have hB121 := hB108.ext e117 (fun h => dj32 h.symm)
  have hS122 := hS111.extL lo_asp e117 (fun kx (hs : kx = b10) hl => fr20 (hs ▸ hl))
  have hS123 := hS112.extL lo_als e117 (fun kx (hs : kx = b10) hl => fr20 (hs ▸ hl))
  have hO124 := hO113.ext e117 (fun kx hk (hs : kx = b10) => dj73 (hs ▸ hk))
  have hO125 := hO114.ext e117 (fun kx hk (hs : kx = b10) => dj100 (hs ▸ hk))
  have E126 := E115.fresh e117 (fun kx (hs : kx = b10) hl => (fr20 (hs ▸ hl)).elim)
  refine s_nil ?_
  refine W_ret ?_
  refine ret1 rfl rfl ⟨_, [.int .i64 wd, .int .i64 hi, .bool wr, .slice a63 nsp nsp, .slice a89 nls nls], _, rfl, hB119, T23.agg_26_5, rfl⟩ ⟨_, rfl, ?_⟩
  exact ⟨⟨_, _, _, _, _, _, rfl, hO124, qlsp, qksp, hO125, qlls, qkls, dj102⟩, E126⟩
namespace T77
theorem mx : Try.prog.follows .mixedOrders = true := by kernel_rfl
theorem agg_33_2 : aggB Try.prog 33 2 = true := by kernel_rfl
theorem fld_105_0_0 : fldB Try.prog 105 0 0 = true := by kernel_rfl
theorem fld_105_1_1 : fldB Try.prog 105 1 1 = true := by kernel_rfl
theorem fld_33_0_0 : fldB Try.prog 33 0 0 = true := by kernel_rfl
theorem fld_33_1_1 : fldB Try.prog 33 1 1 = true := by kernel_rfl
theorem one_2 : oneB Try.prog 2 = true := by kernel_rfl
theorem sz_2_1 : szB Try.prog 2 1 = true := by kernel_rfl
theorem sz_33_2 : szB Try.prog 33 2 = true := by kernel_rfl
theorem zero_33 : zeroB Try.prog 33 (.agg #[.int .i64 0, .int .i64 0]) := by unfold zeroB; kernel_rfl
end T77
set_option maxRecDepth 100000 in
set_option maxHeartbeats 4000000 in
theorem c_l_toProbe {px py : Int} (w : World) :
    Calls Try.prog 77 #[.agg #[.int .i64 px, .int .i64 py]] w (Rt fun v w' => v = .agg #[.int .i64 px, .int .i64 py] ∧ Ext0 w w') := by
  have E0 : Ext no w w := Ext.refl _ _
  refine calls_W (n := 11) Try.func77 rfl rfl (Nat.le_of_ble_eq_true rfl) ?_
  refine W_seq ?_
  refine W_region (by kernel_rfl) ?_
  refine s_k rfl (k_box (v := .agg #[.int .i64 px, .int .i64 py]) (cs := [.int .i64 px, .int .i64 py]) rfl rfl (fun b1 w2 q4 e3 hB5 => ?_))
  have E6 := E0.fresh e3 (fun _ h _ => h.elim)
  have fr7 : NotLt b1 w.heap.size := fun h => Nat.not_lt.2 (Nat.le_trans E0.size (Nat.le_of_eq q4.symm)) h
  clear q4
  refine s_k rfl (k_alloc (z := (.agg #[.int .i64 0, .int .i64 0])) (cs := [.int .i64 0, .int .i64 0]) T77.zero_33 rfl (fun b8 w9 q11 e10 hB12 => ?_))
  have hB13 := hB5.ext0 e10
  have E14 := E6.fresh e10 (fun _ h _ => h.elim)
  have dj15 : NeB b1 b8 := fun h => Nat.ne_of_lt hB5.lt (h.trans q11)
  have fr16 : NotLt b8 w.heap.size := fun h => Nat.not_lt.2 (Nat.le_trans E6.size (Nat.le_of_eq q11.symm)) h
  clear q11
  refine s_nil ?_
  refine W_seq ?_
  refine W_region (by kernel_rfl) ?_
  refine s_k rfl (k_alloc (z := (.agg #[.int .i64 0, .int .i64 0])) (cs := [.int .i64 0, .int .i64 0]) T77.zero_33 rfl (fun b17 w18 q20 e19 hB21 => ?_))
  have hB22 := hB13.ext0 e19
  have hB23 := hB12.ext0 e19
  have E24 := E14.fresh e19 (fun _ h _ => h.elim)
  have dj25 : NeB b1 b17 := fun h => Nat.ne_of_lt hB13.lt (h.trans q20)
  have dj26 : NeB b8 b17 := fun h => Nat.ne_of_lt hB12.lt (h.trans q20)
  have fr27 : NotLt b17 w.heap.size := fun h => Nat.not_lt.2 (Nat.le_trans E14.size (Nat.le_of_eq q20.symm)) h
  clear q20
  refine s_nil ?_
  refine W_seq ?_
  refine W_region (by kernel_rfl) ?_
  refine s_y (v := .pointer (some ⟨b1, 0, none⟩)) rfl (y_fld (o := 0) T77.fld_105_0_0 rfl) ?_
  refine s_y (v := .int .i64 px) rfl (y_load T77.one_2 rfl (hB22.cell (j := 0) rfl)) ?_
  refine s_y (v := .pointer (some ⟨b17, 0, none⟩)) rfl (y_fld (o := 0) T77.fld_33_0_0 rfl) ?_
  refine s_k0 rfl (k_store (v := .int .i64 px) (n := 1) (cs' := [.int .i64 px, .int .i64 0]) T77.sz_2_1 rfl rfl rfl hB21 (by simp [Value.cells, Value.oneCell']) (Nat.le_of_ble_eq_true rfl) rfl (fun w28 e29 z30 hB31 => ?_))
  clear z30
  have hB32 := hB22.ext e29 dj25
  have hB33 := hB23.ext e29 dj26
  have E34 := E24.fresh e29 (fun kx (hs : kx = b17) hl => (fr27 (hs ▸ hl)).elim)
  refine s_nil ?_
  refine W_seq ?_
  refine W_region (by kernel_rfl) ?_
  refine s_y (v := .pointer (some ⟨b1, 1, none⟩)) rfl (y_fld (o := 0) T77.fld_105_1_1 rfl) ?_
  refine s_y (v := .int .i64 py) rfl (y_load T77.one_2 rfl (hB32.cell (j := 1) rfl)) ?_
  refine s_y (v := .pointer (some ⟨b17, 1, none⟩)) rfl (y_fld (o := 0) T77.fld_33_1_1 rfl) ?_
  refine s_k0 rfl (k_store (v := .int .i64 py) (n := 1) (cs' := [.int .i64 px, .int .i64 py]) T77.sz_2_1 rfl rfl rfl hB31 (by simp [Value.cells, Value.oneCell']) (Nat.le_of_ble_eq_true rfl) rfl (fun w35 e36 z37 hB38 => ?_))
  clear z37
  have hB39 := hB32.ext e36 dj25
  have hB40 := hB33.ext e36 dj26
  have E41 := E34.fresh e36 (fun kx (hs : kx = b17) hl => (fr27 (hs ▸ hl)).elim)
  refine s_nil ?_
  refine W_seq ?_
  refine W_region (by kernel_rfl) ?_
  refine s_y (v := .agg #[.int .i64 px, .int .i64 py]) rfl (y_loadn (b := b17) (o := 0) (vs := [.int .i64 px, .int .i64 py]) T77.agg_33_2 rfl rfl (hB38.cells (o := 0) rfl)) ?_
  refine s_k0 rfl (k_store (v := .agg #[.int .i64 px, .int .i64 py]) (n := 2) (cs' := [.int .i64 px, .int .i64 py]) T77.sz_33_2 rfl rfl rfl hB40 (by simp [Value.cells, Value.oneCell']) (Nat.le_of_ble_eq_true rfl) rfl (fun w42 e43 z44 hB45 => ?_))
  clear z44
  have hB46 := hB39.ext e43 dj15
  have hB47 := hB38.ext e43 (fun h => dj26 h.symm)
  have E48 := E41.fresh e43 (fun kx (hs : kx = b8) hl => (fr16 (hs ▸ hl)).elim)
  refine s_nil ?_
  refine W_ret ?_
  refine ret1 rfl rfl ⟨_, [.int .i64 px, .int .i64 py], _, rfl, hB45, T77.agg_33_2, rfl⟩ ⟨_, rfl, ?_⟩
  exact ⟨rfl, E48⟩
namespace T33
theorem mx : Try.prog.follows .mixedOrders = true := by kernel_rfl
theorem agg_105_2 : aggB Try.prog 105 2 = true := by kernel_rfl
theorem fn_77 : fnB Try.prog 77 = true := by kernel_rfl
theorem sl_29_33_2 : slB Try.prog 29 33 2 = true := by kernel_rfl
theorem sl_51_105_2 : slB Try.prog 51 105 2 = true := by kernel_rfl
theorem slt_29 : SlT Try.prog 29 33 2 16 (.agg #[.int .i64 0, .int .i64 0]) := ⟨by kernel_rfl, by kernel_rfl, rfl, by decide⟩
theorem sz_33_2 : szB Try.prog 33 2 = true := by kernel_rfl
end T33
set_option maxRecDepth 100000 in
set_option maxHeartbeats 4000000 in
theorem c_l_toProbeS {a : Option Addr} {n c : Nat} {x : List (Int × Int)} (w : World) (qs : Sl w a (flat prC x)) (ql : x.length = n) (hl : n ≤ 1048576) :
    Calls Try.prog 33 #[.slice a n c] w (Rt fun v w' => (∃ a', v = .slice a' n n ∧ Own w' w.heap.size a' n n 33 2 (flat prC x)) ∧ Ext0 w w') := by
  have E0 : Ext no w w := Ext.refl _ _
  have lo_a := Sl.low qs
  refine calls_W (n := 23) Try.func33 rfl rfl (Nat.le_of_ble_eq_true rfl) ?_
  refine W_seq ?_
  refine W_region (by kernel_rfl) ?_
  refine s_y (v := .slice none 0 0) rfl (y_assign rfl) ?_
  refine s_nil ?_
  refine W_seq ?_
  refine W_region (by kernel_rfl) ?_
  refine s_y (v := .slice a n c) rfl (y_move rfl) ?_
  refine s_y (v := .int .i64 ((n : Nat) : Int)) rfl (y_len T33.sl_51_105_2 rfl rfl) ?_
  refine s_k rfl (k_mk T33.slt_29 rfl rfl (by omega) (by omega) (by omega) (fun b1 w2 q4 e3 hO5 => ?_))
  have hS6 := qs.ext0 e3
  have E7 := E0.fresh e3 (fun _ h _ => h.elim)
  have d8 : ∀ k, inA (some ⟨b1, 0, none⟩) k → w.heap.size ≤ k := fun kx hk => (hO5.blk kx hk).1
  have fr9 : ∀ k, inA (some ⟨b1, 0, none⟩) k → k < w.heap.size → False := fun kx h1 h2 => Nat.not_lt.2 (Nat.le_trans E0.size (d8 kx h1)) h2
  have hO10 := hO5.base E0.size
  have hO11 := hO10.cast rfl (made_flat prC_len (by decide) (z := .agg #[.int .i64 0, .int .i64 0]) ((0 : Int), (0 : Int)) rfl ((((n : Nat) : Int)).toNat))
  have hl12 : (List.replicate ((((n : Nat) : Int)).toNat) ((0 : Int), (0 : Int))).length = (((n : Nat) : Int)).toNat := List.length_replicate ..
  refine s_y (v := .slice (some ⟨b1, 0, none⟩) ((((n : Nat) : Int)).toNat) ((((n : Nat) : Int)).toNat)) rfl (y_assign rfl) ?_
  refine s_nil ?_
  refine W_seq ?_
  refine W_seq ?_
  refine W_region (by kernel_rfl) ?_
  refine s_y (v := .int .i64 0) rfl (y_assign rfl) ?_
  refine s_nil ?_
  refine W_block ?_
  refine W_loop (fun ρ' w' => ∃ (ρ1 : Env) (k : Int) (zs : List (Int × Int)), ρ' = updL ρ1 [(0, .slice a n c), (2, .slice none 0 0), (3, .slice (some ⟨b1, 0, none⟩) ((((n : Nat) : Int)).toNat) ((((n : Nat) : Int)).toNat)), (4, .int .i64 k)] ∧ Ext no w w' ∧ Sl w' a (flat prC x) ∧ Own w' w.heap.size (some ⟨b1, 0, none⟩) n n 33 2 (flat prC zs) ∧ (0 ≤ k) ∧ (k ≤ (n : Int)) ∧ (zs.length = n) ∧ (∀ i, 0 ≤ i → i < k → gl zs i = gl x i)) (fun ρ' _ => ((n : Int) - iv (ρ' 4)).toNat) ?_ ?_
  · exact ⟨_, 0, _, Fits.eq ⟨rfl, rfl, rfl, rfl, trivial⟩, E7, hS6, hO11, (Int.le_refl _), (by omega), (by simp), (by intro i h0 h1; omega)⟩
  · rintro _ w13 ⟨ρ17, k, zs, rfl, E14, hS15, hO16, h0k, h1k, hz, hq⟩
    refine W_seq ?_
    refine W_seq ?_
    refine W_region (by kernel_rfl) ?_
    refine s_y (v := .int .i64 k) rfl (y_move rfl) ?_
    refine s_y (v := .slice a n c) rfl (y_move rfl) ?_
    refine s_y (v := .int .i64 ((n : Nat) : Int)) rfl (y_len T33.sl_51_105_2 rfl rfl) ?_
    by_cases c18 : k < ((n : Nat) : Int)
    · refine s_y (v := .bool true) rfl (y_lss rfl rfl (decide_eq_true c18)) ?_
      refine s_nil ?_
      refine W_if_t (by decide) rfl ?_
      refine W_skip ?_
      refine W_seq ?_
      refine W_block ?_
      refine W_region (by kernel_rfl) ?_
      refine s_y (v := .slice (some ⟨b1, 0, none⟩) ((((n : Nat) : Int)).toNat) ((((n : Nat) : Int)).toNat)) rfl (y_move rfl) ?_
      refine s_y (v := .int .i64 k) rfl (y_move rfl) ?_
      refine s_y (v := .slice a n c) rfl (y_move rfl) ?_
      refine s_y (v := .int .i64 k) rfl (y_move rfl) ?_
      refine s_y (v := .pointer (some (sat a ((k).toNat * 2)))) rfl (y_idx T33.sl_51_105_2 rfl rfl (hS15.addr (by rw [flat_length prC_len]; omega)) (by omega) (by omega)) ?_
      refine s_y (v := .agg #[.int .i64 ((gl x k).1), .int .i64 ((gl x k).2)]) rfl (y_loadEl (vs := [.int .i64 ((gl x k).1), .int .i64 ((gl x k).2)]) T33.agg_105_2 rfl rfl (by decide) hS15 (flat_row prC_len (by omega) (by omega))) ?_
      refine s_k rfl (k_call T33.fn_77 (c_l_toProbe _) rfl ?_)
      rintro _ w19 ⟨rfl, e20⟩
      have hS21 := hS15.ext0 e20
      have hO22 := hO16.ext0 e20
      have E23 := E14.fresh e20 (fun _ h _ => h.elim)
      refine s_y (v := .pointer (some (sat (some ⟨b1, 0, none⟩) ((k).toNat * 2)))) rfl (y_idx T33.sl_29_33_2 rfl rfl (hO22.sl.addr (by rw [flat_length prC_len]; omega)) (by omega) (by omega)) ?_
      refine s_k0 rfl (k_storeElN (v := .agg #[.int .i64 ((gl x k).1), .int .i64 ((gl x k).2)]) (m := 2) (cs' := flat prC (pl zs k ((gl x k).1, (gl x k).2))) T33.sz_33_2 rfl rfl rfl (by simp [Value.cells, Value.oneCell']) (by decide) hO22 (by rw [flat_length prC_len]; omega) (flat_put prC_len (by omega) (by omega) ((gl x k).1, (gl x k).2)) (fun w24 e25 z26 hO27 => ?_))
      clear z26
      have hS28 := hS21.extL lo_a e25 (fun kx hs hl => (fun hs => fr9 kx hs hl) hs)
      have E29 := E23.fresh e25 (fun kx hs hl => (fun hs => (fr9 kx hs hl).elim) hs)
      have hl30 := (pl_length zs k ((gl x k).1, (gl x k).2)).trans hz
      refine s_nil ?_
      refine W_region (by kernel_rfl) ?_
      refine s_y (v := .int .i64 k) rfl (y_move rfl) ?_
      refine s_y (v := .int .i64 (k + 1)) rfl (y_add rfl rfl rfl (by omega)) ?_
      refine s_y (v := .int .i64 (k + 1)) rfl (y_assign rfl) ?_
      refine s_nil ?_
      refine ⟨⟨_, k + 1, _, Fits.eq ⟨rfl, rfl, rfl, rfl, trivial⟩, E29, hS28, hO27, (by omega), (by omega), hl30, (gl_same (by omega) (by omega) (by omega) hq)⟩, ?_⟩
      show ((n : Int) - (k + 1)).toNat < ((n : Int) - k).toNat
      omega
    · refine s_y (v := .bool false) rfl (y_lss rfl rfl (decide_eq_false c18)) ?_
      refine s_nil ?_
      refine W_if_f (by decide) rfl ?_
      refine W_exit ?_
      refine W_seq ?_
      refine W_region (by kernel_rfl) ?_
      refine s_y (v := .slice (some ⟨b1, 0, none⟩) ((((n : Nat) : Int)).toNat) ((((n : Nat) : Int)).toNat)) rfl (y_move rfl) ?_
      refine s_y (v := .slice (some ⟨b1, 0, none⟩) ((((n : Nat) : Int)).toNat) ((((n : Nat) : Int)).toNat)) rfl (y_assign rfl) ?_
      refine s_nil ?_
      refine W_ret ?_
      refine ret1 rfl rfl rfl ⟨_, rfl, ?_⟩
      obtain rfl : zs = x := ext_gl (by omega) (fun i h0 h1 => hq i h0 (by omega))
      exact ⟨⟨_, rfl, hO16⟩, E14⟩
namespace T88
theorem mx : Try.prog.follows .mixedOrders = true := by kernel_rfl
end T88
set_option maxRecDepth 100000 in
set_option maxHeartbeats 4000000 in
theorem c_s_l00In (n lo hi : Int) (w : World) :
    Calls Try.prog 88 #[.int .i64 n, .int .i64 lo, .int .i64 hi] w (Rt fun v w' => v = .bool (within n lo hi) ∧ Ext0 w w') := by
  have E0 : Ext no w w := Ext.refl _ _
  refine calls_W (n := 15) Try.func88 rfl rfl (Nat.le_of_ble_eq_true rfl) ?_
  refine W_seq ?_
  refine W_region (by kernel_rfl) ?_
  refine s_y (v := .bool false) rfl (y_assign rfl) ?_
  refine s_nil ?_
  refine W_seq ?_
  refine W_region (by kernel_rfl) ?_
  refine s_y (v := .int .i64 n) rfl (y_move rfl) ?_
  refine s_y (v := .int .i64 lo) rfl (y_move rfl) ?_
  by_cases c1 : lo ≤ n
  · refine s_y (v := .bool true) rfl (y_geq rfl rfl (decide_eq_true c1)) ?_
    refine s_y (v := .bool true) rfl (y_move rfl) ?_
    refine s_y (v := .int .i64 n) rfl (y_move rfl) ?_
    refine s_y (v := .int .i64 hi) rfl (y_move rfl) ?_
    by_cases c2 : n ≤ hi
    · refine s_y (v := .bool true) rfl (y_leq rfl rfl (decide_eq_true c2)) ?_
      refine s_y (v := .bool true) rfl (y_pick_t rfl rfl) ?_
      refine s_y (v := .bool true) rfl (y_assign rfl) ?_
      refine s_nil ?_
      refine W_ret ?_
      refine ret1 rfl rfl rfl ⟨_, rfl, ?_⟩
      exact ⟨congrArg Value.bool (by simp [within] <;> omega), E0⟩
    · refine s_y (v := .bool false) rfl (y_leq rfl rfl (decide_eq_false c2)) ?_
      refine s_y (v := .bool false) rfl (y_pick_t rfl rfl) ?_
      refine s_y (v := .bool false) rfl (y_assign rfl) ?_
      refine s_nil ?_
      refine W_ret ?_
      refine ret1 rfl rfl rfl ⟨_, rfl, ?_⟩
      exact ⟨congrArg Value.bool (by simp [within] <;> omega), E0⟩
  · refine s_y (v := .bool false) rfl (y_geq rfl rfl (decide_eq_false c1)) ?_
    refine s_y (v := .bool false) rfl (y_move rfl) ?_
    refine s_skip rfl ?_
    refine s_skip rfl ?_
    refine s_skip rfl ?_
    refine s_y (v := .bool false) rfl (y_pick_f rfl rfl) ?_
    refine s_y (v := .bool false) rfl (y_assign rfl) ?_
    refine s_nil ?_
    refine W_ret ?_
    refine ret1 rfl rfl rfl ⟨_, rfl, ?_⟩
    exact ⟨congrArg Value.bool (by simp [within] <;> omega), E0⟩
namespace T103
theorem mx : Try.prog.follows .mixedOrders = true := by kernel_rfl
theorem fn_88 : fnB Try.prog 88 = true := by kernel_rfl
end T103
set_option maxRecDepth 100000 in
set_option maxHeartbeats 4000000 in
theorem c_s_l02Sides {wd hi : Int} (w : World) :
    Calls Try.prog 103 #[.int .i64 wd, .int .i64 hi] w (Rt fun v w' => v = .bool (sidesB wd hi) ∧ Ext0 w w') := by
  have E0 : Ext no w w := Ext.refl _ _
  refine calls_W (n := 17) Try.func103 rfl rfl (Nat.le_of_ble_eq_true rfl) ?_
  refine W_seq ?_
  refine W_region (by kernel_rfl) ?_
  refine s_y (v := .bool false) rfl (y_assign rfl) ?_
  refine s_nil ?_
  refine W_seq ?_
  refine W_region (by kernel_rfl) ?_
  refine s_y (v := .int .i64 wd) rfl (y_move rfl) ?_
  refine s_k rfl (k_call T103.fn_88 (c_s_l00In _ _ _ _) rfl ?_)
  rintro v3 w1 ⟨hv4, e2⟩
  have E5 := E0.fresh e2 (fun _ h _ => h.elim)
  by_cases c6 : within wd 3 16 = true
  · have hb7 := within_b c6
    obtain rfl : v3 = .bool true := hv4.trans (congrArg Value.bool c6)
    refine s_y (v := .bool true) rfl (y_move rfl) ?_
    refine s_y (v := .int .i64 hi) rfl (y_move rfl) ?_
    refine s_k rfl (k_call T103.fn_88 (c_s_l00In _ _ _ _) rfl ?_)
    rintro v10 w8 ⟨hv11, e9⟩
    have E12 := E5.fresh e9 (fun _ h _ => h.elim)
    by_cases c13 : within hi 3 16 = true
    · have hb14 := within_b c13
      obtain rfl : v10 = .bool true := hv11.trans (congrArg Value.bool c13)
      refine s_y (v := .bool true) rfl (y_pick_t rfl rfl) ?_
      refine s_y (v := .bool true) rfl (y_move rfl) ?_
      refine s_y (v := .int .i64 wd) rfl (y_move rfl) ?_
      refine s_y (v := .int .i64 hi) rfl (y_move rfl) ?_
      have hm15 := mulb (a := wd) (b := hi) (by omega) (by omega) (by omega) (by omega)
      refine s_y (v := .int .i64 (wd * hi)) rfl (y_mul rfl rfl rfl (by omega)) ?_
      have hk16 : (wd * hi) ≤ 256 := (mul16 (And.intro (within_b c6) (within_b c13))).2
      refine s_y (v := .bool true) rfl (y_leq rfl rfl (decide_eq_true hk16)) ?_
      refine s_y (v := .bool true) rfl (y_pick_t rfl rfl) ?_
      refine s_y (v := .bool true) rfl (y_assign rfl) ?_
      refine s_nil ?_
      refine W_ret ?_
      refine ret1 rfl rfl rfl ⟨_, rfl, ?_⟩
      exact ⟨congrArg Value.bool (by simp only [sidesB, c6, c13, (decide_eq_true hk16), Bool.and_true, Bool.true_and, Bool.and_false, Bool.false_and, Bool.not_true, Bool.not_false, Bool.or_true, Bool.true_or, Bool.or_false, Bool.false_or]), E12⟩
    · obtain rfl : v10 = .bool false := hv11.trans (congrArg Value.bool (Bool.eq_false_iff.2 c13))
      refine s_y (v := .bool false) rfl (y_pick_t rfl rfl) ?_
      refine s_y (v := .bool false) rfl (y_move rfl) ?_
      refine s_skip rfl ?_
      refine s_skip rfl ?_
      refine s_skip rfl ?_
      refine s_skip rfl ?_
      refine s_y (v := .bool false) rfl (y_pick_f rfl rfl) ?_
      refine s_y (v := .bool false) rfl (y_assign rfl) ?_
      refine s_nil ?_
      refine W_ret ?_
      refine ret1 rfl rfl rfl ⟨_, rfl, ?_⟩
      exact ⟨congrArg Value.bool (by simp only [sidesB, c6, (Bool.eq_false_iff.2 c13), Bool.and_true, Bool.true_and, Bool.and_false, Bool.false_and, Bool.not_true, Bool.not_false, Bool.or_true, Bool.true_or, Bool.or_false, Bool.false_or]), E12⟩
  · obtain rfl : v3 = .bool false := hv4.trans (congrArg Value.bool (Bool.eq_false_iff.2 c6))
    refine s_y (v := .bool false) rfl (y_move rfl) ?_
    refine s_skip rfl ?_
    refine s_skip rfl ?_
    refine s_y (v := .bool false) rfl (y_pick_f rfl rfl) ?_
    refine s_y (v := .bool false) rfl (y_move rfl) ?_
    refine s_skip rfl ?_
    refine s_skip rfl ?_
    refine s_skip rfl ?_
    refine s_skip rfl ?_
    refine s_y (v := .bool false) rfl (y_pick_f rfl rfl) ?_
    refine s_y (v := .bool false) rfl (y_assign rfl) ?_
    refine s_nil ?_
    refine W_ret ?_
    refine ret1 rfl rfl rfl ⟨_, rfl, ?_⟩
    exact ⟨congrArg Value.bool (by simp only [sidesB, (Bool.eq_false_iff.2 c6), Bool.and_true, Bool.true_and, Bool.and_false, Bool.false_and, Bool.not_true, Bool.not_false, Bool.or_true, Bool.true_or, Bool.or_false, Bool.false_or]), E5⟩
namespace T69
theorem mx : Try.prog.follows .mixedOrders = true := by kernel_rfl
theorem fld_26_0_0 : fldB Try.prog 26 0 0 = true := by kernel_rfl
theorem fld_26_1_1 : fldB Try.prog 26 1 1 = true := by kernel_rfl
theorem fld_26_3_3 : fldB Try.prog 26 3 3 = true := by kernel_rfl
theorem fld_26_4_4 : fldB Try.prog 26 4 4 = true := by kernel_rfl
theorem fn_103 : fnB Try.prog 103 = true := by kernel_rfl
theorem one_2 : oneB Try.prog 2 = true := by kernel_rfl
theorem one_24 : oneB Try.prog 24 = true := by kernel_rfl
theorem one_62 : oneB Try.prog 62 = true := by kernel_rfl
theorem sl_24_62_1 : slB Try.prog 24 62 1 = true := by kernel_rfl
end T69
set_option maxRecDepth 100000 in
set_option maxHeartbeats 4000000 in
theorem c_s_l02Is {wd hi : Int} {wr : Bool} {asp : Option Addr} {nsp csp : Nat} {xsp Xsp : List Nat} {als : Option Addr} {nls cls : Nat} {xls Xls : List Nat} {b o : Nat} (w : World) (qssp : Sl w asp (flts xsp)) (qlsp : xsp.length = nsp) (qksp : cn xsp = Xsp) (qsls : Sl w als (flts xls)) (qlls : xls.length = nls) (qkls : cn xls = Xls) (hP : Sl w (some ⟨b, o, none⟩) [.int .i64 wd, .int .i64 hi, .bool wr, .slice asp nsp csp, .slice als nls cls]) (hb1 : nsp ≤ 9223372036854775806) (hb2 : nls ≤ 9223372036854775806) :
    Calls Try.prog 69 #[.pointer (some ⟨b, o, none⟩)] w (Rt fun v w' => v = .bool (validS wd hi Xsp Xls) ∧ Ext0 w w') := by
  have E0 : Ext no w w := Ext.refl _ _
  have hlP : Xsp.length = nsp := (cn_lenX qksp).trans qlsp
  have hlL : Xls.length = nls := (cn_lenX qkls).trans qlls
  have lo_asp := Sl.low qssp
  have lo_als := Sl.low qsls
  have lo_some_b_o_none := Sl.low hP
  refine calls_W (n := 97) Try.func69 rfl rfl (Nat.le_of_ble_eq_true rfl) ?_
  refine W_seq ?_
  refine W_region (by kernel_rfl) ?_
  refine s_y (v := .bool false) rfl (y_assign rfl) ?_
  refine s_nil ?_
  refine W_seq ?_
  refine W_seq ?_
  refine W_draw (no) T69.mx (by kernel_rfl) (fun w1 e2 => ?_)
  have hS3 := qssp.ext0 e2
  have hS4 := qsls.ext0 e2
  have hS5 := hP.ext0 e2
  have E6 := E0.fresh e2 (fun _ h _ => h.elim)
  have R7 := (Ext.refl (no) w).trans (Ext0.any e2)
  refine m_y (v := .pointer (some ⟨b, o, none⟩)) 0 rfl (by kernel_rfl) rfl rfl (fun w' e' => y_move rfl) ?_
  refine m_y (v := .pointer (some ⟨b, o, none⟩)) 1 rfl (by kernel_rfl) rfl rfl (fun w' e' => y_nil rfl) ?_
  refine m_y (v := .pointer (some ⟨b, o, none⟩)) 2 rfl (by kernel_rfl) rfl rfl (fun w' e' => y_fld (o := o + 0) T69.fld_26_0_0 rfl) ?_
  refine m_y (v := .int .i64 wd) 3 rfl (by kernel_rfl) rfl rfl (fun w' e' => y_load T69.one_2 rfl ((hP.ext0 e').cell (j := 0) rfl)) ?_
  refine m_y (v := .pointer (some ⟨b, o, none⟩)) 4 rfl (by kernel_rfl) rfl rfl (fun w' e' => y_move rfl) ?_
  refine m_y (v := .pointer (some ⟨b, o, none⟩)) 5 rfl (by kernel_rfl) rfl rfl (fun w' e' => y_nil rfl) ?_
  refine m_y (v := .pointer (some ⟨b, o + 1, none⟩)) 6 rfl (by kernel_rfl) rfl rfl (fun w' e' => y_fld (o := o + 0) T69.fld_26_1_1 rfl) ?_
  refine m_y (v := .int .i64 hi) 7 rfl (by kernel_rfl) rfl rfl (fun w' e' => y_load T69.one_2 rfl ((hP.ext0 e').cell (j := 1) rfl)) ?_
  refine m_k 8 [9, 10, 11, 12, 13, 14, 15, 16, 17, 18, 19, 20, 21, 22, 23, 24, 25, 26, 27, 28, 29, 30, 31, 32, 33, 34, 35, 36, 37, 38, 39, 40, 41, 42, 43] rfl (by kernel_rfl) rfl rfl (fun w8 e9 => ?_)
  have hS10 := hS3.ext0 e9
  have hS11 := hS4.ext0 e9
  have hS12 := hS5.ext0 e9
  have E13 := E6.fresh e9 (fun _ h _ => h.elim)
  have R14 := R7.trans (Ext0.any e9)
  refine k_call T69.fn_103 (c_s_l02Sides _) rfl ?_
  rintro v17 w15 ⟨hv18, e16⟩
  have hS19 := hS10.ext0 e16
  have hS20 := hS11.ext0 e16
  have hS21 := hS12.ext0 e16
  have E22 := E13.fresh e16 (fun _ h _ => h.elim)
  have R23 := R14.trans (Ext0.any e16)
  refine ⟨fun _ => R23, ?_⟩
  by_cases c24 : sidesB wd hi = true
  · have hb25 := sides_b c24
    obtain rfl : v17 = .bool true := hv18.trans (congrArg Value.bool c24)
    refine m_y (v := .bool false) 9 rfl (by kernel_rfl) rfl rfl (fun w' e' => y_not rfl rfl) ?_
    refine m_y (v := .bool false) 10 rfl (by kernel_rfl) rfl rfl (fun w' e' => y_move rfl) ?_
    refine m_y (v := .pointer (some ⟨b, o, none⟩)) 11 rfl (by kernel_rfl) rfl rfl (fun w' e' => y_move rfl) ?_
    refine m_y (v := .pointer (some ⟨b, o, none⟩)) 12 rfl (by kernel_rfl) rfl rfl (fun w' e' => y_nil rfl) ?_
    refine m_y (v := .pointer (some ⟨b, o + 3, none⟩)) 13 rfl (by kernel_rfl) rfl rfl (fun w' e' => y_fld (o := o + 0) T69.fld_26_3_3 rfl) ?_
    refine m_y (v := .slice asp nsp csp) 14 rfl (by kernel_rfl) rfl rfl (fun w' e' => y_load T69.one_24 rfl ((hP.ext0 e').cell (j := 3) rfl)) ?_
    refine m_y (v := .int .i64 ((nsp : Nat) : Int)) 15 rfl (by kernel_rfl) rfl rfl (fun w' e' => y_len T69.sl_24_62_1 rfl rfl) ?_
    refine m_y (v := .pointer (some ⟨b, o, none⟩)) 16 rfl (by kernel_rfl) rfl rfl (fun w' e' => y_move rfl) ?_
    refine m_y (v := .pointer (some ⟨b, o, none⟩)) 17 rfl (by kernel_rfl) rfl rfl (fun w' e' => y_nil rfl) ?_
    refine m_y (v := .pointer (some ⟨b, o, none⟩)) 18 rfl (by kernel_rfl) rfl rfl (fun w' e' => y_fld (o := o + 0) T69.fld_26_0_0 rfl) ?_
    refine m_y (v := .int .i64 wd) 19 rfl (by kernel_rfl) rfl rfl (fun w' e' => y_load T69.one_2 rfl ((hP.ext0 e').cell (j := 0) rfl)) ?_
    refine m_y (v := .pointer (some ⟨b, o, none⟩)) 20 rfl (by kernel_rfl) rfl rfl (fun w' e' => y_move rfl) ?_
    refine m_y (v := .pointer (some ⟨b, o, none⟩)) 21 rfl (by kernel_rfl) rfl rfl (fun w' e' => y_nil rfl) ?_
    refine m_y (v := .pointer (some ⟨b, o + 1, none⟩)) 22 rfl (by kernel_rfl) rfl rfl (fun w' e' => y_fld (o := o + 0) T69.fld_26_1_1 rfl) ?_
    refine m_y (v := .int .i64 hi) 23 rfl (by kernel_rfl) rfl rfl (fun w' e' => y_load T69.one_2 rfl ((hP.ext0 e').cell (j := 1) rfl)) ?_
    refine m_y (v := .int .i64 (wd * hi)) 24 rfl (by kernel_rfl) rfl rfl (fun w' e' => y_mul rfl rfl rfl (by omega)) ?_
    by_cases c27 : ((nsp : Nat) : Int) ≠ (wd * hi)
    · refine m_y (v := .bool true) 25 rfl (by kernel_rfl) rfl rfl (fun w' e' => y_neq rfl rfl (decide_eq_true c27)) ?_
      refine m_y (v := .bool true) 26 rfl (by kernel_rfl) rfl rfl (fun w' e' => y_pick_f rfl rfl) ?_
      refine m_y (v := .bool true) 27 rfl (by kernel_rfl) rfl rfl (fun w' e' => y_move rfl) ?_
      refine m_skip 28 rfl (by kernel_rfl) rfl ?_
      refine m_skip 29 rfl (by kernel_rfl) rfl ?_
      refine m_skip 30 rfl (by kernel_rfl) rfl ?_
      refine m_skip 31 rfl (by kernel_rfl) rfl ?_
      refine m_skip 32 rfl (by kernel_rfl) rfl ?_
      refine m_skip 33 rfl (by kernel_rfl) rfl ?_
      refine m_skip 34 rfl (by kernel_rfl) rfl ?_
      refine m_skip 35 rfl (by kernel_rfl) rfl ?_
      refine m_skip 36 rfl (by kernel_rfl) rfl ?_
      refine m_skip 37 rfl (by kernel_rfl) rfl ?_
      refine m_skip 38 rfl (by kernel_rfl) rfl ?_
      refine m_skip 39 rfl (by kernel_rfl) rfl ?_
      refine m_skip 40 rfl (by kernel_rfl) rfl ?_
      refine m_skip 41 rfl (by kernel_rfl) rfl ?_
      refine m_skip 42 rfl (by kernel_rfl) rfl ?_
      refine m_y (v := .bool true) 43 rfl (by kernel_rfl) rfl rfl (fun w' e' => y_pick_t rfl rfl) ?_
      refine m_done (by kernel_rfl) (fun w28 e29 => ?_)
      have hS30 := hS19.ext0 e29
      have hS31 := hS20.ext0 e29
      have hS32 := hS21.ext0 e29
      have E33 := E22.fresh e29 (fun _ h _ => h.elim)
      have R34 := R23.trans (Ext0.any e29)
      refine W_if_t (by decide) rfl ?_
      refine W_seq ?_
      refine W_region (by kernel_rfl) ?_
      refine s_y (v := .bool false) rfl (y_assign rfl) ?_
      refine s_nil ?_
      refine W_ret ?_
      refine ret1 rfl rfl rfl ⟨_, rfl, ?_⟩
      exact ⟨congrArg Value.bool (by simp [validS, hlP, hlL, *]), E33⟩
    · refine m_y (v := .bool false) 25 rfl (by kernel_rfl) rfl rfl (fun w' e' => y_neq rfl rfl (decide_eq_false c27)) ?_
      refine m_y (v := .bool false) 26 rfl (by kernel_rfl) rfl rfl (fun w' e' => y_pick_f rfl rfl) ?_
      refine m_y (v := .bool false) 27 rfl (by kernel_rfl) rfl rfl (fun w' e' => y_move rfl) ?_
      refine m_y (v := .pointer (some ⟨b, o, none⟩)) 28 rfl (by kernel_rfl) rfl rfl (fun w' e' => y_move rfl) ?_
      refine m_y (v := .pointer (some ⟨b, o, none⟩)) 29 rfl (by kernel_rfl) rfl rfl (fun w' e' => y_nil rfl) ?_
      refine m_y (v := .pointer (some ⟨b, o + 4, none⟩)) 30 rfl (by kernel_rfl) rfl rfl (fun w' e' => y_fld (o := o + 0) T69.fld_26_4_4 rfl) ?_
      refine m_y (v := .slice als nls cls) 31 rfl (by kernel_rfl) rfl rfl (fun w' e' => y_load T69.one_24 rfl ((hP.ext0 e').cell (j := 4) rfl)) ?_
      refine m_y (v := .int .i64 ((nls : Nat) : Int)) 32 rfl (by kernel_rfl) rfl rfl (fun w' e' => y_len T69.sl_24_62_1 rfl rfl) ?_
      refine m_y (v := .pointer (some ⟨b, o, none⟩)) 33 rfl (by kernel_rfl) rfl rfl (fun w' e' => y_move rfl) ?_
      refine m_y (v := .pointer (some ⟨b, o, none⟩)) 34 rfl (by kernel_rfl) rfl rfl (fun w' e' => y_nil rfl) ?_
      refine m_y (v := .pointer (some ⟨b, o, none⟩)) 35 rfl (by kernel_rfl) rfl rfl (fun w' e' => y_fld (o := o + 0) T69.fld_26_0_0 rfl) ?_
      refine m_y (v := .int .i64 wd) 36 rfl (by kernel_rfl) rfl rfl (fun w' e' => y_load T69.one_2 rfl ((hP.ext0 e').cell (j := 0) rfl)) ?_
      refine m_y (v := .pointer (some ⟨b, o, none⟩)) 37 rfl (by kernel_rfl) rfl rfl (fun w' e' => y_move rfl) ?_
      refine m_y (v := .pointer (some ⟨b, o, none⟩)) 38 rfl (by kernel_rfl) rfl rfl (fun w' e' => y_nil rfl) ?_
      refine m_y (v := .pointer (some ⟨b, o + 1, none⟩)) 39 rfl (by kernel_rfl) rfl rfl (fun w' e' => y_fld (o := o + 0) T69.fld_26_1_1 rfl) ?_
      refine m_y (v := .int .i64 hi) 40 rfl (by kernel_rfl) rfl rfl (fun w' e' => y_load T69.one_2 rfl ((hP.ext0 e').cell (j := 1) rfl)) ?_
      refine m_y (v := .int .i64 (wd * hi)) 41 rfl (by kernel_rfl) rfl rfl (fun w' e' => y_mul rfl rfl rfl (by omega)) ?_
      by_cases c36 : ((nls : Nat) : Int) ≠ (wd * hi)
      · refine m_y (v := .bool true) 42 rfl (by kernel_rfl) rfl rfl (fun w' e' => y_neq rfl rfl (decide_eq_true c36)) ?_
        refine m_y (v := .bool true) 43 rfl (by kernel_rfl) rfl rfl (fun w' e' => y_pick_f rfl rfl) ?_
        refine m_done (by kernel_rfl) (fun w37 e38 => ?_)
        have hS39 := hS19.ext0 e38
        have hS40 := hS20.ext0 e38
        have hS41 := hS21.ext0 e38
        have E42 := E22.fresh e38 (fun _ h _ => h.elim)
        have R43 := R23.trans (Ext0.any e38)
        refine W_if_t (by decide) rfl ?_
        refine W_seq ?_
        refine W_region (by kernel_rfl) ?_
        refine s_y (v := .bool false) rfl (y_assign rfl) ?_
        refine s_nil ?_
        refine W_ret ?_
        refine ret1 rfl rfl rfl ⟨_, rfl, ?_⟩
        exact ⟨congrArg Value.bool (by simp [validS, hlP, hlL, *]), E42⟩
      · refine m_y (v := .bool false) 42 rfl (by kernel_rfl) rfl rfl (fun w' e' => y_neq rfl rfl (decide_eq_false c36)) ?_
        refine m_y (v := .bool false) 43 rfl (by kernel_rfl) rfl rfl (fun w' e' => y_pick_f rfl rfl) ?_
        refine m_done (by kernel_rfl) (fun w44 e45 => ?_)
        have hS46 := hS19.ext0 e45
        have hS47 := hS20.ext0 e45
        have hS48 := hS21.ext0 e45
        have E49 := E22.fresh e45 (fun _ h _ => h.elim)
        have R50 := R23.trans (Ext0.any e45)
        refine W_if_f (by decide) rfl ?_
        refine W_skip ?_
        refine W_seq ?_
        refine W_seq ?_
        refine W_region (by kernel_rfl) ?_
        refine s_y (v := .int .i64 0) rfl (y_assign rfl) ?_
        refine s_nil ?_
        refine W_block ?_
-- loop drops slots [2]
        refine W_loop (fun ρ' w' => ∃ (ρ1 : Env) (k : Int), ρ' = updL ρ1 [(0, .pointer (some ⟨b, o, none⟩)), (3, .int .i64 k)] ∧ Ext no w w' ∧ Sl w' asp (flts xsp) ∧ Sl w' als (flts xls) ∧ Sl w' (some ⟨b, o, none⟩) [.int .i64 wd, .int .i64 hi, .bool wr, .slice asp nsp csp, .slice als nls cls] ∧ (0 ≤ k) ∧ (k ≤ wd * hi) ∧ (∀ i, 0 ≤ i → i < k → (betw 1056964608 Xsp i && betw 1065353216 Xls i) = true)) (fun ρ' _ => (wd * hi - iv (ρ' 3)).toNat) ?_ ?_
        · exact ⟨_, 0, Fits.eq ⟨rfl, rfl, trivial⟩, E49, hS46, hS47, hS48, (Int.le_refl _), (by omega), (by intro i h0 h1; omega)⟩
        · rintro _ w51 ⟨ρ56, k, rfl, E52, hS53, hS54, hS55, h0k, h1k, hq⟩
          refine W_seq ?_
          refine W_seq ?_
          refine W_region (by kernel_rfl) ?_
          refine s_y (v := .int .i64 k) rfl (y_move rfl) ?_
          refine s_y (v := .pointer (some ⟨b, o, none⟩)) rfl (y_move rfl) ?_
          refine s_y (v := .pointer (some ⟨b, o, none⟩)) rfl (y_nil rfl) ?_
          refine s_y (v := .pointer (some ⟨b, o + 3, none⟩)) rfl (y_fld (o := o + 0) T69.fld_26_3_3 rfl) ?_
          refine s_y (v := .slice asp nsp csp) rfl (y_load T69.one_24 rfl (hS55.cell (j := 3) rfl)) ?_
          refine s_y (v := .int .i64 ((nsp : Nat) : Int)) rfl (y_len T69.sl_24_62_1 rfl rfl) ?_
          by_cases c57 : k < ((nsp : Nat) : Int)
          · refine s_y (v := .bool true) rfl (y_lss rfl rfl (decide_eq_true c57)) ?_
            refine s_nil ?_
            refine W_if_t (by decide) rfl ?_
            refine W_skip ?_
            refine W_seq ?_
            refine W_block ?_
            refine W_seq ?_
            refine W_region (by kernel_rfl) ?_
            refine s_y (v := .pointer (some ⟨b, o, none⟩)) rfl (y_move rfl) ?_
            refine s_y (v := .pointer (some ⟨b, o, none⟩)) rfl (y_nil rfl) ?_
            refine s_y (v := .pointer (some ⟨b, o + 3, none⟩)) rfl (y_fld (o := o + 0) T69.fld_26_3_3 rfl) ?_
            refine s_y (v := .slice asp nsp csp) rfl (y_load T69.one_24 rfl (hS55.cell (j := 3) rfl)) ?_
            refine s_y (v := .int .i64 k) rfl (y_move rfl) ?_
            refine s_y (v := .pointer (some (sat asp ((k).toNat * 1)))) rfl (y_idx T69.sl_24_62_1 rfl rfl (hS53.addr (by rw [flts_length]; omega)) (by omega) (by omega)) ?_
            refine s_y (v := .float .f32 (el xsp k)) rfl (y_load T69.one_62 rfl (hS53.cell (fl_at (by omega) (by omega)))) ?_
            by_cases c58 : fge .f32 (el Xsp k) 0 = true
            · refine s_y (v := .bool true) rfl (y_fgeq rfl rfl (fgeC (cn_el qksp k) (show can .f32 0 = 0 by kernel_rfl) c58)) ?_
              refine s_y (v := .bool false) rfl (y_not rfl rfl) ?_
              refine s_y (v := .bool false) rfl (y_move rfl) ?_
              refine s_y (v := .pointer (some ⟨b, o, none⟩)) rfl (y_move rfl) ?_
              refine s_y (v := .pointer (some ⟨b, o, none⟩)) rfl (y_nil rfl) ?_
              refine s_y (v := .pointer (some ⟨b, o + 3, none⟩)) rfl (y_fld (o := o + 0) T69.fld_26_3_3 rfl) ?_
              refine s_y (v := .slice asp nsp csp) rfl (y_load T69.one_24 rfl (hS55.cell (j := 3) rfl)) ?_
              refine s_y (v := .int .i64 k) rfl (y_move rfl) ?_
              refine s_y (v := .pointer (some (sat asp ((k).toNat * 1)))) rfl (y_idx T69.sl_24_62_1 rfl rfl (hS53.addr (by rw [flts_length]; omega)) (by omega) (by omega)) ?_
              refine s_y (v := .float .f32 (el xsp k)) rfl (y_load T69.one_62 rfl (hS53.cell (fl_at (by omega) (by omega)))) ?_
              by_cases c59 : fgt .f32 (el Xsp k) 1056964608 = true
              · refine s_y (v := .bool true) rfl (y_fgtr rfl rfl (fgtC (cn_el qksp k) (show can .f32 1056964608 = 1056964608 by kernel_rfl) c59)) ?_
                refine s_y (v := .bool true) rfl (y_pick_f rfl rfl) ?_
                refine s_y (v := .bool true) rfl (y_move rfl) ?_
                refine s_skip rfl ?_
                refine s_skip rfl ?_
                refine s_skip rfl ?_
                refine s_skip rfl ?_
                refine s_skip rfl ?_
                refine s_skip rfl ?_
                refine s_skip rfl ?_
                refine s_skip rfl ?_
                refine s_skip rfl ?_
                refine s_y (v := .bool true) rfl (y_pick_t rfl rfl) ?_
                refine s_y (v := .bool true) rfl (y_move rfl) ?_
                refine s_skip rfl ?_
                refine s_skip rfl ?_
                refine s_skip rfl ?_
                refine s_skip rfl ?_
                refine s_skip rfl ?_
                refine s_skip rfl ?_
                refine s_skip rfl ?_
                refine s_skip rfl ?_
                refine s_y (v := .bool true) rfl (y_pick_t rfl rfl) ?_
                refine s_nil ?_
                refine W_if_t (by decide) rfl ?_
                refine W_seq ?_
                refine W_region (by kernel_rfl) ?_
                refine s_y (v := .bool false) rfl (y_assign rfl) ?_
                refine s_nil ?_
                refine W_ret ?_
                refine ret1 rfl rfl rfl ⟨_, rfl, ?_⟩
                exact ⟨congrArg Value.bool (validS_no (i := k) (by omega) (by omega) (by omega) (by first | exact .inl (betw_no1 (by assumption)) | exact .inl (betw_ng half_not (by assumption) (by assumption)) | exact .inr (betw_no1 (by assumption)) | exact .inr (betw_ng one_not (by assumption) (by assumption)))).symm, E52⟩
              · refine s_y (v := .bool false) rfl (y_fgtr rfl rfl (fgtC (cn_el qksp k) (show can .f32 1056964608 = 1056964608 by kernel_rfl) (Bool.eq_false_iff.2 c59))) ?_
                refine s_y (v := .bool false) rfl (y_pick_f rfl rfl) ?_
                refine s_y (v := .bool false) rfl (y_move rfl) ?_
                refine s_y (v := .pointer (some ⟨b, o, none⟩)) rfl (y_move rfl) ?_
                refine s_y (v := .pointer (some ⟨b, o, none⟩)) rfl (y_nil rfl) ?_
                refine s_y (v := .pointer (some ⟨b, o + 4, none⟩)) rfl (y_fld (o := o + 0) T69.fld_26_4_4 rfl) ?_
                refine s_y (v := .slice als nls cls) rfl (y_load T69.one_24 rfl (hS55.cell (j := 4) rfl)) ?_
                refine s_y (v := .int .i64 k) rfl (y_move rfl) ?_
                refine s_y (v := .pointer (some (sat als ((k).toNat * 1)))) rfl (y_idx T69.sl_24_62_1 rfl rfl (hS54.addr (by rw [flts_length]; omega)) (by omega) (by omega)) ?_
                refine s_y (v := .float .f32 (el xls k)) rfl (y_load T69.one_62 rfl (hS54.cell (fl_at (by omega) (by omega)))) ?_
                by_cases c60 : fge .f32 (el Xls k) 0 = true
                · refine s_y (v := .bool true) rfl (y_fgeq rfl rfl (fgeC (cn_el qkls k) (show can .f32 0 = 0 by kernel_rfl) c60)) ?_
                  refine s_y (v := .bool false) rfl (y_not rfl rfl) ?_
                  refine s_y (v := .bool false) rfl (y_pick_f rfl rfl) ?_
                  refine s_y (v := .bool false) rfl (y_move rfl) ?_
                  refine s_y (v := .pointer (some ⟨b, o, none⟩)) rfl (y_move rfl) ?_
                  refine s_y (v := .pointer (some ⟨b, o, none⟩)) rfl (y_nil rfl) ?_
                  refine s_y (v := .pointer (some ⟨b, o + 4, none⟩)) rfl (y_fld (o := o + 0) T69.fld_26_4_4 rfl) ?_
                  refine s_y (v := .slice als nls cls) rfl (y_load T69.one_24 rfl (hS55.cell (j := 4) rfl)) ?_
                  refine s_y (v := .int .i64 k) rfl (y_move rfl) ?_
                  refine s_y (v := .pointer (some (sat als ((k).toNat * 1)))) rfl (y_idx T69.sl_24_62_1 rfl rfl (hS54.addr (by rw [flts_length]; omega)) (by omega) (by omega)) ?_
                  refine s_y (v := .float .f32 (el xls k)) rfl (y_load T69.one_62 rfl (hS54.cell (fl_at (by omega) (by omega)))) ?_
                  by_cases c61 : fgt .f32 (el Xls k) 1065353216 = true
                  · refine s_y (v := .bool true) rfl (y_fgtr rfl rfl (fgtC (cn_el qkls k) (show can .f32 1065353216 = 1065353216 by kernel_rfl) c61)) ?_
                    refine s_y (v := .bool true) rfl (y_pick_f rfl rfl) ?_
                    refine s_nil ?_
                    refine W_if_t (by decide) rfl ?_
                    refine W_seq ?_
                    refine W_region (by kernel_rfl) ?_
                    refine s_y (v := .bool false) rfl (y_assign rfl) ?_
                    refine s_nil ?_
                    refine W_ret ?_
                    refine ret1 rfl rfl rfl ⟨_, rfl, ?_⟩
                    exact ⟨congrArg Value.bool (validS_no (i := k) (by omega) (by omega) (by omega) (by first | exact .inl (betw_no1 (by assumption)) | exact .inl (betw_ng half_not (by assumption) (by assumption)) | exact .inr (betw_no1 (by assumption)) | exact .inr (betw_ng one_not (by assumption) (by assumption)))).symm, E52⟩
                  · refine s_y (v := .bool false) rfl (y_fgtr rfl rfl (fgtC (cn_el qkls k) (show can .f32 1065353216 = 1065353216 by kernel_rfl) (Bool.eq_false_iff.2 c61))) ?_
                    refine s_y (v := .bool false) rfl (y_pick_f rfl rfl) ?_
                    refine s_nil ?_
                    refine W_if_f (by decide) rfl ?_
                    refine W_skip ?_
                    refine W_region (by kernel_rfl) ?_
                    refine s_y (v := .int .i64 k) rfl (y_move rfl) ?_
                    refine s_y (v := .int .i64 (k + 1)) rfl (y_add rfl rfl rfl (by omega)) ?_
                    refine s_y (v := .int .i64 (k + 1)) rfl (y_assign rfl) ?_
                    refine s_nil ?_
                    refine ⟨⟨_, k + 1, Fits.eq ⟨rfl, rfl, trivial⟩, E52, hS53, hS54, hS55, (by omega), (by omega), (allI_more hq (by simp only [Bool.and_eq_true]; exact ⟨betw_g half_not (by assumption) (by assumption), betw_g one_not (by assumption) (by assumption)⟩))⟩, ?_⟩
                    show (wd * hi - (k + 1)).toNat < (wd * hi - k).toNat
                    omega
                · refine s_y (v := .bool false) rfl (y_fgeq rfl rfl (fgeC (cn_el qkls k) (show can .f32 0 = 0 by kernel_rfl) (Bool.eq_false_iff.2 c60))) ?_
                  refine s_y (v := .bool true) rfl (y_not rfl rfl) ?_
                  refine s_y (v := .bool true) rfl (y_pick_f rfl rfl) ?_
                  refine s_y (v := .bool true) rfl (y_move rfl) ?_
                  refine s_skip rfl ?_
                  refine s_skip rfl ?_
                  refine s_skip rfl ?_
                  refine s_skip rfl ?_
                  refine s_skip rfl ?_
                  refine s_skip rfl ?_
                  refine s_skip rfl ?_
                  refine s_skip rfl ?_
                  refine s_y (v := .bool true) rfl (y_pick_t rfl rfl) ?_
                  refine s_nil ?_
                  refine W_if_t (by decide) rfl ?_
                  refine W_seq ?_
                  refine W_region (by kernel_rfl) ?_
                  refine s_y (v := .bool false) rfl (y_assign rfl) ?_
                  refine s_nil ?_
                  refine W_ret ?_
                  refine ret1 rfl rfl rfl ⟨_, rfl, ?_⟩
                  exact ⟨congrArg Value.bool (validS_no (i := k) (by omega) (by omega) (by omega) (by first | exact .inl (betw_no1 (by assumption)) | exact .inl (betw_ng half_not (by assumption) (by assumption)) | exact .inr (betw_no1 (by assumption)) | exact .inr (betw_ng one_not (by assumption) (by assumption)))).symm, E52⟩
            · refine s_y (v := .bool false) rfl (y_fgeq rfl rfl (fgeC (cn_el qksp k) (show can .f32 0 = 0 by kernel_rfl) (Bool.eq_false_iff.2 c58))) ?_
              refine s_y (v := .bool true) rfl (y_not rfl rfl) ?_
              refine s_y (v := .bool true) rfl (y_move rfl) ?_
              refine s_skip rfl ?_
              refine s_skip rfl ?_
              refine s_skip rfl ?_
              refine s_skip rfl ?_
              refine s_skip rfl ?_
              refine s_skip rfl ?_
              refine s_skip rfl ?_
              refine s_skip rfl ?_
              refine s_y (v := .bool true) rfl (y_pick_t rfl rfl) ?_
              refine s_y (v := .bool true) rfl (y_move rfl) ?_
              refine s_skip rfl ?_
              refine s_skip rfl ?_
              refine s_skip rfl ?_
              refine s_skip rfl ?_
              refine s_skip rfl ?_
              refine s_skip rfl ?_
              refine s_skip rfl ?_
              refine s_skip rfl ?_
              refine s_skip rfl ?_
              refine s_y (v := .bool true) rfl (y_pick_t rfl rfl) ?_
              refine s_y (v := .bool true) rfl (y_move rfl) ?_
              refine s_skip rfl ?_
              refine s_skip rfl ?_
              refine s_skip rfl ?_
              refine s_skip rfl ?_
              refine s_skip rfl ?_
              refine s_skip rfl ?_
              refine s_skip rfl ?_
              refine s_skip rfl ?_
              refine s_y (v := .bool true) rfl (y_pick_t rfl rfl) ?_
              refine s_nil ?_
              refine W_if_t (by decide) rfl ?_
              refine W_seq ?_
              refine W_region (by kernel_rfl) ?_
              refine s_y (v := .bool false) rfl (y_assign rfl) ?_
              refine s_nil ?_
              refine W_ret ?_
              refine ret1 rfl rfl rfl ⟨_, rfl, ?_⟩
              exact ⟨congrArg Value.bool (validS_no (i := k) (by omega) (by omega) (by omega) (by first | exact .inl (betw_no1 (by assumption)) | exact .inl (betw_ng half_not (by assumption) (by assumption)) | exact .inr (betw_no1 (by assumption)) | exact .inr (betw_ng one_not (by assumption) (by assumption)))).symm, E52⟩
          · refine s_y (v := .bool false) rfl (y_lss rfl rfl (decide_eq_false c57)) ?_
            refine s_nil ?_
            refine W_if_f (by decide) rfl ?_
            refine W_exit ?_
            refine W_seq ?_
            refine W_region (by kernel_rfl) ?_
            refine s_y (v := .bool true) rfl (y_assign rfl) ?_
            refine s_nil ?_
            refine W_ret ?_
            refine ret1 rfl rfl rfl ⟨_, rfl, ?_⟩
            exact ⟨congrArg Value.bool (validS_yes (by assumption) (by omega) (by omega) (fun i h0 h1 => hq i h0 (by omega))).symm, E52⟩
  · obtain rfl : v17 = .bool false := hv18.trans (congrArg Value.bool (Bool.eq_false_iff.2 c24))
    refine m_y (v := .bool true) 9 rfl (by kernel_rfl) rfl rfl (fun w' e' => y_not rfl rfl) ?_
    refine m_y (v := .bool true) 10 rfl (by kernel_rfl) rfl rfl (fun w' e' => y_move rfl) ?_
    refine m_skip 11 rfl (by kernel_rfl) rfl ?_
    refine m_skip 12 rfl (by kernel_rfl) rfl ?_
    refine m_skip 13 rfl (by kernel_rfl) rfl ?_
    refine m_skip 14 rfl (by kernel_rfl) rfl ?_
    refine m_skip 15 rfl (by kernel_rfl) rfl ?_
    refine m_skip 16 rfl (by kernel_rfl) rfl ?_
    refine m_skip 17 rfl (by kernel_rfl) rfl ?_
    refine m_skip 18 rfl (by kernel_rfl) rfl ?_
    refine m_skip 19 rfl (by kernel_rfl) rfl ?_
    refine m_skip 20 rfl (by kernel_rfl) rfl ?_
    refine m_skip 21 rfl (by kernel_rfl) rfl ?_
    refine m_skip 22 rfl (by kernel_rfl) rfl ?_
    refine m_skip 23 rfl (by kernel_rfl) rfl ?_
    refine m_skip 24 rfl (by kernel_rfl) rfl ?_
    refine m_skip 25 rfl (by kernel_rfl) rfl ?_
    refine m_y (v := .bool true) 26 rfl (by kernel_rfl) rfl rfl (fun w' e' => y_pick_t rfl rfl) ?_
    refine m_y (v := .bool true) 27 rfl (by kernel_rfl) rfl rfl (fun w' e' => y_move rfl) ?_
    refine m_skip 28 rfl (by kernel_rfl) rfl ?_
    refine m_skip 29 rfl (by kernel_rfl) rfl ?_
    refine m_skip 30 rfl (by kernel_rfl) rfl ?_
    refine m_skip 31 rfl (by kernel_rfl) rfl ?_
    refine m_skip 32 rfl (by kernel_rfl) rfl ?_
    refine m_skip 33 rfl (by kernel_rfl) rfl ?_
    refine m_skip 34 rfl (by kernel_rfl) rfl ?_
    refine m_skip 35 rfl (by kernel_rfl) rfl ?_
    refine m_skip 36 rfl (by kernel_rfl) rfl ?_
    refine m_skip 37 rfl (by kernel_rfl) rfl ?_
    refine m_skip 38 rfl (by kernel_rfl) rfl ?_
    refine m_skip 39 rfl (by kernel_rfl) rfl ?_
    refine m_skip 40 rfl (by kernel_rfl) rfl ?_
    refine m_skip 41 rfl (by kernel_rfl) rfl ?_
    refine m_skip 42 rfl (by kernel_rfl) rfl ?_
    refine m_y (v := .bool true) 43 rfl (by kernel_rfl) rfl rfl (fun w' e' => y_pick_t rfl rfl) ?_
    refine m_done (by kernel_rfl) (fun w62 e63 => ?_)
    have hS64 := hS19.ext0 e63
    have hS65 := hS20.ext0 e63
    have hS66 := hS21.ext0 e63
    have E67 := E22.fresh e63 (fun _ h _ => h.elim)
    have R68 := R23.trans (Ext0.any e63)
    refine W_if_t (by decide) rfl ?_
    refine W_seq ?_
    refine W_region (by kernel_rfl) ?_
    refine s_y (v := .bool false) rfl (y_assign rfl) ?_
    refine s_nil ?_
    refine W_ret ?_
    refine ret1 rfl rfl rfl ⟨_, rfl, ?_⟩
    exact ⟨congrArg Value.bool (by simp [validS, hlP, hlL, *]), E67⟩
namespace T73
theorem mx : Try.prog.follows .mixedOrders = true := by kernel_rfl
theorem fld_26_0_0 : fldB Try.prog 26 0 0 = true := by kernel_rfl
theorem fld_26_1_1 : fldB Try.prog 26 1 1 = true := by kernel_rfl
theorem fn_88 : fnB Try.prog 88 = true := by kernel_rfl
theorem one_2 : oneB Try.prog 2 = true := by kernel_rfl
end T73
set_option maxRecDepth 100000 in
set_option maxHeartbeats 4000000 in
theorem c_s_l02Cell {wd hi : Int} {wr : Bool} {asp als : Option Addr} {nsp nls csp cls : Nat} {x : Int} {y : Int} {b o : Nat} (w : World) (hP : Sl w (some ⟨b, o, none⟩) [.int .i64 wd, .int .i64 hi, .bool wr, .slice asp nsp csp, .slice als nls cls]) (h1 : 3 ≤ wd) (h2 : wd ≤ 16) (h3 : 3 ≤ hi) (h4 : hi ≤ 16) :
    Calls Try.prog 73 #[.pointer (some ⟨b, o, none⟩), .int .i64 x, .int .i64 y] w (Rt fun v w' => v = .bool (cellB wd hi x y) ∧ Ext0 w w') := by
  have E0 : Ext no w w := Ext.refl _ _
  have lo_some_b_o_none := Sl.low hP
  refine calls_W (n := 23) Try.func73 rfl rfl (Nat.le_of_ble_eq_true rfl) ?_
  refine W_seq ?_
  refine W_region (by kernel_rfl) ?_
  refine s_y (v := .bool false) rfl (y_assign rfl) ?_
  refine s_nil ?_
  refine W_seq ?_
  refine W_region (by kernel_rfl) ?_
  refine s_y (v := .int .i64 x) rfl (y_move rfl) ?_
  refine s_y (v := .pointer (some ⟨b, o, none⟩)) rfl (y_move rfl) ?_
  refine s_y (v := .pointer (some ⟨b, o, none⟩)) rfl (y_nil rfl) ?_
  refine s_y (v := .pointer (some ⟨b, o, none⟩)) rfl (y_fld (o := o + 0) T73.fld_26_0_0 rfl) ?_
  refine s_y (v := .int .i64 wd) rfl (y_load T73.one_2 rfl (hP.cell (j := 0) rfl)) ?_
  refine s_y (v := .int .i64 (wd - 1)) rfl (y_sub rfl rfl rfl (by omega)) ?_
  refine s_k rfl (k_call T73.fn_88 (c_s_l00In _ _ _ _) rfl ?_)
  rintro v3 w1 ⟨hv4, e2⟩
  have hS5 := hP.ext0 e2
  have E6 := E0.fresh e2 (fun _ h _ => h.elim)
  by_cases c7 : within x 0 (wd - 1) = true
  · have hb8 := within_b c7
    obtain rfl : v3 = .bool true := hv4.trans (congrArg Value.bool c7)
    refine s_y (v := .bool true) rfl (y_move rfl) ?_
    refine s_y (v := .int .i64 y) rfl (y_move rfl) ?_
    refine s_y (v := .pointer (some ⟨b, o, none⟩)) rfl (y_move rfl) ?_
    refine s_y (v := .pointer (some ⟨b, o, none⟩)) rfl (y_nil rfl) ?_
    refine s_y (v := .pointer (some ⟨b, o + 1, none⟩)) rfl (y_fld (o := o + 0) T73.fld_26_1_1 rfl) ?_
    refine s_y (v := .int .i64 hi) rfl (y_load T73.one_2 rfl (hS5.cell (j := 1) rfl)) ?_
    refine s_y (v := .int .i64 (hi - 1)) rfl (y_sub rfl rfl rfl (by omega)) ?_
    refine s_k rfl (k_call T73.fn_88 (c_s_l00In _ _ _ _) rfl ?_)
    rintro v11 w9 ⟨hv12, e10⟩
    have hS13 := hS5.ext0 e10
    have E14 := E6.fresh e10 (fun _ h _ => h.elim)
    by_cases c15 : within y 0 (hi - 1) = true
    · have hb16 := within_b c15
      obtain rfl : v11 = .bool true := hv12.trans (congrArg Value.bool c15)
      refine s_y (v := .bool true) rfl (y_pick_t rfl rfl) ?_
      refine s_y (v := .bool true) rfl (y_assign rfl) ?_
      refine s_nil ?_
      refine W_ret ?_
      refine ret1 rfl rfl rfl ⟨_, rfl, ?_⟩
      exact ⟨congrArg Value.bool (by simp only [cellB, c7, c15, Bool.and_true, Bool.true_and, Bool.and_false, Bool.false_and, Bool.not_true, Bool.not_false, Bool.or_true, Bool.true_or, Bool.or_false, Bool.false_or]), E14⟩
    · obtain rfl : v11 = .bool false := hv12.trans (congrArg Value.bool (Bool.eq_false_iff.2 c15))
      refine s_y (v := .bool false) rfl (y_pick_t rfl rfl) ?_
      refine s_y (v := .bool false) rfl (y_assign rfl) ?_
      refine s_nil ?_
      refine W_ret ?_
      refine ret1 rfl rfl rfl ⟨_, rfl, ?_⟩
      exact ⟨congrArg Value.bool (by simp only [cellB, c7, (Bool.eq_false_iff.2 c15), Bool.and_true, Bool.true_and, Bool.and_false, Bool.false_and, Bool.not_true, Bool.not_false, Bool.or_true, Bool.true_or, Bool.or_false, Bool.false_or]), E14⟩
  · obtain rfl : v3 = .bool false := hv4.trans (congrArg Value.bool (Bool.eq_false_iff.2 c7))
    refine s_y (v := .bool false) rfl (y_move rfl) ?_
    refine s_skip rfl ?_
    refine s_skip rfl ?_
    refine s_skip rfl ?_
    refine s_skip rfl ?_
    refine s_skip rfl ?_
    refine s_skip rfl ?_
    refine s_skip rfl ?_
    refine s_y (v := .bool false) rfl (y_pick_f rfl rfl) ?_
    refine s_y (v := .bool false) rfl (y_assign rfl) ?_
    refine s_nil ?_
    refine W_ret ?_
    refine ret1 rfl rfl rfl ⟨_, rfl, ?_⟩
    exact ⟨congrArg Value.bool (by simp only [cellB, (Bool.eq_false_iff.2 c7), Bool.and_true, Bool.true_and, Bool.and_false, Bool.false_and, Bool.not_true, Bool.not_false, Bool.or_true, Bool.true_or, Bool.or_false, Bool.false_or]), E6⟩
namespace T76
theorem mx : Try.prog.follows .mixedOrders = true := by kernel_rfl
theorem fld_33_0_0 : fldB Try.prog 33 0 0 = true := by kernel_rfl
theorem fld_33_1_1 : fldB Try.prog 33 1 1 = true := by kernel_rfl
theorem fn_73 : fnB Try.prog 73 = true := by kernel_rfl
theorem one_2 : oneB Try.prog 2 = true := by kernel_rfl
theorem sl_29_33_2 : slB Try.prog 29 33 2 = true := by kernel_rfl
end T76
set_option maxRecDepth 100000 in
set_option maxHeartbeats 4000000 in
theorem c_s_l04Probes {wd hi : Int} {wr : Bool} {asp als : Option Addr} {nsp nls csp cls : Nat} {b o : Nat} {ap : Option Addr} {np cp : Nat} {xp : List (Int × Int)} (w : World) (hP : Sl w (some ⟨b, o, none⟩) [.int .i64 wd, .int .i64 hi, .bool wr, .slice asp nsp csp, .slice als nls cls]) (h1 : 3 ≤ wd) (h2 : wd ≤ 16) (h3 : 3 ≤ hi) (h4 : hi ≤ 16) (qsp : Sl w ap (flat prC xp)) (qlp : xp.length = np) :
    Calls Try.prog 76 #[.pointer (some ⟨b, o, none⟩), .slice ap np cp] w (Rt fun v w' => v = .bool (prB wd hi xp) ∧ Ext0 w w') := by
  have E0 : Ext no w w := Ext.refl _ _
  have lo_ap := Sl.low qsp
  have lo_some_b_o_none := Sl.low hP
  refine calls_W (n := 28) Try.func76 rfl rfl (Nat.le_of_ble_eq_true rfl) ?_
  refine W_seq ?_
  refine W_region (by kernel_rfl) ?_
  refine s_y (v := .bool false) rfl (y_assign rfl) ?_
  refine s_nil ?_
  refine W_seq ?_
  refine W_seq ?_
  refine W_region (by kernel_rfl) ?_
  refine s_y (v := .slice ap np cp) rfl (y_move rfl) ?_
  refine s_y (v := .int .i64 ((np : Nat) : Int)) rfl (y_len T76.sl_29_33_2 rfl rfl) ?_
  by_cases c1 : 8 < ((np : Nat) : Int)
  · refine s_y (v := .bool true) rfl (y_gtr rfl rfl (decide_eq_true c1)) ?_
    refine s_nil ?_
    refine W_if_t (by decide) rfl ?_
    refine W_seq ?_
    refine W_region (by kernel_rfl) ?_
    refine s_y (v := .bool false) rfl (y_assign rfl) ?_
    refine s_nil ?_
    refine W_ret ?_
    refine ret1 rfl rfl rfl ⟨_, rfl, ?_⟩
    exact ⟨congrArg Value.bool (prB_n (by omega)).symm, E0⟩
  · refine s_y (v := .bool false) rfl (y_gtr rfl rfl (decide_eq_false c1)) ?_
    refine s_nil ?_
    refine W_if_f (by decide) rfl ?_
    refine W_skip ?_
    refine W_seq ?_
    refine W_seq ?_
    refine W_region (by kernel_rfl) ?_
    refine s_y (v := .int .i64 0) rfl (y_assign rfl) ?_
    refine s_nil ?_
    refine W_block ?_
-- loop drops slots [4]
    refine W_loop (fun ρ' w' => ∃ (ρ1 : Env) (k : Int), ρ' = updL ρ1 [(0, .pointer (some ⟨b, o, none⟩)), (1, .slice ap np cp), (5, .int .i64 k)] ∧ Ext no w w' ∧ Sl w' ap (flat prC xp) ∧ Sl w' (some ⟨b, o, none⟩) [.int .i64 wd, .int .i64 hi, .bool wr, .slice asp nsp csp, .slice als nls cls] ∧ (0 ≤ k) ∧ (k ≤ (np : Int)) ∧ (∀ i, 0 ≤ i → i < k → cellB wd hi (gl xp i).1 (gl xp i).2 = true)) (fun ρ' _ => ((np : Int) - iv (ρ' 5)).toNat) ?_ ?_
    · exact ⟨_, 0, Fits.eq ⟨rfl, rfl, rfl, trivial⟩, E0, qsp, hP, (Int.le_refl _), (by omega), (by intro i h0 h1; omega)⟩
    · rintro _ w2 ⟨ρ6, k, rfl, E3, hS4, hS5, h0k, h1k, hq⟩
      refine W_seq ?_
      refine W_seq ?_
      refine W_region (by kernel_rfl) ?_
      refine s_y (v := .int .i64 k) rfl (y_move rfl) ?_
      refine s_y (v := .slice ap np cp) rfl (y_move rfl) ?_
      refine s_y (v := .int .i64 ((np : Nat) : Int)) rfl (y_len T76.sl_29_33_2 rfl rfl) ?_
      by_cases c7 : k < ((np : Nat) : Int)
      · refine s_y (v := .bool true) rfl (y_lss rfl rfl (decide_eq_true c7)) ?_
        refine s_nil ?_
        refine W_if_t (by decide) rfl ?_
        refine W_skip ?_
        refine W_seq ?_
        refine W_block ?_
        refine W_seq ?_
        refine W_draw (no) T76.mx (by kernel_rfl) (fun w8 e9 => ?_)
        have hS10 := hS4.ext0 e9
        have hS11 := hS5.ext0 e9
        have E12 := E3.fresh e9 (fun _ h _ => h.elim)
        have R13 := (Ext.refl (no) w2).trans (Ext0.any e9)
        refine m_y (v := .pointer (some ⟨b, o, none⟩)) 0 rfl (by kernel_rfl) rfl rfl (fun w' e' => y_move rfl) ?_
        refine m_y (v := .slice ap np cp) 1 rfl (by kernel_rfl) rfl rfl (fun w' e' => y_move rfl) ?_
        refine m_y (v := .int .i64 k) 2 rfl (by kernel_rfl) rfl rfl (fun w' e' => y_move rfl) ?_
        refine m_y (v := .pointer (some (sat ap ((k).toNat * 2)))) 3 rfl (by kernel_rfl) rfl rfl (fun w' e' => y_idx T76.sl_29_33_2 rfl rfl (hS10.addr (by rw [flat_length prC_len]; omega)) (by omega) (by omega)) ?_
        refine m_y (v := .pointer (some (sat ap ((k).toNat * 2)))) 4 rfl (by kernel_rfl) rfl rfl (fun w' e' => y_fldEl (j := (k).toNat * 2) T76.fld_33_0_0 rfl (hS10.addr (by rw [flat_length prC_len]; omega))) ?_
        refine m_y (v := .int .i64 ((gl xp k).1)) 5 rfl (by kernel_rfl) rfl rfl (fun w' e' => y_load T76.one_2 rfl ((hS4.ext0 e').cell (flat_cell prC_len (by omega) (by omega) (j := 0) rfl))) ?_
        refine m_y (v := .slice ap np cp) 6 rfl (by kernel_rfl) rfl rfl (fun w' e' => y_move rfl) ?_
        refine m_y (v := .int .i64 k) 7 rfl (by kernel_rfl) rfl rfl (fun w' e' => y_move rfl) ?_
        refine m_y (v := .pointer (some (sat ap ((k).toNat * 2)))) 8 rfl (by kernel_rfl) rfl rfl (fun w' e' => y_idx T76.sl_29_33_2 rfl rfl (hS10.addr (by rw [flat_length prC_len]; omega)) (by omega) (by omega)) ?_
        refine m_y (v := .pointer (some (sat ap ((k).toNat * 2 + 1)))) 9 rfl (by kernel_rfl) rfl rfl (fun w' e' => y_fldEl (j := (k).toNat * 2) T76.fld_33_1_1 rfl (hS10.addr (by rw [flat_length prC_len]; omega))) ?_
        refine m_y (v := .int .i64 ((gl xp k).2)) 10 rfl (by kernel_rfl) rfl rfl (fun w' e' => y_load T76.one_2 rfl ((hS4.ext0 e').cell (flat_cell prC_len (by omega) (by omega) (j := 1) rfl))) ?_
        refine m_k 11 [12] rfl (by kernel_rfl) rfl rfl (fun w14 e15 => ?_)
        have hS16 := hS10.ext0 e15
        have hS17 := hS11.ext0 e15
        have E18 := E12.fresh e15 (fun _ h _ => h.elim)
        have R19 := R13.trans (Ext0.any e15)
        refine k_call T76.fn_73 (c_s_l02Cell _ hS17 (by omega) (by omega) (by omega) (by omega)) rfl ?_
        rintro v22 w20 ⟨hv23, e21⟩
        have hS24 := hS16.ext0 e21
        have hS25 := hS17.ext0 e21
        have E26 := E18.fresh e21 (fun _ h _ => h.elim)
        have R27 := R19.trans (Ext0.any e21)
        refine ⟨fun _ => R27, ?_⟩
        by_cases c28 : cellB wd hi ((gl xp k).1) ((gl xp k).2) = true
        · have hb29 := cellB_b c28
          obtain rfl : v22 = .bool true := hv23.trans (congrArg Value.bool c28)
          refine m_y (v := .bool false) 12 rfl (by kernel_rfl) rfl rfl (fun w' e' => y_not rfl rfl) ?_
          refine m_done (by kernel_rfl) (fun w30 e31 => ?_)
          have hS32 := hS24.ext0 e31
          have hS33 := hS25.ext0 e31
          have E34 := E26.fresh e31 (fun _ h _ => h.elim)
          have R35 := R27.trans (Ext0.any e31)
          refine W_if_f (by decide) rfl ?_
          refine W_skip ?_
          refine W_region (by kernel_rfl) ?_
          refine s_y (v := .int .i64 k) rfl (y_move rfl) ?_
          refine s_y (v := .int .i64 (k + 1)) rfl (y_add rfl rfl rfl (by omega)) ?_
          refine s_y (v := .int .i64 (k + 1)) rfl (y_assign rfl) ?_
          refine s_nil ?_
          refine ⟨⟨_, k + 1, Fits.eq ⟨rfl, rfl, rfl, trivial⟩, E34, hS32, hS33, (by omega), (by omega), (allI_more (p := fun i => cellB wd hi (gl xp i).1 (gl xp i).2) hq (by assumption))⟩, ?_⟩
          show ((np : Int) - (k + 1)).toNat < ((np : Int) - k).toNat
          omega
        · obtain rfl : v22 = .bool false := hv23.trans (congrArg Value.bool (Bool.eq_false_iff.2 c28))
          refine m_y (v := .bool true) 12 rfl (by kernel_rfl) rfl rfl (fun w' e' => y_not rfl rfl) ?_
          refine m_done (by kernel_rfl) (fun w36 e37 => ?_)
          have hS38 := hS24.ext0 e37
          have hS39 := hS25.ext0 e37
          have E40 := E26.fresh e37 (fun _ h _ => h.elim)
          have R41 := R27.trans (Ext0.any e37)
          refine W_if_t (by decide) rfl ?_
          refine W_seq ?_
          refine W_region (by kernel_rfl) ?_
          refine s_y (v := .bool false) rfl (y_assign rfl) ?_
          refine s_nil ?_
          refine W_ret ?_
          refine ret1 rfl rfl rfl ⟨_, rfl, ?_⟩
          exact ⟨congrArg Value.bool (prB_no (i := k) (by omega) (by omega) (by assumption)).symm, E40⟩
      · refine s_y (v := .bool false) rfl (y_lss rfl rfl (decide_eq_false c7)) ?_
        refine s_nil ?_
        refine W_if_f (by decide) rfl ?_
        refine W_exit ?_
        refine W_seq ?_
        refine W_region (by kernel_rfl) ?_
        refine s_y (v := .bool true) rfl (y_assign rfl) ?_
        refine s_nil ?_
        refine W_ret ?_
        refine ret1 rfl rfl rfl ⟨_, rfl, ?_⟩
        exact ⟨congrArg Value.bool (prB_yes (by omega) (fun i h0 h1 => hq i h0 (by omega))).symm, E3⟩
namespace T32
theorem mx : Try.prog.follows .mixedOrders = true := by kernel_rfl
theorem fn_69 : fnB Try.prog 69 = true := by kernel_rfl
theorem fn_76 : fnB Try.prog 76 = true := by kernel_rfl
end T32
set_option maxRecDepth 100000 in
set_option maxHeartbeats 4000000 in
theorem c_s_AreProbes {wd hi : Int} {wr : Bool} {asp : Option Addr} {nsp csp : Nat} {xsp Xsp : List Nat} {als : Option Addr} {nls cls : Nat} {xls Xls : List Nat} {ap : Option Addr} {np cp : Nat} {xp : List (Int × Int)} (w : World) (qssp : Sl w asp (flts xsp)) (qlsp : xsp.length = nsp) (qksp : cn xsp = Xsp) (qsls : Sl w als (flts xls)) (qlls : xls.length = nls) (qkls : cn xls = Xls) (hb1 : nsp ≤ 9223372036854775806) (hb2 : nls ≤ 9223372036854775806) (qsp : Sl w ap (flat prC xp)) (qlp : xp.length = np) :
    Calls Try.prog 32 #[.agg #[.int .i64 wd, .int .i64 hi, .bool wr, .slice asp nsp csp, .slice als nls cls], .slice ap np cp] w (Rt fun v w' => v = .bool (areProbesB wd hi Xsp Xls xp) ∧ Ext0 w w') := by
  have E0 : Ext no w w := Ext.refl _ _
  have hlP : Xsp.length = nsp := (cn_lenX qksp).trans qlsp
  have hlL : Xls.length = nls := (cn_lenX qkls).trans qlls
  have lo_ap := Sl.low qsp
  have lo_asp := Sl.low qssp
  have lo_als := Sl.low qsls
  refine calls_W (n := 10) Try.func32 rfl rfl (Nat.le_of_ble_eq_true rfl) ?_
  refine W_seq ?_
  refine W_region (by kernel_rfl) ?_
  refine s_k rfl (k_box (v := .agg #[.int .i64 wd, .int .i64 hi, .bool wr, .slice asp nsp csp, .slice als nls cls]) (cs := [.int .i64 wd, .int .i64 hi, .bool wr, .slice asp nsp csp, .slice als nls cls]) rfl rfl (fun b1 w2 q4 e3 hB5 => ?_))
  have hS6 := qsp.ext0 e3
  have hS7 := qssp.ext0 e3
  have hS8 := qsls.ext0 e3
  have E9 := E0.fresh e3 (fun _ h _ => h.elim)
  have fr10 : NotLt b1 w.heap.size := fun h => Nat.not_lt.2 (Nat.le_trans E0.size (Nat.le_of_eq q4.symm)) h
  clear q4
  refine s_y (v := .bool false) rfl (y_assign rfl) ?_
  refine s_nil ?_
  refine W_seq ?_
  refine W_region (by kernel_rfl) ?_
  refine s_k rfl (k_call T32.fn_69 (c_s_l02Is _ hS7 qlsp qksp hS8 qlls qkls hB5.sl (by omega) (by omega)) rfl ?_)
  rintro v13 w11 ⟨hv14, e12⟩
  have hB15 := hB5.ext0 e12
  have hS16 := hS6.ext0 e12
  have hS17 := hS7.ext0 e12
  have hS18 := hS8.ext0 e12
  have E19 := E9.fresh e12 (fun _ h _ => h.elim)
  by_cases c20 : validS wd hi Xsp Xls = true
  · have hb21 := validS_b c20
    obtain rfl : v13 = .bool true := hv14.trans (congrArg Value.bool c20)
    refine s_y (v := .bool true) rfl (y_move rfl) ?_
    refine s_y (v := .slice ap np cp) rfl (y_move rfl) ?_
    refine s_k rfl (k_call T32.fn_76 (c_s_l04Probes _ hB15.sl (by omega) (by omega) (by omega) (by omega) hS16 qlp) rfl ?_)
    rintro v24 w22 ⟨hv25, e23⟩
    have hB26 := hB15.ext0 e23
    have hS27 := hS16.ext0 e23
    have hS28 := hS17.ext0 e23
    have hS29 := hS18.ext0 e23
    have E30 := E19.fresh e23 (fun _ h _ => h.elim)
    by_cases c31 : prB wd hi xp = true
    · have hb32 := prB_b c31
      obtain rfl : v24 = .bool true := hv25.trans (congrArg Value.bool c31)
      refine s_y (v := .bool true) rfl (y_pick_t rfl rfl) ?_
      refine s_y (v := .bool true) rfl (y_assign rfl) ?_
      refine s_nil ?_
      refine W_ret ?_
      refine ret1 rfl rfl rfl ⟨_, rfl, ?_⟩
      exact ⟨congrArg Value.bool (by simp only [areProbesB, c20, c31, Bool.and_true, Bool.true_and, Bool.and_false, Bool.false_and, Bool.not_true, Bool.not_false, Bool.or_true, Bool.true_or, Bool.or_false, Bool.false_or]), E30⟩
    · obtain rfl : v24 = .bool false := hv25.trans (congrArg Value.bool (Bool.eq_false_iff.2 c31))
      refine s_y (v := .bool false) rfl (y_pick_t rfl rfl) ?_
      refine s_y (v := .bool false) rfl (y_assign rfl) ?_
      refine s_nil ?_
      refine W_ret ?_
      refine ret1 rfl rfl rfl ⟨_, rfl, ?_⟩
      exact ⟨congrArg Value.bool (by simp only [areProbesB, c20, (Bool.eq_false_iff.2 c31), Bool.and_true, Bool.true_and, Bool.and_false, Bool.false_and, Bool.not_true, Bool.not_false, Bool.or_true, Bool.true_or, Bool.or_false, Bool.false_or]), E30⟩
  · obtain rfl : v13 = .bool false := hv14.trans (congrArg Value.bool (Bool.eq_false_iff.2 c20))
    refine s_y (v := .bool false) rfl (y_move rfl) ?_
    refine s_skip rfl ?_
    refine s_skip rfl ?_
    refine s_y (v := .bool false) rfl (y_pick_f rfl rfl) ?_
    refine s_y (v := .bool false) rfl (y_assign rfl) ?_
    refine s_nil ?_
    refine W_ret ?_
    refine ret1 rfl rfl rfl ⟨_, rfl, ?_⟩
    exact ⟨congrArg Value.bool (by simp only [areProbesB, (Bool.eq_false_iff.2 c20), Bool.and_true, Bool.true_and, Bool.and_false, Bool.false_and, Bool.not_true, Bool.not_false, Bool.or_true, Bool.true_or, Bool.or_false, Bool.false_or]), E19⟩
namespace T65
theorem mx : Try.prog.follows .mixedOrders = true := by kernel_rfl
end T65
set_option maxRecDepth 100000 in
set_option maxHeartbeats 4000000 in
theorem c_i_within (n lo hi : Int) (w : World) :
    Calls Try.prog 65 #[.int .i64 n, .int .i64 lo, .int .i64 hi] w (Rt fun v w' => v = .bool (within n lo hi) ∧ Ext0 w w') := by
  have E0 : Ext no w w := Ext.refl _ _
  refine calls_W (n := 15) Try.func65 rfl rfl (Nat.le_of_ble_eq_true rfl) ?_
  refine W_seq ?_
  refine W_region (by kernel_rfl) ?_
  refine s_y (v := .bool false) rfl (y_assign rfl) ?_
  refine s_nil ?_
  refine W_seq ?_
  refine W_region (by kernel_rfl) ?_
  refine s_y (v := .int .i64 n) rfl (y_move rfl) ?_
  refine s_y (v := .int .i64 lo) rfl (y_move rfl) ?_
  by_cases c1 : lo ≤ n
  · refine s_y (v := .bool true) rfl (y_geq rfl rfl (decide_eq_true c1)) ?_
    refine s_y (v := .bool true) rfl (y_move rfl) ?_
    refine s_y (v := .int .i64 n) rfl (y_move rfl) ?_
    refine s_y (v := .int .i64 hi) rfl (y_move rfl) ?_
    by_cases c2 : n ≤ hi
    · refine s_y (v := .bool true) rfl (y_leq rfl rfl (decide_eq_true c2)) ?_
      refine s_y (v := .bool true) rfl (y_pick_t rfl rfl) ?_
      refine s_y (v := .bool true) rfl (y_assign rfl) ?_
      refine s_nil ?_
      refine W_ret ?_
      refine ret1 rfl rfl rfl ⟨_, rfl, ?_⟩
      exact ⟨congrArg Value.bool (by simp [within] <;> omega), E0⟩
    · refine s_y (v := .bool false) rfl (y_leq rfl rfl (decide_eq_false c2)) ?_
      refine s_y (v := .bool false) rfl (y_pick_t rfl rfl) ?_
      refine s_y (v := .bool false) rfl (y_assign rfl) ?_
      refine s_nil ?_
      refine W_ret ?_
      refine ret1 rfl rfl rfl ⟨_, rfl, ?_⟩
      exact ⟨congrArg Value.bool (by simp [within] <;> omega), E0⟩
  · refine s_y (v := .bool false) rfl (y_geq rfl rfl (decide_eq_false c1)) ?_
    refine s_y (v := .bool false) rfl (y_move rfl) ?_
    refine s_skip rfl ?_
    refine s_skip rfl ?_
    refine s_skip rfl ?_
    refine s_y (v := .bool false) rfl (y_pick_f rfl rfl) ?_
    refine s_y (v := .bool false) rfl (y_assign rfl) ?_
    refine s_nil ?_
    refine W_ret ?_
    refine ret1 rfl rfl rfl ⟨_, rfl, ?_⟩
    exact ⟨congrArg Value.bool (by simp [within] <;> omega), E0⟩
namespace T66
theorem mx : Try.prog.follows .mixedOrders = true := by kernel_rfl
theorem one_62 : oneB Try.prog 62 = true := by kernel_rfl
theorem sl_24_62_1 : slB Try.prog 24 62 1 = true := by kernel_rfl
end T66
set_option maxRecDepth 100000 in
set_option maxHeartbeats 4000000 in
theorem c_i_areBetween {a : Option Addr} {n c : Nat} {x X : List Nat} {m M : Nat} (w : World) (qs : Sl w a (flts x)) (ql : x.length = n) (qk : cn x = X) (hm : can .f32 m = M) (hb : n ≤ 9223372036854775806) :
    Calls Try.prog 66 #[.slice a n c, .float .f32 m] w (Rt fun v w' => v = .bool (allI (n : Nat) (betw M X)) ∧ Ext0 w w') := by
  have E0 : Ext no w w := Ext.refl _ _
  have lo_a := Sl.low qs
  refine calls_W (n := 22) Try.func66 rfl rfl (Nat.le_of_ble_eq_true rfl) ?_
  refine W_seq ?_
  refine W_region (by kernel_rfl) ?_
  refine s_y (v := .bool false) rfl (y_assign rfl) ?_
  refine s_nil ?_
  refine W_seq ?_
  refine W_seq ?_
  refine W_region (by kernel_rfl) ?_
  refine s_y (v := .slice a n c) rfl (y_move rfl) ?_
  refine s_y (v := .int .i64 ((n : Nat) : Int)) rfl (y_len T66.sl_24_62_1 rfl rfl) ?_
  refine s_y (v := .int .i64 0) rfl (y_move rfl) ?_
  refine s_nil ?_
  refine W_block ?_
-- loop drops slots [4]
  refine W_loop (fun ρ' w' => ∃ (ρ1 : Env) (k : Int), ρ' = updL ρ1 [(1, .float .f32 m), (7, .slice a n c), (8, .int .i64 ((n : Nat) : Int)), (9, .int .i64 k)] ∧ Ext no w w' ∧ Sl w' a (flts x) ∧ (0 ≤ k) ∧ (k ≤ (n : Int)) ∧ (∀ i, 0 ≤ i → i < k → betw M X i = true)) (fun ρ' _ => ((n : Int) - iv (ρ' 9)).toNat) ?_ ?_
  · exact ⟨_, 0, Fits.eq ⟨rfl, rfl, rfl, rfl, trivial⟩, E0, qs, (Int.le_refl _), (by omega), (by intro i h0 h1; omega)⟩
  · rintro _ w1 ⟨ρ4, k, rfl, E2, hS3, h0k, h1k, hq⟩
    refine W_seq ?_
    refine W_region (by kernel_rfl) ?_
    by_cases c5 : k < ((n : Nat) : Int)
    · refine s_y (v := .bool true) rfl (y_lss rfl rfl (decide_eq_true c5)) ?_
      refine s_nil ?_
      refine W_seq ?_
      refine W_if_t (by decide) rfl ?_
      refine W_skip ?_
      refine W_seq ?_
      refine W_block ?_
      refine W_seq ?_
      refine W_region (by kernel_rfl) ?_
      refine s_y (v := .pointer (some (sat a ((k).toNat * 1)))) rfl (y_idx T66.sl_24_62_1 rfl rfl (hS3.addr (by rw [flts_length]; omega)) (by omega) (by omega)) ?_
      refine s_y (v := .float .f32 (el x k)) rfl (y_load T66.one_62 rfl (hS3.cell (fl_at (by omega) (by omega)))) ?_
      refine s_y (v := .float .f32 (el x k)) rfl (y_assign rfl) ?_
      refine s_nil ?_
      refine W_seq ?_
      refine W_region (by kernel_rfl) ?_
      refine s_y (v := .float .f32 (el x k)) rfl (y_move rfl) ?_
      by_cases c6 : fge .f32 (el X k) 0 = true
      · refine s_y (v := .bool true) rfl (y_fgeq rfl rfl (fgeC (cn_el qk k) (show can .f32 0 = 0 by kernel_rfl) c6)) ?_
        refine s_y (v := .bool true) rfl (y_move rfl) ?_
        refine s_y (v := .float .f32 (el x k)) rfl (y_move rfl) ?_
        refine s_y (v := .float .f32 m) rfl (y_move rfl) ?_
        by_cases c7 : fle .f32 (el X k) M = true
        · refine s_y (v := .bool true) rfl (y_fleq rfl rfl (fleC (cn_el qk k) hm c7)) ?_
          refine s_y (v := .bool true) rfl (y_pick_t rfl rfl) ?_
          refine s_y (v := .bool false) rfl (y_not rfl rfl) ?_
          refine s_nil ?_
          refine W_if_f (by decide) rfl ?_
          refine W_skip ?_
          refine W_region (by kernel_rfl) ?_
          refine s_y (v := .int .i64 (k + 1)) rfl (y_add rfl rfl rfl (by omega)) ?_
          refine s_y (v := .int .i64 (k + 1)) rfl (y_move rfl) ?_
          refine s_nil ?_
          refine ⟨⟨_, k + 1, Fits.eq ⟨rfl, rfl, rfl, rfl, trivial⟩, E2, hS3, (by omega), (by omega), (allI_more hq (betw_yes (by assumption) (by assumption)))⟩, ?_⟩
          show ((n : Int) - (k + 1)).toNat < ((n : Int) - k).toNat
          omega
        · refine s_y (v := .bool false) rfl (y_fleq rfl rfl (fleC (cn_el qk k) hm (Bool.eq_false_iff.2 c7))) ?_
          refine s_y (v := .bool false) rfl (y_pick_t rfl rfl) ?_
          refine s_y (v := .bool true) rfl (y_not rfl rfl) ?_
          refine s_nil ?_
          refine W_if_t (by decide) rfl ?_
          refine W_seq ?_
          refine W_region (by kernel_rfl) ?_
          refine s_y (v := .bool false) rfl (y_assign rfl) ?_
          refine s_nil ?_
          refine W_ret ?_
          refine ret1 rfl rfl rfl ⟨_, rfl, ?_⟩
          exact ⟨congrArg Value.bool (allI_false (by omega) (by omega) (by first | exact betw_no1 (by assumption) | exact betw_no2 (by assumption))).symm, E2⟩
      · refine s_y (v := .bool false) rfl (y_fgeq rfl rfl (fgeC (cn_el qk k) (show can .f32 0 = 0 by kernel_rfl) (Bool.eq_false_iff.2 c6))) ?_
        refine s_y (v := .bool false) rfl (y_move rfl) ?_
        refine s_skip rfl ?_
        refine s_skip rfl ?_
        refine s_skip rfl ?_
        refine s_y (v := .bool false) rfl (y_pick_f rfl rfl) ?_
        refine s_y (v := .bool true) rfl (y_not rfl rfl) ?_
        refine s_nil ?_
        refine W_if_t (by decide) rfl ?_
        refine W_seq ?_
        refine W_region (by kernel_rfl) ?_
        refine s_y (v := .bool false) rfl (y_assign rfl) ?_
        refine s_nil ?_
        refine W_ret ?_
        refine ret1 rfl rfl rfl ⟨_, rfl, ?_⟩
        exact ⟨congrArg Value.bool (allI_false (by omega) (by omega) (by first | exact betw_no1 (by assumption) | exact betw_no2 (by assumption))).symm, E2⟩
    · refine s_y (v := .bool false) rfl (y_lss rfl rfl (decide_eq_false c5)) ?_
      refine s_nil ?_
      refine W_seq ?_
      refine W_if_f (by decide) rfl ?_
      refine W_exit ?_
      refine W_seq ?_
      refine W_region (by kernel_rfl) ?_
      refine s_y (v := .bool true) rfl (y_assign rfl) ?_
      refine s_nil ?_
      refine W_ret ?_
      refine ret1 rfl rfl rfl ⟨_, rfl, ?_⟩
      exact ⟨congrArg Value.bool (allI_true (fun i h0 h1 => hq i h0 (by omega))).symm, E2⟩
namespace T19
theorem mx : Try.prog.follows .mixedOrders = true := by kernel_rfl
theorem fld_26_0_0 : fldB Try.prog 26 0 0 = true := by kernel_rfl
theorem fld_26_1_1 : fldB Try.prog 26 1 1 = true := by kernel_rfl
theorem fld_26_3_3 : fldB Try.prog 26 3 3 = true := by kernel_rfl
theorem fld_26_4_4 : fldB Try.prog 26 4 4 = true := by kernel_rfl
theorem fn_65 : fnB Try.prog 65 = true := by kernel_rfl
theorem fn_66 : fnB Try.prog 66 = true := by kernel_rfl
theorem one_2 : oneB Try.prog 2 = true := by kernel_rfl
theorem one_24 : oneB Try.prog 24 = true := by kernel_rfl
theorem sl_24_62_1 : slB Try.prog 24 62 1 = true := by kernel_rfl
end T19
set_option maxRecDepth 100000 in
set_option maxHeartbeats 4000000 in
theorem c_i_ValidSheet {wd hi : Int} {wr : Bool} {asp : Option Addr} {nsp csp : Nat} {xsp Xsp : List Nat} {als : Option Addr} {nls cls : Nat} {xls Xls : List Nat} (w : World) (qssp : Sl w asp (flts xsp)) (qlsp : xsp.length = nsp) (qksp : cn xsp = Xsp) (qsls : Sl w als (flts xls)) (qlls : xls.length = nls) (qkls : cn xls = Xls) (hb1 : nsp ≤ 9223372036854775806) (hb2 : nls ≤ 9223372036854775806) :
    Calls Try.prog 19 #[.agg #[.int .i64 wd, .int .i64 hi, .bool wr, .slice asp nsp csp, .slice als nls cls]] w (Rt fun v w' => v = .bool (validS wd hi Xsp Xls) ∧ Ext0 w w') := by
  have E0 : Ext no w w := Ext.refl _ _
  have hlP : Xsp.length = nsp := (cn_lenX qksp).trans qlsp
  have hlL : Xls.length = nls := (cn_lenX qkls).trans qlls
  have lo_asp := Sl.low qssp
  have lo_als := Sl.low qsls
  refine calls_W (n := 45) Try.func19 rfl rfl (Nat.le_of_ble_eq_true rfl) ?_
  refine W_seq ?_
  refine W_region (by kernel_rfl) ?_
  refine s_k rfl (k_box (v := .agg #[.int .i64 wd, .int .i64 hi, .bool wr, .slice asp nsp csp, .slice als nls cls]) (cs := [.int .i64 wd, .int .i64 hi, .bool wr, .slice asp nsp csp, .slice als nls cls]) rfl rfl (fun b1 w2 q4 e3 hB5 => ?_))
  have hS6 := qssp.ext0 e3
  have hS7 := qsls.ext0 e3
  have E8 := E0.fresh e3 (fun _ h _ => h.elim)
  have fr9 : NotLt b1 w.heap.size := fun h => Nat.not_lt.2 (Nat.le_trans E0.size (Nat.le_of_eq q4.symm)) h
  clear q4
  refine s_y (v := .bool false) rfl (y_assign rfl) ?_
  refine s_nil ?_
  refine W_seq ?_
  refine W_region (by kernel_rfl) ?_
  refine s_y (v := .pointer (some ⟨b1, 0, none⟩)) rfl (y_fld (o := 0) T19.fld_26_0_0 rfl) ?_
  refine s_y (v := .int .i64 wd) rfl (y_load T19.one_2 rfl (hB5.cell (j := 0) rfl)) ?_
  refine s_y (v := .pointer (some ⟨b1, 1, none⟩)) rfl (y_fld (o := 0) T19.fld_26_1_1 rfl) ?_
  refine s_y (v := .int .i64 hi) rfl (y_load T19.one_2 rfl (hB5.cell (j := 1) rfl)) ?_
  by_cases hr10 : -9223372036854775808 ≤ wd * hi ∧ wd * hi ≤ 9223372036854775807
  · refine s_y (v := .int .i64 (wd * hi)) rfl (y_mul rfl rfl rfl hr10) ?_
    refine s_y (v := .int .i64 (wd * hi)) rfl (y_assign rfl) ?_
    refine s_nil ?_
    refine W_seq ?_
    refine W_seq ?_
    refine W_region (by kernel_rfl) ?_
    refine s_y (v := .pointer (some ⟨b1, 0, none⟩)) rfl (y_fld (o := 0) T19.fld_26_0_0 rfl) ?_
    refine s_y (v := .int .i64 wd) rfl (y_load T19.one_2 rfl (hB5.cell (j := 0) rfl)) ?_
    refine s_k rfl (k_call T19.fn_65 (c_i_within _ _ _ _) rfl ?_)
    rintro v13 w11 ⟨hv14, e12⟩
    have hB15 := hB5.ext0 e12
    have hS16 := hS6.ext0 e12
    have hS17 := hS7.ext0 e12
    have E18 := E8.fresh e12 (fun _ h _ => h.elim)
    by_cases c19 : within wd 3 16 = true
    · have hb20 := within_b c19
      obtain rfl : v13 = .bool true := hv14.trans (congrArg Value.bool c19)
      refine s_y (v := .bool false) rfl (y_not rfl rfl) ?_
      refine s_y (v := .bool false) rfl (y_move rfl) ?_
      refine s_y (v := .pointer (some ⟨b1, 1, none⟩)) rfl (y_fld (o := 0) T19.fld_26_1_1 rfl) ?_
      refine s_y (v := .int .i64 hi) rfl (y_load T19.one_2 rfl (hB15.cell (j := 1) rfl)) ?_
      refine s_k rfl (k_call T19.fn_65 (c_i_within _ _ _ _) rfl ?_)
      rintro v23 w21 ⟨hv24, e22⟩
      have hB25 := hB15.ext0 e22
      have hS26 := hS16.ext0 e22
      have hS27 := hS17.ext0 e22
      have E28 := E18.fresh e22 (fun _ h _ => h.elim)
      by_cases c29 : within hi 3 16 = true
      · have hb30 := within_b c29
        obtain rfl : v23 = .bool true := hv24.trans (congrArg Value.bool c29)
        refine s_y (v := .bool false) rfl (y_not rfl rfl) ?_
        refine s_y (v := .bool false) rfl (y_pick_f rfl rfl) ?_
        refine s_y (v := .bool false) rfl (y_move rfl) ?_
        refine s_y (v := .int .i64 (wd * hi)) rfl (y_move rfl) ?_
        have hk31 : ¬ (256 < (wd * hi)) := (by have hz := mul16 (And.intro (within_b c19) (within_b c29)); omega)
        refine s_y (v := .bool false) rfl (y_gtr rfl rfl (decide_eq_false hk31)) ?_
        refine s_y (v := .bool false) rfl (y_pick_f rfl rfl) ?_
        refine s_nil ?_
        refine W_if_f (by decide) rfl ?_
        refine W_skip ?_
        refine W_seq ?_
        refine W_region (by kernel_rfl) ?_
        refine s_y (v := .pointer (some ⟨b1, 3, none⟩)) rfl (y_fld (o := 0) T19.fld_26_3_3 rfl) ?_
        refine s_y (v := .slice asp nsp csp) rfl (y_load T19.one_24 rfl (hB25.cell (j := 3) rfl)) ?_
        refine s_y (v := .int .i64 ((nsp : Nat) : Int)) rfl (y_len T19.sl_24_62_1 rfl rfl) ?_
        refine s_y (v := .int .i64 (wd * hi)) rfl (y_move rfl) ?_
        by_cases c32 : ((nsp : Nat) : Int) = (wd * hi)
        · refine s_y (v := .bool true) rfl (y_eql rfl rfl (decide_eq_true c32)) ?_
          refine s_y (v := .bool true) rfl (y_move rfl) ?_
          refine s_y (v := .pointer (some ⟨b1, 4, none⟩)) rfl (y_fld (o := 0) T19.fld_26_4_4 rfl) ?_
          refine s_y (v := .slice als nls cls) rfl (y_load T19.one_24 rfl (hB25.cell (j := 4) rfl)) ?_
          refine s_y (v := .int .i64 ((nls : Nat) : Int)) rfl (y_len T19.sl_24_62_1 rfl rfl) ?_
          refine s_y (v := .int .i64 (wd * hi)) rfl (y_move rfl) ?_
          by_cases c33 : ((nls : Nat) : Int) = (wd * hi)
          · refine s_y (v := .bool true) rfl (y_eql rfl rfl (decide_eq_true c33)) ?_
            refine s_y (v := .bool true) rfl (y_pick_t rfl rfl) ?_
            refine s_y (v := .bool true) rfl (y_move rfl) ?_
            refine s_y (v := .pointer (some ⟨b1, 3, none⟩)) rfl (y_fld (o := 0) T19.fld_26_3_3 rfl) ?_
            refine s_y (v := .slice asp nsp csp) rfl (y_load T19.one_24 rfl (hB25.cell (j := 3) rfl)) ?_
            refine s_k rfl (k_call T19.fn_66 (c_i_areBetween _ hS26 qlsp qksp (show can .f32 1056964608 = 1056964608 by kernel_rfl) (by omega)) rfl ?_)
            rintro v36 w34 ⟨hv37, e35⟩
            have hB38 := hB25.ext0 e35
            have hS39 := hS26.ext0 e35
            have hS40 := hS27.ext0 e35
            have E41 := E28.fresh e35 (fun _ h _ => h.elim)
            by_cases c42 : allI (nsp : Nat) (betw 1056964608 Xsp) = true
            · obtain rfl : v36 = .bool true := hv37.trans (congrArg Value.bool c42)
              refine s_y (v := .bool true) rfl (y_pick_t rfl rfl) ?_
              refine s_y (v := .bool true) rfl (y_move rfl) ?_
              refine s_y (v := .pointer (some ⟨b1, 4, none⟩)) rfl (y_fld (o := 0) T19.fld_26_4_4 rfl) ?_
              refine s_y (v := .slice als nls cls) rfl (y_load T19.one_24 rfl (hB38.cell (j := 4) rfl)) ?_
              refine s_k rfl (k_call T19.fn_66 (c_i_areBetween _ hS40 qlls qkls (show can .f32 1065353216 = 1065353216 by kernel_rfl) (by omega)) rfl ?_)
              rintro v45 w43 ⟨hv46, e44⟩
              have hB47 := hB38.ext0 e44
              have hS48 := hS39.ext0 e44
              have hS49 := hS40.ext0 e44
              have E50 := E41.fresh e44 (fun _ h _ => h.elim)
              by_cases c51 : allI (nls : Nat) (betw 1065353216 Xls) = true
              · obtain rfl : v45 = .bool true := hv46.trans (congrArg Value.bool c51)
                refine s_y (v := .bool true) rfl (y_pick_t rfl rfl) ?_
                refine s_y (v := .bool true) rfl (y_assign rfl) ?_
                refine s_nil ?_
                refine W_ret ?_
                refine ret1 rfl rfl rfl ⟨_, rfl, ?_⟩
                exact ⟨congrArg Value.bool (by simp only [validS_eq hlP hlL, c19, c29, (decide_eq_false hk31), (decide_eq_true c32), (decide_eq_true c33), c42, c51, Bool.and_true, Bool.true_and, Bool.and_false, Bool.false_and, Bool.not_true, Bool.not_false, Bool.or_true, Bool.true_or, Bool.or_false, Bool.false_or]), E50⟩
              · obtain rfl : v45 = .bool false := hv46.trans (congrArg Value.bool (Bool.eq_false_iff.2 c51))
                refine s_y (v := .bool false) rfl (y_pick_t rfl rfl) ?_
                refine s_y (v := .bool false) rfl (y_assign rfl) ?_
                refine s_nil ?_
                refine W_ret ?_
                refine ret1 rfl rfl rfl ⟨_, rfl, ?_⟩
                exact ⟨congrArg Value.bool (by simp only [validS_eq hlP hlL, c19, c29, (decide_eq_false hk31), (decide_eq_true c32), (decide_eq_true c33), c42, (Bool.eq_false_iff.2 c51), Bool.and_true, Bool.true_and, Bool.and_false, Bool.false_and, Bool.not_true, Bool.not_false, Bool.or_true, Bool.true_or, Bool.or_false, Bool.false_or]), E50⟩
            · obtain rfl : v36 = .bool false := hv37.trans (congrArg Value.bool (Bool.eq_false_iff.2 c42))
              refine s_y (v := .bool false) rfl (y_pick_t rfl rfl) ?_
              refine s_y (v := .bool false) rfl (y_move rfl) ?_
              refine s_skip rfl ?_
              refine s_skip rfl ?_
              refine s_skip rfl ?_
              refine s_y (v := .bool false) rfl (y_pick_f rfl rfl) ?_
              refine s_y (v := .bool false) rfl (y_assign rfl) ?_
              refine s_nil ?_
              refine W_ret ?_
              refine ret1 rfl rfl rfl ⟨_, rfl, ?_⟩
              exact ⟨congrArg Value.bool (by simp only [validS_eq hlP hlL, c19, c29, (decide_eq_false hk31), (decide_eq_true c32), (decide_eq_true c33), (Bool.eq_false_iff.2 c42), Bool.and_true, Bool.true_and, Bool.and_false, Bool.false_and, Bool.not_true, Bool.not_false, Bool.or_true, Bool.true_or, Bool.or_false, Bool.false_or]), E41⟩
          · refine s_y (v := .bool false) rfl (y_eql rfl rfl (decide_eq_false c33)) ?_
            refine s_y (v := .bool false) rfl (y_pick_t rfl rfl) ?_
            refine s_y (v := .bool false) rfl (y_move rfl) ?_
            refine s_skip rfl ?_
            refine s_skip rfl ?_
            refine s_skip rfl ?_
            refine s_y (v := .bool false) rfl (y_pick_f rfl rfl) ?_
            refine s_y (v := .bool false) rfl (y_move rfl) ?_
            refine s_skip rfl ?_
            refine s_skip rfl ?_
            refine s_skip rfl ?_
            refine s_y (v := .bool false) rfl (y_pick_f rfl rfl) ?_
            refine s_y (v := .bool false) rfl (y_assign rfl) ?_
            refine s_nil ?_
            refine W_ret ?_
            refine ret1 rfl rfl rfl ⟨_, rfl, ?_⟩
            exact ⟨congrArg Value.bool (by simp only [validS_eq hlP hlL, c19, c29, (decide_eq_false hk31), (decide_eq_true c32), (decide_eq_false c33), Bool.and_true, Bool.true_and, Bool.and_false, Bool.false_and, Bool.not_true, Bool.not_false, Bool.or_true, Bool.true_or, Bool.or_false, Bool.false_or]), E28⟩
        · refine s_y (v := .bool false) rfl (y_eql rfl rfl (decide_eq_false c32)) ?_
          refine s_y (v := .bool false) rfl (y_move rfl) ?_
          refine s_skip rfl ?_
          refine s_skip rfl ?_
          refine s_skip rfl ?_
          refine s_skip rfl ?_
          refine s_skip rfl ?_
          refine s_y (v := .bool false) rfl (y_pick_f rfl rfl) ?_
          refine s_y (v := .bool false) rfl (y_move rfl) ?_
          refine s_skip rfl ?_
          refine s_skip rfl ?_
          refine s_skip rfl ?_
          refine s_y (v := .bool false) rfl (y_pick_f rfl rfl) ?_
          refine s_y (v := .bool false) rfl (y_move rfl) ?_
          refine s_skip rfl ?_
          refine s_skip rfl ?_
          refine s_skip rfl ?_
          refine s_y (v := .bool false) rfl (y_pick_f rfl rfl) ?_
          refine s_y (v := .bool false) rfl (y_assign rfl) ?_
          refine s_nil ?_
          refine W_ret ?_
          refine ret1 rfl rfl rfl ⟨_, rfl, ?_⟩
          exact ⟨congrArg Value.bool (by simp only [validS_eq hlP hlL, c19, c29, (decide_eq_false hk31), (decide_eq_false c32), Bool.and_true, Bool.true_and, Bool.and_false, Bool.false_and, Bool.not_true, Bool.not_false, Bool.or_true, Bool.true_or, Bool.or_false, Bool.false_or]), E28⟩
      · obtain rfl : v23 = .bool false := hv24.trans (congrArg Value.bool (Bool.eq_false_iff.2 c29))
        refine s_y (v := .bool true) rfl (y_not rfl rfl) ?_
        refine s_y (v := .bool true) rfl (y_pick_f rfl rfl) ?_
        refine s_y (v := .bool true) rfl (y_move rfl) ?_
        refine s_skip rfl ?_
        refine s_skip rfl ?_
        refine s_y (v := .bool true) rfl (y_pick_t rfl rfl) ?_
        refine s_nil ?_
        refine W_if_t (by decide) rfl ?_
        refine W_seq ?_
        refine W_region (by kernel_rfl) ?_
        refine s_y (v := .bool false) rfl (y_assign rfl) ?_
        refine s_nil ?_
        refine W_ret ?_
        refine ret1 rfl rfl rfl ⟨_, rfl, ?_⟩
        exact ⟨congrArg Value.bool (by simp only [validS_eq hlP hlL, c19, (Bool.eq_false_iff.2 c29), Bool.and_true, Bool.true_and, Bool.and_false, Bool.false_and, Bool.not_true, Bool.not_false, Bool.or_true, Bool.true_or, Bool.or_false, Bool.false_or]), E28⟩
    · obtain rfl : v13 = .bool false := hv14.trans (congrArg Value.bool (Bool.eq_false_iff.2 c19))
      refine s_y (v := .bool true) rfl (y_not rfl rfl) ?_
      refine s_y (v := .bool true) rfl (y_move rfl) ?_
      refine s_skip rfl ?_
      refine s_skip rfl ?_
      refine s_skip rfl ?_
      refine s_skip rfl ?_
      refine s_y (v := .bool true) rfl (y_pick_t rfl rfl) ?_
      refine s_y (v := .bool true) rfl (y_move rfl) ?_
      refine s_skip rfl ?_
      refine s_skip rfl ?_
      refine s_y (v := .bool true) rfl (y_pick_t rfl rfl) ?_
      refine s_nil ?_
      refine W_if_t (by decide) rfl ?_
      refine W_seq ?_
      refine W_region (by kernel_rfl) ?_
      refine s_y (v := .bool false) rfl (y_assign rfl) ?_
      refine s_nil ?_
      refine W_ret ?_
      refine ret1 rfl rfl rfl ⟨_, rfl, ?_⟩
      exact ⟨congrArg Value.bool (by simp only [validS_eq hlP hlL, (Bool.eq_false_iff.2 c19), Bool.and_true, Bool.true_and, Bool.and_false, Bool.false_and, Bool.not_true, Bool.not_false, Bool.or_true, Bool.true_or, Bool.or_false, Bool.false_or]), E18⟩
  · have hw52 := wrap64_b (wd * hi)
    refine s_y (v := .int .i64 (IntKind.i64.wrap (wd * hi))) rfl (y_mulw rfl rfl) ?_
    refine s_y (v := .int .i64 (IntKind.i64.wrap (wd * hi))) rfl (y_assign rfl) ?_
    refine s_nil ?_
    refine W_seq ?_
    refine W_seq ?_
    refine W_region (by kernel_rfl) ?_
    refine s_y (v := .pointer (some ⟨b1, 0, none⟩)) rfl (y_fld (o := 0) T19.fld_26_0_0 rfl) ?_
    refine s_y (v := .int .i64 wd) rfl (y_load T19.one_2 rfl (hB5.cell (j := 0) rfl)) ?_
    refine s_k rfl (k_call T19.fn_65 (c_i_within _ _ _ _) rfl ?_)
    rintro v55 w53 ⟨hv56, e54⟩
    have hB57 := hB5.ext0 e54
    have hS58 := hS6.ext0 e54
    have hS59 := hS7.ext0 e54
    have E60 := E8.fresh e54 (fun _ h _ => h.elim)
    by_cases c61 : within wd 3 16 = true
    · have hb62 := within_b c61
      obtain rfl : v55 = .bool true := hv56.trans (congrArg Value.bool c61)
      refine s_y (v := .bool false) rfl (y_not rfl rfl) ?_
      refine s_y (v := .bool false) rfl (y_move rfl) ?_
      refine s_y (v := .pointer (some ⟨b1, 1, none⟩)) rfl (y_fld (o := 0) T19.fld_26_1_1 rfl) ?_
      refine s_y (v := .int .i64 hi) rfl (y_load T19.one_2 rfl (hB57.cell (j := 1) rfl)) ?_
      refine s_k rfl (k_call T19.fn_65 (c_i_within _ _ _ _) rfl ?_)
      rintro v65 w63 ⟨hv66, e64⟩
      have hB67 := hB57.ext0 e64
      have hS68 := hS58.ext0 e64
      have hS69 := hS59.ext0 e64
      have E70 := E60.fresh e64 (fun _ h _ => h.elim)
      have hk71 : ¬ (within hi 3 16 = true) := (fun hq => by have hz := mul16 (And.intro (within_b c61) (within_b hq)); omega)
      obtain rfl : v65 = .bool false := hv66.trans (congrArg Value.bool (Bool.eq_false_iff.2 hk71))
      refine s_y (v := .bool true) rfl (y_not rfl rfl) ?_
      refine s_y (v := .bool true) rfl (y_pick_f rfl rfl) ?_
      refine s_y (v := .bool true) rfl (y_move rfl) ?_
      refine s_skip rfl ?_
      refine s_skip rfl ?_
      refine s_y (v := .bool true) rfl (y_pick_t rfl rfl) ?_
      refine s_nil ?_
      refine W_if_t (by decide) rfl ?_
      refine W_seq ?_
      refine W_region (by kernel_rfl) ?_
      refine s_y (v := .bool false) rfl (y_assign rfl) ?_
      refine s_nil ?_
      refine W_ret ?_
      refine ret1 rfl rfl rfl ⟨_, rfl, ?_⟩
      exact ⟨congrArg Value.bool (by simp only [validS_eq hlP hlL, c61, (Bool.eq_false_iff.2 hk71), Bool.and_true, Bool.true_and, Bool.and_false, Bool.false_and, Bool.not_true, Bool.not_false, Bool.or_true, Bool.true_or, Bool.or_false, Bool.false_or]), E70⟩
    · obtain rfl : v55 = .bool false := hv56.trans (congrArg Value.bool (Bool.eq_false_iff.2 c61))
      refine s_y (v := .bool true) rfl (y_not rfl rfl) ?_
      refine s_y (v := .bool true) rfl (y_move rfl) ?_
      refine s_skip rfl ?_
      refine s_skip rfl ?_
      refine s_skip rfl ?_
      refine s_skip rfl ?_
      refine s_y (v := .bool true) rfl (y_pick_t rfl rfl) ?_
      refine s_y (v := .bool true) rfl (y_move rfl) ?_
      refine s_skip rfl ?_
      refine s_skip rfl ?_
      refine s_y (v := .bool true) rfl (y_pick_t rfl rfl) ?_
      refine s_nil ?_
      refine W_if_t (by decide) rfl ?_
      refine W_seq ?_
      refine W_region (by kernel_rfl) ?_
      refine s_y (v := .bool false) rfl (y_assign rfl) ?_
      refine s_nil ?_
      refine W_ret ?_
      refine ret1 rfl rfl rfl ⟨_, rfl, ?_⟩
      exact ⟨congrArg Value.bool (by simp only [validS_eq hlP hlL, (Bool.eq_false_iff.2 c61), Bool.and_true, Bool.true_and, Bool.and_false, Bool.false_and, Bool.not_true, Bool.not_false, Bool.or_true, Bool.true_or, Bool.or_false, Bool.false_or]), E60⟩
namespace T67
theorem mx : Try.prog.follows .mixedOrders = true := by kernel_rfl
theorem fld_26_0_0 : fldB Try.prog 26 0 0 = true := by kernel_rfl
theorem fld_26_1_1 : fldB Try.prog 26 1 1 = true := by kernel_rfl
theorem fn_65 : fnB Try.prog 65 = true := by kernel_rfl
theorem one_2 : oneB Try.prog 2 = true := by kernel_rfl
end T67
set_option maxRecDepth 100000 in
set_option maxHeartbeats 4000000 in
theorem c_i_isCell {wd hi : Int} {wr : Bool} {asp als : Option Addr} {nsp nls csp cls : Nat} {x : Int} {y : Int} (w : World) (h1 : 3 ≤ wd) (h2 : wd ≤ 16) (h3 : 3 ≤ hi) (h4 : hi ≤ 16) :
    Calls Try.prog 67 #[.agg #[.int .i64 wd, .int .i64 hi, .bool wr, .slice asp nsp csp, .slice als nls cls], .int .i64 x, .int .i64 y] w (Rt fun v w' => v = .bool (cellB wd hi x y) ∧ Ext0 w w') := by
  have E0 : Ext no w w := Ext.refl _ _
  refine calls_W (n := 19) Try.func67 rfl rfl (Nat.le_of_ble_eq_true rfl) ?_
  refine W_seq ?_
  refine W_region (by kernel_rfl) ?_
  refine s_k rfl (k_box (v := .agg #[.int .i64 wd, .int .i64 hi, .bool wr, .slice asp nsp csp, .slice als nls cls]) (cs := [.int .i64 wd, .int .i64 hi, .bool wr, .slice asp nsp csp, .slice als nls cls]) rfl rfl (fun b1 w2 q4 e3 hB5 => ?_))
  have E6 := E0.fresh e3 (fun _ h _ => h.elim)
  have fr7 : NotLt b1 w.heap.size := fun h => Nat.not_lt.2 (Nat.le_trans E0.size (Nat.le_of_eq q4.symm)) h
  clear q4
  refine s_y (v := .bool false) rfl (y_assign rfl) ?_
  refine s_nil ?_
  refine W_seq ?_
  refine W_region (by kernel_rfl) ?_
  refine s_y (v := .int .i64 x) rfl (y_move rfl) ?_
  refine s_y (v := .pointer (some ⟨b1, 0, none⟩)) rfl (y_fld (o := 0) T67.fld_26_0_0 rfl) ?_
  refine s_y (v := .int .i64 wd) rfl (y_load T67.one_2 rfl (hB5.cell (j := 0) rfl)) ?_
  refine s_y (v := .int .i64 (wd - 1)) rfl (y_sub rfl rfl rfl (by omega)) ?_
  refine s_k rfl (k_call T67.fn_65 (c_i_within _ _ _ _) rfl ?_)
  rintro v10 w8 ⟨hv11, e9⟩
  have hB12 := hB5.ext0 e9
  have E13 := E6.fresh e9 (fun _ h _ => h.elim)
  by_cases c14 : within x 0 (wd - 1) = true
  · have hb15 := within_b c14
    obtain rfl : v10 = .bool true := hv11.trans (congrArg Value.bool c14)
    refine s_y (v := .bool true) rfl (y_move rfl) ?_
    refine s_y (v := .int .i64 y) rfl (y_move rfl) ?_
    refine s_y (v := .pointer (some ⟨b1, 1, none⟩)) rfl (y_fld (o := 0) T67.fld_26_1_1 rfl) ?_
    refine s_y (v := .int .i64 hi) rfl (y_load T67.one_2 rfl (hB12.cell (j := 1) rfl)) ?_
    refine s_y (v := .int .i64 (hi - 1)) rfl (y_sub rfl rfl rfl (by omega)) ?_
    refine s_k rfl (k_call T67.fn_65 (c_i_within _ _ _ _) rfl ?_)
    rintro v18 w16 ⟨hv19, e17⟩
    have hB20 := hB12.ext0 e17
    have E21 := E13.fresh e17 (fun _ h _ => h.elim)
    by_cases c22 : within y 0 (hi - 1) = true
    · have hb23 := within_b c22
      obtain rfl : v18 = .bool true := hv19.trans (congrArg Value.bool c22)
      refine s_y (v := .bool true) rfl (y_pick_t rfl rfl) ?_
      refine s_y (v := .bool true) rfl (y_assign rfl) ?_
      refine s_nil ?_
      refine W_ret ?_
      refine ret1 rfl rfl rfl ⟨_, rfl, ?_⟩
      exact ⟨congrArg Value.bool (by simp only [cellB, c14, c22, Bool.and_true, Bool.true_and, Bool.and_false, Bool.false_and, Bool.not_true, Bool.not_false, Bool.or_true, Bool.true_or, Bool.or_false, Bool.false_or]), E21⟩
    · obtain rfl : v18 = .bool false := hv19.trans (congrArg Value.bool (Bool.eq_false_iff.2 c22))
      refine s_y (v := .bool false) rfl (y_pick_t rfl rfl) ?_
      refine s_y (v := .bool false) rfl (y_assign rfl) ?_
      refine s_nil ?_
      refine W_ret ?_
      refine ret1 rfl rfl rfl ⟨_, rfl, ?_⟩
      exact ⟨congrArg Value.bool (by simp only [cellB, c14, (Bool.eq_false_iff.2 c22), Bool.and_true, Bool.true_and, Bool.and_false, Bool.false_and, Bool.not_true, Bool.not_false, Bool.or_true, Bool.true_or, Bool.or_false, Bool.false_or]), E21⟩
  · obtain rfl : v10 = .bool false := hv11.trans (congrArg Value.bool (Bool.eq_false_iff.2 c14))
    refine s_y (v := .bool false) rfl (y_move rfl) ?_
    refine s_skip rfl ?_
    refine s_skip rfl ?_
    refine s_skip rfl ?_
    refine s_skip rfl ?_
    refine s_skip rfl ?_
    refine s_y (v := .bool false) rfl (y_pick_f rfl rfl) ?_
    refine s_y (v := .bool false) rfl (y_assign rfl) ?_
    refine s_nil ?_
    refine W_ret ?_
    refine ret1 rfl rfl rfl ⟨_, rfl, ?_⟩
    exact ⟨congrArg Value.bool (by simp only [cellB, (Bool.eq_false_iff.2 c14), Bool.and_true, Bool.true_and, Bool.and_false, Bool.false_and, Bool.not_true, Bool.not_false, Bool.or_true, Bool.true_or, Bool.or_false, Bool.false_or]), E13⟩
namespace T20
theorem mx : Try.prog.follows .mixedOrders = true := by kernel_rfl
theorem agg_26_5 : aggB Try.prog 26 5 = true := by kernel_rfl
theorem agg_33_2 : aggB Try.prog 33 2 = true := by kernel_rfl
theorem fld_33_0_0 : fldB Try.prog 33 0 0 = true := by kernel_rfl
theorem fld_33_1_1 : fldB Try.prog 33 1 1 = true := by kernel_rfl
theorem fn_19 : fnB Try.prog 19 = true := by kernel_rfl
theorem fn_67 : fnB Try.prog 67 = true := by kernel_rfl
theorem one_2 : oneB Try.prog 2 = true := by kernel_rfl
theorem sl_29_33_2 : slB Try.prog 29 33 2 = true := by kernel_rfl
theorem sz_33_2 : szB Try.prog 33 2 = true := by kernel_rfl
theorem zero_33 : zeroB Try.prog 33 (.agg #[.int .i64 0, .int .i64 0]) := by unfold zeroB; kernel_rfl
end T20
set_option maxRecDepth 100000 in
set_option maxHeartbeats 4000000 in
theorem c_i_AreProbes {wd hi : Int} {wr : Bool} {asp : Option Addr} {nsp csp : Nat} {xsp Xsp : List Nat} {als : Option Addr} {nls cls : Nat} {xls Xls : List Nat} {ap : Option Addr} {np cp : Nat} {xp : List (Int × Int)} (w : World) (qssp : Sl w asp (flts xsp)) (qlsp : xsp.length = nsp) (qksp : cn xsp = Xsp) (qsls : Sl w als (flts xls)) (qlls : xls.length = nls) (qkls : cn xls = Xls) (hb1 : nsp ≤ 9223372036854775806) (hb2 : nls ≤ 9223372036854775806) (qsp : Sl w ap (flat prC xp)) (qlp : xp.length = np) :
    Calls Try.prog 20 #[.agg #[.int .i64 wd, .int .i64 hi, .bool wr, .slice asp nsp csp, .slice als nls cls], .slice ap np cp] w (Rt fun v w' => v = .bool (areProbesB wd hi Xsp Xls xp) ∧ Ext0 w w') := by
  have E0 : Ext no w w := Ext.refl _ _
  have hlP : Xsp.length = nsp := (cn_lenX qksp).trans qlsp
  have hlL : Xls.length = nls := (cn_lenX qkls).trans qlls
  have lo_ap := Sl.low qsp
  have lo_asp := Sl.low qssp
  have lo_als := Sl.low qsls
  refine calls_W (n := 29) Try.func20 rfl rfl (Nat.le_of_ble_eq_true rfl) ?_
  refine W_seq ?_
  refine W_region (by kernel_rfl) ?_
  refine s_k rfl (k_box (v := .agg #[.int .i64 wd, .int .i64 hi, .bool wr, .slice asp nsp csp, .slice als nls cls]) (cs := [.int .i64 wd, .int .i64 hi, .bool wr, .slice asp nsp csp, .slice als nls cls]) rfl rfl (fun b1 w2 q4 e3 hB5 => ?_))
  have hS6 := qsp.ext0 e3
  have hS7 := qssp.ext0 e3
  have hS8 := qsls.ext0 e3
  have E9 := E0.fresh e3 (fun _ h _ => h.elim)
  have fr10 : NotLt b1 w.heap.size := fun h => Nat.not_lt.2 (Nat.le_trans E0.size (Nat.le_of_eq q4.symm)) h
  clear q4
  refine s_y (v := .bool false) rfl (y_assign rfl) ?_
  refine s_nil ?_
  refine W_seq ?_
  refine W_seq ?_
  refine W_region (by kernel_rfl) ?_
  refine s_y (v := .agg #[.int .i64 wd, .int .i64 hi, .bool wr, .slice asp nsp csp, .slice als nls cls]) rfl (y_loadn (b := b1) (o := 0) (vs := [.int .i64 wd, .int .i64 hi, .bool wr, .slice asp nsp csp, .slice als nls cls]) T20.agg_26_5 rfl rfl (hB5.cells (o := 0) rfl)) ?_
  refine s_k rfl (k_call T20.fn_19 (c_i_ValidSheet _ hS7 qlsp qksp hS8 qlls qkls (by omega) (by omega)) rfl ?_)
  rintro v13 w11 ⟨hv14, e12⟩
  have hB15 := hB5.ext0 e12
  have hS16 := hS6.ext0 e12
  have hS17 := hS7.ext0 e12
  have hS18 := hS8.ext0 e12
  have E19 := E9.fresh e12 (fun _ h _ => h.elim)
  by_cases c20 : validS wd hi Xsp Xls = true
  · have hb21 := validS_b c20
    obtain rfl : v13 = .bool true := hv14.trans (congrArg Value.bool c20)
    refine s_y (v := .bool false) rfl (y_not rfl rfl) ?_
    refine s_y (v := .bool false) rfl (y_move rfl) ?_
    refine s_y (v := .slice ap np cp) rfl (y_move rfl) ?_
    refine s_y (v := .int .i64 ((np : Nat) : Int)) rfl (y_len T20.sl_29_33_2 rfl rfl) ?_
    by_cases c22 : 8 < ((np : Nat) : Int)
    · refine s_y (v := .bool true) rfl (y_gtr rfl rfl (decide_eq_true c22)) ?_
      refine s_y (v := .bool true) rfl (y_pick_f rfl rfl) ?_
      refine s_nil ?_
      refine W_if_t (by decide) rfl ?_
      refine W_seq ?_
      refine W_region (by kernel_rfl) ?_
      refine s_y (v := .bool false) rfl (y_assign rfl) ?_
      refine s_nil ?_
      refine W_ret ?_
      refine ret1 rfl rfl rfl ⟨_, rfl, ?_⟩
      exact ⟨congrArg Value.bool (by first | exact (probesB_n1 (by assumption)).symm | exact (probesB_n2 (by omega)).symm), E19⟩
    · refine s_y (v := .bool false) rfl (y_gtr rfl rfl (decide_eq_false c22)) ?_
      refine s_y (v := .bool false) rfl (y_pick_f rfl rfl) ?_
      refine s_nil ?_
      refine W_if_f (by decide) rfl ?_
      refine W_skip ?_
      refine W_seq ?_
      refine W_seq ?_
      refine W_region (by kernel_rfl) ?_
      refine s_y (v := .slice ap np cp) rfl (y_move rfl) ?_
      refine s_y (v := .int .i64 ((np : Nat) : Int)) rfl (y_len T20.sl_29_33_2 rfl rfl) ?_
      refine s_y (v := .int .i64 0) rfl (y_move rfl) ?_
      refine s_nil ?_
      refine W_block ?_
-- loop drops slots [4]
      refine W_loop (fun ρ' w' => ∃ (ρ1 : Env) (k : Int), ρ' = updL ρ1 [(2, .pointer (some ⟨b1, 0, none⟩)), (15, .slice ap np cp), (16, .int .i64 ((np : Nat) : Int)), (17, .int .i64 k)] ∧ Ext no w w' ∧ Blk w' b1 [.int .i64 wd, .int .i64 hi, .bool wr, .slice asp nsp csp, .slice als nls cls] 26 ∧ Sl w' ap (flat prC xp) ∧ Sl w' asp (flts xsp) ∧ Sl w' als (flts xls) ∧ (0 ≤ k) ∧ (k ≤ (np : Int)) ∧ (∀ i, 0 ≤ i → i < k → cellB wd hi (gl xp i).1 (gl xp i).2 = true)) (fun ρ' _ => ((np : Int) - iv (ρ' 17)).toNat) ?_ ?_
      · exact ⟨_, 0, Fits.eq ⟨rfl, rfl, rfl, rfl, trivial⟩, E19, hB15, hS16, hS17, hS18, (Int.le_refl _), (by omega), (by intro i h0 h1; omega)⟩
      · rintro _ w23 ⟨ρ29, k, rfl, E24, hB25, hS26, hS27, hS28, h0k, h1k, hq⟩
        refine W_seq ?_
        refine W_region (by kernel_rfl) ?_
        by_cases c30 : k < ((np : Nat) : Int)
        · refine s_y (v := .bool true) rfl (y_lss rfl rfl (decide_eq_true c30)) ?_
          refine s_nil ?_
          refine W_seq ?_
          refine W_if_t (by decide) rfl ?_
          refine W_skip ?_
          refine W_seq ?_
          refine W_block ?_
          refine W_seq ?_
          refine W_region (by kernel_rfl) ?_
          refine s_y (v := .pointer (some (sat ap ((k).toNat * 2)))) rfl (y_idx T20.sl_29_33_2 rfl rfl (hS26.addr (by rw [flat_length prC_len]; omega)) (by omega) (by omega)) ?_
          refine s_y (v := .agg #[.int .i64 ((gl xp k).1), .int .i64 ((gl xp k).2)]) rfl (y_loadEl (vs := [.int .i64 ((gl xp k).1), .int .i64 ((gl xp k).2)]) T20.agg_33_2 rfl rfl (by decide) hS26 (flat_row prC_len (by omega) (by omega))) ?_
          refine s_k rfl (k_alloc (z := (.agg #[.int .i64 0, .int .i64 0])) (cs := [.int .i64 0, .int .i64 0]) T20.zero_33 rfl (fun b31 w32 q34 e33 hB35 => ?_))
          have hB36 := hB25.ext0 e33
          have hS37 := hS26.ext0 e33
          have hS38 := hS27.ext0 e33
          have hS39 := hS28.ext0 e33
          have E40 := E24.fresh e33 (fun _ h _ => h.elim)
          have dj41 : NeB b1 b31 := fun h => Nat.ne_of_lt hB25.lt (h.trans q34)
          have fr42 : NotLt b31 w.heap.size := fun h => Nat.not_lt.2 (Nat.le_trans E24.size (Nat.le_of_eq q34.symm)) h
          clear q34
          refine s_k0 rfl (k_store (v := .agg #[.int .i64 ((gl xp k).1), .int .i64 ((gl xp k).2)]) (n := 2) (cs' := [.int .i64 ((gl xp k).1), .int .i64 ((gl xp k).2)]) T20.sz_33_2 rfl rfl rfl hB35 (by simp [Value.cells, Value.oneCell']) (Nat.le_of_ble_eq_true rfl) rfl (fun w43 e44 z45 hB46 => ?_))
          clear z45
          have hB47 := hB36.ext e44 dj41
          have hS48 := hS37.extL lo_ap e44 (fun kx (hs : kx = b31) hl => fr42 (hs ▸ hl))
          have hS49 := hS38.extL lo_asp e44 (fun kx (hs : kx = b31) hl => fr42 (hs ▸ hl))
          have hS50 := hS39.extL lo_als e44 (fun kx (hs : kx = b31) hl => fr42 (hs ▸ hl))
          have E51 := E40.fresh e44 (fun kx (hs : kx = b31) hl => (fr42 (hs ▸ hl)).elim)
          refine s_nil ?_
          refine W_seq ?_
          refine W_region (by kernel_rfl) ?_
          refine s_y (v := .agg #[.int .i64 wd, .int .i64 hi, .bool wr, .slice asp nsp csp, .slice als nls cls]) rfl (y_loadn (b := b1) (o := 0) (vs := [.int .i64 wd, .int .i64 hi, .bool wr, .slice asp nsp csp, .slice als nls cls]) T20.agg_26_5 rfl rfl (hB47.cells (o := 0) rfl)) ?_
          refine s_y (v := .pointer (some ⟨b31, 0, none⟩)) rfl (y_fld (o := 0) T20.fld_33_0_0 rfl) ?_
          refine s_y (v := .int .i64 ((gl xp k).1)) rfl (y_load T20.one_2 rfl (hB46.cell (j := 0) rfl)) ?_
          refine s_y (v := .pointer (some ⟨b31, 1, none⟩)) rfl (y_fld (o := 0) T20.fld_33_1_1 rfl) ?_
          refine s_y (v := .int .i64 ((gl xp k).2)) rfl (y_load T20.one_2 rfl (hB46.cell (j := 1) rfl)) ?_
          refine s_k rfl (k_call T20.fn_67 (c_i_isCell _ (by omega) (by omega) (by omega) (by omega)) rfl ?_)
          rintro v54 w52 ⟨hv55, e53⟩
          have hB56 := hB47.ext0 e53
          have hB57 := hB46.ext0 e53
          have hS58 := hS48.ext0 e53
          have hS59 := hS49.ext0 e53
          have hS60 := hS50.ext0 e53
          have E61 := E51.fresh e53 (fun _ h _ => h.elim)
          by_cases c62 : cellB wd hi ((gl xp k).1) ((gl xp k).2) = true
          · have hb63 := cellB_b c62
            obtain rfl : v54 = .bool true := hv55.trans (congrArg Value.bool c62)
            refine s_y (v := .bool false) rfl (y_not rfl rfl) ?_
            refine s_nil ?_
            refine W_if_f (by decide) rfl ?_
            refine W_skip ?_
            refine W_region (by kernel_rfl) ?_
            refine s_y (v := .int .i64 (k + 1)) rfl (y_add rfl rfl rfl (by omega)) ?_
            refine s_y (v := .int .i64 (k + 1)) rfl (y_move rfl) ?_
            refine s_nil ?_
            refine ⟨⟨_, k + 1, Fits.eq ⟨rfl, rfl, rfl, rfl, trivial⟩, E61, hB56, hS58, hS59, hS60, (by omega), (by omega), (allI_more (p := fun i => cellB wd hi (gl xp i).1 (gl xp i).2) hq (by assumption))⟩, ?_⟩
            show ((np : Int) - (k + 1)).toNat < ((np : Int) - k).toNat
            omega
          · obtain rfl : v54 = .bool false := hv55.trans (congrArg Value.bool (Bool.eq_false_iff.2 c62))
            refine s_y (v := .bool true) rfl (y_not rfl rfl) ?_
            refine s_nil ?_
            refine W_if_t (by decide) rfl ?_
            refine W_seq ?_
            refine W_region (by kernel_rfl) ?_
            refine s_y (v := .bool false) rfl (y_assign rfl) ?_
            refine s_nil ?_
            refine W_ret ?_
            refine ret1 rfl rfl rfl ⟨_, rfl, ?_⟩
            exact ⟨congrArg Value.bool (probesB_no (i := k) (by omega) (by omega) (by assumption)).symm, E61⟩
        · refine s_y (v := .bool false) rfl (y_lss rfl rfl (decide_eq_false c30)) ?_
          refine s_nil ?_
          refine W_seq ?_
          refine W_if_f (by decide) rfl ?_
          refine W_exit ?_
          refine W_seq ?_
          refine W_region (by kernel_rfl) ?_
          refine s_y (v := .bool true) rfl (y_assign rfl) ?_
          refine s_nil ?_
          refine W_ret ?_
          refine ret1 rfl rfl rfl ⟨_, rfl, ?_⟩
          exact ⟨congrArg Value.bool (probesB_yes (by assumption) (by omega) (fun i h0 h1 => hq i h0 (by omega))).symm, E24⟩
  · obtain rfl : v13 = .bool false := hv14.trans (congrArg Value.bool (Bool.eq_false_iff.2 c20))
    refine s_y (v := .bool true) rfl (y_not rfl rfl) ?_
    refine s_y (v := .bool true) rfl (y_move rfl) ?_
    refine s_skip rfl ?_
    refine s_skip rfl ?_
    refine s_skip rfl ?_
    refine s_y (v := .bool true) rfl (y_pick_t rfl rfl) ?_
    refine s_nil ?_
    refine W_if_t (by decide) rfl ?_
    refine W_seq ?_
    refine W_region (by kernel_rfl) ?_
    refine s_y (v := .bool false) rfl (y_assign rfl) ?_
    refine s_nil ?_
    refine W_ret ?_
    refine ret1 rfl rfl rfl ⟨_, rfl, ?_⟩
    exact ⟨congrArg Value.bool (by first | exact (probesB_n1 (by assumption)).symm | exact (probesB_n2 (by omega)).symm), E19⟩
namespace T45
theorem mx : Try.prog.follows .mixedOrders = true := by kernel_rfl
theorem bool_4 : Try.prog.underlying 4 = some .bool := by kernel_rfl
end T45
set_option maxRecDepth 100000 in
set_option maxHeartbeats 4000000 in
theorem c_l_sameFloat (a b A : Nat) (ha : can .f64 a = A) (hb : can .f64 b = A) (w : World) :
    Calls Try.prog 45 #[.float .f64 a, .float .f64 b] w (Rt fun v w' => v = .bool true ∧ Ext0 w w') := by
  have E0 : Ext no w w := Ext.refl _ _
  refine calls_W (n := 37) Try.func45 rfl rfl (Nat.le_of_ble_eq_true rfl) ?_
  refine W_seq ?_
  refine W_region (by kernel_rfl) ?_
  refine s_y (v := .bool false) rfl (y_assign rfl) ?_
  refine s_nil ?_
  refine W_seq ?_
  refine W_seq ?_
  refine W_region (by kernel_rfl) ?_
  refine s_y (v := .float .f64 a) rfl (y_move rfl) ?_
  refine s_y (v := .float .f64 a) rfl (y_move rfl) ?_
  by_cases c1 : fne .f64 A A = true
  · refine s_y (v := .bool true) rfl (y_fneq rfl rfl (fneC ha ha c1)) ?_
    refine s_y (v := .bool true) rfl (y_move rfl) ?_
    refine s_skip rfl ?_
    refine s_skip rfl ?_
    refine s_skip rfl ?_
    refine s_y (v := .bool true) rfl (y_pick_t rfl rfl) ?_
    refine s_nil ?_
    refine W_if_t (by decide) rfl ?_
    refine W_seq ?_
    refine W_region (by kernel_rfl) ?_
    refine s_y (v := .float .f64 a) rfl (y_move rfl) ?_
    refine s_y (v := .float .f64 a) rfl (y_move rfl) ?_
    refine s_y (v := .bool true) rfl (y_fneq rfl rfl (fneC ha ha c1)) ?_
    refine s_y (v := .bool true) rfl (y_move rfl) ?_
    refine s_y (v := .float .f64 b) rfl (y_move rfl) ?_
    refine s_y (v := .float .f64 b) rfl (y_move rfl) ?_
    refine s_y (v := .bool true) rfl (y_fneq rfl rfl (fneC hb hb c1)) ?_
    refine s_y (v := .bool true) rfl (y_pick_t rfl rfl) ?_
    refine s_y (v := .bool true) rfl (y_assign rfl) ?_
    refine s_nil ?_
    refine W_ret ?_
    refine ret1 rfl rfl rfl ⟨_, rfl, ?_⟩
    exact ⟨rfl, E0⟩
  · refine s_y (v := .bool false) rfl (y_fneq rfl rfl (fneC ha ha (Bool.eq_false_iff.2 c1))) ?_
    refine s_y (v := .bool false) rfl (y_move rfl) ?_
    refine s_y (v := .float .f64 b) rfl (y_move rfl) ?_
    refine s_y (v := .float .f64 b) rfl (y_move rfl) ?_
    refine s_y (v := .bool false) rfl (y_fneq rfl rfl (fneC hb hb (Bool.eq_false_iff.2 c1))) ?_
    refine s_y (v := .bool false) rfl (y_pick_f rfl rfl) ?_
    refine s_nil ?_
    refine W_if_f (by decide) rfl ?_
    refine W_skip ?_
    refine W_seq ?_
    refine W_seq ?_
    refine W_region (by kernel_rfl) ?_
    refine s_y (v := .float .f64 a) rfl (y_move rfl) ?_
    by_cases c2 : feq .f64 A 0 = true
    · refine s_y (v := .bool true) rfl (y_feql rfl rfl (feqC ha (show can .f64 0 = 0 by kernel_rfl) c2)) ?_
      refine s_y (v := .bool true) rfl (y_move rfl) ?_
      refine s_y (v := .float .f64 b) rfl (y_move rfl) ?_
      refine s_y (v := .bool true) rfl (y_feql rfl rfl (feqC hb (show can .f64 0 = 0 by kernel_rfl) c2)) ?_
      refine s_y (v := .bool true) rfl (y_pick_t rfl rfl) ?_
      refine s_nil ?_
      refine W_if_t (by decide) rfl ?_
      refine W_seq ?_
      refine W_region (by kernel_rfl) ?_
      refine s_y (v := .float .f64 a) rfl (y_move rfl) ?_
      refine s_n rfl (n_arith (by decide) rfl rfl) ?_
      rintro _ w6 e7 ⟨r4, rfl, hr5⟩
      have E8 := E0.fresh e7 (fun _ h _ => h.elim)
      have hc9 := fopC hr5 (show can .f64 4607182418800017408 = 4607182418800017408 by kernel_rfl) ha
      by_cases c10 : fgt .f64 (fop .quo .f64 4607182418800017408 A) 0 = true
      · refine s_y (v := .bool true) rfl (y_fgtr rfl rfl (fgtC hc9 (show can .f64 0 = 0 by kernel_rfl) c10)) ?_
        refine s_y (v := .float .f64 b) rfl (y_move rfl) ?_
        refine s_n rfl (n_arith (by decide) rfl rfl) ?_
        rintro _ w14 e15 ⟨r12, rfl, hr13⟩
        have E16 := E8.fresh e15 (fun _ h _ => h.elim)
        have hc17 := fopC hr13 (show can .f64 4607182418800017408 = 4607182418800017408 by kernel_rfl) hb
        refine s_y (v := .bool true) rfl (y_fgtr rfl rfl (fgtC hc17 (show can .f64 0 = 0 by kernel_rfl) c10)) ?_
        refine s_y (v := .bool true) rfl (y_beql T45.bool_4 rfl rfl rfl) ?_
        refine s_y (v := .bool true) rfl (y_assign rfl) ?_
        refine s_nil ?_
        refine W_ret ?_
        refine ret1 rfl rfl rfl ⟨_, rfl, ?_⟩
        exact ⟨rfl, E16⟩
      · refine s_y (v := .bool false) rfl (y_fgtr rfl rfl (fgtC hc9 (show can .f64 0 = 0 by kernel_rfl) (Bool.eq_false_iff.2 c10))) ?_
        refine s_y (v := .float .f64 b) rfl (y_move rfl) ?_
        refine s_n rfl (n_arith (by decide) rfl rfl) ?_
        rintro _ w21 e22 ⟨r19, rfl, hr20⟩
        have E23 := E8.fresh e22 (fun _ h _ => h.elim)
        have hc24 := fopC hr20 (show can .f64 4607182418800017408 = 4607182418800017408 by kernel_rfl) hb
        refine s_y (v := .bool false) rfl (y_fgtr rfl rfl (fgtC hc24 (show can .f64 0 = 0 by kernel_rfl) (Bool.eq_false_iff.2 c10))) ?_
        refine s_y (v := .bool true) rfl (y_beql T45.bool_4 rfl rfl rfl) ?_
        refine s_y (v := .bool true) rfl (y_assign rfl) ?_
        refine s_nil ?_
        refine W_ret ?_
        refine ret1 rfl rfl rfl ⟨_, rfl, ?_⟩
        exact ⟨rfl, E23⟩
    · refine s_y (v := .bool false) rfl (y_feql rfl rfl (feqC ha (show can .f64 0 = 0 by kernel_rfl) (Bool.eq_false_iff.2 c2))) ?_
      refine s_y (v := .bool false) rfl (y_move rfl) ?_
      refine s_skip rfl ?_
      refine s_skip rfl ?_
      refine s_y (v := .bool false) rfl (y_pick_f rfl rfl) ?_
      refine s_nil ?_
      refine W_if_f (by decide) rfl ?_
      refine W_skip ?_
      refine W_seq ?_
      refine W_region (by kernel_rfl) ?_
      refine s_y (v := .float .f64 a) rfl (y_move rfl) ?_
      refine s_y (v := .float .f64 b) rfl (y_move rfl) ?_
      by_cases c25 : feq .f64 A A = true
      · refine s_y (v := .bool true) rfl (y_feql rfl rfl (feqC ha hb c25)) ?_
        refine s_y (v := .bool true) rfl (y_assign rfl) ?_
        refine s_nil ?_
        refine W_ret ?_
        refine ret1 rfl rfl rfl ⟨_, rfl, ?_⟩
        exact ⟨rfl, E0⟩
      · refine s_y (v := .bool false) rfl (y_feql rfl rfl (feqC ha hb (Bool.eq_false_iff.2 c25))) ?_
        refine s_y (v := .bool false) rfl (y_assign rfl) ?_
        refine s_nil ?_
        refine W_ret ?_
        refine ret1 rfl rfl rfl ⟨_, rfl, ?_⟩
        exfalso; simp_all [fne, feq]
namespace T71
theorem mx : Try.prog.follows .mixedOrders = true := by kernel_rfl
theorem flt_68_f64 : Try.prog.underlying 68 = some (.float .f64) := by kernel_rfl
theorem fn_45 : fnB Try.prog 45 = true := by kernel_rfl
theorem one_62 : oneB Try.prog 62 = true := by kernel_rfl
theorem sl_24_62_1 : slB Try.prog 24 62 1 = true := by kernel_rfl
theorem und_62 : (Try.prog.underlying 62).isSome = true := by kernel_rfl
end T71
set_option maxRecDepth 100000 in
set_option maxHeartbeats 4000000 in
theorem c_l_eqFloat32S {a a2 : Option Addr} {n m cc c2 : Nat} {x y X : List Nat} (w : World) (h1 : Sl w a (flts x)) (l1 : x.length = n) (k1 : cn x = X) (h2 : Sl w a2 (flts y)) (l2 : y.length = m) (k2 : cn y = X) (hb : n ≤ 9223372036854775806) :
    Calls Try.prog 71 #[.slice a n cc, .slice a2 m c2] w (Rt fun v w' => v = .bool true ∧ Ext0 w w') := by
  have E0 : Ext no w w := Ext.refl _ _
  have lx := cn_lenX k1
  have ly := cn_lenX k2
  have lo_a := Sl.low h1
  have lo_a2 := Sl.low h2
  refine calls_W (n := 29) Try.func71 rfl rfl (Nat.le_of_ble_eq_true rfl) ?_
  refine W_seq ?_
  refine W_region (by kernel_rfl) ?_
  refine s_y (v := .bool false) rfl (y_assign rfl) ?_
  refine s_nil ?_
  refine W_seq ?_
  refine W_seq ?_
  refine W_region (by kernel_rfl) ?_
  refine s_y (v := .slice a n cc) rfl (y_move rfl) ?_
  refine s_y (v := .int .i64 ((n : Nat) : Int)) rfl (y_len T71.sl_24_62_1 rfl rfl) ?_
  refine s_y (v := .slice a2 m c2) rfl (y_move rfl) ?_
  refine s_y (v := .int .i64 ((m : Nat) : Int)) rfl (y_len T71.sl_24_62_1 rfl rfl) ?_
  by_cases c1 : ((n : Nat) : Int) ≠ ((m : Nat) : Int)
  · refine s_y (v := .bool true) rfl (y_neq rfl rfl (decide_eq_true c1)) ?_
    refine s_nil ?_
    refine W_if_t (by decide) rfl ?_
    refine W_seq ?_
    refine W_region (by kernel_rfl) ?_
    refine s_y (v := .bool false) rfl (y_assign rfl) ?_
    refine s_nil ?_
    refine W_ret ?_
    refine ret1 rfl rfl rfl ⟨_, rfl, ?_⟩
    omega
  · refine s_y (v := .bool false) rfl (y_neq rfl rfl (decide_eq_false c1)) ?_
    refine s_nil ?_
    refine W_if_f (by decide) rfl ?_
    refine W_skip ?_
    refine W_seq ?_
    refine W_seq ?_
    refine W_region (by kernel_rfl) ?_
    refine s_y (v := .int .i64 0) rfl (y_assign rfl) ?_
    refine s_nil ?_
    refine W_block ?_
-- loop drops slots [4]
    refine W_loop (fun ρ' w' => ∃ (ρ1 : Env) (k : Int), ρ' = updL ρ1 [(0, .slice a n cc), (1, .slice a2 m c2), (5, .int .i64 k)] ∧ Ext no w w' ∧ Sl w' a (flts x) ∧ Sl w' a2 (flts y) ∧ (0 ≤ k) ∧ (k ≤ (n : Int))) (fun ρ' _ => ((n : Int) - iv (ρ' 5)).toNat) ?_ ?_
    · exact ⟨_, 0, Fits.eq ⟨rfl, rfl, rfl, trivial⟩, E0, h1, h2, (Int.le_refl _), (by omega)⟩
    · rintro _ w2 ⟨ρ6, k, rfl, E3, hS4, hS5, h0k, h1k⟩
      refine W_seq ?_
      refine W_seq ?_
      refine W_region (by kernel_rfl) ?_
      refine s_y (v := .int .i64 k) rfl (y_move rfl) ?_
      refine s_y (v := .slice a n cc) rfl (y_move rfl) ?_
      refine s_y (v := .int .i64 ((n : Nat) : Int)) rfl (y_len T71.sl_24_62_1 rfl rfl) ?_
      by_cases c7 : k < ((n : Nat) : Int)
      · refine s_y (v := .bool true) rfl (y_lss rfl rfl (decide_eq_true c7)) ?_
        refine s_nil ?_
        refine W_if_t (by decide) rfl ?_
        refine W_skip ?_
        refine W_seq ?_
        refine W_block ?_
        refine W_seq ?_
        refine W_draw (no) T71.mx (by kernel_rfl) (fun w8 e9 => ?_)
        have hS10 := hS4.ext0 e9
        have hS11 := hS5.ext0 e9
        have E12 := E3.fresh e9 (fun _ h _ => h.elim)
        have R13 := (Ext.refl (no) w2).trans (Ext0.any e9)
        refine m_y (v := .slice a n cc) 0 rfl (by kernel_rfl) rfl rfl (fun w' e' => y_move rfl) ?_
        refine m_y (v := .int .i64 k) 1 rfl (by kernel_rfl) rfl rfl (fun w' e' => y_move rfl) ?_
        refine m_y (v := .pointer (some (sat a ((k).toNat * 1)))) 2 rfl (by kernel_rfl) rfl rfl (fun w' e' => y_idx T71.sl_24_62_1 rfl rfl (hS10.addr (by rw [flts_length]; omega)) (by omega) (by omega)) ?_
        refine m_y (v := .float .f32 (el x k)) 3 rfl (by kernel_rfl) rfl rfl (fun w' e' => y_load T71.one_62 rfl ((hS4.ext0 e').cell (fl_at (by omega) (by omega)))) ?_
        refine m_y (v := .slice a2 m c2) 5 rfl (by kernel_rfl) rfl rfl (fun w' e' => y_move rfl) ?_
        refine m_y (v := .int .i64 k) 6 rfl (by kernel_rfl) rfl rfl (fun w' e' => y_move rfl) ?_
        refine m_y (v := .pointer (some (sat a2 ((k).toNat * 1)))) 7 rfl (by kernel_rfl) rfl rfl (fun w' e' => y_idx T71.sl_24_62_1 rfl rfl (hS11.addr (by rw [flts_length]; omega)) (by omega) (by omega)) ?_
        refine m_y (v := .float .f32 (el y k)) 8 rfl (by kernel_rfl) rfl rfl (fun w' e' => y_load T71.one_62 rfl ((hS5.ext0 e').cell (fl_at (by omega) (by omega)))) ?_
        refine m_n 4 [10, 11] rfl (by kernel_rfl) rfl rfl (fun w' e' => n_wide T71.und_62 T71.flt_68_f64 rfl) ?_
        rintro _ ⟨r14, rfl, hr15⟩
        have hc18 := wideC hr15 (cn_el k1 k)
        refine m_n 9 [10, 11] rfl (by kernel_rfl) rfl rfl (fun w' e' => n_wide T71.und_62 T71.flt_68_f64 rfl) ?_
        rintro _ ⟨r19, rfl, hr20⟩
        have hc23 := wideC hr20 (cn_el k2 k)
        refine m_k 10 [11] rfl (by kernel_rfl) rfl rfl (fun w24 e25 => ?_)
        have hS26 := hS10.ext0 e25
        have hS27 := hS11.ext0 e25
        have E28 := E12.fresh e25 (fun _ h _ => h.elim)
        have R29 := R13.trans (Ext0.any e25)
        refine k_call T71.fn_45 (c_l_sameFloat _ _ _ hc18 hc23 _) rfl ?_
        rintro _ w30 ⟨rfl, e31⟩
        have hS32 := hS26.ext0 e31
        have hS33 := hS27.ext0 e31
        have E34 := E28.fresh e31 (fun _ h _ => h.elim)
        have R35 := R29.trans (Ext0.any e31)
        refine ⟨fun _ => R35, ?_⟩
        refine m_y (v := .bool false) 11 rfl (by kernel_rfl) rfl rfl (fun w' e' => y_not rfl rfl) ?_
        refine m_done (by kernel_rfl) (fun w36 e37 => ?_)
        have hS38 := hS32.ext0 e37
        have hS39 := hS33.ext0 e37
        have E40 := E34.fresh e37 (fun _ h _ => h.elim)
        have R41 := R35.trans (Ext0.any e37)
        refine W_if_f (by decide) rfl ?_
        refine W_skip ?_
        refine W_region (by kernel_rfl) ?_
        refine s_y (v := .int .i64 k) rfl (y_move rfl) ?_
        refine s_y (v := .int .i64 (k + 1)) rfl (y_add rfl rfl rfl (by omega)) ?_
        refine s_y (v := .int .i64 (k + 1)) rfl (y_assign rfl) ?_
        refine s_nil ?_
        refine ⟨⟨_, k + 1, Fits.eq ⟨rfl, rfl, rfl, trivial⟩, E40, hS38, hS39, (by omega), (by omega)⟩, ?_⟩
        show ((n : Int) - (k + 1)).toNat < ((n : Int) - k).toNat
        omega
      · refine s_y (v := .bool false) rfl (y_lss rfl rfl (decide_eq_false c7)) ?_
        refine s_nil ?_
        refine W_if_f (by decide) rfl ?_
        refine W_exit ?_
        refine W_seq ?_
        refine W_region (by kernel_rfl) ?_
        refine s_y (v := .bool true) rfl (y_assign rfl) ?_
        refine s_nil ?_
        refine W_ret ?_
        refine ret1 rfl rfl rfl ⟨_, rfl, ?_⟩
        exact ⟨rfl, E3⟩
namespace T25
theorem mx : Try.prog.follows .mixedOrders = true := by kernel_rfl
theorem bool_4 : Try.prog.underlying 4 = some .bool := by kernel_rfl
theorem fld_26_0_0 : fldB Try.prog 26 0 0 = true := by kernel_rfl
theorem fld_26_1_1 : fldB Try.prog 26 1 1 = true := by kernel_rfl
theorem fld_26_2_2 : fldB Try.prog 26 2 2 = true := by kernel_rfl
theorem fld_26_3_3 : fldB Try.prog 26 3 3 = true := by kernel_rfl
theorem fld_26_4_4 : fldB Try.prog 26 4 4 = true := by kernel_rfl
theorem fn_71 : fnB Try.prog 71 = true := by kernel_rfl
theorem one_2 : oneB Try.prog 2 = true := by kernel_rfl
theorem one_24 : oneB Try.prog 24 = true := by kernel_rfl
theorem one_4 : oneB Try.prog 4 = true := by kernel_rfl
end T25
set_option maxRecDepth 100000 in
set_option maxHeartbeats 4000000 in
theorem c_l_eqSheet {wd hi : Int} {wr : Bool} {asp bsp : Option Addr} {nsp csp msp esp : Nat} {xsp ysp Xsp : List Nat} {als bls : Option Addr} {nls cls mls els : Nat} {xls yls Xls : List Nat} (w : World) (qssp : Sl w asp (flts xsp)) (qlsp : xsp.length = nsp) (qksp : cn xsp = Xsp) (rssp : Sl w bsp (flts ysp)) (rlsp : ysp.length = msp) (rksp : cn ysp = Xsp) (hbsp : nsp ≤ 9223372036854775806) (qsls : Sl w als (flts xls)) (qlls : xls.length = nls) (qkls : cn xls = Xls) (rsls : Sl w bls (flts yls)) (rlls : yls.length = mls) (rkls : cn yls = Xls) (hbls : nls ≤ 9223372036854775806) :
    Calls Try.prog 25 #[.agg #[.int .i64 wd, .int .i64 hi, .bool wr, .slice asp nsp csp, .slice als nls cls], .agg #[.int .i64 wd, .int .i64 hi, .bool wr, .slice bsp msp esp, .slice bls mls els]] w (Rt fun v w' => v = .bool true ∧ Ext0 w w') := by
  have E0 : Ext no w w := Ext.refl _ _
  have lo_asp := Sl.low qssp
  have lo_bsp := Sl.low rssp
  have lo_als := Sl.low qsls
  have lo_bls := Sl.low rsls
  refine calls_W (n := 32) Try.func25 rfl rfl (Nat.le_of_ble_eq_true rfl) ?_
  refine W_seq ?_
  refine W_region (by kernel_rfl) ?_
  refine s_k rfl (k_box (v := .agg #[.int .i64 wd, .int .i64 hi, .bool wr, .slice asp nsp csp, .slice als nls cls]) (cs := [.int .i64 wd, .int .i64 hi, .bool wr, .slice asp nsp csp, .slice als nls cls]) rfl rfl (fun b1 w2 q4 e3 hB5 => ?_))
  have hS6 := qssp.ext0 e3
  have hS7 := rssp.ext0 e3
  have hS8 := qsls.ext0 e3
  have hS9 := rsls.ext0 e3
  have E10 := E0.fresh e3 (fun _ h _ => h.elim)
  have fr11 : NotLt b1 w.heap.size := fun h => Nat.not_lt.2 (Nat.le_trans E0.size (Nat.le_of_eq q4.symm)) h
  clear q4
  refine s_k rfl (k_box (v := .agg #[.int .i64 wd, .int .i64 hi, .bool wr, .slice bsp msp esp, .slice bls mls els]) (cs := [.int .i64 wd, .int .i64 hi, .bool wr, .slice bsp msp esp, .slice bls mls els]) rfl rfl (fun b12 w13 q15 e14 hB16 => ?_))
  have hB17 := hB5.ext0 e14
  have hS18 := hS6.ext0 e14
  have hS19 := hS7.ext0 e14
  have hS20 := hS8.ext0 e14
  have hS21 := hS9.ext0 e14
  have E22 := E10.fresh e14 (fun _ h _ => h.elim)
  have dj23 : NeB b1 b12 := fun h => Nat.ne_of_lt hB5.lt (h.trans q15)
  have fr24 : NotLt b12 w.heap.size := fun h => Nat.not_lt.2 (Nat.le_trans E10.size (Nat.le_of_eq q15.symm)) h
  clear q15
  refine s_y (v := .bool false) rfl (y_assign rfl) ?_
  refine s_nil ?_
  refine W_seq ?_
  refine W_seq ?_
  refine W_region (by kernel_rfl) ?_
  refine s_y (v := .pointer (some ⟨b1, 0, none⟩)) rfl (y_fld (o := 0) T25.fld_26_0_0 rfl) ?_
  refine s_y (v := .int .i64 wd) rfl (y_load T25.one_2 rfl (hB17.cell (j := 0) rfl)) ?_
  refine s_y (v := .pointer (some ⟨b12, 0, none⟩)) rfl (y_fld (o := 0) T25.fld_26_0_0 rfl) ?_
  refine s_y (v := .int .i64 wd) rfl (y_load T25.one_2 rfl (hB16.cell (j := 0) rfl)) ?_
  refine s_y (v := .bool false) rfl (y_neq rfl rfl (decide_eq_false (fun hq => hq rfl))) ?_
  refine s_nil ?_
  refine W_if_f (by decide) rfl ?_
  refine W_skip ?_
  refine W_seq ?_
  refine W_seq ?_
  refine W_region (by kernel_rfl) ?_
  refine s_y (v := .pointer (some ⟨b1, 1, none⟩)) rfl (y_fld (o := 0) T25.fld_26_1_1 rfl) ?_
  refine s_y (v := .int .i64 hi) rfl (y_load T25.one_2 rfl (hB17.cell (j := 1) rfl)) ?_
  refine s_y (v := .pointer (some ⟨b12, 1, none⟩)) rfl (y_fld (o := 0) T25.fld_26_1_1 rfl) ?_
  refine s_y (v := .int .i64 hi) rfl (y_load T25.one_2 rfl (hB16.cell (j := 1) rfl)) ?_
  refine s_y (v := .bool false) rfl (y_neq rfl rfl (decide_eq_false (fun hq => hq rfl))) ?_
  refine s_nil ?_
  refine W_if_f (by decide) rfl ?_
  refine W_skip ?_
  refine W_seq ?_
  refine W_seq ?_
  refine W_region (by kernel_rfl) ?_
  refine s_y (v := .pointer (some ⟨b1, 2, none⟩)) rfl (y_fld (o := 0) T25.fld_26_2_2 rfl) ?_
  refine s_y (v := .bool wr) rfl (y_load T25.one_4 rfl (hB17.cell (j := 2) rfl)) ?_
  refine s_y (v := .pointer (some ⟨b12, 2, none⟩)) rfl (y_fld (o := 0) T25.fld_26_2_2 rfl) ?_
  refine s_y (v := .bool wr) rfl (y_load T25.one_4 rfl (hB16.cell (j := 2) rfl)) ?_
  refine s_y (v := .bool false) rfl (y_bneq T25.bool_4 rfl rfl (by simp)) ?_
  refine s_nil ?_
  refine W_if_f (by decide) rfl ?_
  refine W_skip ?_
  refine W_seq ?_
  refine W_seq ?_
  refine W_region (by kernel_rfl) ?_
  refine s_y (v := .pointer (some ⟨b1, 3, none⟩)) rfl (y_fld (o := 0) T25.fld_26_3_3 rfl) ?_
  refine s_y (v := .slice asp nsp csp) rfl (y_load T25.one_24 rfl (hB17.cell (j := 3) rfl)) ?_
  refine s_y (v := .pointer (some ⟨b12, 3, none⟩)) rfl (y_fld (o := 0) T25.fld_26_3_3 rfl) ?_
  refine s_y (v := .slice bsp msp esp) rfl (y_load T25.one_24 rfl (hB16.cell (j := 3) rfl)) ?_
  refine s_k rfl (k_call T25.fn_71 (c_l_eqFloat32S _ hS18 qlsp qksp hS19 rlsp rksp (by omega)) rfl ?_)
  rintro _ w25 ⟨rfl, e26⟩
  have hB27 := hB17.ext0 e26
  have hB28 := hB16.ext0 e26
  have hS29 := hS18.ext0 e26
  have hS30 := hS19.ext0 e26
  have hS31 := hS20.ext0 e26
  have hS32 := hS21.ext0 e26
  have E33 := E22.fresh e26 (fun _ h _ => h.elim)
  refine s_y (v := .bool false) rfl (y_not rfl rfl) ?_
  refine s_nil ?_
  refine W_if_f (by decide) rfl ?_
  refine W_skip ?_
  refine W_seq ?_
  refine W_seq ?_
  refine W_region (by kernel_rfl) ?_
  refine s_y (v := .pointer (some ⟨b1, 4, none⟩)) rfl (y_fld (o := 0) T25.fld_26_4_4 rfl) ?_
  refine s_y (v := .slice als nls cls) rfl (y_load T25.one_24 rfl (hB27.cell (j := 4) rfl)) ?_
  refine s_y (v := .pointer (some ⟨b12, 4, none⟩)) rfl (y_fld (o := 0) T25.fld_26_4_4 rfl) ?_
  refine s_y (v := .slice bls mls els) rfl (y_load T25.one_24 rfl (hB28.cell (j := 4) rfl)) ?_
  refine s_k rfl (k_call T25.fn_71 (c_l_eqFloat32S _ hS31 qlls qkls hS32 rlls rkls (by omega)) rfl ?_)
  rintro _ w34 ⟨rfl, e35⟩
  have hB36 := hB27.ext0 e35
  have hB37 := hB28.ext0 e35
  have hS38 := hS29.ext0 e35
  have hS39 := hS30.ext0 e35
  have hS40 := hS31.ext0 e35
  have hS41 := hS32.ext0 e35
  have E42 := E33.fresh e35 (fun _ h _ => h.elim)
  refine s_y (v := .bool false) rfl (y_not rfl rfl) ?_
  refine s_nil ?_
  refine W_if_f (by decide) rfl ?_
  refine W_skip ?_
  refine W_seq ?_
  refine W_region (by kernel_rfl) ?_
  refine s_y (v := .bool true) rfl (y_assign rfl) ?_
  refine s_nil ?_
  refine W_ret ?_
  refine ret1 rfl rfl rfl ⟨_, rfl, ?_⟩
  exact ⟨rfl, E42⟩
namespace T78
theorem mx : Try.prog.follows .mixedOrders = true := by kernel_rfl
theorem fld_33_0_0 : fldB Try.prog 33 0 0 = true := by kernel_rfl
theorem fld_33_1_1 : fldB Try.prog 33 1 1 = true := by kernel_rfl
theorem one_2 : oneB Try.prog 2 = true := by kernel_rfl
end T78
set_option maxRecDepth 100000 in
set_option maxHeartbeats 4000000 in
theorem c_l_eqProbe {px py : Int} (w : World) :
    Calls Try.prog 78 #[.agg #[.int .i64 px, .int .i64 py], .agg #[.int .i64 px, .int .i64 py]] w (Rt fun v w' => v = .bool true ∧ Ext0 w w') := by
  have E0 : Ext no w w := Ext.refl _ _
  refine calls_W (n := 15) Try.func78 rfl rfl (Nat.le_of_ble_eq_true rfl) ?_
  refine W_seq ?_
  refine W_region (by kernel_rfl) ?_
  refine s_k rfl (k_box (v := .agg #[.int .i64 px, .int .i64 py]) (cs := [.int .i64 px, .int .i64 py]) rfl rfl (fun b1 w2 q4 e3 hB5 => ?_))
  have E6 := E0.fresh e3 (fun _ h _ => h.elim)
  have fr7 : NotLt b1 w.heap.size := fun h => Nat.not_lt.2 (Nat.le_trans E0.size (Nat.le_of_eq q4.symm)) h
  clear q4
  refine s_k rfl (k_box (v := .agg #[.int .i64 px, .int .i64 py]) (cs := [.int .i64 px, .int .i64 py]) rfl rfl (fun b8 w9 q11 e10 hB12 => ?_))
  have hB13 := hB5.ext0 e10
  have E14 := E6.fresh e10 (fun _ h _ => h.elim)
  have dj15 : NeB b1 b8 := fun h => Nat.ne_of_lt hB5.lt (h.trans q11)
  have fr16 : NotLt b8 w.heap.size := fun h => Nat.not_lt.2 (Nat.le_trans E6.size (Nat.le_of_eq q11.symm)) h
  clear q11
  refine s_y (v := .bool false) rfl (y_assign rfl) ?_
  refine s_nil ?_
  refine W_seq ?_
  refine W_seq ?_
  refine W_region (by kernel_rfl) ?_
  refine s_y (v := .pointer (some ⟨b1, 0, none⟩)) rfl (y_fld (o := 0) T78.fld_33_0_0 rfl) ?_
  refine s_y (v := .int .i64 px) rfl (y_load T78.one_2 rfl (hB13.cell (j := 0) rfl)) ?_
  refine s_y (v := .pointer (some ⟨b8, 0, none⟩)) rfl (y_fld (o := 0) T78.fld_33_0_0 rfl) ?_
  refine s_y (v := .int .i64 px) rfl (y_load T78.one_2 rfl (hB12.cell (j := 0) rfl)) ?_
  refine s_y (v := .bool false) rfl (y_neq rfl rfl (decide_eq_false (fun hq => hq rfl))) ?_
  refine s_nil ?_
  refine W_if_f (by decide) rfl ?_
  refine W_skip ?_
  refine W_seq ?_
  refine W_seq ?_
  refine W_region (by kernel_rfl) ?_
  refine s_y (v := .pointer (some ⟨b1, 1, none⟩)) rfl (y_fld (o := 0) T78.fld_33_1_1 rfl) ?_
  refine s_y (v := .int .i64 py) rfl (y_load T78.one_2 rfl (hB13.cell (j := 1) rfl)) ?_
  refine s_y (v := .pointer (some ⟨b8, 1, none⟩)) rfl (y_fld (o := 0) T78.fld_33_1_1 rfl) ?_
  refine s_y (v := .int .i64 py) rfl (y_load T78.one_2 rfl (hB12.cell (j := 1) rfl)) ?_
  refine s_y (v := .bool false) rfl (y_neq rfl rfl (decide_eq_false (fun hq => hq rfl))) ?_
  refine s_nil ?_
  refine W_if_f (by decide) rfl ?_
  refine W_skip ?_
  refine W_seq ?_
  refine W_region (by kernel_rfl) ?_
  refine s_y (v := .bool true) rfl (y_assign rfl) ?_
  refine s_nil ?_
  refine W_ret ?_
  refine ret1 rfl rfl rfl ⟨_, rfl, ?_⟩
  exact ⟨rfl, E14⟩
namespace T34
theorem mx : Try.prog.follows .mixedOrders = true := by kernel_rfl
theorem agg_33_2 : aggB Try.prog 33 2 = true := by kernel_rfl
theorem fn_78 : fnB Try.prog 78 = true := by kernel_rfl
theorem sl_29_33_2 : slB Try.prog 29 33 2 = true := by kernel_rfl
end T34
set_option maxRecDepth 100000 in
set_option maxHeartbeats 4000000 in
theorem c_l_eqProbeS {a a2 : Option Addr} {n m cc c2 : Nat} {x : List (Int × Int)} (w : World) (h1 : Sl w a (flat prC x)) (l1 : x.length = n) (h2 : Sl w a2 (flat prC x)) (l2 : x.length = m) (hb : n ≤ 9223372036854775806) :
    Calls Try.prog 34 #[.slice a n cc, .slice a2 m c2] w (Rt fun v w' => v = .bool true ∧ Ext0 w w') := by
  have E0 : Ext no w w := Ext.refl _ _
  have lo_a := Sl.low h1
  have lo_a2 := Sl.low h2
  refine calls_W (n := 27) Try.func34 rfl rfl (Nat.le_of_ble_eq_true rfl) ?_
  refine W_seq ?_
  refine W_region (by kernel_rfl) ?_
  refine s_y (v := .bool false) rfl (y_assign rfl) ?_
  refine s_nil ?_
  refine W_seq ?_
  refine W_seq ?_
  refine W_region (by kernel_rfl) ?_
  refine s_y (v := .slice a n cc) rfl (y_move rfl) ?_
  refine s_y (v := .int .i64 ((n : Nat) : Int)) rfl (y_len T34.sl_29_33_2 rfl rfl) ?_
  refine s_y (v := .slice a2 m c2) rfl (y_move rfl) ?_
  refine s_y (v := .int .i64 ((m : Nat) : Int)) rfl (y_len T34.sl_29_33_2 rfl rfl) ?_
  by_cases c1 : ((n : Nat) : Int) ≠ ((m : Nat) : Int)
  · refine s_y (v := .bool true) rfl (y_neq rfl rfl (decide_eq_true c1)) ?_
    refine s_nil ?_
    refine W_if_t (by decide) rfl ?_
    refine W_seq ?_
    refine W_region (by kernel_rfl) ?_
    refine s_y (v := .bool false) rfl (y_assign rfl) ?_
    refine s_nil ?_
    refine W_ret ?_
    refine ret1 rfl rfl rfl ⟨_, rfl, ?_⟩
    omega
  · refine s_y (v := .bool false) rfl (y_neq rfl rfl (decide_eq_false c1)) ?_
    refine s_nil ?_
    refine W_if_f (by decide) rfl ?_
    refine W_skip ?_
    refine W_seq ?_
    refine W_seq ?_
    refine W_region (by kernel_rfl) ?_
    refine s_y (v := .int .i64 0) rfl (y_assign rfl) ?_
    refine s_nil ?_
    refine W_block ?_
-- loop drops slots [4]
    refine W_loop (fun ρ' w' => ∃ (ρ1 : Env) (k : Int), ρ' = updL ρ1 [(0, .slice a n cc), (1, .slice a2 m c2), (5, .int .i64 k)] ∧ Ext no w w' ∧ Sl w' a (flat prC x) ∧ Sl w' a2 (flat prC x) ∧ (0 ≤ k) ∧ (k ≤ (n : Int))) (fun ρ' _ => ((n : Int) - iv (ρ' 5)).toNat) ?_ ?_
    · exact ⟨_, 0, Fits.eq ⟨rfl, rfl, rfl, trivial⟩, E0, h1, h2, (Int.le_refl _), (by omega)⟩
    · rintro _ w2 ⟨ρ6, k, rfl, E3, hS4, hS5, h0k, h1k⟩
      refine W_seq ?_
      refine W_seq ?_
      refine W_region (by kernel_rfl) ?_
      refine s_y (v := .int .i64 k) rfl (y_move rfl) ?_
      refine s_y (v := .slice a n cc) rfl (y_move rfl) ?_
      refine s_y (v := .int .i64 ((n : Nat) : Int)) rfl (y_len T34.sl_29_33_2 rfl rfl) ?_
      by_cases c7 : k < ((n : Nat) : Int)
      · refine s_y (v := .bool true) rfl (y_lss rfl rfl (decide_eq_true c7)) ?_
        refine s_nil ?_
        refine W_if_t (by decide) rfl ?_
        refine W_skip ?_
        refine W_seq ?_
        refine W_block ?_
        refine W_seq ?_
        refine W_draw (no) T34.mx (by kernel_rfl) (fun w8 e9 => ?_)
        have hS10 := hS4.ext0 e9
        have hS11 := hS5.ext0 e9
        have E12 := E3.fresh e9 (fun _ h _ => h.elim)
        have R13 := (Ext.refl (no) w2).trans (Ext0.any e9)
        refine m_y (v := .slice a n cc) 0 rfl (by kernel_rfl) rfl rfl (fun w' e' => y_move rfl) ?_
        refine m_y (v := .int .i64 k) 1 rfl (by kernel_rfl) rfl rfl (fun w' e' => y_move rfl) ?_
        refine m_y (v := .pointer (some (sat a ((k).toNat * 2)))) 2 rfl (by kernel_rfl) rfl rfl (fun w' e' => y_idx T34.sl_29_33_2 rfl rfl (hS10.addr (by rw [flat_length prC_len]; omega)) (by omega) (by omega)) ?_
        refine m_y (v := .agg #[.int .i64 ((gl x k).1), .int .i64 ((gl x k).2)]) 3 rfl (by kernel_rfl) rfl rfl (fun w' e' => y_loadEl (vs := [.int .i64 ((gl x k).1), .int .i64 ((gl x k).2)]) T34.agg_33_2 rfl rfl (by decide) (hS4.ext0 e') (flat_row prC_len (by omega) (by omega))) ?_
        refine m_y (v := .slice a2 m c2) 4 rfl (by kernel_rfl) rfl rfl (fun w' e' => y_move rfl) ?_
        refine m_y (v := .int .i64 k) 5 rfl (by kernel_rfl) rfl rfl (fun w' e' => y_move rfl) ?_
        refine m_y (v := .pointer (some (sat a2 ((k).toNat * 2)))) 6 rfl (by kernel_rfl) rfl rfl (fun w' e' => y_idx T34.sl_29_33_2 rfl rfl (hS11.addr (by rw [flat_length prC_len]; omega)) (by omega) (by omega)) ?_
        refine m_y (v := .agg #[.int .i64 ((gl x k).1), .int .i64 ((gl x k).2)]) 7 rfl (by kernel_rfl) rfl rfl (fun w' e' => y_loadEl (vs := [.int .i64 ((gl x k).1), .int .i64 ((gl x k).2)]) T34.agg_33_2 rfl rfl (by decide) (hS5.ext0 e') (flat_row prC_len (by omega) (by omega))) ?_
        refine m_k 8 [9] rfl (by kernel_rfl) rfl rfl (fun w14 e15 => ?_)
        have hS16 := hS10.ext0 e15
        have hS17 := hS11.ext0 e15
        have E18 := E12.fresh e15 (fun _ h _ => h.elim)
        have R19 := R13.trans (Ext0.any e15)
        refine k_call T34.fn_78 (c_l_eqProbe _) rfl ?_
        rintro _ w20 ⟨rfl, e21⟩
        have hS22 := hS16.ext0 e21
        have hS23 := hS17.ext0 e21
        have E24 := E18.fresh e21 (fun _ h _ => h.elim)
        have R25 := R19.trans (Ext0.any e21)
        refine ⟨fun _ => R25, ?_⟩
        refine m_y (v := .bool false) 9 rfl (by kernel_rfl) rfl rfl (fun w' e' => y_not rfl rfl) ?_
        refine m_done (by kernel_rfl) (fun w26 e27 => ?_)
        have hS28 := hS22.ext0 e27
        have hS29 := hS23.ext0 e27
        have E30 := E24.fresh e27 (fun _ h _ => h.elim)
        have R31 := R25.trans (Ext0.any e27)
        refine W_if_f (by decide) rfl ?_
        refine W_skip ?_
        refine W_region (by kernel_rfl) ?_
        refine s_y (v := .int .i64 k) rfl (y_move rfl) ?_
        refine s_y (v := .int .i64 (k + 1)) rfl (y_add rfl rfl rfl (by omega)) ?_
        refine s_y (v := .int .i64 (k + 1)) rfl (y_assign rfl) ?_
        refine s_nil ?_
        refine ⟨⟨_, k + 1, Fits.eq ⟨rfl, rfl, rfl, trivial⟩, E30, hS28, hS29, (by omega), (by omega)⟩, ?_⟩
        show ((n : Int) - (k + 1)).toNat < ((n : Int) - k).toNat
        omega
      · refine s_y (v := .bool false) rfl (y_lss rfl rfl (decide_eq_false c7)) ?_
        refine s_nil ?_
        refine W_if_f (by decide) rfl ?_
        refine W_exit ?_
        refine W_seq ?_
        refine W_region (by kernel_rfl) ?_
        refine s_y (v := .bool true) rfl (y_assign rfl) ?_
        refine s_nil ?_
        refine W_ret ?_
        refine ret1 rfl rfl rfl ⟨_, rfl, ?_⟩
        exact ⟨rfl, E3⟩
end Go.Proofs.Ytcggpjocghigcaa
