/- Walks: what the functions under FnExactArrivalOf do (part 1). Printed by a program of this claim's author. -/
import Derived.Test.YtebigoiegiaggaaF3
import Derived.Test.YtebigoiegiaggaaModel
import Derived.Test.YtebigoiegiaggaaM2
import Derived.Test.YtebigoiegiaggaaProg
open Go.Wv
namespace Go.Proofs.Ytebigoiegiaggaa
open Go.Proofs
namespace T13
theorem mx : Try.prog.follows .mixedOrders = true := by kernel_rfl
theorem one_25 : oneB Try.prog 25 = true := by kernel_rfl
theorem sl_32_25_1 : slB Try.prog 32 25 1 = true := by kernel_rfl
theorem slt_32 : SlT Try.prog 32 25 1 4 (.float .f32 0) := ⟨by kernel_rfl, by kernel_rfl, rfl, by decide⟩
theorem sz_25_1 : szB Try.prog 25 1 = true := by kernel_rfl
end T13
set_option maxRecDepth 100000 in
set_option maxHeartbeats 400000 in
theorem c_l_toFloat32S {a : Option Addr} {n c : Nat} {x X : List Nat} (w : World) (qs : Sl w a (flts x)) (ql : x.length = n) (qk : cn x = X) (hl : n ≤ 1048576) :
    Calls Try.prog 13 #[.slice a n c] w (Rt fun v w' => ∃ a', v = .slice a' n n ∧ Own w' w.heap.size a' n n 25 1 (flts x) ∧ Ext0 w w') := by
  have E0 : Ext no w w := Ext.refl _ _
  have lo_a := Sl.low qs
  refine calls_W (n := 22) Try.func13 rfl rfl (Nat.le_of_ble_eq_true rfl) ?_
  refine W_seq ?_
  refine W_region (by kernel_rfl) ?_
  refine s_y (v := .slice none 0 0) rfl (y_assign rfl) ?_
  refine s_nil ?_
  refine W_seq ?_
  refine W_region (by kernel_rfl) ?_
  refine s_y (v := .slice a n c) rfl (y_move rfl) ?_
  refine s_y (v := .int .i64 ((n : Nat) : Int)) rfl (y_len T13.sl_32_25_1 rfl rfl) ?_
  refine s_k rfl (k_mk T13.slt_32 rfl rfl (by omega) (by omega) (by omega) (fun b1 w2 q4 e3 hO5 => ?_))
  have zw2 := e3.size
  have hS6 := qs.ext0 e3
  have E7 := E0.fresh e3 (fun _ h _ => h.elim)
  have d_some_b1_0_none : ∀ k, inA (some ⟨b1, 0, none⟩) k → w.heap.size ≤ k := fun kx hk => (hO5.blk kx hk).1
  have u_some_b1_0_none : ∀ k, inA (some ⟨b1, 0, none⟩) k → k < w2.heap.size := fun kx hk => (hO5.blk kx hk).2
  have hO8 := hO5.cast rfl (made_flts ((((n : Nat) : Int)).toNat) rfl)
  have hl9 : (List.replicate ((((n : Nat) : Int)).toNat) 0).length = (((n : Nat) : Int)).toNat := List.length_replicate ..
  have hc10 := cn_zeros ((((n : Nat) : Int)).toNat)
  refine s_y (v := .slice (some ⟨b1, 0, none⟩) ((((n : Nat) : Int)).toNat) ((((n : Nat) : Int)).toNat)) rfl (y_assign rfl) ?_
  refine s_nil ?_
  refine W_seq ?_
  refine W_seq ?_
  refine W_region (by kernel_rfl) ?_
  refine s_y (v := .int .i64 0) rfl (y_assign rfl) ?_
  refine s_nil ?_
  refine W_block ?_
  refine W_loop (fun ρ' w' => ∃ (ρ1 : Env) (k : Int) (zs : List Nat), ρ' = updL ρ1 [(0, .slice a n c), (2, .slice none 0 0), (3, .slice (some ⟨b1, 0, none⟩) ((((n : Nat) : Int)).toNat) ((((n : Nat) : Int)).toNat)), (4, .int .i64 k)] ∧ Ext no w w' ∧ w2.heap.size ≤ w'.heap.size ∧ Sl w' a (flts x) ∧ Own w' w.heap.size (some ⟨b1, 0, none⟩) n n 25 1 (flts zs) ∧ (0 ≤ k) ∧ (k ≤ (n : Int)) ∧ (zs.length = n) ∧ (∀ i, 0 ≤ i → i < k → el zs i = el x i)) (fun ρ' _ => ((n : Int) - iv (ρ' 4)).toNat) ?_ ?_
  · exact ⟨_, 0, _, Fits.eq ⟨rfl, rfl, rfl, rfl, trivial⟩, E7, (by omega), hS6, hO8, (Int.le_refl _), (by omega), (by simp), (by intro i h0 h1; omega)⟩
  · rintro _ w11 ⟨ρ16, k, zs, rfl, E12, z13, hS14, hO15, h0k, h1k, hz, hq⟩
    have d_some_b1_0_none : ∀ k, inA (some ⟨b1, 0, none⟩) k → w.heap.size ≤ k := fun kx hk => (hO15.blk kx hk).1
    have u_some_b1_0_none : ∀ k, inA (some ⟨b1, 0, none⟩) k → k < w11.heap.size := fun kx hk => (hO15.blk kx hk).2
    refine W_seq ?_
    refine W_seq ?_
    refine W_region (by kernel_rfl) ?_
    refine s_y (v := .int .i64 k) rfl (y_move rfl) ?_
    refine s_y (v := .slice a n c) rfl (y_move rfl) ?_
    refine s_y (v := .int .i64 ((n : Nat) : Int)) rfl (y_len T13.sl_32_25_1 rfl rfl) ?_
    by_cases c17 : k < ((n : Nat) : Int)
    · refine s_y (v := .bool true) rfl (y_lss rfl rfl (decide_eq_true c17)) ?_
      refine s_nil ?_
      refine W_if_t (by decide) rfl ?_
      refine W_skip ?_
      refine W_seq ?_
      refine W_block ?_
      refine W_region (by kernel_rfl) ?_
      refine s_y (v := .slice (some ⟨b1, 0, none⟩) ((((n : Nat) : Int)).toNat) ((((n : Nat) : Int)).toNat)) rfl (y_move rfl) ?_
      refine s_y (v := .int .i64 k) rfl (y_move rfl) ?_
      refine s_y (v := .slice a n c) rfl (y_move rfl) ?_
      refine s_y (v := .int .i64 k) rfl (y_move rfl) ?_
      refine s_y (v := .pointer (some (sat a ((k).toNat * 1)))) rfl (y_idx T13.sl_32_25_1 rfl rfl (hS14.addr (by rw [flts_length]; omega)) (by omega) (by omega)) ?_
      refine s_y (v := .float .f32 (el x k)) rfl (y_load T13.one_25 rfl (hS14.cell (fl_at (by omega) (by omega)))) ?_
      refine s_y (v := .pointer (some (sat (some ⟨b1, 0, none⟩) ((k).toNat * 1)))) rfl (y_idx T13.sl_32_25_1 rfl rfl (hO15.sl.addr (by rw [flts_length]; omega)) (by omega) (by omega)) ?_
      refine s_k0 rfl (k_storeEl (v := .float .f32 (el x k)) T13.sz_25_1 rfl rfl rfl rfl hO15 (by rw [flts_length]; omega) (fun w18 e19 z20 hO21 => ?_))
      have zw18 := e19.size
      have hS22 := hS14.extL lo_a e19 (fun kx hs hl => by have h1 := d_some_b1_0_none kx hs; omega)
      have E23 := E12.fresh e19 (fun kx hs hl => by have h1 := d_some_b1_0_none kx hs; omega)
      have hO24 := hO21.cast rfl (flts_put zs k (el x k))
      have hl25 := (put_length zs k (el x k)).trans hz
      have hc26 := cn_put (rfl : cn zs = cn zs) (cn_el qk k) k
      refine s_nil ?_
      refine W_region (by kernel_rfl) ?_
      refine s_y (v := .int .i64 k) rfl (y_move rfl) ?_
      refine s_y (v := .int .i64 (k + 1)) rfl (y_add rfl rfl rfl (by omega)) ?_
      refine s_y (v := .int .i64 (k + 1)) rfl (y_assign rfl) ?_
      refine s_nil ?_
      refine ⟨⟨_, k + 1, _, Fits.eq ⟨rfl, rfl, rfl, rfl, trivial⟩, E23, (by omega), hS22, hO24, (by omega), (by omega), hl25, (el_same (by omega) (by omega) (by omega) hq)⟩, ?_⟩
      show ((n : Int) - (k + 1)).toNat < ((n : Int) - k).toNat
      omega
    · refine s_y (v := .bool false) rfl (y_lss rfl rfl (decide_eq_false c17)) ?_
      refine s_nil ?_
      refine W_if_f (by decide) rfl ?_
      refine W_exit ?_
      refine W_seq ?_
      refine W_region (by kernel_rfl) ?_
      refine s_y (v := .slice (some ⟨b1, 0, none⟩) ((((n : Nat) : Int)).toNat) ((((n : Nat) : Int)).toNat)) rfl (y_move rfl) ?_
      refine s_y (v := .slice (some ⟨b1, 0, none⟩) ((((n : Nat) : Int)).toNat) ((((n : Nat) : Int)).toNat)) rfl (y_assign rfl) ?_
      refine s_nil ?_
      refine W_ret ?_
      refine ret1 rfl rfl rfl ⟨_, rfl, ?_⟩
      obtain rfl : zs = x := ext_el (by omega) (fun i h0 h1 => hq i h0 (by omega))
      exact ⟨_, rfl, hO15, E12⟩
namespace T27
theorem mx : Try.prog.follows .mixedOrders = true := by kernel_rfl
end T27
set_option maxRecDepth 100000 in
set_option maxHeartbeats 400000 in
theorem c_s_l01Finite (x X : Nat) (hx : can .f32 x = X) (w : World) :
    Calls Try.prog 27 #[.float .f32 x] w (Rt fun v w' => v = .bool (finB X) ∧ Ext0 w w') := by
  have E0 : Ext no w w := Ext.refl _ _
  refine calls_W (n := 7) Try.func27 rfl rfl (Nat.le_of_ble_eq_true rfl) ?_
  refine W_seq ?_
  refine W_region (by kernel_rfl) ?_
  refine s_y (v := .bool false) rfl (y_assign rfl) ?_
  refine s_nil ?_
  refine W_seq ?_
  refine W_region (by kernel_rfl) ?_
  refine s_y (v := .float .f32 x) rfl (y_move rfl) ?_
  refine s_y (v := .float .f32 x) rfl (y_move rfl) ?_
  refine s_n rfl (n_arith (by decide) rfl rfl) ?_
  rintro _ w4 e5 ⟨r2, rfl, hr3⟩
  have zw4 := e5.size
  have E6 := E0.fresh e5 (fun _ h _ => h.elim)
  have hc7 := fopC hr3 hx hx
  by_cases c8 : feq .f32 (fop .sub .f32 X X) 0 = true
  · refine s_y (v := .bool true) rfl (y_feql rfl rfl (feqC hc7 (show can .f32 0 = 0 by kernel_rfl) c8)) ?_
    refine s_y (v := .bool true) rfl (y_assign rfl) ?_
    refine s_nil ?_
    refine W_ret ?_
    refine ret1 rfl rfl rfl ⟨_, rfl, ?_⟩
    exact ⟨congrArg Value.bool (by simp_all [finB]), E6⟩
  · refine s_y (v := .bool false) rfl (y_feql rfl rfl (feqC hc7 (show can .f32 0 = 0 by kernel_rfl) (Bool.eq_false_iff.2 c8))) ?_
    refine s_y (v := .bool false) rfl (y_assign rfl) ?_
    refine s_nil ?_
    refine W_ret ?_
    refine ret1 rfl rfl rfl ⟨_, rfl, ?_⟩
    exact ⟨congrArg Value.bool (by simp_all [finB]), E6⟩
namespace T28
theorem mx : Try.prog.follows .mixedOrders = true := by kernel_rfl
end T28
set_option maxRecDepth 100000 in
set_option maxHeartbeats 400000 in
theorem c_s_l02Size {x X : Nat} (hx : can .f32 x = X) (w : World) :
    Calls Try.prog 28 #[.float .f32 x] w (Rt fun v w' => (∃ r, v = .float .f32 r ∧ can .f32 r = szX X) ∧ Ext0 w w') := by
  have E0 : Ext no w w := Ext.refl _ _
  refine calls_W (n := 8) Try.func28 rfl rfl (Nat.le_of_ble_eq_true rfl) ?_
  refine W_seq ?_
  refine W_region (by kernel_rfl) ?_
  refine s_y (v := .float .f32 0) rfl (y_assign rfl) ?_
  refine s_nil ?_
  refine W_seq ?_
  refine W_seq ?_
  refine W_region (by kernel_rfl) ?_
  refine s_y (v := .float .f32 x) rfl (y_move rfl) ?_
  by_cases c1 : fle .f32 X 0 = true
  · refine s_y (v := .bool true) rfl (y_fleq rfl rfl (fleC hx (show can .f32 0 = 0 by kernel_rfl) c1)) ?_
    refine s_nil ?_
    refine W_if_t (by decide) rfl ?_
    refine W_seq ?_
    refine W_region (by kernel_rfl) ?_
    refine s_y (v := .float .f32 x) rfl (y_move rfl) ?_
    refine s_n rfl (n_arith (by decide) rfl rfl) ?_
    rintro _ w5 e6 ⟨r3, rfl, hr4⟩
    have zw5 := e6.size
    have E7 := E0.fresh e6 (fun _ h _ => h.elim)
    have hc8 := fopC hr4 (show can .f32 0 = 0 by kernel_rfl) hx
    refine s_y (v := .float .f32 r3) rfl (y_assign rfl) ?_
    refine s_nil ?_
    refine W_ret ?_
    refine ret1 rfl rfl rfl ⟨_, rfl, ?_⟩
    exact ⟨⟨_, rfl, hc8.trans (szX_le hx (by assumption))⟩, E7⟩
  · refine s_y (v := .bool false) rfl (y_fleq rfl rfl (fleC hx (show can .f32 0 = 0 by kernel_rfl) (Bool.eq_false_iff.2 c1))) ?_
    refine s_nil ?_
    refine W_if_f (by decide) rfl ?_
    refine W_skip ?_
    refine W_seq ?_
    refine W_region (by kernel_rfl) ?_
    refine s_y (v := .float .f32 x) rfl (y_move rfl) ?_
    refine s_y (v := .float .f32 x) rfl (y_assign rfl) ?_
    refine s_nil ?_
    refine W_ret ?_
    refine ret1 rfl rfl rfl ⟨_, rfl, ?_⟩
    exact ⟨⟨_, rfl, hx.trans (szX_gt (by assumption))⟩, E0⟩
namespace T12
theorem mx : Try.prog.follows .mixedOrders = true := by kernel_rfl
theorem fn_27 : fnB Try.prog 27 = true := by kernel_rfl
theorem fn_28 : fnB Try.prog 28 = true := by kernel_rfl
theorem one_25 : oneB Try.prog 25 = true := by kernel_rfl
theorem sl_32_25_1 : slB Try.prog 32 25 1 = true := by kernel_rfl
end T12
set_option maxRecDepth 100000 in
set_option maxHeartbeats 400000 in
theorem c_s_ArrivalOf {a : Option Addr} {n c : Nat} {x X : List Nat} {l L : Nat} (w : World) (hL : can .f32 l = L) (qs : Sl w a (flts x)) (ql : x.length = n) (qk : cn x = X) :
    Calls Try.prog 12 #[.slice a n c, .float .f32 l] w (Rt fun v w' => v = .tuple #[.int .i64 (if 0 ≤ arrI X L then arrI X L else 0), .bool (decide (0 ≤ arrI X L))] ∧ Ext0 w w') := by
  have E0 : Ext no w w := Ext.refl _ _
  have hlX := cn_lenX qk
  have lo_a := Sl.low qs
  refine calls_W (n := 33) Try.func12 rfl rfl (Nat.le_of_ble_eq_true rfl) ?_
  refine W_seq ?_
  refine W_region (by kernel_rfl) ?_
  refine s_y (v := .int .i64 0) rfl (y_assign rfl) ?_
  refine s_y (v := .bool false) rfl (y_assign rfl) ?_
  refine s_nil ?_
  refine W_seq ?_
  refine W_seq ?_
  refine W_region (by kernel_rfl) ?_
  refine s_y (v := .slice a n c) rfl (y_move rfl) ?_
  refine s_y (v := .int .i64 ((n : Nat) : Int)) rfl (y_len T12.sl_32_25_1 rfl rfl) ?_
  by_cases c1 : 64 < ((n : Nat) : Int)
  · refine s_y (v := .bool true) rfl (y_gtr rfl rfl (decide_eq_true c1)) ?_
    refine s_y (v := .bool true) rfl (y_move rfl) ?_
    refine s_skip rfl ?_
    refine s_skip rfl ?_
    refine s_skip rfl ?_
    refine s_y (v := .bool true) rfl (y_pick_t rfl rfl) ?_
    refine s_y (v := .bool true) rfl (y_move rfl) ?_
    refine s_skip rfl ?_
    refine s_skip rfl ?_
    refine s_y (v := .bool true) rfl (y_pick_t rfl rfl) ?_
    refine s_nil ?_
    refine W_if_t (by decide) rfl ?_
    refine W_seq ?_
    refine W_region (by kernel_rfl) ?_
    refine s_y (v := .int .i64 0) rfl (y_assign rfl) ?_
    refine s_y (v := .bool false) rfl (y_assign rfl) ?_
    refine s_nil ?_
    refine W_ret ?_
    refine ret2 rfl rfl rfl rfl rfl ⟨_, rfl, ?_⟩
    exact ⟨arr_no (by first | exact arrOk_len (by omega) | exact arrOk_fin (by assumption) | exact arrOk_gt (by assumption) | exact arrOk_le (by assumption)), E0⟩
  · refine s_y (v := .bool false) rfl (y_gtr rfl rfl (decide_eq_false c1)) ?_
    refine s_y (v := .bool false) rfl (y_move rfl) ?_
    refine s_y (v := .float .f32 l) rfl (y_move rfl) ?_
    refine s_k rfl (k_call T12.fn_27 (c_s_l01Finite _ _ hL _) rfl ?_)
    rintro v4 w2 ⟨hv5, e3⟩
    have zw2 := e3.size
    have hS6 := qs.ext0 e3
    have E7 := E0.fresh e3 (fun _ h _ => h.elim)
    by_cases c8 : finB L = true
    · obtain rfl : v4 = .bool true := hv5.trans (congrArg Value.bool c8)
      refine s_y (v := .bool false) rfl (y_not rfl rfl) ?_
      refine s_y (v := .bool false) rfl (y_pick_f rfl rfl) ?_
      refine s_y (v := .bool false) rfl (y_move rfl) ?_
      refine s_y (v := .float .f32 l) rfl (y_move rfl) ?_
      by_cases c9 : fle .f32 L 0 = true
      · refine s_y (v := .bool true) rfl (y_fleq rfl rfl (fleC hL (show can .f32 0 = 0 by kernel_rfl) c9)) ?_
        refine s_y (v := .bool true) rfl (y_pick_f rfl rfl) ?_
        refine s_nil ?_
        refine W_if_t (by decide) rfl ?_
        refine W_seq ?_
        refine W_region (by kernel_rfl) ?_
        refine s_y (v := .int .i64 0) rfl (y_assign rfl) ?_
        refine s_y (v := .bool false) rfl (y_assign rfl) ?_
        refine s_nil ?_
        refine W_ret ?_
        refine ret2 rfl rfl rfl rfl rfl ⟨_, rfl, ?_⟩
        exact ⟨arr_no (by first | exact arrOk_len (by omega) | exact arrOk_fin (by assumption) | exact arrOk_gt (by assumption) | exact arrOk_le (by assumption)), E7⟩
      · refine s_y (v := .bool false) rfl (y_fleq rfl rfl (fleC hL (show can .f32 0 = 0 by kernel_rfl) (Bool.eq_false_iff.2 c9))) ?_
        refine s_y (v := .bool false) rfl (y_pick_f rfl rfl) ?_
        refine s_nil ?_
        refine W_if_f (by decide) rfl ?_
        refine W_skip ?_
        refine W_seq ?_
        refine W_seq ?_
        refine W_region (by kernel_rfl) ?_
        refine s_y (v := .int .i64 0) rfl (y_assign rfl) ?_
        refine s_nil ?_
        refine W_block ?_
        have hok : arrOk X L = true := arrOk_s (by omega) (by assumption) (by assumption)
-- loop drops slots [4, 5]
        refine W_loop (fun ρ' w' => ∃ (ρ1 : Env) (k : Int), ρ' = updL ρ1 [(0, .slice a n c), (1, .float .f32 l), (6, .int .i64 k)] ∧ Ext no w w' ∧ w2.heap.size ≤ w'.heap.size ∧ Sl w' a (flts x) ∧ (0 ≤ k) ∧ (k ≤ (n : Int)) ∧ (arrI X L = firstGe X L ((n : Int) - k).toNat k)) (fun ρ' _ => ((n : Int) - iv (ρ' 6)).toNat) ?_ ?_
        · exact ⟨_, 0, Fits.eq ⟨rfl, rfl, rfl, trivial⟩, E7, (by omega), hS6, (Int.le_refl _), (by omega), (arr_start hok (by omega))⟩
        · rintro _ w10 ⟨ρ14, k, rfl, E11, z12, hS13, h0k, h1k, hM⟩
          refine W_seq ?_
          refine W_seq ?_
          refine W_region (by kernel_rfl) ?_
          refine s_y (v := .int .i64 k) rfl (y_move rfl) ?_
          refine s_y (v := .slice a n c) rfl (y_move rfl) ?_
          refine s_y (v := .int .i64 ((n : Nat) : Int)) rfl (y_len T12.sl_32_25_1 rfl rfl) ?_
          by_cases c15 : k < ((n : Nat) : Int)
          · refine s_y (v := .bool true) rfl (y_lss rfl rfl (decide_eq_true c15)) ?_
            refine s_nil ?_
            refine W_if_t (by decide) rfl ?_
            refine W_skip ?_
            refine W_seq ?_
            refine W_block ?_
            refine W_seq ?_
            refine W_region (by kernel_rfl) ?_
            refine s_y (v := .slice a n c) rfl (y_move rfl) ?_
            refine s_y (v := .int .i64 k) rfl (y_move rfl) ?_
            refine s_y (v := .pointer (some (sat a ((k).toNat * 1)))) rfl (y_idx T12.sl_32_25_1 rfl rfl (hS13.addr (by rw [flts_length]; omega)) (by omega) (by omega)) ?_
            refine s_y (v := .float .f32 (el x k)) rfl (y_load T12.one_25 rfl (hS13.cell (fl_at (by omega) (by omega)))) ?_
            refine s_k rfl (k_call T12.fn_28 (c_s_l02Size (cn_el qk k) _) rfl ?_)
            rintro _ w16 ⟨⟨r18, rfl, hr19⟩, e17⟩
            have zw16 := e17.size
            have hS20 := hS13.ext0 e17
            have E21 := E11.fresh e17 (fun _ h _ => h.elim)
            refine s_y (v := .float .f32 l) rfl (y_move rfl) ?_
            by_cases c22 : fge .f32 (szX (el X k)) L = true
            · refine s_y (v := .bool true) rfl (y_fgeq rfl rfl (fgeC hr19 hL c22)) ?_
              refine s_nil ?_
              refine W_if_t (by decide) rfl ?_
              refine W_seq ?_
              refine W_region (by kernel_rfl) ?_
              refine s_y (v := .int .i64 k) rfl (y_move rfl) ?_
              refine s_y (v := .int .i64 k) rfl (y_assign rfl) ?_
              refine s_y (v := .bool true) rfl (y_assign rfl) ?_
              refine s_nil ?_
              refine W_ret ?_
              refine ret2 rfl rfl rfl rfl rfl ⟨_, rfl, ?_⟩
              exact ⟨arr_yes (by omega) (by omega) hM (by assumption), E21⟩
            · refine s_y (v := .bool false) rfl (y_fgeq rfl rfl (fgeC hr19 hL (Bool.eq_false_iff.2 c22))) ?_
              refine s_nil ?_
              refine W_if_f (by decide) rfl ?_
              refine W_skip ?_
              refine W_region (by kernel_rfl) ?_
              refine s_y (v := .int .i64 k) rfl (y_move rfl) ?_
              refine s_y (v := .int .i64 (k + 1)) rfl (y_add rfl rfl rfl (by omega)) ?_
              refine s_y (v := .int .i64 (k + 1)) rfl (y_assign rfl) ?_
              refine s_nil ?_
              refine ⟨⟨_, k + 1, Fits.eq ⟨rfl, rfl, rfl, trivial⟩, E21, (by omega), hS20, (by omega), (by omega), (arr_step (by omega) hM (by assumption))⟩, ?_⟩
              show ((n : Int) - (k + 1)).toNat < ((n : Int) - k).toNat
              omega
          · refine s_y (v := .bool false) rfl (y_lss rfl rfl (decide_eq_false c15)) ?_
            refine s_nil ?_
            refine W_if_f (by decide) rfl ?_
            refine W_exit ?_
            refine W_seq ?_
            refine W_region (by kernel_rfl) ?_
            refine s_y (v := .int .i64 0) rfl (y_assign rfl) ?_
            refine s_y (v := .bool false) rfl (y_assign rfl) ?_
            refine s_nil ?_
            refine W_ret ?_
            refine ret2 rfl rfl rfl rfl rfl ⟨_, rfl, ?_⟩
            exact ⟨arr_end hM (by omega), E11⟩
    · obtain rfl : v4 = .bool false := hv5.trans (congrArg Value.bool (Bool.eq_false_iff.2 c8))
      refine s_y (v := .bool true) rfl (y_not rfl rfl) ?_
      refine s_y (v := .bool true) rfl (y_pick_f rfl rfl) ?_
      refine s_y (v := .bool true) rfl (y_move rfl) ?_
      refine s_skip rfl ?_
      refine s_skip rfl ?_
      refine s_y (v := .bool true) rfl (y_pick_t rfl rfl) ?_
      refine s_nil ?_
      refine W_if_t (by decide) rfl ?_
      refine W_seq ?_
      refine W_region (by kernel_rfl) ?_
      refine s_y (v := .int .i64 0) rfl (y_assign rfl) ?_
      refine s_y (v := .bool false) rfl (y_assign rfl) ?_
      refine s_nil ?_
      refine W_ret ?_
      refine ret2 rfl rfl rfl rfl rfl ⟨_, rfl, ?_⟩
      exact ⟨arr_no (by first | exact arrOk_len (by omega) | exact arrOk_fin (by assumption) | exact arrOk_gt (by assumption) | exact arrOk_le (by assumption)), E7⟩
namespace T26
theorem mx : Try.prog.follows .mixedOrders = true := by kernel_rfl
end T26
set_option maxRecDepth 100000 in
set_option maxHeartbeats 400000 in
theorem c_i_IsFinite (x X : Nat) (hx : can .f32 x = X) (w : World) :
    Calls Try.prog 26 #[.float .f32 x] w (Rt fun v w' => v = .bool (finB X) ∧ Ext0 w w') := by
  have E0 : Ext no w w := Ext.refl _ _
  refine calls_W (n := 7) Try.func26 rfl rfl (Nat.le_of_ble_eq_true rfl) ?_
  refine W_seq ?_
  refine W_region (by kernel_rfl) ?_
  refine s_y (v := .bool false) rfl (y_assign rfl) ?_
  refine s_nil ?_
  refine W_seq ?_
  refine W_region (by kernel_rfl) ?_
  refine s_y (v := .float .f32 x) rfl (y_move rfl) ?_
  refine s_y (v := .float .f32 x) rfl (y_move rfl) ?_
  refine s_n rfl (n_arith (by decide) rfl rfl) ?_
  rintro _ w4 e5 ⟨r2, rfl, hr3⟩
  have zw4 := e5.size
  have E6 := E0.fresh e5 (fun _ h _ => h.elim)
  have hc7 := fopC hr3 hx hx
  by_cases c8 : feq .f32 (fop .sub .f32 X X) 0 = true
  · refine s_y (v := .bool true) rfl (y_feql rfl rfl (feqC hc7 (show can .f32 0 = 0 by kernel_rfl) c8)) ?_
    refine s_y (v := .bool true) rfl (y_assign rfl) ?_
    refine s_nil ?_
    refine W_ret ?_
    refine ret1 rfl rfl rfl ⟨_, rfl, ?_⟩
    exact ⟨congrArg Value.bool (by simp_all [finB]), E6⟩
  · refine s_y (v := .bool false) rfl (y_feql rfl rfl (feqC hc7 (show can .f32 0 = 0 by kernel_rfl) (Bool.eq_false_iff.2 c8))) ?_
    refine s_y (v := .bool false) rfl (y_assign rfl) ?_
    refine s_nil ?_
    refine W_ret ?_
    refine ret1 rfl rfl rfl ⟨_, rfl, ?_⟩
    exact ⟨congrArg Value.bool (by simp_all [finB]), E6⟩
namespace T29
theorem mx : Try.prog.follows .mixedOrders = true := by kernel_rfl
end T29
set_option maxRecDepth 100000 in
set_option maxHeartbeats 400000 in
theorem c_i_size {x X : Nat} (hx : can .f32 x = X) (w : World) :
    Calls Try.prog 29 #[.float .f32 x] w (Rt fun v w' => (∃ r, v = .float .f32 r ∧ can .f32 r = szX X) ∧ Ext0 w w') := by
  have E0 : Ext no w w := Ext.refl _ _
  refine calls_W (n := 10) Try.func29 rfl rfl (Nat.le_of_ble_eq_true rfl) ?_
  refine W_seq ?_
  refine W_region (by kernel_rfl) ?_
  refine s_y (v := .float .f32 0) rfl (y_assign rfl) ?_
  refine s_nil ?_
  refine W_seq ?_
  refine W_seq ?_
  refine W_region (by kernel_rfl) ?_
  refine s_y (v := .float .f32 x) rfl (y_move rfl) ?_
  by_cases c1 : flt .f32 X 0 = true
  · refine s_y (v := .bool true) rfl (y_flss rfl rfl (fltC hx (show can .f32 0 = 0 by kernel_rfl) c1)) ?_
    refine s_nil ?_
    refine W_if_t (by decide) rfl ?_
    refine W_seq ?_
    refine W_region (by kernel_rfl) ?_
    refine s_y (v := .float .f32 x) rfl (y_move rfl) ?_
    refine s_y (v := .float .f32 (Op.negFloat .f32 x)) rfl (y_fneg rfl) ?_
    refine s_y (v := .float .f32 (Op.negFloat .f32 x)) rfl (y_assign rfl) ?_
    refine s_nil ?_
    refine W_ret ?_
    refine ret1 rfl rfl rfl ⟨_, rfl, ?_⟩
    exact ⟨⟨_, rfl, (negC hx).trans (by simp [szX, *])⟩, E0⟩
  · refine s_y (v := .bool false) rfl (y_flss rfl rfl (fltC hx (show can .f32 0 = 0 by kernel_rfl) (Bool.eq_false_iff.2 c1))) ?_
    refine s_nil ?_
    refine W_if_f (by decide) rfl ?_
    refine W_skip ?_
    refine W_seq ?_
    refine W_seq ?_
    refine W_region (by kernel_rfl) ?_
    refine s_y (v := .float .f32 x) rfl (y_move rfl) ?_
    by_cases c2 : feq .f32 X 0 = true
    · refine s_y (v := .bool true) rfl (y_feql rfl rfl (feqC hx (show can .f32 0 = 0 by kernel_rfl) c2)) ?_
      refine s_nil ?_
      refine W_if_t (by decide) rfl ?_
      refine W_seq ?_
      refine W_region (by kernel_rfl) ?_
      refine s_y (v := .float .f32 0) rfl (y_assign rfl) ?_
      refine s_nil ?_
      refine W_ret ?_
      refine ret1 rfl rfl rfl ⟨_, rfl, ?_⟩
      exact ⟨⟨_, rfl, (show can .f32 0 = 0 by kernel_rfl).trans (by simp [szX, *])⟩, E0⟩
    · refine s_y (v := .bool false) rfl (y_feql rfl rfl (feqC hx (show can .f32 0 = 0 by kernel_rfl) (Bool.eq_false_iff.2 c2))) ?_
      refine s_nil ?_
      refine W_if_f (by decide) rfl ?_
      refine W_skip ?_
      refine W_seq ?_
      refine W_region (by kernel_rfl) ?_
      refine s_y (v := .float .f32 x) rfl (y_move rfl) ?_
      refine s_y (v := .float .f32 x) rfl (y_assign rfl) ?_
      refine s_nil ?_
      refine W_ret ?_
      refine ret1 rfl rfl rfl ⟨_, rfl, ?_⟩
      exact ⟨⟨_, rfl, hx.trans (by simp [szX, *])⟩, E0⟩
namespace T14
theorem mx : Try.prog.follows .mixedOrders = true := by kernel_rfl
theorem fn_26 : fnB Try.prog 26 = true := by kernel_rfl
theorem fn_29 : fnB Try.prog 29 = true := by kernel_rfl
theorem one_25 : oneB Try.prog 25 = true := by kernel_rfl
theorem sl_32_25_1 : slB Try.prog 32 25 1 = true := by kernel_rfl
end T14
set_option maxRecDepth 100000 in
set_option maxHeartbeats 400000 in
theorem c_i_ArrivalOf {a : Option Addr} {n c : Nat} {x X : List Nat} {l L : Nat} (w : World) (hL : can .f32 l = L) (qs : Sl w a (flts x)) (ql : x.length = n) (qk : cn x = X) :
    Calls Try.prog 14 #[.slice a n c, .float .f32 l] w (Rt fun v w' => v = .tuple #[.int .i64 (if 0 ≤ arrI X L then arrI X L else 0), .bool (decide (0 ≤ arrI X L))] ∧ Ext0 w w') := by
  have E0 : Ext no w w := Ext.refl _ _
  have hlX := cn_lenX qk
  have lo_a := Sl.low qs
  refine calls_W (n := 34) Try.func14 rfl rfl (Nat.le_of_ble_eq_true rfl) ?_
  refine W_seq ?_
  refine W_region (by kernel_rfl) ?_
  refine s_y (v := .int .i64 0) rfl (y_assign rfl) ?_
  refine s_y (v := .bool false) rfl (y_assign rfl) ?_
  refine s_nil ?_
  refine W_seq ?_
  refine W_seq ?_
  refine W_region (by kernel_rfl) ?_
  refine s_y (v := .slice a n c) rfl (y_move rfl) ?_
  refine s_y (v := .int .i64 ((n : Nat) : Int)) rfl (y_len T14.sl_32_25_1 rfl rfl) ?_
  by_cases c1 : 64 < ((n : Nat) : Int)
  · refine s_y (v := .bool true) rfl (y_gtr rfl rfl (decide_eq_true c1)) ?_
    refine s_y (v := .bool true) rfl (y_move rfl) ?_
    refine s_skip rfl ?_
    refine s_skip rfl ?_
    refine s_skip rfl ?_
    refine s_y (v := .bool true) rfl (y_pick_t rfl rfl) ?_
    refine s_y (v := .bool true) rfl (y_move rfl) ?_
    refine s_skip rfl ?_
    refine s_skip rfl ?_
    refine s_skip rfl ?_
    refine s_y (v := .bool true) rfl (y_pick_t rfl rfl) ?_
    refine s_nil ?_
    refine W_if_t (by decide) rfl ?_
    refine W_seq ?_
    refine W_region (by kernel_rfl) ?_
    refine s_y (v := .int .i64 0) rfl (y_assign rfl) ?_
    refine s_y (v := .bool false) rfl (y_assign rfl) ?_
    refine s_nil ?_
    refine W_ret ?_
    refine ret2 rfl rfl rfl rfl rfl ⟨_, rfl, ?_⟩
    exact ⟨arr_no (by first | exact arrOk_len (by omega) | exact arrOk_fin (by assumption) | exact arrOk_gt (by assumption) | exact arrOk_le (by assumption)), E0⟩
  · refine s_y (v := .bool false) rfl (y_gtr rfl rfl (decide_eq_false c1)) ?_
    refine s_y (v := .bool false) rfl (y_move rfl) ?_
    refine s_y (v := .float .f32 l) rfl (y_move rfl) ?_
    refine s_k rfl (k_call T14.fn_26 (c_i_IsFinite _ _ hL _) rfl ?_)
    rintro v4 w2 ⟨hv5, e3⟩
    have zw2 := e3.size
    have hS6 := qs.ext0 e3
    have E7 := E0.fresh e3 (fun _ h _ => h.elim)
    by_cases c8 : finB L = true
    · obtain rfl : v4 = .bool true := hv5.trans (congrArg Value.bool c8)
      refine s_y (v := .bool false) rfl (y_not rfl rfl) ?_
      refine s_y (v := .bool false) rfl (y_pick_f rfl rfl) ?_
      refine s_y (v := .bool false) rfl (y_move rfl) ?_
      refine s_y (v := .float .f32 l) rfl (y_move rfl) ?_
      by_cases c9 : fgt .f32 L 0 = true
      · refine s_y (v := .bool true) rfl (y_fgtr rfl rfl (fgtC hL (show can .f32 0 = 0 by kernel_rfl) c9)) ?_
        refine s_y (v := .bool false) rfl (y_not rfl rfl) ?_
        refine s_y (v := .bool false) rfl (y_pick_f rfl rfl) ?_
        refine s_nil ?_
        refine W_if_f (by decide) rfl ?_
        refine W_skip ?_
        refine W_seq ?_
        refine W_seq ?_
        refine W_region (by kernel_rfl) ?_
        refine s_y (v := .slice a n c) rfl (y_move rfl) ?_
        refine s_y (v := .int .i64 ((n : Nat) : Int)) rfl (y_len T14.sl_32_25_1 rfl rfl) ?_
        refine s_y (v := .int .i64 0) rfl (y_move rfl) ?_
        refine s_nil ?_
        refine W_block ?_
        have hok : arrOk X L = true := arrOk_i (by omega) (by assumption) (by assumption)
-- loop drops slots [4, 5]
        refine W_loop (fun ρ' w' => ∃ (ρ1 : Env) (k : Int), ρ' = updL ρ1 [(1, .float .f32 l), (21, .slice a n c), (22, .int .i64 ((n : Nat) : Int)), (23, .int .i64 k)] ∧ Ext no w w' ∧ w2.heap.size ≤ w'.heap.size ∧ Sl w' a (flts x) ∧ (0 ≤ k) ∧ (k ≤ (n : Int)) ∧ (arrI X L = firstGe X L ((n : Int) - k).toNat k)) (fun ρ' _ => ((n : Int) - iv (ρ' 23)).toNat) ?_ ?_
        · exact ⟨_, 0, Fits.eq ⟨rfl, rfl, rfl, rfl, trivial⟩, E7, (by omega), hS6, (Int.le_refl _), (by omega), (arr_start hok (by omega))⟩
        · rintro _ w10 ⟨ρ14, k, rfl, E11, z12, hS13, h0k, h1k, hM⟩
          refine W_seq ?_
          refine W_region (by kernel_rfl) ?_
          by_cases c15 : k < ((n : Nat) : Int)
          · refine s_y (v := .bool true) rfl (y_lss rfl rfl (decide_eq_true c15)) ?_
            refine s_nil ?_
            refine W_seq ?_
            refine W_if_t (by decide) rfl ?_
            refine W_skip ?_
            refine W_seq ?_
            refine W_block ?_
            refine W_seq ?_
            refine W_region (by kernel_rfl) ?_
            refine s_y (v := .int .i64 k) rfl (y_move rfl) ?_
            refine s_y (v := .pointer (some (sat a ((k).toNat * 1)))) rfl (y_idx T14.sl_32_25_1 rfl rfl (hS13.addr (by rw [flts_length]; omega)) (by omega) (by omega)) ?_
            refine s_y (v := .float .f32 (el x k)) rfl (y_load T14.one_25 rfl (hS13.cell (fl_at (by omega) (by omega)))) ?_
            refine s_y (v := .int .i64 k) rfl (y_assign rfl) ?_
            refine s_y (v := .float .f32 (el x k)) rfl (y_assign rfl) ?_
            refine s_nil ?_
            refine W_seq ?_
            refine W_region (by kernel_rfl) ?_
            refine s_y (v := .float .f32 (el x k)) rfl (y_move rfl) ?_
            refine s_k rfl (k_call T14.fn_29 (c_i_size (cn_el qk k) _) rfl ?_)
            rintro _ w16 ⟨⟨r18, rfl, hr19⟩, e17⟩
            have zw16 := e17.size
            have hS20 := hS13.ext0 e17
            have E21 := E11.fresh e17 (fun _ h _ => h.elim)
            refine s_y (v := .float .f32 l) rfl (y_move rfl) ?_
            by_cases c22 : fge .f32 (szX (el X k)) L = true
            · refine s_y (v := .bool true) rfl (y_fgeq rfl rfl (fgeC hr19 hL c22)) ?_
              refine s_nil ?_
              refine W_if_t (by decide) rfl ?_
              refine W_seq ?_
              refine W_region (by kernel_rfl) ?_
              refine s_y (v := .int .i64 k) rfl (y_move rfl) ?_
              refine s_y (v := .int .i64 k) rfl (y_assign rfl) ?_
              refine s_y (v := .bool true) rfl (y_assign rfl) ?_
              refine s_nil ?_
              refine W_ret ?_
              refine ret2 rfl rfl rfl rfl rfl ⟨_, rfl, ?_⟩
              exact ⟨arr_yes (by omega) (by omega) hM (by assumption), E21⟩
            · refine s_y (v := .bool false) rfl (y_fgeq rfl rfl (fgeC hr19 hL (Bool.eq_false_iff.2 c22))) ?_
              refine s_nil ?_
              refine W_if_f (by decide) rfl ?_
              refine W_skip ?_
              refine W_region (by kernel_rfl) ?_
              refine s_y (v := .int .i64 (k + 1)) rfl (y_add rfl rfl rfl (by omega)) ?_
              refine s_y (v := .int .i64 (k + 1)) rfl (y_move rfl) ?_
              refine s_nil ?_
              refine ⟨⟨_, k + 1, Fits.eq ⟨rfl, rfl, rfl, rfl, trivial⟩, E21, (by omega), hS20, (by omega), (by omega), (arr_step (by omega) hM (by assumption))⟩, ?_⟩
              show ((n : Int) - (k + 1)).toNat < ((n : Int) - k).toNat
              omega
          · refine s_y (v := .bool false) rfl (y_lss rfl rfl (decide_eq_false c15)) ?_
            refine s_nil ?_
            refine W_seq ?_
            refine W_if_f (by decide) rfl ?_
            refine W_exit ?_
            refine W_seq ?_
            refine W_region (by kernel_rfl) ?_
            refine s_y (v := .int .i64 0) rfl (y_assign rfl) ?_
            refine s_y (v := .bool false) rfl (y_assign rfl) ?_
            refine s_nil ?_
            refine W_ret ?_
            refine ret2 rfl rfl rfl rfl rfl ⟨_, rfl, ?_⟩
            exact ⟨arr_end hM (by omega), E11⟩
      · refine s_y (v := .bool false) rfl (y_fgtr rfl rfl (fgtC hL (show can .f32 0 = 0 by kernel_rfl) (Bool.eq_false_iff.2 c9))) ?_
        refine s_y (v := .bool true) rfl (y_not rfl rfl) ?_
        refine s_y (v := .bool true) rfl (y_pick_f rfl rfl) ?_
        refine s_nil ?_
        refine W_if_t (by decide) rfl ?_
        refine W_seq ?_
        refine W_region (by kernel_rfl) ?_
        refine s_y (v := .int .i64 0) rfl (y_assign rfl) ?_
        refine s_y (v := .bool false) rfl (y_assign rfl) ?_
        refine s_nil ?_
        refine W_ret ?_
        refine ret2 rfl rfl rfl rfl rfl ⟨_, rfl, ?_⟩
        exact ⟨arr_no (by first | exact arrOk_len (by omega) | exact arrOk_fin (by assumption) | exact arrOk_gt (by assumption) | exact arrOk_le (by assumption)), E7⟩
    · obtain rfl : v4 = .bool false := hv5.trans (congrArg Value.bool (Bool.eq_false_iff.2 c8))
      refine s_y (v := .bool true) rfl (y_not rfl rfl) ?_
      refine s_y (v := .bool true) rfl (y_pick_f rfl rfl) ?_
      refine s_y (v := .bool true) rfl (y_move rfl) ?_
      refine s_skip rfl ?_
      refine s_skip rfl ?_
      refine s_skip rfl ?_
      refine s_y (v := .bool true) rfl (y_pick_t rfl rfl) ?_
      refine s_nil ?_
      refine W_if_t (by decide) rfl ?_
      refine W_seq ?_
      refine W_region (by kernel_rfl) ?_
      refine s_y (v := .int .i64 0) rfl (y_assign rfl) ?_
      refine s_y (v := .bool false) rfl (y_assign rfl) ?_
      refine s_nil ?_
      refine W_ret ?_
      refine ret2 rfl rfl rfl rfl rfl ⟨_, rfl, ?_⟩
      exact ⟨arr_no (by first | exact arrOk_len (by omega) | exact arrOk_fin (by assumption) | exact arrOk_gt (by assumption) | exact arrOk_le (by assumption)), E7⟩
namespace T30
theorem mx : Try.prog.follows .mixedOrders = true := by kernel_rfl
theorem bool_4 : Try.prog.underlying 4 = some .bool := by kernel_rfl
end T30
set_option maxRecDepth 100000 in
set_option maxHeartbeats 400000 in
theorem c_l_sameFloat (a b A : Nat) (ha : can .f64 a = A) (hb : can .f64 b = A) (w : World) :
    Calls Try.prog 30 #[.float .f64 a, .float .f64 b] w (Rt fun v w' => v = .bool true ∧ Ext0 w w') := by
  have E0 : Ext no w w := Ext.refl _ _
  refine calls_W (n := 37) Try.func30 rfl rfl (Nat.le_of_ble_eq_true rfl) ?_
  refine W_seq ?_
  refine W_region (by kernel_rfl) ?_
  refine s_y (v := .bool false) rfl (y_assign rfl) ?_
  refine s_nil ?_
  refine W_seq ?_
  refine W_seq ?_
  refine W_region (by kernel_rfl) ?_
  refine s_y (v := .float .f64 a) rfl (y_move rfl) ?_
  refine s_y (v := .float .f64 a) rfl (y_move rfl) ?_
  by_cases c1 : fne .f64 A A = true
  · refine s_y (v := .bool true) rfl (y_fneq rfl rfl (fneC ha ha c1)) ?_
    refine s_y (v := .bool true) rfl (y_move rfl) ?_
    refine s_skip rfl ?_
    refine s_skip rfl ?_
    refine s_skip rfl ?_
    refine s_y (v := .bool true) rfl (y_pick_t rfl rfl) ?_
    refine s_nil ?_
    refine W_if_t (by decide) rfl ?_
    refine W_seq ?_
    refine W_region (by kernel_rfl) ?_
    refine s_y (v := .float .f64 a) rfl (y_move rfl) ?_
    refine s_y (v := .float .f64 a) rfl (y_move rfl) ?_
    refine s_y (v := .bool true) rfl (y_fneq rfl rfl (fneC ha ha c1)) ?_
    refine s_y (v := .bool true) rfl (y_move rfl) ?_
    refine s_y (v := .float .f64 b) rfl (y_move rfl) ?_
    refine s_y (v := .float .f64 b) rfl (y_move rfl) ?_
    refine s_y (v := .bool true) rfl (y_fneq rfl rfl (fneC hb hb c1)) ?_
    refine s_y (v := .bool true) rfl (y_pick_t rfl rfl) ?_
    refine s_y (v := .bool true) rfl (y_assign rfl) ?_
    refine s_nil ?_
    refine W_ret ?_
    refine ret1 rfl rfl rfl ⟨_, rfl, ?_⟩
    exact ⟨rfl, E0⟩
  · refine s_y (v := .bool false) rfl (y_fneq rfl rfl (fneC ha ha (Bool.eq_false_iff.2 c1))) ?_
    refine s_y (v := .bool false) rfl (y_move rfl) ?_
    refine s_y (v := .float .f64 b) rfl (y_move rfl) ?_
    refine s_y (v := .float .f64 b) rfl (y_move rfl) ?_
    refine s_y (v := .bool false) rfl (y_fneq rfl rfl (fneC hb hb (Bool.eq_false_iff.2 c1))) ?_
    refine s_y (v := .bool false) rfl (y_pick_f rfl rfl) ?_
    refine s_nil ?_
    refine W_if_f (by decide) rfl ?_
    refine W_skip ?_
    refine W_seq ?_
    refine W_seq ?_
    refine W_region (by kernel_rfl) ?_
    refine s_y (v := .float .f64 a) rfl (y_move rfl) ?_
    by_cases c2 : feq .f64 A 0 = true
    · refine s_y (v := .bool true) rfl (y_feql rfl rfl (feqC ha (show can .f64 0 = 0 by kernel_rfl) c2)) ?_
      refine s_y (v := .bool true) rfl (y_move rfl) ?_
      refine s_y (v := .float .f64 b) rfl (y_move rfl) ?_
      refine s_y (v := .bool true) rfl (y_feql rfl rfl (feqC hb (show can .f64 0 = 0 by kernel_rfl) c2)) ?_
      refine s_y (v := .bool true) rfl (y_pick_t rfl rfl) ?_
      refine s_nil ?_
      refine W_if_t (by decide) rfl ?_
      refine W_seq ?_
      refine W_region (by kernel_rfl) ?_
      refine s_y (v := .float .f64 a) rfl (y_move rfl) ?_
      refine s_n rfl (n_arith (by decide) rfl rfl) ?_
      rintro _ w6 e7 ⟨r4, rfl, hr5⟩
      have zw6 := e7.size
      have E8 := E0.fresh e7 (fun _ h _ => h.elim)
      have hc9 := fopC hr5 (show can .f64 4607182418800017408 = 4607182418800017408 by kernel_rfl) ha
      by_cases c10 : fgt .f64 (fop .quo .f64 4607182418800017408 A) 0 = true
      · refine s_y (v := .bool true) rfl (y_fgtr rfl rfl (fgtC hc9 (show can .f64 0 = 0 by kernel_rfl) c10)) ?_
        refine s_y (v := .float .f64 b) rfl (y_move rfl) ?_
        refine s_n rfl (n_arith (by decide) rfl rfl) ?_
        rintro _ w14 e15 ⟨r12, rfl, hr13⟩
        have zw14 := e15.size
        have E16 := E8.fresh e15 (fun _ h _ => h.elim)
        have hc17 := fopC hr13 (show can .f64 4607182418800017408 = 4607182418800017408 by kernel_rfl) hb
        refine s_y (v := .bool true) rfl (y_fgtr rfl rfl (fgtC hc17 (show can .f64 0 = 0 by kernel_rfl) c10)) ?_
        refine s_y (v := .bool true) rfl (y_beql T30.bool_4 rfl rfl rfl) ?_
        refine s_y (v := .bool true) rfl (y_assign rfl) ?_
        refine s_nil ?_
        refine W_ret ?_
        refine ret1 rfl rfl rfl ⟨_, rfl, ?_⟩
        exact ⟨rfl, E16⟩
      · refine s_y (v := .bool false) rfl (y_fgtr rfl rfl (fgtC hc9 (show can .f64 0 = 0 by kernel_rfl) (Bool.eq_false_iff.2 c10))) ?_
        refine s_y (v := .float .f64 b) rfl (y_move rfl) ?_
        refine s_n rfl (n_arith (by decide) rfl rfl) ?_
        rintro _ w21 e22 ⟨r19, rfl, hr20⟩
        have zw21 := e22.size
        have E23 := E8.fresh e22 (fun _ h _ => h.elim)
        have hc24 := fopC hr20 (show can .f64 4607182418800017408 = 4607182418800017408 by kernel_rfl) hb
        refine s_y (v := .bool false) rfl (y_fgtr rfl rfl (fgtC hc24 (show can .f64 0 = 0 by kernel_rfl) (Bool.eq_false_iff.2 c10))) ?_
        refine s_y (v := .bool true) rfl (y_beql T30.bool_4 rfl rfl rfl) ?_
        refine s_y (v := .bool true) rfl (y_assign rfl) ?_
        refine s_nil ?_
        refine W_ret ?_
        refine ret1 rfl rfl rfl ⟨_, rfl, ?_⟩
        exact ⟨rfl, E23⟩
    · refine s_y (v := .bool false) rfl (y_feql rfl rfl (feqC ha (show can .f64 0 = 0 by kernel_rfl) (Bool.eq_false_iff.2 c2))) ?_
      refine s_y (v := .bool false) rfl (y_move rfl) ?_
      refine s_skip rfl ?_
      refine s_skip rfl ?_
      refine s_y (v := .bool false) rfl (y_pick_f rfl rfl) ?_
      refine s_nil ?_
      refine W_if_f (by decide) rfl ?_
      refine W_skip ?_
      refine W_seq ?_
      refine W_region (by kernel_rfl) ?_
      refine s_y (v := .float .f64 a) rfl (y_move rfl) ?_
      refine s_y (v := .float .f64 b) rfl (y_move rfl) ?_
      by_cases c25 : feq .f64 A A = true
      · refine s_y (v := .bool true) rfl (y_feql rfl rfl (feqC ha hb c25)) ?_
        refine s_y (v := .bool true) rfl (y_assign rfl) ?_
        refine s_nil ?_
        refine W_ret ?_
        refine ret1 rfl rfl rfl ⟨_, rfl, ?_⟩
        exact ⟨rfl, E0⟩
      · refine s_y (v := .bool false) rfl (y_feql rfl rfl (feqC ha hb (Bool.eq_false_iff.2 c25))) ?_
        refine s_y (v := .bool false) rfl (y_assign rfl) ?_
        refine s_nil ?_
        refine W_ret ?_
        refine ret1 rfl rfl rfl ⟨_, rfl, ?_⟩
        exfalso; simp_all [fne, feq]
namespace T15
theorem mx : Try.prog.follows .mixedOrders = true := by kernel_rfl
theorem flt_48_f64 : Try.prog.underlying 48 = some (.float .f64) := by kernel_rfl
theorem fn_30 : fnB Try.prog 30 = true := by kernel_rfl
theorem one_25 : oneB Try.prog 25 = true := by kernel_rfl
theorem sl_32_25_1 : slB Try.prog 32 25 1 = true := by kernel_rfl
theorem und_25 : (Try.prog.underlying 25).isSome = true := by kernel_rfl
end T15
set_option maxRecDepth 100000 in
set_option maxHeartbeats 400000 in
theorem c_l_eqFloat32S {a a2 : Option Addr} {n m cc c2 : Nat} {x y X : List Nat} (w : World) (h1 : Sl w a (flts x)) (l1 : x.length = n) (k1 : cn x = X) (h2 : Sl w a2 (flts y)) (l2 : y.length = m) (k2 : cn y = X) (hb : n ≤ 9223372036854775806) :
    Calls Try.prog 15 #[.slice a n cc, .slice a2 m c2] w (Rt fun v w' => v = .bool true ∧ Ext0 w w') := by
  have E0 : Ext no w w := Ext.refl _ _
  have lx := cn_lenX k1
  have ly := cn_lenX k2
  have lo_a := Sl.low h1
  have lo_a2 := Sl.low h2
  refine calls_W (n := 29) Try.func15 rfl rfl (Nat.le_of_ble_eq_true rfl) ?_
  refine W_seq ?_
  refine W_region (by kernel_rfl) ?_
  refine s_y (v := .bool false) rfl (y_assign rfl) ?_
  refine s_nil ?_
  refine W_seq ?_
  refine W_seq ?_
  refine W_region (by kernel_rfl) ?_
  refine s_y (v := .slice a n cc) rfl (y_move rfl) ?_
  refine s_y (v := .int .i64 ((n : Nat) : Int)) rfl (y_len T15.sl_32_25_1 rfl rfl) ?_
  refine s_y (v := .slice a2 m c2) rfl (y_move rfl) ?_
  refine s_y (v := .int .i64 ((m : Nat) : Int)) rfl (y_len T15.sl_32_25_1 rfl rfl) ?_
  by_cases c1 : ((n : Nat) : Int) ≠ ((m : Nat) : Int)
  · refine s_y (v := .bool true) rfl (y_neq rfl rfl (decide_eq_true c1)) ?_
    refine s_nil ?_
    refine W_if_t (by decide) rfl ?_
    refine W_seq ?_
    refine W_region (by kernel_rfl) ?_
    refine s_y (v := .bool false) rfl (y_assign rfl) ?_
    refine s_nil ?_
    refine W_ret ?_
    refine ret1 rfl rfl rfl ⟨_, rfl, ?_⟩
    omega
  · refine s_y (v := .bool false) rfl (y_neq rfl rfl (decide_eq_false c1)) ?_
    refine s_nil ?_
    refine W_if_f (by decide) rfl ?_
    refine W_skip ?_
    refine W_seq ?_
    refine W_seq ?_
    refine W_region (by kernel_rfl) ?_
    refine s_y (v := .int .i64 0) rfl (y_assign rfl) ?_
    refine s_nil ?_
    refine W_block ?_
-- loop drops slots [4]
    refine W_loop (fun ρ' w' => ∃ (ρ1 : Env) (k : Int), ρ' = updL ρ1 [(0, .slice a n cc), (1, .slice a2 m c2), (5, .int .i64 k)] ∧ Ext no w w' ∧ w.heap.size ≤ w'.heap.size ∧ Sl w' a (flts x) ∧ Sl w' a2 (flts y) ∧ (0 ≤ k) ∧ (k ≤ (n : Int))) (fun ρ' _ => ((n : Int) - iv (ρ' 5)).toNat) ?_ ?_
    · exact ⟨_, 0, Fits.eq ⟨rfl, rfl, rfl, trivial⟩, E0, (by omega), h1, h2, (Int.le_refl _), (by omega)⟩
    · rintro _ w2 ⟨ρ7, k, rfl, E3, z4, hS5, hS6, h0k, h1k⟩
      refine W_seq ?_
      refine W_seq ?_
      refine W_region (by kernel_rfl) ?_
      refine s_y (v := .int .i64 k) rfl (y_move rfl) ?_
      refine s_y (v := .slice a n cc) rfl (y_move rfl) ?_
      refine s_y (v := .int .i64 ((n : Nat) : Int)) rfl (y_len T15.sl_32_25_1 rfl rfl) ?_
      by_cases c8 : k < ((n : Nat) : Int)
      · refine s_y (v := .bool true) rfl (y_lss rfl rfl (decide_eq_true c8)) ?_
        refine s_nil ?_
        refine W_if_t (by decide) rfl ?_
        refine W_skip ?_
        refine W_seq ?_
        refine W_block ?_
        refine W_seq ?_
        refine W_draw T15.mx (by kernel_rfl) (fun w9 e10 => ?_)
        have zw9 := e10.size
        have hS11 := hS5.ext0 e10
        have hS12 := hS6.ext0 e10
        have E13 := E3.fresh e10 (fun _ h _ => h.elim)
        have R14 := (Ext.refl no w2).trans e10
        refine m_y (v := .slice a n cc) 0 rfl (by kernel_rfl) rfl rfl (fun w' e' => y_move rfl) ?_
        refine m_y (v := .int .i64 k) 1 rfl (by kernel_rfl) rfl rfl (fun w' e' => y_move rfl) ?_
        refine m_y (v := .pointer (some (sat a ((k).toNat * 1)))) 2 rfl (by kernel_rfl) rfl rfl (fun w' e' => y_idx T15.sl_32_25_1 rfl rfl (hS11.addr (by rw [flts_length]; omega)) (by omega) (by omega)) ?_
        refine m_y (v := .float .f32 (el x k)) 3 rfl (by kernel_rfl) rfl rfl (fun w' e' => y_load T15.one_25 rfl ((hS5.ext0 e').cell (fl_at (by omega) (by omega)))) ?_
        refine m_y (v := .slice a2 m c2) 5 rfl (by kernel_rfl) rfl rfl (fun w' e' => y_move rfl) ?_
        refine m_y (v := .int .i64 k) 6 rfl (by kernel_rfl) rfl rfl (fun w' e' => y_move rfl) ?_
        refine m_y (v := .pointer (some (sat a2 ((k).toNat * 1)))) 7 rfl (by kernel_rfl) rfl rfl (fun w' e' => y_idx T15.sl_32_25_1 rfl rfl (hS12.addr (by rw [flts_length]; omega)) (by omega) (by omega)) ?_
        refine m_y (v := .float .f32 (el y k)) 8 rfl (by kernel_rfl) rfl rfl (fun w' e' => y_load T15.one_25 rfl ((hS6.ext0 e').cell (fl_at (by omega) (by omega)))) ?_
        refine m_n 4 [10, 11] rfl (by kernel_rfl) rfl rfl (fun w' e' => n_wide T15.und_25 T15.flt_48_f64 rfl) ?_
        rintro _ ⟨r15, rfl, hr16⟩
        have hc19 := wideC hr16 (cn_el k1 k)
        refine m_n 9 [10, 11] rfl (by kernel_rfl) rfl rfl (fun w' e' => n_wide T15.und_25 T15.flt_48_f64 rfl) ?_
        rintro _ ⟨r20, rfl, hr21⟩
        have hc24 := wideC hr21 (cn_el k2 k)
        refine m_k 10 [11] rfl (by kernel_rfl) rfl rfl (fun w27 e28 => ?_)
        have zw27 := e28.size
        have hS29 := hS11.ext0 e28
        have hS30 := hS12.ext0 e28
        have E31 := E13.fresh e28 (fun _ h _ => h.elim)
        have R32 := R14.trans e28
        refine k_call T15.fn_30 (c_l_sameFloat _ _ _ hc19 hc24 _) rfl ?_
        rintro _ w25 ⟨rfl, e26⟩
        have zw25 := e26.size
        have hS33 := hS29.ext0 e26
        have hS34 := hS30.ext0 e26
        have E35 := E31.fresh e26 (fun _ h _ => h.elim)
        have R36 := R32.trans e26
        refine ⟨fun _ => R36, ?_⟩
        refine m_y (v := .bool false) 11 rfl (by kernel_rfl) rfl rfl (fun w' e' => y_not rfl rfl) ?_
        refine m_done (by kernel_rfl) (fun w37 e38 => ?_)
        have zw37 := e38.size
        have hS39 := hS33.ext0 e38
        have hS40 := hS34.ext0 e38
        have E41 := E35.fresh e38 (fun _ h _ => h.elim)
        have R42 := R36.trans e38
        refine W_if_f (by decide) rfl ?_
        refine W_skip ?_
        refine W_region (by kernel_rfl) ?_
        refine s_y (v := .int .i64 k) rfl (y_move rfl) ?_
        refine s_y (v := .int .i64 (k + 1)) rfl (y_add rfl rfl rfl (by omega)) ?_
        refine s_y (v := .int .i64 (k + 1)) rfl (y_assign rfl) ?_
        refine s_nil ?_
        refine ⟨⟨_, k + 1, Fits.eq ⟨rfl, rfl, rfl, trivial⟩, E41, (by omega), hS39, hS40, (by omega), (by omega)⟩, ?_⟩
        show ((n : Int) - (k + 1)).toNat < ((n : Int) - k).toNat
        omega
      · refine s_y (v := .bool false) rfl (y_lss rfl rfl (decide_eq_false c8)) ?_
        refine s_nil ?_
        refine W_if_f (by decide) rfl ?_
        refine W_exit ?_
        refine W_seq ?_
        refine W_region (by kernel_rfl) ?_
        refine s_y (v := .bool true) rfl (y_assign rfl) ?_
        refine s_nil ?_
        refine W_ret ?_
        refine ret1 rfl rfl rfl ⟨_, rfl, ?_⟩
        exact ⟨rfl, E3⟩
namespace T5
theorem mx : Try.prog.follows .mixedOrders = true := by kernel_rfl
theorem bool_4 : Try.prog.underlying 4 = some .bool := by kernel_rfl
theorem fn_12 : fnB Try.prog 12 = true := by kernel_rfl
theorem fn_13 : fnB Try.prog 13 = true := by kernel_rfl
theorem fn_14 : fnB Try.prog 14 = true := by kernel_rfl
theorem fn_15 : fnB Try.prog 15 = true := by kernel_rfl
theorem sl_32_25_1 : slB Try.prog 32 25 1 = true := by kernel_rfl
end T5
set_option maxRecDepth 100000 in
set_option maxHeartbeats 400000 in
theorem c_FnExactArrivalOf {a0 : Option Addr} {n0 c0 : Nat} {x0 X0 : List Nat} {l : Nat} (w : World) (qs0 : Sl w a0 (flts x0)) (ql0 : x0.length = n0) (qk0 : cn x0 = X0) (hlen : n0 ≤ 9223372036854775807) :
    Calls Try.prog 5 #[.slice a0 n0 c0, .float .f32 l] w (Rt fun v w' => v = .bool true ∧ Ext no w w') := by
  have E0 : Ext no w w := Ext.refl _ _
  have lo_a0 := Sl.low qs0
  refine calls_W (n := 41) Try.func5 rfl rfl (Nat.le_of_ble_eq_true rfl) ?_
  refine W_seq ?_
  refine W_region (by kernel_rfl) ?_
  refine s_y (v := .bool false) rfl (y_assign rfl) ?_
  refine s_nil ?_
  refine W_seq ?_
  refine W_seq ?_
  refine W_region (by kernel_rfl) ?_
  refine s_y (v := .slice a0 n0 c0) rfl (y_move rfl) ?_
  refine s_y (v := .int .i64 ((n0 : Nat) : Int)) rfl (y_len T5.sl_32_25_1 rfl rfl) ?_
  by_cases c1 : 1048576 < ((n0 : Nat) : Int)
  · refine s_y (v := .bool true) rfl (y_gtr rfl rfl (decide_eq_true c1)) ?_
    refine s_nil ?_
    refine W_if_t (by decide) rfl ?_
    refine W_seq ?_
    refine W_region (by kernel_rfl) ?_
    refine s_y (v := .bool true) rfl (y_assign rfl) ?_
    refine s_nil ?_
    refine W_ret ?_
    refine ret1 rfl rfl rfl ⟨_, rfl, ?_⟩
    exact ⟨rfl, E0⟩
  · refine s_y (v := .bool false) rfl (y_gtr rfl rfl (decide_eq_false c1)) ?_
    refine s_nil ?_
    refine W_if_f (by decide) rfl ?_
    refine W_skip ?_
    refine W_seq ?_
    refine W_region (by kernel_rfl) ?_
    refine s_y (v := .slice a0 n0 c0) rfl (y_move rfl) ?_
    refine s_k rfl (k_call T5.fn_13 (c_l_toFloat32S _ qs0 ql0 rfl (by omega)) rfl ?_)
    rintro _ w2 ⟨a4, rfl, hO5, e3⟩
    have zw2 := e3.size
    have hS6 := qs0.ext0 e3
    have E7 := E0.fresh e3 (fun _ h _ => h.elim)
    have d_a4 : ∀ k, inA a4 k → w.heap.size ≤ k := fun kx hk => (hO5.blk kx hk).1
    have u_a4 : ∀ k, inA a4 k → k < w2.heap.size := fun kx hk => (hO5.blk kx hk).2
    refine s_y (v := .float .f32 l) rfl (y_move rfl) ?_
    refine s_k rfl (k_call T5.fn_12 (c_s_ArrivalOf _ rfl hO5.sl ql0 qk0) rfl ?_)
    rintro _ w8 ⟨rfl, e9⟩
    have zw8 := e9.size
    have hS10 := hS6.ext0 e9
    have hO11 := hO5.ext0 e9
    have E12 := E7.fresh e9 (fun _ h _ => h.elim)
    refine s_y (v := .tuple #[.int .i64 (if 0 ≤ arrI X0 (can .f32 l) then arrI X0 (can .f32 l) else 0), .bool (decide (0 ≤ arrI X0 (can .f32 l)))]) rfl (y_move rfl) ?_
    refine s_y (v := .int .i64 (if 0 ≤ arrI X0 (can .f32 l) then arrI X0 (can .f32 l) else 0)) rfl (y_extract rfl rfl) ?_
    refine s_y (v := .bool (decide (0 ≤ arrI X0 (can .f32 l)))) rfl (y_extract rfl rfl) ?_
    refine s_y (v := .int .i64 (if 0 ≤ arrI X0 (can .f32 l) then arrI X0 (can .f32 l) else 0)) rfl (y_assign rfl) ?_
    refine s_y (v := .bool (decide (0 ≤ arrI X0 (can .f32 l)))) rfl (y_assign rfl) ?_
    refine s_nil ?_
    refine W_seq ?_
    refine W_region (by kernel_rfl) ?_
    refine s_y (v := .slice a0 n0 c0) rfl (y_move rfl) ?_
    refine s_k rfl (k_call T5.fn_13 (c_l_toFloat32S _ hS10 ql0 rfl (by omega)) rfl ?_)
    rintro _ w13 ⟨a15, rfl, hO16, e14⟩
    have zw13 := e14.size
    have hS17 := hS10.ext0 e14
    have hO18 := hO11.ext0 e14
    have E19 := E12.fresh e14 (fun _ h _ => h.elim)
    have d_a15 : ∀ k, inA a15 k → w8.heap.size ≤ k := fun kx hk => (hO16.blk kx hk).1
    have u_a15 : ∀ k, inA a15 k → k < w13.heap.size := fun kx hk => (hO16.blk kx hk).2
    refine s_y (v := .slice a15 n0 n0) rfl (y_assign rfl) ?_
    refine s_nil ?_
    refine W_seq ?_
    refine W_region (by kernel_rfl) ?_
    refine s_y (v := .slice a15 n0 n0) rfl (y_move rfl) ?_
    refine s_y (v := .float .f32 l) rfl (y_move rfl) ?_
    refine s_k rfl (k_call T5.fn_14 (c_i_ArrivalOf _ rfl hO16.sl ql0 qk0) rfl ?_)
    rintro _ w20 ⟨rfl, e21⟩
    have zw20 := e21.size
    have hS22 := hS17.ext0 e21
    have hO23 := hO18.ext0 e21
    have hO24 := hO16.ext0 e21
    have E25 := E19.fresh e21 (fun _ h _ => h.elim)
    refine s_y (v := .tuple #[.int .i64 (if 0 ≤ arrI X0 (can .f32 l) then arrI X0 (can .f32 l) else 0), .bool (decide (0 ≤ arrI X0 (can .f32 l)))]) rfl (y_move rfl) ?_
    refine s_y (v := .int .i64 (if 0 ≤ arrI X0 (can .f32 l) then arrI X0 (can .f32 l) else 0)) rfl (y_extract rfl rfl) ?_
    refine s_y (v := .bool (decide (0 ≤ arrI X0 (can .f32 l)))) rfl (y_extract rfl rfl) ?_
    refine s_y (v := .int .i64 (if 0 ≤ arrI X0 (can .f32 l) then arrI X0 (can .f32 l) else 0)) rfl (y_assign rfl) ?_
    refine s_y (v := .bool (decide (0 ≤ arrI X0 (can .f32 l)))) rfl (y_assign rfl) ?_
    refine s_nil ?_
    refine W_seq ?_
    refine W_seq ?_
    refine W_region (by kernel_rfl) ?_
    refine s_y (v := .int .i64 (if 0 ≤ arrI X0 (can .f32 l) then arrI X0 (can .f32 l) else 0)) rfl (y_move rfl) ?_
    refine s_y (v := .int .i64 (if 0 ≤ arrI X0 (can .f32 l) then arrI X0 (can .f32 l) else 0)) rfl (y_move rfl) ?_
    refine s_y (v := .bool false) rfl (y_neq rfl rfl (decide_eq_false (fun hq => hq rfl))) ?_
    refine s_y (v := .bool false) rfl (y_move rfl) ?_
    refine s_y (v := .bool (decide (0 ≤ arrI X0 (can .f32 l)))) rfl (y_move rfl) ?_
    refine s_y (v := .bool (decide (0 ≤ arrI X0 (can .f32 l)))) rfl (y_move rfl) ?_
    refine s_y (v := .bool false) rfl (y_bneq T5.bool_4 rfl rfl (by simp)) ?_
    refine s_y (v := .bool false) rfl (y_pick_f rfl rfl) ?_
    refine s_nil ?_
    refine W_if_f (by decide) rfl ?_
    refine W_skip ?_
    refine W_seq ?_
    refine W_seq ?_
    refine W_region (by kernel_rfl) ?_
    refine s_y (v := .slice a15 n0 n0) rfl (y_move rfl) ?_
    refine s_y (v := .slice a0 n0 c0) rfl (y_move rfl) ?_
    refine s_k rfl (k_call T5.fn_13 (c_l_toFloat32S _ hS22 ql0 rfl (by omega)) rfl ?_)
    rintro _ w26 ⟨a28, rfl, hO29, e27⟩
    have zw26 := e27.size
    have hS30 := hS22.ext0 e27
    have hO31 := hO23.ext0 e27
    have hO32 := hO24.ext0 e27
    have E33 := E25.fresh e27 (fun _ h _ => h.elim)
    have d_a28 : ∀ k, inA a28 k → w20.heap.size ≤ k := fun kx hk => (hO29.blk kx hk).1
    have u_a28 : ∀ k, inA a28 k → k < w26.heap.size := fun kx hk => (hO29.blk kx hk).2
    refine s_k rfl (k_call T5.fn_15 (c_l_eqFloat32S _ hO32.sl ql0 qk0 hO29.sl ql0 qk0 (by omega)) rfl ?_)
    rintro _ w34 ⟨rfl, e35⟩
    have zw34 := e35.size
    have hS36 := hS30.ext0 e35
    have hO37 := hO31.ext0 e35
    have hO38 := hO32.ext0 e35
    have hO39 := hO29.ext0 e35
    have E40 := E33.fresh e35 (fun _ h _ => h.elim)
    refine s_y (v := .bool false) rfl (y_not rfl rfl) ?_
    refine s_nil ?_
    refine W_if_f (by decide) rfl ?_
    refine W_skip ?_
    refine W_seq ?_
    refine W_region (by kernel_rfl) ?_
    refine s_y (v := .bool true) rfl (y_assign rfl) ?_
    refine s_nil ?_
    refine W_ret ?_
    refine ret1 rfl rfl rfl ⟨_, rfl, ?_⟩
    exact ⟨rfl, E40⟩
end Go.Proofs.Ytebigoiegiaggaa
