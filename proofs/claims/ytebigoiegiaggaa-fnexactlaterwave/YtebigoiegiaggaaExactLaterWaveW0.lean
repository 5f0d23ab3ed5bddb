/- Walks: what the functions under FnExactLaterWave do (part 1). Printed by a program of this claim's author. -/
import Derived.Test.YtebigoiegiaggaaL1
import Derived.Test.YtebigoiegiaggaaModel
import Derived.Test.YtebigoiegiaggaaProg
open Go.Wv
namespace Go.Proofs.Ytebigoiegiaggaa
open Go.Proofs
namespace T10
theorem mx : Try.prog.follows .mixedOrders = true := by kernel_rfl
theorem agg_29_6 : aggB Try.prog 29 6 = true := by kernel_rfl
theorem fld_27_0_0 : fldB Try.prog 27 0 0 = true := by kernel_rfl
theorem fld_27_1_1 : fldB Try.prog 27 1 1 = true := by kernel_rfl
theorem fld_27_2_2 : fldB Try.prog 27 2 2 = true := by kernel_rfl
theorem fld_27_3_3 : fldB Try.prog 27 3 3 = true := by kernel_rfl
theorem fld_27_4_4 : fldB Try.prog 27 4 4 = true := by kernel_rfl
theorem fld_27_5_5 : fldB Try.prog 27 5 5 = true := by kernel_rfl
theorem fld_29_0_0 : fldB Try.prog 29 0 0 = true := by kernel_rfl
theorem fld_29_1_1 : fldB Try.prog 29 1 1 = true := by kernel_rfl
theorem fld_29_2_2 : fldB Try.prog 29 2 2 = true := by kernel_rfl
theorem fld_29_3_3 : fldB Try.prog 29 3 3 = true := by kernel_rfl
theorem fld_29_4_4 : fldB Try.prog 29 4 4 = true := by kernel_rfl
theorem fld_29_5_5 : fldB Try.prog 29 5 5 = true := by kernel_rfl
theorem one_2 : oneB Try.prog 2 = true := by kernel_rfl
theorem one_25 : oneB Try.prog 25 = true := by kernel_rfl
theorem sz_2_1 : szB Try.prog 2 1 = true := by kernel_rfl
theorem sz_25_1 : szB Try.prog 25 1 = true := by kernel_rfl
theorem sz_29_6 : szB Try.prog 29 6 = true := by kernel_rfl
theorem zero_29 : zeroB Try.prog 29 (.agg #[.int .i64 0, .int .i64 0, .int .i64 0, .float .f32 0, .float .f32 0, .int .i64 0]) := by unfold zeroB; kernel_rfl
end T10
set_option maxRecDepth 100000 in
set_option maxHeartbeats 400000 in
theorem c_l_toWave (kd tt ln : Int) (tn sz : Nat) (sd : Int) (w : World) :
    Calls Try.prog 10 #[.agg #[.int .i64 kd, .int .i64 tt, .int .i64 ln, .float .f32 tn, .float .f32 sz, .int .i64 sd]] w (Rt fun v w' => v = .agg #[.int .i64 kd, .int .i64 tt, .int .i64 ln, .float .f32 tn, .float .f32 sz, .int .i64 sd] ∧ Ext0 w w') := by
  have E0 : Ext0 w w := Ext.refl _ _
  refine calls_W (n := 23) Try.func10 rfl rfl (Nat.le_of_ble_eq_true rfl) ?_
  refine W_seq ?_
  refine W_region (by kernel_rfl) ?_
  refine s_k rfl (k_box (v := .agg #[.int .i64 kd, .int .i64 tt, .int .i64 ln, .float .f32 tn, .float .f32 sz, .int .i64 sd]) (cs := [.int .i64 kd, .int .i64 tt, .int .i64 ln, .float .f32 tn, .float .f32 sz, .int .i64 sd]) rfl rfl (fun b1 w2 q4 e3 hB5 => ?_))
  have zw2 := e3.size
  have E6 := E0.fresh e3 (fun _ h _ => h.elim)
  have l_b1 : w.heap.size ≤ b1 := by omega
  have t_b1 := hB5.lt
  refine s_k rfl (k_alloc (z := (.agg #[.int .i64 0, .int .i64 0, .int .i64 0, .float .f32 0, .float .f32 0, .int .i64 0])) (cs := [.int .i64 0, .int .i64 0, .int .i64 0, .float .f32 0, .float .f32 0, .int .i64 0]) T10.zero_29 rfl (fun b7 w8 q10 e9 hB11 => ?_))
  have zw8 := e9.size
  have hB12 := hB5.ext0 e9
  have E13 := E6.fresh e9 (fun _ h _ => h.elim)
  have l_b7 : w.heap.size ≤ b7 := by have := E13.size; omega
  have t_b7 := hB11.lt
  refine s_nil ?_
  refine W_seq ?_
  refine W_region (by kernel_rfl) ?_
  refine s_k rfl (k_alloc (z := (.agg #[.int .i64 0, .int .i64 0, .int .i64 0, .float .f32 0, .float .f32 0, .int .i64 0])) (cs := [.int .i64 0, .int .i64 0, .int .i64 0, .float .f32 0, .float .f32 0, .int .i64 0]) T10.zero_29 rfl (fun b14 w15 q17 e16 hB18 => ?_))
  have zw15 := e16.size
  have hB19 := hB12.ext0 e16
  have hB20 := hB11.ext0 e16
  have E21 := E13.fresh e16 (fun _ h _ => h.elim)
  have l_b14 : w.heap.size ≤ b14 := by have := E21.size; omega
  have t_b14 := hB18.lt
  refine s_nil ?_
  refine W_seq ?_
  refine W_region (by kernel_rfl) ?_
  refine s_y (v := .pointer (some ⟨b1, 0, none⟩)) rfl (y_fld (o := 0) T10.fld_27_0_0 rfl) ?_
  refine s_y (v := .int .i64 kd) rfl (y_load T10.one_2 rfl (hB19.cell (j := 0) rfl)) ?_
  refine s_y (v := .pointer (some ⟨b14, 0, none⟩)) rfl (y_fld (o := 0) T10.fld_29_0_0 rfl) ?_
  refine s_k0 rfl (k_store (v := .int .i64 kd) (n := 1) (cs' := [.int .i64 kd, .int .i64 0, .int .i64 0, .float .f32 0, .float .f32 0, .int .i64 0]) T10.sz_2_1 rfl rfl rfl hB18 (by simp [Value.cells, Value.oneCell']) (Nat.le_of_ble_eq_true rfl) rfl (fun w22 e23 z24 hB25 => ?_))
  have zw22 := e23.size
  have hB26 := hB19.ext e23 (by show ¬ (_ = _); omega)
  have hB27 := hB20.ext e23 (by show ¬ (_ = _); omega)
  have E28 := E21.fresh e23 (fun kx hs hl => by have hs : kx = b14 := hs; have h0 := l_b14; omega)
  refine s_nil ?_
  refine W_seq ?_
  refine W_region (by kernel_rfl) ?_
  refine s_y (v := .pointer (some ⟨b1, 1, none⟩)) rfl (y_fld (o := 0) T10.fld_27_1_1 rfl) ?_
  refine s_y (v := .int .i64 tt) rfl (y_load T10.one_2 rfl (hB26.cell (j := 1) rfl)) ?_
  refine s_y (v := .pointer (some ⟨b14, 1, none⟩)) rfl (y_fld (o := 0) T10.fld_29_1_1 rfl) ?_
  refine s_k0 rfl (k_store (v := .int .i64 tt) (n := 1) (cs' := [.int .i64 kd, .int .i64 tt, .int .i64 0, .float .f32 0, .float .f32 0, .int .i64 0]) T10.sz_2_1 rfl rfl rfl hB25 (by simp [Value.cells, Value.oneCell']) (Nat.le_of_ble_eq_true rfl) rfl (fun w29 e30 z31 hB32 => ?_))
  have zw29 := e30.size
  have hB33 := hB26.ext e30 (by show ¬ (_ = _); omega)
  have hB34 := hB27.ext e30 (by show ¬ (_ = _); omega)
  have E35 := E28.fresh e30 (fun kx hs hl => by have hs : kx = b14 := hs; have h0 := l_b14; omega)
  refine s_nil ?_
  refine W_seq ?_
  refine W_region (by kernel_rfl) ?_
  refine s_y (v := .pointer (some ⟨b1, 2, none⟩)) rfl (y_fld (o := 0) T10.fld_27_2_2 rfl) ?_
  refine s_y (v := .int .i64 ln) rfl (y_load T10.one_2 rfl (hB33.cell (j := 2) rfl)) ?_
  refine s_y (v := .pointer (some ⟨b14, 2, none⟩)) rfl (y_fld (o := 0) T10.fld_29_2_2 rfl) ?_
  refine s_k0 rfl (k_store (v := .int .i64 ln) (n := 1) (cs' := [.int .i64 kd, .int .i64 tt, .int .i64 ln, .float .f32 0, .float .f32 0, .int .i64 0]) T10.sz_2_1 rfl rfl rfl hB32 (by simp [Value.cells, Value.oneCell']) (Nat.le_of_ble_eq_true rfl) rfl (fun w36 e37 z38 hB39 => ?_))
  have zw36 := e37.size
  have hB40 := hB33.ext e37 (by show ¬ (_ = _); omega)
  have hB41 := hB34.ext e37 (by show ¬ (_ = _); omega)
  have E42 := E35.fresh e37 (fun kx hs hl => by have hs : kx = b14 := hs; have h0 := l_b14; omega)
  refine s_nil ?_
  refine W_seq ?_
  refine W_region (by kernel_rfl) ?_
  refine s_y (v := .pointer (some ⟨b1, 3, none⟩)) rfl (y_fld (o := 0) T10.fld_27_3_3 rfl) ?_
  refine s_y (v := .float .f32 tn) rfl (y_load T10.one_25 rfl (hB40.cell (j := 3) rfl)) ?_
  refine s_y (v := .pointer (some ⟨b14, 3, none⟩)) rfl (y_fld (o := 0) T10.fld_29_3_3 rfl) ?_
  refine s_k0 rfl (k_store (v := .float .f32 tn) (n := 1) (cs' := [.int .i64 kd, .int .i64 tt, .int .i64 ln, .float .f32 tn, .float .f32 0, .int .i64 0]) T10.sz_25_1 rfl rfl rfl hB39 (by simp [Value.cells, Value.oneCell']) (Nat.le_of_ble_eq_true rfl) rfl (fun w43 e44 z45 hB46 => ?_))
  have zw43 := e44.size
  have hB47 := hB40.ext e44 (by show ¬ (_ = _); omega)
  have hB48 := hB41.ext e44 (by show ¬ (_ = _); omega)
  have E49 := E42.fresh e44 (fun kx hs hl => by have hs : kx = b14 := hs; have h0 := l_b14; omega)
  refine s_nil ?_
  refine W_seq ?_
  refine W_region (by kernel_rfl) ?_
  refine s_y (v := .pointer (some ⟨b1, 4, none⟩)) rfl (y_fld (o := 0) T10.fld_27_4_4 rfl) ?_
  refine s_y (v := .float .f32 sz) rfl (y_load T10.one_25 rfl (hB47.cell (j := 4) rfl)) ?_
  refine s_y (v := .pointer (some ⟨b14, 4, none⟩)) rfl (y_fld (o := 0) T10.fld_29_4_4 rfl) ?_
  refine s_k0 rfl (k_store (v := .float .f32 sz) (n := 1) (cs' := [.int .i64 kd, .int .i64 tt, .int .i64 ln, .float .f32 tn, .float .f32 sz, .int .i64 0]) T10.sz_25_1 rfl rfl rfl hB46 (by simp [Value.cells, Value.oneCell']) (Nat.le_of_ble_eq_true rfl) rfl (fun w50 e51 z52 hB53 => ?_))
  have zw50 := e51.size
  have hB54 := hB47.ext e51 (by show ¬ (_ = _); omega)
  have hB55 := hB48.ext e51 (by show ¬ (_ = _); omega)
  have E56 := E49.fresh e51 (fun kx hs hl => by have hs : kx = b14 := hs; have h0 := l_b14; omega)
  refine s_nil ?_
  refine W_seq ?_
  refine W_region (by kernel_rfl) ?_
  refine s_y (v := .pointer (some ⟨b1, 5, none⟩)) rfl (y_fld (o := 0) T10.fld_27_5_5 rfl) ?_
  refine s_y (v := .int .i64 sd) rfl (y_load T10.one_2 rfl (hB54.cell (j := 5) rfl)) ?_
  refine s_y (v := .pointer (some ⟨b14, 5, none⟩)) rfl (y_fld (o := 0) T10.fld_29_5_5 rfl) ?_
  refine s_k0 rfl (k_store (v := .int .i64 sd) (n := 1) (cs' := [.int .i64 kd, .int .i64 tt, .int .i64 ln, .float .f32 tn, .float .f32 sz, .int .i64 sd]) T10.sz_2_1 rfl rfl rfl hB53 (by simp [Value.cells, Value.oneCell']) (Nat.le_of_ble_eq_true rfl) rfl (fun w57 e58 z59 hB60 => ?_))
  have zw57 := e58.size
  have hB61 := hB54.ext e58 (by show ¬ (_ = _); omega)
  have hB62 := hB55.ext e58 (by show ¬ (_ = _); omega)
  have E63 := E56.fresh e58 (fun kx hs hl => by have hs : kx = b14 := hs; have h0 := l_b14; omega)
  refine s_nil ?_
  refine W_seq ?_
  refine W_region (by kernel_rfl) ?_
  refine s_y (v := .agg #[.int .i64 kd, .int .i64 tt, .int .i64 ln, .float .f32 tn, .float .f32 sz, .int .i64 sd]) rfl (y_loadn (b := b14) (o := 0) (vs := [.int .i64 kd, .int .i64 tt, .int .i64 ln, .float .f32 tn, .float .f32 sz, .int .i64 sd]) T10.agg_29_6 rfl rfl (hB60.cells (o := 0) rfl)) ?_
  refine s_k0 rfl (k_store (v := .agg #[.int .i64 kd, .int .i64 tt, .int .i64 ln, .float .f32 tn, .float .f32 sz, .int .i64 sd]) (n := 6) (cs' := [.int .i64 kd, .int .i64 tt, .int .i64 ln, .float .f32 tn, .float .f32 sz, .int .i64 sd]) T10.sz_29_6 rfl rfl rfl hB62 (by simp [Value.cells, Value.oneCell']) (Nat.le_of_ble_eq_true rfl) rfl (fun w64 e65 z66 hB67 => ?_))
  have zw64 := e65.size
  have hB68 := hB61.ext e65 (by show ¬ (_ = _); omega)
  have hB69 := hB60.ext e65 (by show ¬ (_ = _); omega)
  have E70 := E63.fresh e65 (fun kx hs hl => by have hs : kx = b7 := hs; have h0 := l_b7; omega)
  refine s_nil ?_
  refine W_ret ?_
  refine ret1 rfl rfl ⟨_, [.int .i64 kd, .int .i64 tt, .int .i64 ln, .float .f32 tn, .float .f32 sz, .int .i64 sd], _, rfl, hB67, T10.agg_29_6, rfl⟩ ⟨_, rfl, ?_⟩
  exact ⟨rfl, E70⟩
namespace T31
theorem mx : Try.prog.follows .mixedOrders = true := by kernel_rfl
end T31
set_option maxRecDepth 100000 in
set_option maxHeartbeats 400000 in
theorem c_s_l00In (n lo hi : Int) (w : World) :
    Calls Try.prog 31 #[.int .i64 n, .int .i64 lo, .int .i64 hi] w (Rt fun v w' => v = .bool (within n lo hi) ∧ Ext0 w w') := by
  have E0 : Ext0 w w := Ext.refl _ _
  refine calls_W (n := 15) Try.func31 rfl rfl (Nat.le_of_ble_eq_true rfl) ?_
  refine W_seq ?_
  refine W_region (by kernel_rfl) ?_
  refine s_y (v := .bool false) rfl (y_assign rfl) ?_
  refine s_nil ?_
  refine W_seq ?_
  refine W_region (by kernel_rfl) ?_
  refine s_y (v := .int .i64 n) rfl (y_move rfl) ?_
  refine s_y (v := .int .i64 lo) rfl (y_move rfl) ?_
  by_cases c1 : lo ≤ n
  · refine s_y (v := .bool true) rfl (y_geq rfl rfl (decide_eq_true c1)) ?_
    refine s_y (v := .bool true) rfl (y_move rfl) ?_
    refine s_y (v := .int .i64 n) rfl (y_move rfl) ?_
    refine s_y (v := .int .i64 hi) rfl (y_move rfl) ?_
    by_cases c2 : n ≤ hi
    · refine s_y (v := .bool true) rfl (y_leq rfl rfl (decide_eq_true c2)) ?_
      refine s_y (v := .bool true) rfl (y_pick_t rfl rfl) ?_
      refine s_y (v := .bool true) rfl (y_assign rfl) ?_
      refine s_nil ?_
      refine W_ret ?_
      refine ret1 rfl rfl rfl ⟨_, rfl, ?_⟩
      exact ⟨congrArg Value.bool (by simp [within] <;> omega), E0⟩
    · refine s_y (v := .bool false) rfl (y_leq rfl rfl (decide_eq_false c2)) ?_
      refine s_y (v := .bool false) rfl (y_pick_t rfl rfl) ?_
      refine s_y (v := .bool false) rfl (y_assign rfl) ?_
      refine s_nil ?_
      refine W_ret ?_
      refine ret1 rfl rfl rfl ⟨_, rfl, ?_⟩
      exact ⟨congrArg Value.bool (by simp [within] <;> omega), E0⟩
  · refine s_y (v := .bool false) rfl (y_geq rfl rfl (decide_eq_false c1)) ?_
    refine s_y (v := .bool false) rfl (y_move rfl) ?_
    refine s_skip rfl ?_
    refine s_skip rfl ?_
    refine s_skip rfl ?_
    refine s_y (v := .bool false) rfl (y_pick_f rfl rfl) ?_
    refine s_y (v := .bool false) rfl (y_assign rfl) ?_
    refine s_nil ?_
    refine W_ret ?_
    refine ret1 rfl rfl rfl ⟨_, rfl, ?_⟩
    exact ⟨congrArg Value.bool (by simp [within] <;> omega), E0⟩
namespace T32
theorem mx : Try.prog.follows .mixedOrders = true := by kernel_rfl
theorem fn_31 : fnB Try.prog 31 = true := by kernel_rfl
end T32
set_option maxRecDepth 100000 in
set_option maxHeartbeats 400000 in
theorem c_s_l04Tick (n : Int) (w : World) :
    Calls Try.prog 32 #[.int .i64 n] w (Rt fun v w' => v = .bool (isTick n) ∧ Ext0 w w') := by
  have E0 : Ext0 w w := Ext.refl _ _
  refine calls_W (n := 5) Try.func32 rfl rfl (Nat.le_of_ble_eq_true rfl) ?_
  refine W_seq ?_
  refine W_region (by kernel_rfl) ?_
  refine s_y (v := .bool false) rfl (y_assign rfl) ?_
  refine s_nil ?_
  refine W_seq ?_
  refine W_region (by kernel_rfl) ?_
  refine s_y (v := .int .i64 n) rfl (y_move rfl) ?_
  refine s_k rfl (k_call T32.fn_31 (c_s_l00In _ _ _ _) rfl ?_)
  rintro v3 w1 ⟨hv4, e2⟩
  have zw1 := e2.size
  have E5 := E0.fresh e2 (fun _ h _ => h.elim)
  by_cases c6 : within n 0 1000000 = true
  · have hb7 := within_b c6
    obtain rfl : v3 = .bool true := hv4.trans (congrArg Value.bool c6)
    refine s_y (v := .bool true) rfl (y_assign rfl) ?_
    refine s_nil ?_
    refine W_ret ?_
    refine ret1 rfl rfl rfl ⟨_, rfl, ?_⟩
    exact ⟨congrArg Value.bool (by simp [isTick, *]), E5⟩
  · obtain rfl : v3 = .bool false := hv4.trans (congrArg Value.bool (Bool.eq_false_iff.2 c6))
    refine s_y (v := .bool false) rfl (y_assign rfl) ?_
    refine s_nil ?_
    refine W_ret ?_
    refine ret1 rfl rfl rfl ⟨_, rfl, ?_⟩
    exact ⟨congrArg Value.bool (by simp [isTick, *]), E5⟩
namespace T27
theorem mx : Try.prog.follows .mixedOrders = true := by kernel_rfl
end T27
set_option maxRecDepth 100000 in
set_option maxHeartbeats 400000 in
theorem c_s_l01Finite (x X : Nat) (hx : can .f32 x = X) (w : World) :
    Calls Try.prog 27 #[.float .f32 x] w (Rt fun v w' => v = .bool (finB X) ∧ Ext0 w w') := by
  have E0 : Ext0 w w := Ext.refl _ _
  refine calls_W (n := 7) Try.func27 rfl rfl (Nat.le_of_ble_eq_true rfl) ?_
  refine W_seq ?_
  refine W_region (by kernel_rfl) ?_
  refine s_y (v := .bool false) rfl (y_assign rfl) ?_
  refine s_nil ?_
  refine W_seq ?_
  refine W_region (by kernel_rfl) ?_
  refine s_y (v := .float .f32 x) rfl (y_move rfl) ?_
  refine s_y (v := .float .f32 x) rfl (y_move rfl) ?_
  refine s_n rfl (n_arith (by decide) rfl rfl) ?_
  rintro _ w4 e5 ⟨r2, rfl, hr3⟩
  have zw4 := e5.size
  have E6 := E0.fresh e5 (fun _ h _ => h.elim)
  have hc7 := fopC hr3 hx hx
  by_cases c8 : feq .f32 (fop .sub .f32 X X) 0 = true
  · refine s_y (v := .bool true) rfl (y_feql rfl rfl (feqC hc7 (show can .f32 0 = 0 by kernel_rfl) c8)) ?_
    refine s_y (v := .bool true) rfl (y_assign rfl) ?_
    refine s_nil ?_
    refine W_ret ?_
    refine ret1 rfl rfl rfl ⟨_, rfl, ?_⟩
    exact ⟨congrArg Value.bool (by simp_all [finB]), E6⟩
  · refine s_y (v := .bool false) rfl (y_feql rfl rfl (feqC hc7 (show can .f32 0 = 0 by kernel_rfl) (Bool.eq_false_iff.2 c8))) ?_
    refine s_y (v := .bool false) rfl (y_assign rfl) ?_
    refine s_nil ?_
    refine W_ret ?_
    refine ret1 rfl rfl rfl ⟨_, rfl, ?_⟩
    exact ⟨congrArg Value.bool (by simp_all [finB]), E6⟩
namespace T19
theorem mx : Try.prog.follows .mixedOrders = true := by kernel_rfl
theorem fn_31 : fnB Try.prog 31 = true := by kernel_rfl
end T19
set_option maxRecDepth 100000 in
set_option maxHeartbeats 400000 in
theorem c_s_l04Seed (n : Int) (w : World) :
    Calls Try.prog 19 #[.int .i64 n] w (Rt fun v w' => v = .bool (isSeed n) ∧ Ext0 w w') := by
  have E0 : Ext0 w w := Ext.refl _ _
  refine calls_W (n := 5) Try.func19 rfl rfl (Nat.le_of_ble_eq_true rfl) ?_
  refine W_seq ?_
  refine W_region (by kernel_rfl) ?_
  refine s_y (v := .bool false) rfl (y_assign rfl) ?_
  refine s_nil ?_
  refine W_seq ?_
  refine W_region (by kernel_rfl) ?_
  refine s_y (v := .int .i64 n) rfl (y_move rfl) ?_
  refine s_k rfl (k_call T19.fn_31 (c_s_l00In _ _ _ _) rfl ?_)
  rintro v3 w1 ⟨hv4, e2⟩
  have zw1 := e2.size
  have E5 := E0.fresh e2 (fun _ h _ => h.elim)
  by_cases c6 : within n 0 2147483647 = true
  · have hb7 := within_b c6
    obtain rfl : v3 = .bool true := hv4.trans (congrArg Value.bool c6)
    refine s_y (v := .bool true) rfl (y_assign rfl) ?_
    refine s_nil ?_
    refine W_ret ?_
    refine ret1 rfl rfl rfl ⟨_, rfl, ?_⟩
    exact ⟨congrArg Value.bool (by simp [isSeed, *]), E5⟩
  · obtain rfl : v3 = .bool false := hv4.trans (congrArg Value.bool (Bool.eq_false_iff.2 c6))
    refine s_y (v := .bool false) rfl (y_assign rfl) ?_
    refine s_nil ?_
    refine W_ret ?_
    refine ret1 rfl rfl rfl ⟨_, rfl, ?_⟩
    exact ⟨congrArg Value.bool (by simp [isSeed, *]), E5⟩
namespace T23
theorem mx : Try.prog.follows .mixedOrders = true := by kernel_rfl
theorem fld_29_0_0 : fldB Try.prog 29 0 0 = true := by kernel_rfl
theorem fld_29_1_1 : fldB Try.prog 29 1 1 = true := by kernel_rfl
theorem fld_29_2_2 : fldB Try.prog 29 2 2 = true := by kernel_rfl
theorem fld_29_3_3 : fldB Try.prog 29 3 3 = true := by kernel_rfl
theorem fld_29_5_5 : fldB Try.prog 29 5 5 = true := by kernel_rfl
theorem fn_19 : fnB Try.prog 19 = true := by kernel_rfl
theorem fn_27 : fnB Try.prog 27 = true := by kernel_rfl
theorem fn_31 : fnB Try.prog 31 = true := by kernel_rfl
theorem fn_32 : fnB Try.prog 32 = true := by kernel_rfl
theorem one_2 : oneB Try.prog 2 = true := by kernel_rfl
theorem one_25 : oneB Try.prog 25 = true := by kernel_rfl
end T23
set_option maxRecDepth 100000 in
set_option maxHeartbeats 400000 in
theorem c_s_l04Is (kd tt ln : Int) (tn sz : Nat) (sd : Int) (TN : Nat) (htn : can .f32 tn = TN) (b o : Nat) (w : World) (hP : Sl w (some ⟨b, o, none⟩) [.int .i64 kd, .int .i64 tt, .int .i64 ln, .float .f32 tn, .float .f32 sz, .int .i64 sd]) :
    Calls Try.prog 23 #[.pointer (some ⟨b, o, none⟩)] w (Rt fun v w' => v = .bool (validW kd tt ln TN sd) ∧ Ext0 w w') := by
  have E0 : Ext0 w w := Ext.refl _ _
  refine calls_W (n := 36) Try.func23 rfl rfl (Nat.le_of_ble_eq_true rfl) ?_
  refine W_seq ?_
  refine W_region (by kernel_rfl) ?_
  refine s_y (v := .bool false) rfl (y_assign rfl) ?_
  refine s_nil ?_
  refine W_seq ?_
  refine W_region (by kernel_rfl) ?_
  refine s_y (v := .pointer (some ⟨b, o, none⟩)) rfl (y_move rfl) ?_
  refine s_y (v := .pointer (some ⟨b, o, none⟩)) rfl (y_nil rfl) ?_
  refine s_y (v := .pointer (some ⟨b, o, none⟩)) rfl (y_fld (o := o + 0) T23.fld_29_0_0 rfl) ?_
  refine s_y (v := .int .i64 kd) rfl (y_load T23.one_2 rfl (hP.cell (j := 0) rfl)) ?_
  refine s_k rfl (k_call T23.fn_31 (c_s_l00In _ _ _ _) rfl ?_)
  rintro v3 w1 ⟨hv4, e2⟩
  have zw1 := e2.size
  have hS5 := hP.ext0 e2
  have E6 := E0.fresh e2 (fun _ h _ => h.elim)
  by_cases c7 : within kd 0 4 = true
  · have hb8 := within_b c7
    obtain rfl : v3 = .bool true := hv4.trans (congrArg Value.bool c7)
    refine s_y (v := .bool true) rfl (y_move rfl) ?_
    refine s_y (v := .pointer (some ⟨b, o, none⟩)) rfl (y_move rfl) ?_
    refine s_y (v := .pointer (some ⟨b, o, none⟩)) rfl (y_nil rfl) ?_
    refine s_y (v := .pointer (some ⟨b, o + 1, none⟩)) rfl (y_fld (o := o + 0) T23.fld_29_1_1 rfl) ?_
    refine s_y (v := .int .i64 tt) rfl (y_load T23.one_2 rfl (hS5.cell (j := 1) rfl)) ?_
    refine s_k rfl (k_call T23.fn_32 (c_s_l04Tick _ _) rfl ?_)
    rintro v11 w9 ⟨hv12, e10⟩
    have zw9 := e10.size
    have hS13 := hS5.ext0 e10
    have E14 := E6.fresh e10 (fun _ h _ => h.elim)
    by_cases c15 : isTick tt = true
    · have hb16 := isTick_b c15
      obtain rfl : v11 = .bool true := hv12.trans (congrArg Value.bool c15)
      refine s_y (v := .bool true) rfl (y_pick_t rfl rfl) ?_
      refine s_y (v := .bool true) rfl (y_move rfl) ?_
      refine s_y (v := .pointer (some ⟨b, o, none⟩)) rfl (y_move rfl) ?_
      refine s_y (v := .pointer (some ⟨b, o, none⟩)) rfl (y_nil rfl) ?_
      refine s_y (v := .pointer (some ⟨b, o + 2, none⟩)) rfl (y_fld (o := o + 0) T23.fld_29_2_2 rfl) ?_
      refine s_y (v := .int .i64 ln) rfl (y_load T23.one_2 rfl (hS13.cell (j := 2) rfl)) ?_
      refine s_k rfl (k_call T23.fn_31 (c_s_l00In _ _ _ _) rfl ?_)
      rintro v19 w17 ⟨hv20, e18⟩
      have zw17 := e18.size
      have hS21 := hS13.ext0 e18
      have E22 := E14.fresh e18 (fun _ h _ => h.elim)
      by_cases c23 : within ln 1 1000000 = true
      · have hb24 := within_b c23
        obtain rfl : v19 = .bool true := hv20.trans (congrArg Value.bool c23)
        refine s_y (v := .bool true) rfl (y_pick_t rfl rfl) ?_
        refine s_y (v := .bool true) rfl (y_move rfl) ?_
        refine s_y (v := .pointer (some ⟨b, o, none⟩)) rfl (y_move rfl) ?_
        refine s_y (v := .pointer (some ⟨b, o, none⟩)) rfl (y_nil rfl) ?_
        refine s_y (v := .pointer (some ⟨b, o + 3, none⟩)) rfl (y_fld (o := o + 0) T23.fld_29_3_3 rfl) ?_
        refine s_y (v := .float .f32 tn) rfl (y_load T23.one_25 rfl (hS21.cell (j := 3) rfl)) ?_
        refine s_k rfl (k_call T23.fn_27 (c_s_l01Finite _ _ htn _) rfl ?_)
        rintro v27 w25 ⟨hv28, e26⟩
        have zw25 := e26.size
        have hS29 := hS21.ext0 e26
        have E30 := E22.fresh e26 (fun _ h _ => h.elim)
        by_cases c31 : finB TN = true
        · obtain rfl : v27 = .bool true := hv28.trans (congrArg Value.bool c31)
          refine s_y (v := .bool true) rfl (y_pick_t rfl rfl) ?_
          refine s_y (v := .bool true) rfl (y_move rfl) ?_
          refine s_y (v := .pointer (some ⟨b, o, none⟩)) rfl (y_move rfl) ?_
          refine s_y (v := .pointer (some ⟨b, o, none⟩)) rfl (y_nil rfl) ?_
          refine s_y (v := .pointer (some ⟨b, o + 5, none⟩)) rfl (y_fld (o := o + 0) T23.fld_29_5_5 rfl) ?_
          refine s_y (v := .int .i64 sd) rfl (y_load T23.one_2 rfl (hS29.cell (j := 5) rfl)) ?_
          refine s_k rfl (k_call T23.fn_19 (c_s_l04Seed _ _) rfl ?_)
          rintro v34 w32 ⟨hv35, e33⟩
          have zw32 := e33.size
          have hS36 := hS29.ext0 e33
          have E37 := E30.fresh e33 (fun _ h _ => h.elim)
          by_cases c38 : isSeed sd = true
          · have hb39 := isSeed_b c38
            obtain rfl : v34 = .bool true := hv35.trans (congrArg Value.bool c38)
            refine s_y (v := .bool true) rfl (y_pick_t rfl rfl) ?_
            refine s_y (v := .bool true) rfl (y_assign rfl) ?_
            refine s_nil ?_
            refine W_ret ?_
            refine ret1 rfl rfl rfl ⟨_, rfl, ?_⟩
            exact ⟨congrArg Value.bool (by simp [validW, *]), E37⟩
          · obtain rfl : v34 = .bool false := hv35.trans (congrArg Value.bool (Bool.eq_false_iff.2 c38))
            refine s_y (v := .bool false) rfl (y_pick_t rfl rfl) ?_
            refine s_y (v := .bool false) rfl (y_assign rfl) ?_
            refine s_nil ?_
            refine W_ret ?_
            refine ret1 rfl rfl rfl ⟨_, rfl, ?_⟩
            exact ⟨congrArg Value.bool (by simp [validW, *]), E37⟩
        · obtain rfl : v27 = .bool false := hv28.trans (congrArg Value.bool (Bool.eq_false_iff.2 c31))
          refine s_y (v := .bool false) rfl (y_pick_t rfl rfl) ?_
          refine s_y (v := .bool false) rfl (y_move rfl) ?_
          refine s_skip rfl ?_
          refine s_skip rfl ?_
          refine s_skip rfl ?_
          refine s_skip rfl ?_
          refine s_skip rfl ?_
          refine s_y (v := .bool false) rfl (y_pick_f rfl rfl) ?_
          refine s_y (v := .bool false) rfl (y_assign rfl) ?_
          refine s_nil ?_
          refine W_ret ?_
          refine ret1 rfl rfl rfl ⟨_, rfl, ?_⟩
          exact ⟨congrArg Value.bool (by simp [validW, *]), E30⟩
      · obtain rfl : v19 = .bool false := hv20.trans (congrArg Value.bool (Bool.eq_false_iff.2 c23))
        refine s_y (v := .bool false) rfl (y_pick_t rfl rfl) ?_
        refine s_y (v := .bool false) rfl (y_move rfl) ?_
        refine s_skip rfl ?_
        refine s_skip rfl ?_
        refine s_skip rfl ?_
        refine s_skip rfl ?_
        refine s_skip rfl ?_
        refine s_y (v := .bool false) rfl (y_pick_f rfl rfl) ?_
        refine s_y (v := .bool false) rfl (y_move rfl) ?_
        refine s_skip rfl ?_
        refine s_skip rfl ?_
        refine s_skip rfl ?_
        refine s_skip rfl ?_
        refine s_skip rfl ?_
        refine s_y (v := .bool false) rfl (y_pick_f rfl rfl) ?_
        refine s_y (v := .bool false) rfl (y_assign rfl) ?_
        refine s_nil ?_
        refine W_ret ?_
        refine ret1 rfl rfl rfl ⟨_, rfl, ?_⟩
        exact ⟨congrArg Value.bool (by simp [validW, *]), E22⟩
    · obtain rfl : v11 = .bool false := hv12.trans (congrArg Value.bool (Bool.eq_false_iff.2 c15))
      refine s_y (v := .bool false) rfl (y_pick_t rfl rfl) ?_
      refine s_y (v := .bool false) rfl (y_move rfl) ?_
      refine s_skip rfl ?_
      refine s_skip rfl ?_
      refine s_skip rfl ?_
      refine s_skip rfl ?_
      refine s_skip rfl ?_
      refine s_y (v := .bool false) rfl (y_pick_f rfl rfl) ?_
      refine s_y (v := .bool false) rfl (y_move rfl) ?_
      refine s_skip rfl ?_
      refine s_skip rfl ?_
      refine s_skip rfl ?_
      refine s_skip rfl ?_
      refine s_skip rfl ?_
      refine s_y (v := .bool false) rfl (y_pick_f rfl rfl) ?_
      refine s_y (v := .bool false) rfl (y_move rfl) ?_
      refine s_skip rfl ?_
      refine s_skip rfl ?_
      refine s_skip rfl ?_
      refine s_skip rfl ?_
      refine s_skip rfl ?_
      refine s_y (v := .bool false) rfl (y_pick_f rfl rfl) ?_
      refine s_y (v := .bool false) rfl (y_assign rfl) ?_
      refine s_nil ?_
      refine W_ret ?_
      refine ret1 rfl rfl rfl ⟨_, rfl, ?_⟩
      exact ⟨congrArg Value.bool (by simp [validW, *]), E14⟩
  · obtain rfl : v3 = .bool false := hv4.trans (congrArg Value.bool (Bool.eq_false_iff.2 c7))
    refine s_y (v := .bool false) rfl (y_move rfl) ?_
    refine s_skip rfl ?_
    refine s_skip rfl ?_
    refine s_skip rfl ?_
    refine s_skip rfl ?_
    refine s_skip rfl ?_
    refine s_y (v := .bool false) rfl (y_pick_f rfl rfl) ?_
    refine s_y (v := .bool false) rfl (y_move rfl) ?_
    refine s_skip rfl ?_
    refine s_skip rfl ?_
    refine s_skip rfl ?_
    refine s_skip rfl ?_
    refine s_skip rfl ?_
    refine s_y (v := .bool false) rfl (y_pick_f rfl rfl) ?_
    refine s_y (v := .bool false) rfl (y_move rfl) ?_
    refine s_skip rfl ?_
    refine s_skip rfl ?_
    refine s_skip rfl ?_
    refine s_skip rfl ?_
    refine s_skip rfl ?_
    refine s_y (v := .bool false) rfl (y_pick_f rfl rfl) ?_
    refine s_y (v := .bool false) rfl (y_move rfl) ?_
    refine s_skip rfl ?_
    refine s_skip rfl ?_
    refine s_skip rfl ?_
    refine s_skip rfl ?_
    refine s_skip rfl ?_
    refine s_y (v := .bool false) rfl (y_pick_f rfl rfl) ?_
    refine s_y (v := .bool false) rfl (y_assign rfl) ?_
    refine s_nil ?_
    refine W_ret ?_
    refine ret1 rfl rfl rfl ⟨_, rfl, ?_⟩
    exact ⟨congrArg Value.bool (by simp [validW, *]), E6⟩
namespace T16
theorem mx : Try.prog.follows .mixedOrders = true := by kernel_rfl
theorem agg_29_6 : aggB Try.prog 29 6 = true := by kernel_rfl
theorem fld_29_1_1 : fldB Try.prog 29 1 1 = true := by kernel_rfl
theorem fn_23 : fnB Try.prog 23 = true := by kernel_rfl
theorem fn_31 : fnB Try.prog 31 = true := by kernel_rfl
theorem fn_32 : fnB Try.prog 32 = true := by kernel_rfl
theorem one_2 : oneB Try.prog 2 = true := by kernel_rfl
theorem sz_2_1 : szB Try.prog 2 1 = true := by kernel_rfl
theorem sz_29_6 : szB Try.prog 29 6 = true := by kernel_rfl
theorem zero_29 : zeroB Try.prog 29 (.agg #[.int .i64 0, .int .i64 0, .int .i64 0, .float .f32 0, .float .f32 0, .int .i64 0]) := by unfold zeroB; kernel_rfl
end T16
set_option maxRecDepth 100000 in
set_option maxHeartbeats 400000 in
theorem c_s_LaterWave (kd tt ln : Int) (tn sz : Nat) (sd : Int) (TN : Nat) (htn : can .f32 tn = TN) (y : Int) (w : World) :
    Calls Try.prog 16 #[.agg #[.int .i64 kd, .int .i64 tt, .int .i64 ln, .float .f32 tn, .float .f32 sz, .int .i64 sd], .int .i64 y] w (Rt fun v w' => v = (if laterB kd tt ln TN sd y = true then .tuple #[.agg #[.int .i64 kd, .int .i64 (tt + y), .int .i64 ln, .float .f32 tn, .float .f32 sz, .int .i64 sd], .bool true] else .tuple #[.agg #[.int .i64 0, .int .i64 0, .int .i64 0, .float .f32 0, .float .f32 0, .int .i64 0], .bool false]) ∧ Ext0 w w') := by
  have E0 : Ext0 w w := Ext.refl _ _
  refine calls_W (n := 28) Try.func16 rfl rfl (Nat.le_of_ble_eq_true rfl) ?_
  refine W_seq ?_
  refine W_region (by kernel_rfl) ?_
  refine s_k rfl (k_box (v := .agg #[.int .i64 kd, .int .i64 tt, .int .i64 ln, .float .f32 tn, .float .f32 sz, .int .i64 sd]) (cs := [.int .i64 kd, .int .i64 tt, .int .i64 ln, .float .f32 tn, .float .f32 sz, .int .i64 sd]) rfl rfl (fun b1 w2 q4 e3 hB5 => ?_))
  have zw2 := e3.size
  have E6 := E0.fresh e3 (fun _ h _ => h.elim)
  have l_b1 : w.heap.size ≤ b1 := by omega
  have t_b1 := hB5.lt
  refine s_k rfl (k_alloc (z := (.agg #[.int .i64 0, .int .i64 0, .int .i64 0, .float .f32 0, .float .f32 0, .int .i64 0])) (cs := [.int .i64 0, .int .i64 0, .int .i64 0, .float .f32 0, .float .f32 0, .int .i64 0]) T16.zero_29 rfl (fun b7 w8 q10 e9 hB11 => ?_))
  have zw8 := e9.size
  have hB12 := hB5.ext0 e9
  have E13 := E6.fresh e9 (fun _ h _ => h.elim)
  have l_b7 : w.heap.size ≤ b7 := by have := E13.size; omega
  have t_b7 := hB11.lt
  refine s_y (v := .bool false) rfl (y_assign rfl) ?_
  refine s_nil ?_
  refine W_seq ?_
  refine W_seq ?_
  refine W_region (by kernel_rfl) ?_
  refine s_k rfl (k_call T16.fn_23 (c_s_l04Is _ _ _ _ _ _ _ htn b1 0 _ hB12.sl) rfl ?_)
  rintro v16 w14 ⟨hv17, e15⟩
  have zw14 := e15.size
  have hB18 := hB12.ext0 e15
  have hB19 := hB11.ext0 e15
  have E20 := E13.fresh e15 (fun _ h _ => h.elim)
  by_cases c21 : validW kd tt ln TN sd = true
  · have hb22 := validW_b c21
    obtain rfl : v16 = .bool true := hv17.trans (congrArg Value.bool c21)
    refine s_y (v := .bool false) rfl (y_not rfl rfl) ?_
    refine s_y (v := .bool false) rfl (y_move rfl) ?_
    refine s_y (v := .int .i64 y) rfl (y_move rfl) ?_
    refine s_k rfl (k_call T16.fn_31 (c_s_l00In _ _ _ _) rfl ?_)
    rintro v25 w23 ⟨hv26, e24⟩
    have zw23 := e24.size
    have hB27 := hB18.ext0 e24
    have hB28 := hB19.ext0 e24
    have E29 := E20.fresh e24 (fun _ h _ => h.elim)
    by_cases c30 : within y (-1000000) 1000000 = true
    · have hb31 := within_b c30
      obtain rfl : v25 = .bool true := hv26.trans (congrArg Value.bool c30)
      refine s_y (v := .bool false) rfl (y_not rfl rfl) ?_
      refine s_y (v := .bool false) rfl (y_pick_f rfl rfl) ?_
      refine s_y (v := .bool false) rfl (y_move rfl) ?_
      refine s_y (v := .pointer (some ⟨b1, 1, none⟩)) rfl (y_fld (o := 0) T16.fld_29_1_1 rfl) ?_
      refine s_y (v := .int .i64 tt) rfl (y_load T16.one_2 rfl (hB27.cell (j := 1) rfl)) ?_
      refine s_y (v := .int .i64 y) rfl (y_move rfl) ?_
      refine s_y (v := .int .i64 (tt + y)) rfl (y_add rfl rfl rfl (by omega)) ?_
      refine s_k rfl (k_call T16.fn_32 (c_s_l04Tick _ _) rfl ?_)
      rintro v34 w32 ⟨hv35, e33⟩
      have zw32 := e33.size
      have hB36 := hB27.ext0 e33
      have hB37 := hB28.ext0 e33
      have E38 := E29.fresh e33 (fun _ h _ => h.elim)
      by_cases c39 : isTick (tt + y) = true
      · have hb40 := isTick_b c39
        obtain rfl : v34 = .bool true := hv35.trans (congrArg Value.bool c39)
        refine s_y (v := .bool false) rfl (y_not rfl rfl) ?_
        refine s_y (v := .bool false) rfl (y_pick_f rfl rfl) ?_
        refine s_nil ?_
        refine W_if_f (by decide) rfl ?_
        refine W_skip ?_
        refine W_seq ?_
        refine W_region (by kernel_rfl) ?_
        refine s_y (v := .pointer (some ⟨b1, 1, none⟩)) rfl (y_fld (o := 0) T16.fld_29_1_1 rfl) ?_
        refine s_y (v := .int .i64 tt) rfl (y_load T16.one_2 rfl (hB36.cell (j := 1) rfl)) ?_
        refine s_y (v := .int .i64 y) rfl (y_move rfl) ?_
        refine s_y (v := .int .i64 (tt + y)) rfl (y_add rfl rfl rfl (by omega)) ?_
        refine s_y (v := .pointer (some ⟨b1, 1, none⟩)) rfl (y_fld (o := 0) T16.fld_29_1_1 rfl) ?_
        refine s_k0 rfl (k_store (v := .int .i64 (tt + y)) (n := 1) (cs' := [.int .i64 kd, .int .i64 (tt + y), .int .i64 ln, .float .f32 tn, .float .f32 sz, .int .i64 sd]) T16.sz_2_1 rfl rfl rfl hB36 (by simp [Value.cells, Value.oneCell']) (Nat.le_of_ble_eq_true rfl) rfl (fun w41 e42 z43 hB44 => ?_))
        have zw41 := e42.size
        have hB45 := hB37.ext e42 (by show ¬ (_ = _); omega)
        have E46 := E38.fresh e42 (fun kx hs hl => by have hs : kx = b1 := hs; have h0 := l_b1; omega)
        refine s_nil ?_
        refine W_seq ?_
        refine W_region (by kernel_rfl) ?_
        refine s_y (v := .agg #[.int .i64 kd, .int .i64 (tt + y), .int .i64 ln, .float .f32 tn, .float .f32 sz, .int .i64 sd]) rfl (y_loadn (b := b1) (o := 0) (vs := [.int .i64 kd, .int .i64 (tt + y), .int .i64 ln, .float .f32 tn, .float .f32 sz, .int .i64 sd]) T16.agg_29_6 rfl rfl (hB44.cells (o := 0) rfl)) ?_
        refine s_k0 rfl (k_store (v := .agg #[.int .i64 kd, .int .i64 (tt + y), .int .i64 ln, .float .f32 tn, .float .f32 sz, .int .i64 sd]) (n := 6) (cs' := [.int .i64 kd, .int .i64 (tt + y), .int .i64 ln, .float .f32 tn, .float .f32 sz, .int .i64 sd]) T16.sz_29_6 rfl rfl rfl hB45 (by simp [Value.cells, Value.oneCell']) (Nat.le_of_ble_eq_true rfl) rfl (fun w47 e48 z49 hB50 => ?_))
        have zw47 := e48.size
        have hB51 := hB44.ext e48 (by show ¬ (_ = _); omega)
        have E52 := E46.fresh e48 (fun kx hs hl => by have hs : kx = b7 := hs; have h0 := l_b7; omega)
        refine s_y (v := .bool true) rfl (y_assign rfl) ?_
        refine s_nil ?_
        refine W_ret ?_
        refine ret2 rfl rfl rfl ⟨_, [.int .i64 kd, .int .i64 (tt + y), .int .i64 ln, .float .f32 tn, .float .f32 sz, .int .i64 sd], _, rfl, hB50, T16.agg_29_6, rfl⟩ rfl ⟨_, rfl, ?_⟩
        exact ⟨(if_pos (by simp_all [laterB, later_valid])).symm, E52⟩
      · obtain rfl : v34 = .bool false := hv35.trans (congrArg Value.bool (Bool.eq_false_iff.2 c39))
        refine s_y (v := .bool true) rfl (y_not rfl rfl) ?_
        refine s_y (v := .bool true) rfl (y_pick_f rfl rfl) ?_
        refine s_nil ?_
        refine W_if_t (by decide) rfl ?_
        refine W_seq ?_
        refine W_region (by kernel_rfl) ?_
        refine s_y (v := .agg #[.int .i64 0, .int .i64 0, .int .i64 0, .float .f32 0, .float .f32 0, .int .i64 0]) rfl (y_build (cells := #[.int .i64 0, .int .i64 0, .int .i64 0, .float .f32 0, .float .f32 0, .int .i64 0]) (by kernel_rfl)) ?_
        refine s_k0 rfl (k_store (v := .agg #[.int .i64 0, .int .i64 0, .int .i64 0, .float .f32 0, .float .f32 0, .int .i64 0]) (n := 6) (cs' := [.int .i64 0, .int .i64 0, .int .i64 0, .float .f32 0, .float .f32 0, .int .i64 0]) T16.sz_29_6 rfl rfl rfl hB37 (by simp [Value.cells, Value.oneCell']) (Nat.le_of_ble_eq_true rfl) rfl (fun w53 e54 z55 hB56 => ?_))
        have zw53 := e54.size
        have hB57 := hB36.ext e54 (by show ¬ (_ = _); omega)
        have E58 := E38.fresh e54 (fun kx hs hl => by have hs : kx = b7 := hs; have h0 := l_b7; omega)
        refine s_y (v := .bool false) rfl (y_assign rfl) ?_
        refine s_nil ?_
        refine W_ret ?_
        refine ret2 rfl rfl rfl ⟨_, [.int .i64 0, .int .i64 0, .int .i64 0, .float .f32 0, .float .f32 0, .int .i64 0], _, rfl, hB56, T16.agg_29_6, rfl⟩ rfl ⟨_, rfl, ?_⟩
        exact ⟨(if_neg (by simp_all [laterB, later_valid])).symm, E58⟩
    · obtain rfl : v25 = .bool false := hv26.trans (congrArg Value.bool (Bool.eq_false_iff.2 c30))
      refine s_y (v := .bool true) rfl (y_not rfl rfl) ?_
      refine s_y (v := .bool true) rfl (y_pick_f rfl rfl) ?_
      refine s_y (v := .bool true) rfl (y_move rfl) ?_
      refine s_skip rfl ?_
      refine s_skip rfl ?_
      refine s_skip rfl ?_
      refine s_skip rfl ?_
      refine s_skip rfl ?_
      refine s_skip rfl ?_
      refine s_y (v := .bool true) rfl (y_pick_t rfl rfl) ?_
      refine s_nil ?_
      refine W_if_t (by decide) rfl ?_
      refine W_seq ?_
      refine W_region (by kernel_rfl) ?_
      refine s_y (v := .agg #[.int .i64 0, .int .i64 0, .int .i64 0, .float .f32 0, .float .f32 0, .int .i64 0]) rfl (y_build (cells := #[.int .i64 0, .int .i64 0, .int .i64 0, .float .f32 0, .float .f32 0, .int .i64 0]) (by kernel_rfl)) ?_
      refine s_k0 rfl (k_store (v := .agg #[.int .i64 0, .int .i64 0, .int .i64 0, .float .f32 0, .float .f32 0, .int .i64 0]) (n := 6) (cs' := [.int .i64 0, .int .i64 0, .int .i64 0, .float .f32 0, .float .f32 0, .int .i64 0]) T16.sz_29_6 rfl rfl rfl hB28 (by simp [Value.cells, Value.oneCell']) (Nat.le_of_ble_eq_true rfl) rfl (fun w59 e60 z61 hB62 => ?_))
      have zw59 := e60.size
      have hB63 := hB27.ext e60 (by show ¬ (_ = _); omega)
      have E64 := E29.fresh e60 (fun kx hs hl => by have hs : kx = b7 := hs; have h0 := l_b7; omega)
      refine s_y (v := .bool false) rfl (y_assign rfl) ?_
      refine s_nil ?_
      refine W_ret ?_
      refine ret2 rfl rfl rfl ⟨_, [.int .i64 0, .int .i64 0, .int .i64 0, .float .f32 0, .float .f32 0, .int .i64 0], _, rfl, hB62, T16.agg_29_6, rfl⟩ rfl ⟨_, rfl, ?_⟩
      exact ⟨(if_neg (by simp_all [laterB, later_valid])).symm, E64⟩
  · obtain rfl : v16 = .bool false := hv17.trans (congrArg Value.bool (Bool.eq_false_iff.2 c21))
    refine s_y (v := .bool true) rfl (y_not rfl rfl) ?_
    refine s_y (v := .bool true) rfl (y_move rfl) ?_
    refine s_skip rfl ?_
    refine s_skip rfl ?_
    refine s_skip rfl ?_
    refine s_y (v := .bool true) rfl (y_pick_t rfl rfl) ?_
    refine s_y (v := .bool true) rfl (y_move rfl) ?_
    refine s_skip rfl ?_
    refine s_skip rfl ?_
    refine s_skip rfl ?_
    refine s_skip rfl ?_
    refine s_skip rfl ?_
    refine s_skip rfl ?_
    refine s_y (v := .bool true) rfl (y_pick_t rfl rfl) ?_
    refine s_nil ?_
    refine W_if_t (by decide) rfl ?_
    refine W_seq ?_
    refine W_region (by kernel_rfl) ?_
    refine s_y (v := .agg #[.int .i64 0, .int .i64 0, .int .i64 0, .float .f32 0, .float .f32 0, .int .i64 0]) rfl (y_build (cells := #[.int .i64 0, .int .i64 0, .int .i64 0, .float .f32 0, .float .f32 0, .int .i64 0]) (by kernel_rfl)) ?_
    refine s_k0 rfl (k_store (v := .agg #[.int .i64 0, .int .i64 0, .int .i64 0, .float .f32 0, .float .f32 0, .int .i64 0]) (n := 6) (cs' := [.int .i64 0, .int .i64 0, .int .i64 0, .float .f32 0, .float .f32 0, .int .i64 0]) T16.sz_29_6 rfl rfl rfl hB19 (by simp [Value.cells, Value.oneCell']) (Nat.le_of_ble_eq_true rfl) rfl (fun w65 e66 z67 hB68 => ?_))
    have zw65 := e66.size
    have hB69 := hB18.ext e66 (by show ¬ (_ = _); omega)
    have E70 := E20.fresh e66 (fun kx hs hl => by have hs : kx = b7 := hs; have h0 := l_b7; omega)
    refine s_y (v := .bool false) rfl (y_assign rfl) ?_
    refine s_nil ?_
    refine W_ret ?_
    refine ret2 rfl rfl rfl ⟨_, [.int .i64 0, .int .i64 0, .int .i64 0, .float .f32 0, .float .f32 0, .int .i64 0], _, rfl, hB68, T16.agg_29_6, rfl⟩ rfl ⟨_, rfl, ?_⟩
    exact ⟨(if_neg (by simp_all [laterB, later_valid])).symm, E70⟩
namespace T24
theorem mx : Try.prog.follows .mixedOrders = true := by kernel_rfl
end T24
set_option maxRecDepth 100000 in
set_option maxHeartbeats 400000 in
theorem c_i_within (n lo hi : Int) (w : World) :
    Calls Try.prog 24 #[.int .i64 n, .int .i64 lo, .int .i64 hi] w (Rt fun v w' => v = .bool (within n lo hi) ∧ Ext0 w w') := by
  have E0 : Ext0 w w := Ext.refl _ _
  refine calls_W (n := 15) Try.func24 rfl rfl (Nat.le_of_ble_eq_true rfl) ?_
  refine W_seq ?_
  refine W_region (by kernel_rfl) ?_
  refine s_y (v := .bool false) rfl (y_assign rfl) ?_
  refine s_nil ?_
  refine W_seq ?_
  refine W_region (by kernel_rfl) ?_
  refine s_y (v := .int .i64 n) rfl (y_move rfl) ?_
  refine s_y (v := .int .i64 lo) rfl (y_move rfl) ?_
  by_cases c1 : lo ≤ n
  · refine s_y (v := .bool true) rfl (y_geq rfl rfl (decide_eq_true c1)) ?_
    refine s_y (v := .bool true) rfl (y_move rfl) ?_
    refine s_y (v := .int .i64 n) rfl (y_move rfl) ?_
    refine s_y (v := .int .i64 hi) rfl (y_move rfl) ?_
    by_cases c2 : n ≤ hi
    · refine s_y (v := .bool true) rfl (y_leq rfl rfl (decide_eq_true c2)) ?_
      refine s_y (v := .bool true) rfl (y_pick_t rfl rfl) ?_
      refine s_y (v := .bool true) rfl (y_assign rfl) ?_
      refine s_nil ?_
      refine W_ret ?_
      refine ret1 rfl rfl rfl ⟨_, rfl, ?_⟩
      exact ⟨congrArg Value.bool (by simp [within] <;> omega), E0⟩
    · refine s_y (v := .bool false) rfl (y_leq rfl rfl (decide_eq_false c2)) ?_
      refine s_y (v := .bool false) rfl (y_pick_t rfl rfl) ?_
      refine s_y (v := .bool false) rfl (y_assign rfl) ?_
      refine s_nil ?_
      refine W_ret ?_
      refine ret1 rfl rfl rfl ⟨_, rfl, ?_⟩
      exact ⟨congrArg Value.bool (by simp [within] <;> omega), E0⟩
  · refine s_y (v := .bool false) rfl (y_geq rfl rfl (decide_eq_false c1)) ?_
    refine s_y (v := .bool false) rfl (y_move rfl) ?_
    refine s_skip rfl ?_
    refine s_skip rfl ?_
    refine s_skip rfl ?_
    refine s_y (v := .bool false) rfl (y_pick_f rfl rfl) ?_
    refine s_y (v := .bool false) rfl (y_assign rfl) ?_
    refine s_nil ?_
    refine W_ret ?_
    refine ret1 rfl rfl rfl ⟨_, rfl, ?_⟩
    exact ⟨congrArg Value.bool (by simp [within] <;> omega), E0⟩
namespace T25
theorem mx : Try.prog.follows .mixedOrders = true := by kernel_rfl
theorem fn_24 : fnB Try.prog 24 = true := by kernel_rfl
end T25
set_option maxRecDepth 100000 in
set_option maxHeartbeats 400000 in
theorem c_i_isTick (n : Int) (w : World) :
    Calls Try.prog 25 #[.int .i64 n] w (Rt fun v w' => v = .bool (isTick n) ∧ Ext0 w w') := by
  have E0 : Ext0 w w := Ext.refl _ _
  refine calls_W (n := 5) Try.func25 rfl rfl (Nat.le_of_ble_eq_true rfl) ?_
  refine W_seq ?_
  refine W_region (by kernel_rfl) ?_
  refine s_y (v := .bool false) rfl (y_assign rfl) ?_
  refine s_nil ?_
  refine W_seq ?_
  refine W_region (by kernel_rfl) ?_
  refine s_y (v := .int .i64 n) rfl (y_move rfl) ?_
  refine s_k rfl (k_call T25.fn_24 (c_i_within _ _ _ _) rfl ?_)
  rintro v3 w1 ⟨hv4, e2⟩
  have zw1 := e2.size
  have E5 := E0.fresh e2 (fun _ h _ => h.elim)
  by_cases c6 : within n 0 1000000 = true
  · have hb7 := within_b c6
    obtain rfl : v3 = .bool true := hv4.trans (congrArg Value.bool c6)
    refine s_y (v := .bool true) rfl (y_assign rfl) ?_
    refine s_nil ?_
    refine W_ret ?_
    refine ret1 rfl rfl rfl ⟨_, rfl, ?_⟩
    exact ⟨congrArg Value.bool (by simp [isTick, *]), E5⟩
  · obtain rfl : v3 = .bool false := hv4.trans (congrArg Value.bool (Bool.eq_false_iff.2 c6))
    refine s_y (v := .bool false) rfl (y_assign rfl) ?_
    refine s_nil ?_
    refine W_ret ?_
    refine ret1 rfl rfl rfl ⟨_, rfl, ?_⟩
    exact ⟨congrArg Value.bool (by simp [isTick, *]), E5⟩
namespace T26
theorem mx : Try.prog.follows .mixedOrders = true := by kernel_rfl
end T26
set_option maxRecDepth 100000 in
set_option maxHeartbeats 400000 in
theorem c_i_IsFinite (x X : Nat) (hx : can .f32 x = X) (w : World) :
    Calls Try.prog 26 #[.float .f32 x] w (Rt fun v w' => v = .bool (finB X) ∧ Ext0 w w') := by
  have E0 : Ext0 w w := Ext.refl _ _
  refine calls_W (n := 7) Try.func26 rfl rfl (Nat.le_of_ble_eq_true rfl) ?_
  refine W_seq ?_
  refine W_region (by kernel_rfl) ?_
  refine s_y (v := .bool false) rfl (y_assign rfl) ?_
  refine s_nil ?_
  refine W_seq ?_
  refine W_region (by kernel_rfl) ?_
  refine s_y (v := .float .f32 x) rfl (y_move rfl) ?_
  refine s_y (v := .float .f32 x) rfl (y_move rfl) ?_
  refine s_n rfl (n_arith (by decide) rfl rfl) ?_
  rintro _ w4 e5 ⟨r2, rfl, hr3⟩
  have zw4 := e5.size
  have E6 := E0.fresh e5 (fun _ h _ => h.elim)
  have hc7 := fopC hr3 hx hx
  by_cases c8 : feq .f32 (fop .sub .f32 X X) 0 = true
  · refine s_y (v := .bool true) rfl (y_feql rfl rfl (feqC hc7 (show can .f32 0 = 0 by kernel_rfl) c8)) ?_
    refine s_y (v := .bool true) rfl (y_assign rfl) ?_
    refine s_nil ?_
    refine W_ret ?_
    refine ret1 rfl rfl rfl ⟨_, rfl, ?_⟩
    exact ⟨congrArg Value.bool (by simp_all [finB]), E6⟩
  · refine s_y (v := .bool false) rfl (y_feql rfl rfl (feqC hc7 (show can .f32 0 = 0 by kernel_rfl) (Bool.eq_false_iff.2 c8))) ?_
    refine s_y (v := .bool false) rfl (y_assign rfl) ?_
    refine s_nil ?_
    refine W_ret ?_
    refine ret1 rfl rfl rfl ⟨_, rfl, ?_⟩
    exact ⟨congrArg Value.bool (by simp_all [finB]), E6⟩
namespace T21
theorem mx : Try.prog.follows .mixedOrders = true := by kernel_rfl
theorem fn_24 : fnB Try.prog 24 = true := by kernel_rfl
end T21
set_option maxRecDepth 100000 in
set_option maxHeartbeats 400000 in
theorem c_i_isSeed (n : Int) (w : World) :
    Calls Try.prog 21 #[.int .i64 n] w (Rt fun v w' => v = .bool (isSeed n) ∧ Ext0 w w') := by
  have E0 : Ext0 w w := Ext.refl _ _
  refine calls_W (n := 5) Try.func21 rfl rfl (Nat.le_of_ble_eq_true rfl) ?_
  refine W_seq ?_
  refine W_region (by kernel_rfl) ?_
  refine s_y (v := .bool false) rfl (y_assign rfl) ?_
  refine s_nil ?_
  refine W_seq ?_
  refine W_region (by kernel_rfl) ?_
  refine s_y (v := .int .i64 n) rfl (y_move rfl) ?_
  refine s_k rfl (k_call T21.fn_24 (c_i_within _ _ _ _) rfl ?_)
  rintro v3 w1 ⟨hv4, e2⟩
  have zw1 := e2.size
  have E5 := E0.fresh e2 (fun _ h _ => h.elim)
  by_cases c6 : within n 0 2147483647 = true
  · have hb7 := within_b c6
    obtain rfl : v3 = .bool true := hv4.trans (congrArg Value.bool c6)
    refine s_y (v := .bool true) rfl (y_assign rfl) ?_
    refine s_nil ?_
    refine W_ret ?_
    refine ret1 rfl rfl rfl ⟨_, rfl, ?_⟩
    exact ⟨congrArg Value.bool (by simp [isSeed, *]), E5⟩
  · obtain rfl : v3 = .bool false := hv4.trans (congrArg Value.bool (Bool.eq_false_iff.2 c6))
    refine s_y (v := .bool false) rfl (y_assign rfl) ?_
    refine s_nil ?_
    refine W_ret ?_
    refine ret1 rfl rfl rfl ⟨_, rfl, ?_⟩
    exact ⟨congrArg Value.bool (by simp [isSeed, *]), E5⟩
namespace T11
theorem mx : Try.prog.follows .mixedOrders = true := by kernel_rfl
theorem fld_29_0_0 : fldB Try.prog 29 0 0 = true := by kernel_rfl
theorem fld_29_1_1 : fldB Try.prog 29 1 1 = true := by kernel_rfl
theorem fld_29_2_2 : fldB Try.prog 29 2 2 = true := by kernel_rfl
theorem fld_29_3_3 : fldB Try.prog 29 3 3 = true := by kernel_rfl
theorem fld_29_5_5 : fldB Try.prog 29 5 5 = true := by kernel_rfl
theorem fn_21 : fnB Try.prog 21 = true := by kernel_rfl
theorem fn_24 : fnB Try.prog 24 = true := by kernel_rfl
theorem fn_25 : fnB Try.prog 25 = true := by kernel_rfl
theorem fn_26 : fnB Try.prog 26 = true := by kernel_rfl
theorem one_2 : oneB Try.prog 2 = true := by kernel_rfl
theorem one_25 : oneB Try.prog 25 = true := by kernel_rfl
end T11
set_option maxRecDepth 100000 in
set_option maxHeartbeats 400000 in
theorem c_i_ValidWave (kd tt ln : Int) (tn sz : Nat) (sd : Int) (TN : Nat) (htn : can .f32 tn = TN) (w : World) :
    Calls Try.prog 11 #[.agg #[.int .i64 kd, .int .i64 tt, .int .i64 ln, .float .f32 tn, .float .f32 sz, .int .i64 sd]] w (Rt fun v w' => v = .bool (validW kd tt ln TN sd) ∧ Ext0 w w') := by
  have E0 : Ext0 w w := Ext.refl _ _
  refine calls_W (n := 26) Try.func11 rfl rfl (Nat.le_of_ble_eq_true rfl) ?_
  refine W_seq ?_
  refine W_region (by kernel_rfl) ?_
  refine s_k rfl (k_box (v := .agg #[.int .i64 kd, .int .i64 tt, .int .i64 ln, .float .f32 tn, .float .f32 sz, .int .i64 sd]) (cs := [.int .i64 kd, .int .i64 tt, .int .i64 ln, .float .f32 tn, .float .f32 sz, .int .i64 sd]) rfl rfl (fun b1 w2 q4 e3 hB5 => ?_))
  have zw2 := e3.size
  have E6 := E0.fresh e3 (fun _ h _ => h.elim)
  have l_b1 : w.heap.size ≤ b1 := by omega
  have t_b1 := hB5.lt
  refine s_y (v := .bool false) rfl (y_assign rfl) ?_
  refine s_nil ?_
  refine W_seq ?_
  refine W_region (by kernel_rfl) ?_
  refine s_y (v := .pointer (some ⟨b1, 0, none⟩)) rfl (y_fld (o := 0) T11.fld_29_0_0 rfl) ?_
  refine s_y (v := .int .i64 kd) rfl (y_load T11.one_2 rfl (hB5.cell (j := 0) rfl)) ?_
  refine s_k rfl (k_call T11.fn_24 (c_i_within _ _ _ _) rfl ?_)
  rintro v9 w7 ⟨hv10, e8⟩
  have zw7 := e8.size
  have hB11 := hB5.ext0 e8
  have E12 := E6.fresh e8 (fun _ h _ => h.elim)
  by_cases c13 : within kd 0 4 = true
  · have hb14 := within_b c13
    obtain rfl : v9 = .bool true := hv10.trans (congrArg Value.bool c13)
    refine s_y (v := .bool true) rfl (y_move rfl) ?_
    refine s_y (v := .pointer (some ⟨b1, 1, none⟩)) rfl (y_fld (o := 0) T11.fld_29_1_1 rfl) ?_
    refine s_y (v := .int .i64 tt) rfl (y_load T11.one_2 rfl (hB11.cell (j := 1) rfl)) ?_
    refine s_k rfl (k_call T11.fn_25 (c_i_isTick _ _) rfl ?_)
    rintro v17 w15 ⟨hv18, e16⟩
    have zw15 := e16.size
    have hB19 := hB11.ext0 e16
    have E20 := E12.fresh e16 (fun _ h _ => h.elim)
    by_cases c21 : isTick tt = true
    · have hb22 := isTick_b c21
      obtain rfl : v17 = .bool true := hv18.trans (congrArg Value.bool c21)
      refine s_y (v := .bool true) rfl (y_pick_t rfl rfl) ?_
      refine s_y (v := .bool true) rfl (y_move rfl) ?_
      refine s_y (v := .pointer (some ⟨b1, 2, none⟩)) rfl (y_fld (o := 0) T11.fld_29_2_2 rfl) ?_
      refine s_y (v := .int .i64 ln) rfl (y_load T11.one_2 rfl (hB19.cell (j := 2) rfl)) ?_
      refine s_k rfl (k_call T11.fn_24 (c_i_within _ _ _ _) rfl ?_)
      rintro v25 w23 ⟨hv26, e24⟩
      have zw23 := e24.size
      have hB27 := hB19.ext0 e24
      have E28 := E20.fresh e24 (fun _ h _ => h.elim)
      by_cases c29 : within ln 1 1000000 = true
      · have hb30 := within_b c29
        obtain rfl : v25 = .bool true := hv26.trans (congrArg Value.bool c29)
        refine s_y (v := .bool true) rfl (y_pick_t rfl rfl) ?_
        refine s_y (v := .bool true) rfl (y_move rfl) ?_
        refine s_y (v := .pointer (some ⟨b1, 3, none⟩)) rfl (y_fld (o := 0) T11.fld_29_3_3 rfl) ?_
        refine s_y (v := .float .f32 tn) rfl (y_load T11.one_25 rfl (hB27.cell (j := 3) rfl)) ?_
        refine s_k rfl (k_call T11.fn_26 (c_i_IsFinite _ _ htn _) rfl ?_)
        rintro v33 w31 ⟨hv34, e32⟩
        have zw31 := e32.size
        have hB35 := hB27.ext0 e32
        have E36 := E28.fresh e32 (fun _ h _ => h.elim)
        by_cases c37 : finB TN = true
        · obtain rfl : v33 = .bool true := hv34.trans (congrArg Value.bool c37)
          refine s_y (v := .bool true) rfl (y_pick_t rfl rfl) ?_
          refine s_y (v := .bool true) rfl (y_move rfl) ?_
          refine s_y (v := .pointer (some ⟨b1, 5, none⟩)) rfl (y_fld (o := 0) T11.fld_29_5_5 rfl) ?_
          refine s_y (v := .int .i64 sd) rfl (y_load T11.one_2 rfl (hB35.cell (j := 5) rfl)) ?_
          refine s_k rfl (k_call T11.fn_21 (c_i_isSeed _ _) rfl ?_)
          rintro v40 w38 ⟨hv41, e39⟩
          have zw38 := e39.size
          have hB42 := hB35.ext0 e39
          have E43 := E36.fresh e39 (fun _ h _ => h.elim)
          by_cases c44 : isSeed sd = true
          · have hb45 := isSeed_b c44
            obtain rfl : v40 = .bool true := hv41.trans (congrArg Value.bool c44)
            refine s_y (v := .bool true) rfl (y_pick_t rfl rfl) ?_
            refine s_y (v := .bool true) rfl (y_assign rfl) ?_
            refine s_nil ?_
            refine W_ret ?_
            refine ret1 rfl rfl rfl ⟨_, rfl, ?_⟩
            exact ⟨congrArg Value.bool (by simp [validW, *]), E43⟩
          · obtain rfl : v40 = .bool false := hv41.trans (congrArg Value.bool (Bool.eq_false_iff.2 c44))
            refine s_y (v := .bool false) rfl (y_pick_t rfl rfl) ?_
            refine s_y (v := .bool false) rfl (y_assign rfl) ?_
            refine s_nil ?_
            refine W_ret ?_
            refine ret1 rfl rfl rfl ⟨_, rfl, ?_⟩
            exact ⟨congrArg Value.bool (by simp [validW, *]), E43⟩
        · obtain rfl : v33 = .bool false := hv34.trans (congrArg Value.bool (Bool.eq_false_iff.2 c37))
          refine s_y (v := .bool false) rfl (y_pick_t rfl rfl) ?_
          refine s_y (v := .bool false) rfl (y_move rfl) ?_
          refine s_skip rfl ?_
          refine s_skip rfl ?_
          refine s_skip rfl ?_
          refine s_y (v := .bool false) rfl (y_pick_f rfl rfl) ?_
          refine s_y (v := .bool false) rfl (y_assign rfl) ?_
          refine s_nil ?_
          refine W_ret ?_
          refine ret1 rfl rfl rfl ⟨_, rfl, ?_⟩
          exact ⟨congrArg Value.bool (by simp [validW, *]), E36⟩
      · obtain rfl : v25 = .bool false := hv26.trans (congrArg Value.bool (Bool.eq_false_iff.2 c29))
        refine s_y (v := .bool false) rfl (y_pick_t rfl rfl) ?_
        refine s_y (v := .bool false) rfl (y_move rfl) ?_
        refine s_skip rfl ?_
        refine s_skip rfl ?_
        refine s_skip rfl ?_
        refine s_y (v := .bool false) rfl (y_pick_f rfl rfl) ?_
        refine s_y (v := .bool false) rfl (y_move rfl) ?_
        refine s_skip rfl ?_
        refine s_skip rfl ?_
        refine s_skip rfl ?_
        refine s_y (v := .bool false) rfl (y_pick_f rfl rfl) ?_
        refine s_y (v := .bool false) rfl (y_assign rfl) ?_
        refine s_nil ?_
        refine W_ret ?_
        refine ret1 rfl rfl rfl ⟨_, rfl, ?_⟩
        exact ⟨congrArg Value.bool (by simp [validW, *]), E28⟩
    · obtain rfl : v17 = .bool false := hv18.trans (congrArg Value.bool (Bool.eq_false_iff.2 c21))
      refine s_y (v := .bool false) rfl (y_pick_t rfl rfl) ?_
      refine s_y (v := .bool false) rfl (y_move rfl) ?_
      refine s_skip rfl ?_
      refine s_skip rfl ?_
      refine s_skip rfl ?_
      refine s_y (v := .bool false) rfl (y_pick_f rfl rfl) ?_
      refine s_y (v := .bool false) rfl (y_move rfl) ?_
      refine s_skip rfl ?_
      refine s_skip rfl ?_
      refine s_skip rfl ?_
      refine s_y (v := .bool false) rfl (y_pick_f rfl rfl) ?_
      refine s_y (v := .bool false) rfl (y_move rfl) ?_
      refine s_skip rfl ?_
      refine s_skip rfl ?_
      refine s_skip rfl ?_
      refine s_y (v := .bool false) rfl (y_pick_f rfl rfl) ?_
      refine s_y (v := .bool false) rfl (y_assign rfl) ?_
      refine s_nil ?_
      refine W_ret ?_
      refine ret1 rfl rfl rfl ⟨_, rfl, ?_⟩
      exact ⟨congrArg Value.bool (by simp [validW, *]), E20⟩
  · obtain rfl : v9 = .bool false := hv10.trans (congrArg Value.bool (Bool.eq_false_iff.2 c13))
    refine s_y (v := .bool false) rfl (y_move rfl) ?_
    refine s_skip rfl ?_
    refine s_skip rfl ?_
    refine s_skip rfl ?_
    refine s_y (v := .bool false) rfl (y_pick_f rfl rfl) ?_
    refine s_y (v := .bool false) rfl (y_move rfl) ?_
    refine s_skip rfl ?_
    refine s_skip rfl ?_
    refine s_skip rfl ?_
    refine s_y (v := .bool false) rfl (y_pick_f rfl rfl) ?_
    refine s_y (v := .bool false) rfl (y_move rfl) ?_
    refine s_skip rfl ?_
    refine s_skip rfl ?_
    refine s_skip rfl ?_
    refine s_y (v := .bool false) rfl (y_pick_f rfl rfl) ?_
    refine s_y (v := .bool false) rfl (y_move rfl) ?_
    refine s_skip rfl ?_
    refine s_skip rfl ?_
    refine s_skip rfl ?_
    refine s_y (v := .bool false) rfl (y_pick_f rfl rfl) ?_
    refine s_y (v := .bool false) rfl (y_assign rfl) ?_
    refine s_nil ?_
    refine W_ret ?_
    refine ret1 rfl rfl rfl ⟨_, rfl, ?_⟩
    exact ⟨congrArg Value.bool (by simp [validW, *]), E12⟩
namespace T17
theorem mx : Try.prog.follows .mixedOrders = true := by kernel_rfl
theorem agg_29_6 : aggB Try.prog 29 6 = true := by kernel_rfl
theorem fld_29_1_1 : fldB Try.prog 29 1 1 = true := by kernel_rfl
theorem fn_11 : fnB Try.prog 11 = true := by kernel_rfl
theorem fn_24 : fnB Try.prog 24 = true := by kernel_rfl
theorem one_2 : oneB Try.prog 2 = true := by kernel_rfl
theorem sz_2_1 : szB Try.prog 2 1 = true := by kernel_rfl
theorem sz_29_6 : szB Try.prog 29 6 = true := by kernel_rfl
theorem zero_29 : zeroB Try.prog 29 (.agg #[.int .i64 0, .int .i64 0, .int .i64 0, .float .f32 0, .float .f32 0, .int .i64 0]) := by unfold zeroB; kernel_rfl
end T17
set_option maxRecDepth 100000 in
set_option maxHeartbeats 400000 in
theorem c_i_LaterWave (kd tt ln : Int) (tn sz : Nat) (sd : Int) (TN : Nat) (htn : can .f32 tn = TN) (y : Int) (w : World) :
    Calls Try.prog 17 #[.agg #[.int .i64 kd, .int .i64 tt, .int .i64 ln, .float .f32 tn, .float .f32 sz, .int .i64 sd], .int .i64 y] w (Rt fun v w' => v = (if laterB kd tt ln TN sd y = true then .tuple #[.agg #[.int .i64 kd, .int .i64 (tt + y), .int .i64 ln, .float .f32 tn, .float .f32 sz, .int .i64 sd], .bool true] else .tuple #[.agg #[.int .i64 0, .int .i64 0, .int .i64 0, .float .f32 0, .float .f32 0, .int .i64 0], .bool false]) ∧ Ext0 w w') := by
  have E0 : Ext0 w w := Ext.refl _ _
  refine calls_W (n := 25) Try.func17 rfl rfl (Nat.le_of_ble_eq_true rfl) ?_
  refine W_seq ?_
  refine W_region (by kernel_rfl) ?_
  refine s_k rfl (k_box (v := .agg #[.int .i64 kd, .int .i64 tt, .int .i64 ln, .float .f32 tn, .float .f32 sz, .int .i64 sd]) (cs := [.int .i64 kd, .int .i64 tt, .int .i64 ln, .float .f32 tn, .float .f32 sz, .int .i64 sd]) rfl rfl (fun b1 w2 q4 e3 hB5 => ?_))
  have zw2 := e3.size
  have E6 := E0.fresh e3 (fun _ h _ => h.elim)
  have l_b1 : w.heap.size ≤ b1 := by omega
  have t_b1 := hB5.lt
  refine s_k rfl (k_alloc (z := (.agg #[.int .i64 0, .int .i64 0, .int .i64 0, .float .f32 0, .float .f32 0, .int .i64 0])) (cs := [.int .i64 0, .int .i64 0, .int .i64 0, .float .f32 0, .float .f32 0, .int .i64 0]) T17.zero_29 rfl (fun b7 w8 q10 e9 hB11 => ?_))
  have zw8 := e9.size
  have hB12 := hB5.ext0 e9
  have E13 := E6.fresh e9 (fun _ h _ => h.elim)
  have l_b7 : w.heap.size ≤ b7 := by have := E13.size; omega
  have t_b7 := hB11.lt
  refine s_y (v := .bool false) rfl (y_assign rfl) ?_
  refine s_nil ?_
  refine W_seq ?_
  refine W_seq ?_
  refine W_region (by kernel_rfl) ?_
  refine s_y (v := .agg #[.int .i64 kd, .int .i64 tt, .int .i64 ln, .float .f32 tn, .float .f32 sz, .int .i64 sd]) rfl (y_loadn (b := b1) (o := 0) (vs := [.int .i64 kd, .int .i64 tt, .int .i64 ln, .float .f32 tn, .float .f32 sz, .int .i64 sd]) T17.agg_29_6 rfl rfl (hB12.cells (o := 0) rfl)) ?_
  refine s_k rfl (k_call T17.fn_11 (c_i_ValidWave _ _ _ _ _ _ _ htn _) rfl ?_)
  rintro v16 w14 ⟨hv17, e15⟩
  have zw14 := e15.size
  have hB18 := hB12.ext0 e15
  have hB19 := hB11.ext0 e15
  have E20 := E13.fresh e15 (fun _ h _ => h.elim)
  by_cases c21 : validW kd tt ln TN sd = true
  · have hb22 := validW_b c21
    obtain rfl : v16 = .bool true := hv17.trans (congrArg Value.bool c21)
    refine s_y (v := .bool false) rfl (y_not rfl rfl) ?_
    refine s_y (v := .bool false) rfl (y_move rfl) ?_
    refine s_y (v := .int .i64 y) rfl (y_move rfl) ?_
    refine s_k rfl (k_call T17.fn_24 (c_i_within _ _ _ _) rfl ?_)
    rintro v25 w23 ⟨hv26, e24⟩
    have zw23 := e24.size
    have hB27 := hB18.ext0 e24
    have hB28 := hB19.ext0 e24
    have E29 := E20.fresh e24 (fun _ h _ => h.elim)
    by_cases c30 : within y (-1000000) 1000000 = true
    · have hb31 := within_b c30
      obtain rfl : v25 = .bool true := hv26.trans (congrArg Value.bool c30)
      refine s_y (v := .bool false) rfl (y_not rfl rfl) ?_
      refine s_y (v := .bool false) rfl (y_pick_f rfl rfl) ?_
      refine s_nil ?_
      refine W_if_f (by decide) rfl ?_
      refine W_skip ?_
      refine W_seq ?_
      refine W_region (by kernel_rfl) ?_
      refine s_y (v := .pointer (some ⟨b1, 1, none⟩)) rfl (y_fld (o := 0) T17.fld_29_1_1 rfl) ?_
      refine s_y (v := .int .i64 tt) rfl (y_load T17.one_2 rfl (hB27.cell (j := 1) rfl)) ?_
      refine s_y (v := .int .i64 y) rfl (y_move rfl) ?_
      refine s_y (v := .int .i64 (tt + y)) rfl (y_add rfl rfl rfl (by omega)) ?_
      refine s_y (v := .pointer (some ⟨b1, 1, none⟩)) rfl (y_fld (o := 0) T17.fld_29_1_1 rfl) ?_
      refine s_k0 rfl (k_store (v := .int .i64 (tt + y)) (n := 1) (cs' := [.int .i64 kd, .int .i64 (tt + y), .int .i64 ln, .float .f32 tn, .float .f32 sz, .int .i64 sd]) T17.sz_2_1 rfl rfl rfl hB27 (by simp [Value.cells, Value.oneCell']) (Nat.le_of_ble_eq_true rfl) rfl (fun w32 e33 z34 hB35 => ?_))
      have zw32 := e33.size
      have hB36 := hB28.ext e33 (by show ¬ (_ = _); omega)
      have E37 := E29.fresh e33 (fun kx hs hl => by have hs : kx = b1 := hs; have h0 := l_b1; omega)
      refine s_nil ?_
      refine W_seq ?_
      refine W_seq ?_
      refine W_region (by kernel_rfl) ?_
      refine s_y (v := .agg #[.int .i64 kd, .int .i64 (tt + y), .int .i64 ln, .float .f32 tn, .float .f32 sz, .int .i64 sd]) rfl (y_loadn (b := b1) (o := 0) (vs := [.int .i64 kd, .int .i64 (tt + y), .int .i64 ln, .float .f32 tn, .float .f32 sz, .int .i64 sd]) T17.agg_29_6 rfl rfl (hB35.cells (o := 0) rfl)) ?_
      refine s_k rfl (k_call T17.fn_11 (c_i_ValidWave _ _ _ _ _ _ _ htn _) rfl ?_)
      rintro v40 w38 ⟨hv41, e39⟩
      have zw38 := e39.size
      have hB42 := hB35.ext0 e39
      have hB43 := hB36.ext0 e39
      have E44 := E37.fresh e39 (fun _ h _ => h.elim)
      by_cases c45 : validW kd (tt + y) ln TN sd = true
      · have hb46 := validW_b c45
        obtain rfl : v40 = .bool true := hv41.trans (congrArg Value.bool c45)
        refine s_y (v := .bool false) rfl (y_not rfl rfl) ?_
        refine s_nil ?_
        refine W_if_f (by decide) rfl ?_
        refine W_skip ?_
        refine W_seq ?_
        refine W_region (by kernel_rfl) ?_
        refine s_y (v := .agg #[.int .i64 kd, .int .i64 (tt + y), .int .i64 ln, .float .f32 tn, .float .f32 sz, .int .i64 sd]) rfl (y_loadn (b := b1) (o := 0) (vs := [.int .i64 kd, .int .i64 (tt + y), .int .i64 ln, .float .f32 tn, .float .f32 sz, .int .i64 sd]) T17.agg_29_6 rfl rfl (hB42.cells (o := 0) rfl)) ?_
        refine s_k0 rfl (k_store (v := .agg #[.int .i64 kd, .int .i64 (tt + y), .int .i64 ln, .float .f32 tn, .float .f32 sz, .int .i64 sd]) (n := 6) (cs' := [.int .i64 kd, .int .i64 (tt + y), .int .i64 ln, .float .f32 tn, .float .f32 sz, .int .i64 sd]) T17.sz_29_6 rfl rfl rfl hB43 (by simp [Value.cells, Value.oneCell']) (Nat.le_of_ble_eq_true rfl) rfl (fun w47 e48 z49 hB50 => ?_))
        have zw47 := e48.size
        have hB51 := hB42.ext e48 (by show ¬ (_ = _); omega)
        have E52 := E44.fresh e48 (fun kx hs hl => by have hs : kx = b7 := hs; have h0 := l_b7; omega)
        refine s_y (v := .bool true) rfl (y_assign rfl) ?_
        refine s_nil ?_
        refine W_ret ?_
        refine ret2 rfl rfl rfl ⟨_, [.int .i64 kd, .int .i64 (tt + y), .int .i64 ln, .float .f32 tn, .float .f32 sz, .int .i64 sd], _, rfl, hB50, T17.agg_29_6, rfl⟩ rfl ⟨_, rfl, ?_⟩
        exact ⟨(if_pos (by simp_all [laterB, later_valid])).symm, E52⟩
      · obtain rfl : v40 = .bool false := hv41.trans (congrArg Value.bool (Bool.eq_false_iff.2 c45))
        refine s_y (v := .bool true) rfl (y_not rfl rfl) ?_
        refine s_nil ?_
        refine W_if_t (by decide) rfl ?_
        refine W_seq ?_
        refine W_region (by kernel_rfl) ?_
        refine s_y (v := .agg #[.int .i64 0, .int .i64 0, .int .i64 0, .float .f32 0, .float .f32 0, .int .i64 0]) rfl (y_build (cells := #[.int .i64 0, .int .i64 0, .int .i64 0, .float .f32 0, .float .f32 0, .int .i64 0]) (by kernel_rfl)) ?_
        refine s_k0 rfl (k_store (v := .agg #[.int .i64 0, .int .i64 0, .int .i64 0, .float .f32 0, .float .f32 0, .int .i64 0]) (n := 6) (cs' := [.int .i64 0, .int .i64 0, .int .i64 0, .float .f32 0, .float .f32 0, .int .i64 0]) T17.sz_29_6 rfl rfl rfl hB43 (by simp [Value.cells, Value.oneCell']) (Nat.le_of_ble_eq_true rfl) rfl (fun w53 e54 z55 hB56 => ?_))
        have zw53 := e54.size
        have hB57 := hB42.ext e54 (by show ¬ (_ = _); omega)
        have E58 := E44.fresh e54 (fun kx hs hl => by have hs : kx = b7 := hs; have h0 := l_b7; omega)
        refine s_y (v := .bool false) rfl (y_assign rfl) ?_
        refine s_nil ?_
        refine W_ret ?_
        refine ret2 rfl rfl rfl ⟨_, [.int .i64 0, .int .i64 0, .int .i64 0, .float .f32 0, .float .f32 0, .int .i64 0], _, rfl, hB56, T17.agg_29_6, rfl⟩ rfl ⟨_, rfl, ?_⟩
        exact ⟨(if_neg (by simp_all [laterB, later_valid])).symm, E58⟩
    · obtain rfl : v25 = .bool false := hv26.trans (congrArg Value.bool (Bool.eq_false_iff.2 c30))
      refine s_y (v := .bool true) rfl (y_not rfl rfl) ?_
      refine s_y (v := .bool true) rfl (y_pick_f rfl rfl) ?_
      refine s_nil ?_
      refine W_if_t (by decide) rfl ?_
      refine W_seq ?_
      refine W_region (by kernel_rfl) ?_
      refine s_y (v := .agg #[.int .i64 0, .int .i64 0, .int .i64 0, .float .f32 0, .float .f32 0, .int .i64 0]) rfl (y_build (cells := #[.int .i64 0, .int .i64 0, .int .i64 0, .float .f32 0, .float .f32 0, .int .i64 0]) (by kernel_rfl)) ?_
      refine s_k0 rfl (k_store (v := .agg #[.int .i64 0, .int .i64 0, .int .i64 0, .float .f32 0, .float .f32 0, .int .i64 0]) (n := 6) (cs' := [.int .i64 0, .int .i64 0, .int .i64 0, .float .f32 0, .float .f32 0, .int .i64 0]) T17.sz_29_6 rfl rfl rfl hB28 (by simp [Value.cells, Value.oneCell']) (Nat.le_of_ble_eq_true rfl) rfl (fun w59 e60 z61 hB62 => ?_))
      have zw59 := e60.size
      have hB63 := hB27.ext e60 (by show ¬ (_ = _); omega)
      have E64 := E29.fresh e60 (fun kx hs hl => by have hs : kx = b7 := hs; have h0 := l_b7; omega)
      refine s_y (v := .bool false) rfl (y_assign rfl) ?_
      refine s_nil ?_
      refine W_ret ?_
      refine ret2 rfl rfl rfl ⟨_, [.int .i64 0, .int .i64 0, .int .i64 0, .float .f32 0, .float .f32 0, .int .i64 0], _, rfl, hB62, T17.agg_29_6, rfl⟩ rfl ⟨_, rfl, ?_⟩
      exact ⟨(if_neg (by simp_all [laterB, later_valid])).symm, E64⟩
  · obtain rfl : v16 = .bool false := hv17.trans (congrArg Value.bool (Bool.eq_false_iff.2 c21))
    refine s_y (v := .bool true) rfl (y_not rfl rfl) ?_
    refine s_y (v := .bool true) rfl (y_move rfl) ?_
    refine s_skip rfl ?_
    refine s_skip rfl ?_
    refine s_skip rfl ?_
    refine s_y (v := .bool true) rfl (y_pick_t rfl rfl) ?_
    refine s_nil ?_
    refine W_if_t (by decide) rfl ?_
    refine W_seq ?_
    refine W_region (by kernel_rfl) ?_
    refine s_y (v := .agg #[.int .i64 0, .int .i64 0, .int .i64 0, .float .f32 0, .float .f32 0, .int .i64 0]) rfl (y_build (cells := #[.int .i64 0, .int .i64 0, .int .i64 0, .float .f32 0, .float .f32 0, .int .i64 0]) (by kernel_rfl)) ?_
    refine s_k0 rfl (k_store (v := .agg #[.int .i64 0, .int .i64 0, .int .i64 0, .float .f32 0, .float .f32 0, .int .i64 0]) (n := 6) (cs' := [.int .i64 0, .int .i64 0, .int .i64 0, .float .f32 0, .float .f32 0, .int .i64 0]) T17.sz_29_6 rfl rfl rfl hB19 (by simp [Value.cells, Value.oneCell']) (Nat.le_of_ble_eq_true rfl) rfl (fun w65 e66 z67 hB68 => ?_))
    have zw65 := e66.size
    have hB69 := hB18.ext e66 (by show ¬ (_ = _); omega)
    have E70 := E20.fresh e66 (fun kx hs hl => by have hs : kx = b7 := hs; have h0 := l_b7; omega)
    refine s_y (v := .bool false) rfl (y_assign rfl) ?_
    refine s_nil ?_
    refine W_ret ?_
    refine ret2 rfl rfl rfl ⟨_, [.int .i64 0, .int .i64 0, .int .i64 0, .float .f32 0, .float .f32 0, .int .i64 0], _, rfl, hB68, T17.agg_29_6, rfl⟩ rfl ⟨_, rfl, ?_⟩
    exact ⟨(if_neg (by simp_all [laterB, later_valid])).symm, E70⟩
namespace T30
theorem mx : Try.prog.follows .mixedOrders = true := by kernel_rfl
theorem bool_4 : Try.prog.underlying 4 = some .bool := by kernel_rfl
end T30
set_option maxRecDepth 100000 in
set_option maxHeartbeats 400000 in
theorem c_l_sameFloat (a b A : Nat) (ha : can .f64 a = A) (hb : can .f64 b = A) (w : World) :
    Calls Try.prog 30 #[.float .f64 a, .float .f64 b] w (Rt fun v w' => v = .bool true ∧ Ext0 w w') := by
  have E0 : Ext0 w w := Ext.refl _ _
  refine calls_W (n := 37) Try.func30 rfl rfl (Nat.le_of_ble_eq_true rfl) ?_
  refine W_seq ?_
  refine W_region (by kernel_rfl) ?_
  refine s_y (v := .bool false) rfl (y_assign rfl) ?_
  refine s_nil ?_
  refine W_seq ?_
  refine W_seq ?_
  refine W_region (by kernel_rfl) ?_
  refine s_y (v := .float .f64 a) rfl (y_move rfl) ?_
  refine s_y (v := .float .f64 a) rfl (y_move rfl) ?_
  by_cases c1 : fne .f64 A A = true
  · refine s_y (v := .bool true) rfl (y_fneq rfl rfl (fneC ha ha c1)) ?_
    refine s_y (v := .bool true) rfl (y_move rfl) ?_
    refine s_skip rfl ?_
    refine s_skip rfl ?_
    refine s_skip rfl ?_
    refine s_y (v := .bool true) rfl (y_pick_t rfl rfl) ?_
    refine s_nil ?_
    refine W_if_t (by decide) rfl ?_
    refine W_seq ?_
    refine W_region (by kernel_rfl) ?_
    refine s_y (v := .float .f64 a) rfl (y_move rfl) ?_
    refine s_y (v := .float .f64 a) rfl (y_move rfl) ?_
    refine s_y (v := .bool true) rfl (y_fneq rfl rfl (fneC ha ha c1)) ?_
    refine s_y (v := .bool true) rfl (y_move rfl) ?_
    refine s_y (v := .float .f64 b) rfl (y_move rfl) ?_
    refine s_y (v := .float .f64 b) rfl (y_move rfl) ?_
    refine s_y (v := .bool true) rfl (y_fneq rfl rfl (fneC hb hb c1)) ?_
    refine s_y (v := .bool true) rfl (y_pick_t rfl rfl) ?_
    refine s_y (v := .bool true) rfl (y_assign rfl) ?_
    refine s_nil ?_
    refine W_ret ?_
    refine ret1 rfl rfl rfl ⟨_, rfl, ?_⟩
    exact ⟨rfl, E0⟩
  · refine s_y (v := .bool false) rfl (y_fneq rfl rfl (fneC ha ha (Bool.eq_false_iff.2 c1))) ?_
    refine s_y (v := .bool false) rfl (y_move rfl) ?_
    refine s_y (v := .float .f64 b) rfl (y_move rfl) ?_
    refine s_y (v := .float .f64 b) rfl (y_move rfl) ?_
    refine s_y (v := .bool false) rfl (y_fneq rfl rfl (fneC hb hb (Bool.eq_false_iff.2 c1))) ?_
    refine s_y (v := .bool false) rfl (y_pick_f rfl rfl) ?_
    refine s_nil ?_
    refine W_if_f (by decide) rfl ?_
    refine W_skip ?_
    refine W_seq ?_
    refine W_seq ?_
    refine W_region (by kernel_rfl) ?_
    refine s_y (v := .float .f64 a) rfl (y_move rfl) ?_
    by_cases c2 : feq .f64 A 0 = true
    · refine s_y (v := .bool true) rfl (y_feql rfl rfl (feqC ha (show can .f64 0 = 0 by kernel_rfl) c2)) ?_
      refine s_y (v := .bool true) rfl (y_move rfl) ?_
      refine s_y (v := .float .f64 b) rfl (y_move rfl) ?_
      refine s_y (v := .bool true) rfl (y_feql rfl rfl (feqC hb (show can .f64 0 = 0 by kernel_rfl) c2)) ?_
      refine s_y (v := .bool true) rfl (y_pick_t rfl rfl) ?_
      refine s_nil ?_
      refine W_if_t (by decide) rfl ?_
      refine W_seq ?_
      refine W_region (by kernel_rfl) ?_
      refine s_y (v := .float .f64 a) rfl (y_move rfl) ?_
      refine s_n rfl (n_arith (by decide) rfl rfl) ?_
      rintro _ w6 e7 ⟨r4, rfl, hr5⟩
      have zw6 := e7.size
      have E8 := E0.fresh e7 (fun _ h _ => h.elim)
      have hc9 := fopC hr5 (show can .f64 4607182418800017408 = 4607182418800017408 by kernel_rfl) ha
      by_cases c10 : fgt .f64 (fop .quo .f64 4607182418800017408 A) 0 = true
      · refine s_y (v := .bool true) rfl (y_fgtr rfl rfl (fgtC hc9 (show can .f64 0 = 0 by kernel_rfl) c10)) ?_
        refine s_y (v := .float .f64 b) rfl (y_move rfl) ?_
        refine s_n rfl (n_arith (by decide) rfl rfl) ?_
        rintro _ w14 e15 ⟨r12, rfl, hr13⟩
        have zw14 := e15.size
        have E16 := E8.fresh e15 (fun _ h _ => h.elim)
        have hc17 := fopC hr13 (show can .f64 4607182418800017408 = 4607182418800017408 by kernel_rfl) hb
        refine s_y (v := .bool true) rfl (y_fgtr rfl rfl (fgtC hc17 (show can .f64 0 = 0 by kernel_rfl) c10)) ?_
        refine s_y (v := .bool true) rfl (y_beql T30.bool_4 rfl rfl rfl) ?_
        refine s_y (v := .bool true) rfl (y_assign rfl) ?_
        refine s_nil ?_
        refine W_ret ?_
        refine ret1 rfl rfl rfl ⟨_, rfl, ?_⟩
        exact ⟨rfl, E16⟩
      · refine s_y (v := .bool false) rfl (y_fgtr rfl rfl (fgtC hc9 (show can .f64 0 = 0 by kernel_rfl) (Bool.eq_false_iff.2 c10))) ?_
        refine s_y (v := .float .f64 b) rfl (y_move rfl) ?_
        refine s_n rfl (n_arith (by decide) rfl rfl) ?_
        rintro _ w21 e22 ⟨r19, rfl, hr20⟩
        have zw21 := e22.size
        have E23 := E8.fresh e22 (fun _ h _ => h.elim)
        have hc24 := fopC hr20 (show can .f64 4607182418800017408 = 4607182418800017408 by kernel_rfl) hb
        refine s_y (v := .bool false) rfl (y_fgtr rfl rfl (fgtC hc24 (show can .f64 0 = 0 by kernel_rfl) (Bool.eq_false_iff.2 c10))) ?_
        refine s_y (v := .bool true) rfl (y_beql T30.bool_4 rfl rfl rfl) ?_
        refine s_y (v := .bool true) rfl (y_assign rfl) ?_
        refine s_nil ?_
        refine W_ret ?_
        refine ret1 rfl rfl rfl ⟨_, rfl, ?_⟩
        exact ⟨rfl, E23⟩
    · refine s_y (v := .bool false) rfl (y_feql rfl rfl (feqC ha (show can .f64 0 = 0 by kernel_rfl) (Bool.eq_false_iff.2 c2))) ?_
      refine s_y (v := .bool false) rfl (y_move rfl) ?_
      refine s_skip rfl ?_
      refine s_skip rfl ?_
      refine s_y (v := .bool false) rfl (y_pick_f rfl rfl) ?_
      refine s_nil ?_
      refine W_if_f (by decide) rfl ?_
      refine W_skip ?_
      refine W_seq ?_
      refine W_region (by kernel_rfl) ?_
      refine s_y (v := .float .f64 a) rfl (y_move rfl) ?_
      refine s_y (v := .float .f64 b) rfl (y_move rfl) ?_
      by_cases c25 : feq .f64 A A = true
      · refine s_y (v := .bool true) rfl (y_feql rfl rfl (feqC ha hb c25)) ?_
        refine s_y (v := .bool true) rfl (y_assign rfl) ?_
        refine s_nil ?_
        refine W_ret ?_
        refine ret1 rfl rfl rfl ⟨_, rfl, ?_⟩
        exact ⟨rfl, E0⟩
      · refine s_y (v := .bool false) rfl (y_feql rfl rfl (feqC ha hb (Bool.eq_false_iff.2 c25))) ?_
        refine s_y (v := .bool false) rfl (y_assign rfl) ?_
        refine s_nil ?_
        refine W_ret ?_
        refine ret1 rfl rfl rfl ⟨_, rfl, ?_⟩
        exfalso; simp_all [fne, feq]
namespace T18
theorem mx : Try.prog.follows .mixedOrders = true := by kernel_rfl
theorem fld_29_0_0 : fldB Try.prog 29 0 0 = true := by kernel_rfl
theorem fld_29_1_1 : fldB Try.prog 29 1 1 = true := by kernel_rfl
theorem fld_29_2_2 : fldB Try.prog 29 2 2 = true := by kernel_rfl
theorem fld_29_3_3 : fldB Try.prog 29 3 3 = true := by kernel_rfl
theorem fld_29_4_4 : fldB Try.prog 29 4 4 = true := by kernel_rfl
theorem fld_29_5_5 : fldB Try.prog 29 5 5 = true := by kernel_rfl
theorem flt_48_f64 : Try.prog.underlying 48 = some (.float .f64) := by kernel_rfl
theorem fn_30 : fnB Try.prog 30 = true := by kernel_rfl
theorem one_2 : oneB Try.prog 2 = true := by kernel_rfl
theorem one_25 : oneB Try.prog 25 = true := by kernel_rfl
theorem und_25 : (Try.prog.underlying 25).isSome = true := by kernel_rfl
end T18
set_option maxRecDepth 100000 in
set_option maxHeartbeats 400000 in
theorem c_l_eqWave (kd tt ln : Int) (tn sz : Nat) (sd : Int) (tn2 sz2 : Nat) (h1 : can .f32 tn = can .f32 tn2) (h2 : can .f32 sz = can .f32 sz2) (w : World) :
    Calls Try.prog 18 #[.agg #[.int .i64 kd, .int .i64 tt, .int .i64 ln, .float .f32 tn, .float .f32 sz, .int .i64 sd], .agg #[.int .i64 kd, .int .i64 tt, .int .i64 ln, .float .f32 tn2, .float .f32 sz2, .int .i64 sd]] w (Rt fun v w' => v = .bool true ∧ Ext0 w w') := by
  have E0 : Ext0 w w := Ext.refl _ _
  refine calls_W (n := 41) Try.func18 rfl rfl (Nat.le_of_ble_eq_true rfl) ?_
  refine W_seq ?_
  refine W_region (by kernel_rfl) ?_
  refine s_k rfl (k_box (v := .agg #[.int .i64 kd, .int .i64 tt, .int .i64 ln, .float .f32 tn, .float .f32 sz, .int .i64 sd]) (cs := [.int .i64 kd, .int .i64 tt, .int .i64 ln, .float .f32 tn, .float .f32 sz, .int .i64 sd]) rfl rfl (fun b1 w2 q4 e3 hB5 => ?_))
  have zw2 := e3.size
  have E6 := E0.fresh e3 (fun _ h _ => h.elim)
  have l_b1 : w.heap.size ≤ b1 := by omega
  have t_b1 := hB5.lt
  refine s_k rfl (k_box (v := .agg #[.int .i64 kd, .int .i64 tt, .int .i64 ln, .float .f32 tn2, .float .f32 sz2, .int .i64 sd]) (cs := [.int .i64 kd, .int .i64 tt, .int .i64 ln, .float .f32 tn2, .float .f32 sz2, .int .i64 sd]) rfl rfl (fun b7 w8 q10 e9 hB11 => ?_))
  have zw8 := e9.size
  have hB12 := hB5.ext0 e9
  have E13 := E6.fresh e9 (fun _ h _ => h.elim)
  have l_b7 : w.heap.size ≤ b7 := by have := E13.size; omega
  have t_b7 := hB11.lt
  refine s_y (v := .bool false) rfl (y_assign rfl) ?_
  refine s_nil ?_
  refine W_seq ?_
  refine W_seq ?_
  refine W_region (by kernel_rfl) ?_
  refine s_y (v := .pointer (some ⟨b1, 0, none⟩)) rfl (y_fld (o := 0) T18.fld_29_0_0 rfl) ?_
  refine s_y (v := .int .i64 kd) rfl (y_load T18.one_2 rfl (hB12.cell (j := 0) rfl)) ?_
  refine s_y (v := .pointer (some ⟨b7, 0, none⟩)) rfl (y_fld (o := 0) T18.fld_29_0_0 rfl) ?_
  refine s_y (v := .int .i64 kd) rfl (y_load T18.one_2 rfl (hB11.cell (j := 0) rfl)) ?_
  have hk14 : ¬ (kd ≠ kd) := (fun hq => hq rfl)
  refine s_y (v := .bool false) rfl (y_neq rfl rfl (decide_eq_false hk14)) ?_
  refine s_nil ?_
  refine W_if_f (by decide) rfl ?_
  refine W_skip ?_
  refine W_seq ?_
  refine W_seq ?_
  refine W_region (by kernel_rfl) ?_
  refine s_y (v := .pointer (some ⟨b1, 1, none⟩)) rfl (y_fld (o := 0) T18.fld_29_1_1 rfl) ?_
  refine s_y (v := .int .i64 tt) rfl (y_load T18.one_2 rfl (hB12.cell (j := 1) rfl)) ?_
  refine s_y (v := .pointer (some ⟨b7, 1, none⟩)) rfl (y_fld (o := 0) T18.fld_29_1_1 rfl) ?_
  refine s_y (v := .int .i64 tt) rfl (y_load T18.one_2 rfl (hB11.cell (j := 1) rfl)) ?_
  have hk15 : ¬ (tt ≠ tt) := (fun hq => hq rfl)
  refine s_y (v := .bool false) rfl (y_neq rfl rfl (decide_eq_false hk15)) ?_
  refine s_nil ?_
  refine W_if_f (by decide) rfl ?_
  refine W_skip ?_
  refine W_seq ?_
  refine W_seq ?_
  refine W_region (by kernel_rfl) ?_
  refine s_y (v := .pointer (some ⟨b1, 2, none⟩)) rfl (y_fld (o := 0) T18.fld_29_2_2 rfl) ?_
  refine s_y (v := .int .i64 ln) rfl (y_load T18.one_2 rfl (hB12.cell (j := 2) rfl)) ?_
  refine s_y (v := .pointer (some ⟨b7, 2, none⟩)) rfl (y_fld (o := 0) T18.fld_29_2_2 rfl) ?_
  refine s_y (v := .int .i64 ln) rfl (y_load T18.one_2 rfl (hB11.cell (j := 2) rfl)) ?_
  have hk16 : ¬ (ln ≠ ln) := (fun hq => hq rfl)
  refine s_y (v := .bool false) rfl (y_neq rfl rfl (decide_eq_false hk16)) ?_
  refine s_nil ?_
  refine W_if_f (by decide) rfl ?_
  refine W_skip ?_
  refine W_seq ?_
  refine W_seq ?_
  refine W_region (by kernel_rfl) ?_
  refine s_y (v := .pointer (some ⟨b1, 3, none⟩)) rfl (y_fld (o := 0) T18.fld_29_3_3 rfl) ?_
  refine s_y (v := .float .f32 tn) rfl (y_load T18.one_25 rfl (hB12.cell (j := 3) rfl)) ?_
  refine s_n rfl (n_wide T18.und_25 T18.flt_48_f64 rfl) ?_
  rintro _ w19 e20 ⟨r17, rfl, hr18⟩
  have zw19 := e20.size
  have hB21 := hB12.ext0 e20
  have hB22 := hB11.ext0 e20
  have E23 := E13.fresh e20 (fun _ h _ => h.elim)
  have hc24 := wideC hr18 rfl
  refine s_y (v := .pointer (some ⟨b7, 3, none⟩)) rfl (y_fld (o := 0) T18.fld_29_3_3 rfl) ?_
  refine s_y (v := .float .f32 tn2) rfl (y_load T18.one_25 rfl (hB22.cell (j := 3) rfl)) ?_
  refine s_n rfl (n_wide T18.und_25 T18.flt_48_f64 rfl) ?_
  rintro _ w27 e28 ⟨r25, rfl, hr26⟩
  have zw27 := e28.size
  have hB29 := hB21.ext0 e28
  have hB30 := hB22.ext0 e28
  have E31 := E23.fresh e28 (fun _ h _ => h.elim)
  have hc32 := wideC hr26 rfl
  refine s_k rfl (k_call T18.fn_30 (c_l_sameFloat _ _ _ hc24 (hc32.trans (congrArg widen h1.symm)) _) rfl ?_)
  rintro _ w33 ⟨rfl, e34⟩
  have zw33 := e34.size
  have hB35 := hB29.ext0 e34
  have hB36 := hB30.ext0 e34
  have E37 := E31.fresh e34 (fun _ h _ => h.elim)
  refine s_y (v := .bool false) rfl (y_not rfl rfl) ?_
  refine s_nil ?_
  refine W_if_f (by decide) rfl ?_
  refine W_skip ?_
  refine W_seq ?_
  refine W_seq ?_
  refine W_region (by kernel_rfl) ?_
  refine s_y (v := .pointer (some ⟨b1, 4, none⟩)) rfl (y_fld (o := 0) T18.fld_29_4_4 rfl) ?_
  refine s_y (v := .float .f32 sz) rfl (y_load T18.one_25 rfl (hB35.cell (j := 4) rfl)) ?_
  refine s_n rfl (n_wide T18.und_25 T18.flt_48_f64 rfl) ?_
  rintro _ w40 e41 ⟨r38, rfl, hr39⟩
  have zw40 := e41.size
  have hB42 := hB35.ext0 e41
  have hB43 := hB36.ext0 e41
  have E44 := E37.fresh e41 (fun _ h _ => h.elim)
  have hc45 := wideC hr39 rfl
  refine s_y (v := .pointer (some ⟨b7, 4, none⟩)) rfl (y_fld (o := 0) T18.fld_29_4_4 rfl) ?_
  refine s_y (v := .float .f32 sz2) rfl (y_load T18.one_25 rfl (hB43.cell (j := 4) rfl)) ?_
  refine s_n rfl (n_wide T18.und_25 T18.flt_48_f64 rfl) ?_
  rintro _ w48 e49 ⟨r46, rfl, hr47⟩
  have zw48 := e49.size
  have hB50 := hB42.ext0 e49
  have hB51 := hB43.ext0 e49
  have E52 := E44.fresh e49 (fun _ h _ => h.elim)
  have hc53 := wideC hr47 rfl
  refine s_k rfl (k_call T18.fn_30 (c_l_sameFloat _ _ _ hc45 (hc53.trans (congrArg widen h2.symm)) _) rfl ?_)
  rintro _ w54 ⟨rfl, e55⟩
  have zw54 := e55.size
  have hB56 := hB50.ext0 e55
  have hB57 := hB51.ext0 e55
  have E58 := E52.fresh e55 (fun _ h _ => h.elim)
  refine s_y (v := .bool false) rfl (y_not rfl rfl) ?_
  refine s_nil ?_
  refine W_if_f (by decide) rfl ?_
  refine W_skip ?_
  refine W_seq ?_
  refine W_seq ?_
  refine W_region (by kernel_rfl) ?_
  refine s_y (v := .pointer (some ⟨b1, 5, none⟩)) rfl (y_fld (o := 0) T18.fld_29_5_5 rfl) ?_
  refine s_y (v := .int .i64 sd) rfl (y_load T18.one_2 rfl (hB56.cell (j := 5) rfl)) ?_
  refine s_y (v := .pointer (some ⟨b7, 5, none⟩)) rfl (y_fld (o := 0) T18.fld_29_5_5 rfl) ?_
  refine s_y (v := .int .i64 sd) rfl (y_load T18.one_2 rfl (hB57.cell (j := 5) rfl)) ?_
  have hk59 : ¬ (sd ≠ sd) := (fun hq => hq rfl)
  refine s_y (v := .bool false) rfl (y_neq rfl rfl (decide_eq_false hk59)) ?_
  refine s_nil ?_
  refine W_if_f (by decide) rfl ?_
  refine W_skip ?_
  refine W_seq ?_
  refine W_region (by kernel_rfl) ?_
  refine s_y (v := .bool true) rfl (y_assign rfl) ?_
  refine s_nil ?_
  refine W_ret ?_
  refine ret1 rfl rfl rfl ⟨_, rfl, ?_⟩
  exact ⟨rfl, E58⟩
namespace T6
theorem mx : Try.prog.follows .mixedOrders = true := by kernel_rfl
theorem agg_27_6 : aggB Try.prog 27 6 = true := by kernel_rfl
theorem agg_29_6 : aggB Try.prog 29 6 = true := by kernel_rfl
theorem bool_4 : Try.prog.underlying 4 = some .bool := by kernel_rfl
theorem fn_10 : fnB Try.prog 10 = true := by kernel_rfl
theorem fn_16 : fnB Try.prog 16 = true := by kernel_rfl
theorem fn_17 : fnB Try.prog 17 = true := by kernel_rfl
theorem fn_18 : fnB Try.prog 18 = true := by kernel_rfl
theorem sz_29_6 : szB Try.prog 29 6 = true := by kernel_rfl
theorem zero_29 : zeroB Try.prog 29 (.agg #[.int .i64 0, .int .i64 0, .int .i64 0, .float .f32 0, .float .f32 0, .int .i64 0]) := by unfold zeroB; kernel_rfl
end T6
set_option maxRecDepth 100000 in
set_option maxHeartbeats 400000 in
theorem c_FnExactLaterWave (kd tt ln : Int) (tn sz : Nat) (sd : Int) (y : Int) (w : World) :
    Calls Try.prog 6 #[.agg #[.int .i64 kd, .int .i64 tt, .int .i64 ln, .float .f32 tn, .float .f32 sz, .int .i64 sd], .int .i64 y] w (Rt fun v w' => v = .bool true ∧ Ext no w w') := by
  have E0 : Ext0 w w := Ext.refl _ _
  refine calls_W (n := 32) Try.func6 rfl rfl (Nat.le_of_ble_eq_true rfl) ?_
  refine W_seq ?_
  refine W_region (by kernel_rfl) ?_
  refine s_k rfl (k_box (v := .agg #[.int .i64 kd, .int .i64 tt, .int .i64 ln, .float .f32 tn, .float .f32 sz, .int .i64 sd]) (cs := [.int .i64 kd, .int .i64 tt, .int .i64 ln, .float .f32 tn, .float .f32 sz, .int .i64 sd]) rfl rfl (fun b1 w2 q4 e3 hB5 => ?_))
  have zw2 := e3.size
  have E6 := E0.fresh e3 (fun _ h _ => h.elim)
  have l_b1 : w.heap.size ≤ b1 := by omega
  have t_b1 := hB5.lt
  refine s_y (v := .bool false) rfl (y_assign rfl) ?_
  refine s_nil ?_
  refine W_seq ?_
  refine W_region (by kernel_rfl) ?_
  refine s_y (v := .agg #[.int .i64 kd, .int .i64 tt, .int .i64 ln, .float .f32 tn, .float .f32 sz, .int .i64 sd]) rfl (y_loadn (b := b1) (o := 0) (vs := [.int .i64 kd, .int .i64 tt, .int .i64 ln, .float .f32 tn, .float .f32 sz, .int .i64 sd]) T6.agg_27_6 rfl rfl (hB5.cells (o := 0) rfl)) ?_
  refine s_k rfl (k_call T6.fn_10 (c_l_toWave _ _ _ _ _ _ _) rfl ?_)
  rintro _ w7 ⟨rfl, e8⟩
  have zw7 := e8.size
  have hB9 := hB5.ext0 e8
  have E10 := E6.fresh e8 (fun _ h _ => h.elim)
  refine s_y (v := .int .i64 y) rfl (y_move rfl) ?_
  refine s_k rfl (k_call T6.fn_16 (c_s_LaterWave _ _ _ _ _ _ _ rfl _ _) rfl ?_)
  rintro v13 w11 ⟨hv14, e12⟩
  have zw11 := e12.size
  have hB15 := hB9.ext0 e12
  have E16 := E10.fresh e12 (fun _ h _ => h.elim)
  by_cases c17 : laterB kd tt ln (can .f32 tn) sd y = true
  · obtain rfl : v13 = .tuple #[.agg #[.int .i64 kd, .int .i64 (tt + y), .int .i64 ln, .float .f32 tn, .float .f32 sz, .int .i64 sd], .bool true] := hv14.trans (if_pos c17)
    refine s_y (v := .tuple #[.agg #[.int .i64 kd, .int .i64 (tt + y), .int .i64 ln, .float .f32 tn, .float .f32 sz, .int .i64 sd], .bool true]) rfl (y_move rfl) ?_
    refine s_y (v := .agg #[.int .i64 kd, .int .i64 (tt + y), .int .i64 ln, .float .f32 tn, .float .f32 sz, .int .i64 sd]) rfl (y_extract rfl rfl) ?_
    refine s_y (v := .bool true) rfl (y_extract rfl rfl) ?_
    refine s_k rfl (k_alloc (z := (.agg #[.int .i64 0, .int .i64 0, .int .i64 0, .float .f32 0, .float .f32 0, .int .i64 0])) (cs := [.int .i64 0, .int .i64 0, .int .i64 0, .float .f32 0, .float .f32 0, .int .i64 0]) T6.zero_29 rfl (fun b18 w19 q21 e20 hB22 => ?_))
    have zw19 := e20.size
    have hB23 := hB15.ext0 e20
    have E24 := E16.fresh e20 (fun _ h _ => h.elim)
    have l_b18 : w.heap.size ≤ b18 := by have := E24.size; omega
    have t_b18 := hB22.lt
    refine s_k0 rfl (k_store (v := .agg #[.int .i64 kd, .int .i64 (tt + y), .int .i64 ln, .float .f32 tn, .float .f32 sz, .int .i64 sd]) (n := 6) (cs' := [.int .i64 kd, .int .i64 (tt + y), .int .i64 ln, .float .f32 tn, .float .f32 sz, .int .i64 sd]) T6.sz_29_6 rfl rfl rfl hB22 (by simp [Value.cells, Value.oneCell']) (Nat.le_of_ble_eq_true rfl) rfl (fun w25 e26 z27 hB28 => ?_))
    have zw25 := e26.size
    have hB29 := hB23.ext e26 (by show ¬ (_ = _); omega)
    have E30 := E24.fresh e26 (fun kx hs hl => by have hs : kx = b18 := hs; have h0 := l_b18; omega)
    refine s_y (v := .bool true) rfl (y_assign rfl) ?_
    refine s_nil ?_
    refine W_seq ?_
    refine W_region (by kernel_rfl) ?_
    refine s_y (v := .agg #[.int .i64 kd, .int .i64 tt, .int .i64 ln, .float .f32 tn, .float .f32 sz, .int .i64 sd]) rfl (y_loadn (b := b1) (o := 0) (vs := [.int .i64 kd, .int .i64 tt, .int .i64 ln, .float .f32 tn, .float .f32 sz, .int .i64 sd]) T6.agg_27_6 rfl rfl (hB29.cells (o := 0) rfl)) ?_
    refine s_k rfl (k_call T6.fn_10 (c_l_toWave _ _ _ _ _ _ _) rfl ?_)
    rintro _ w31 ⟨rfl, e32⟩
    have zw31 := e32.size
    have hB33 := hB29.ext0 e32
    have hB34 := hB28.ext0 e32
    have E35 := E30.fresh e32 (fun _ h _ => h.elim)
    refine s_y (v := .int .i64 y) rfl (y_move rfl) ?_
    refine s_k rfl (k_call T6.fn_17 (c_i_LaterWave _ _ _ _ _ _ _ rfl _ _) rfl ?_)
    rintro v38 w36 ⟨hv39, e37⟩
    have zw36 := e37.size
    have hB40 := hB33.ext0 e37
    have hB41 := hB34.ext0 e37
    have E42 := E35.fresh e37 (fun _ h _ => h.elim)
    obtain rfl : v38 = .tuple #[.agg #[.int .i64 kd, .int .i64 (tt + y), .int .i64 ln, .float .f32 tn, .float .f32 sz, .int .i64 sd], .bool true] := hv39.trans (if_pos c17)
    refine s_y (v := .tuple #[.agg #[.int .i64 kd, .int .i64 (tt + y), .int .i64 ln, .float .f32 tn, .float .f32 sz, .int .i64 sd], .bool true]) rfl (y_move rfl) ?_
    refine s_y (v := .agg #[.int .i64 kd, .int .i64 (tt + y), .int .i64 ln, .float .f32 tn, .float .f32 sz, .int .i64 sd]) rfl (y_extract rfl rfl) ?_
    refine s_y (v := .bool true) rfl (y_extract rfl rfl) ?_
    refine s_k rfl (k_alloc (z := (.agg #[.int .i64 0, .int .i64 0, .int .i64 0, .float .f32 0, .float .f32 0, .int .i64 0])) (cs := [.int .i64 0, .int .i64 0, .int .i64 0, .float .f32 0, .float .f32 0, .int .i64 0]) T6.zero_29 rfl (fun b43 w44 q46 e45 hB47 => ?_))
    have zw44 := e45.size
    have hB48 := hB40.ext0 e45
    have hB49 := hB41.ext0 e45
    have E50 := E42.fresh e45 (fun _ h _ => h.elim)
    have l_b43 : w.heap.size ≤ b43 := by have := E50.size; omega
    have t_b43 := hB47.lt
    refine s_k0 rfl (k_store (v := .agg #[.int .i64 kd, .int .i64 (tt + y), .int .i64 ln, .float .f32 tn, .float .f32 sz, .int .i64 sd]) (n := 6) (cs' := [.int .i64 kd, .int .i64 (tt + y), .int .i64 ln, .float .f32 tn, .float .f32 sz, .int .i64 sd]) T6.sz_29_6 rfl rfl rfl hB47 (by simp [Value.cells, Value.oneCell']) (Nat.le_of_ble_eq_true rfl) rfl (fun w51 e52 z53 hB54 => ?_))
    have zw51 := e52.size
    have hB55 := hB48.ext e52 (by show ¬ (_ = _); omega)
    have hB56 := hB49.ext e52 (by show ¬ (_ = _); omega)
    have E57 := E50.fresh e52 (fun kx hs hl => by have hs : kx = b43 := hs; have h0 := l_b43; omega)
    refine s_y (v := .bool true) rfl (y_assign rfl) ?_
    refine s_nil ?_
    refine W_seq ?_
    refine W_seq ?_
    refine W_region (by kernel_rfl) ?_
    refine s_y (v := .agg #[.int .i64 kd, .int .i64 (tt + y), .int .i64 ln, .float .f32 tn, .float .f32 sz, .int .i64 sd]) rfl (y_loadn (b := b43) (o := 0) (vs := [.int .i64 kd, .int .i64 (tt + y), .int .i64 ln, .float .f32 tn, .float .f32 sz, .int .i64 sd]) T6.agg_29_6 rfl rfl (hB54.cells (o := 0) rfl)) ?_
    refine s_y (v := .agg #[.int .i64 kd, .int .i64 (tt + y), .int .i64 ln, .float .f32 tn, .float .f32 sz, .int .i64 sd]) rfl (y_loadn (b := b18) (o := 0) (vs := [.int .i64 kd, .int .i64 (tt + y), .int .i64 ln, .float .f32 tn, .float .f32 sz, .int .i64 sd]) T6.agg_29_6 rfl rfl (hB56.cells (o := 0) rfl)) ?_
    refine s_k rfl (k_call T6.fn_18 (c_l_eqWave _ _ _ _ _ _ _ _ rfl rfl _) rfl ?_)
    rintro _ w58 ⟨rfl, e59⟩
    have zw58 := e59.size
    have hB60 := hB55.ext0 e59
    have hB61 := hB56.ext0 e59
    have hB62 := hB54.ext0 e59
    have E63 := E57.fresh e59 (fun _ h _ => h.elim)
    refine s_y (v := .bool false) rfl (y_not rfl rfl) ?_
    refine s_y (v := .bool false) rfl (y_move rfl) ?_
    refine s_y (v := .bool true) rfl (y_move rfl) ?_
    refine s_y (v := .bool true) rfl (y_move rfl) ?_
    refine s_y (v := .bool false) rfl (y_bneq T6.bool_4 rfl rfl rfl) ?_
    refine s_y (v := .bool false) rfl (y_pick_f rfl rfl) ?_
    refine s_nil ?_
    refine W_if_f (by decide) rfl ?_
    refine W_skip ?_
    refine W_seq ?_
    refine W_region (by kernel_rfl) ?_
    refine s_y (v := .bool true) rfl (y_assign rfl) ?_
    refine s_nil ?_
    refine W_ret ?_
    refine ret1 rfl rfl rfl ⟨_, rfl, ?_⟩
    exact ⟨rfl, E63⟩
  · obtain rfl : v13 = .tuple #[.agg #[.int .i64 0, .int .i64 0, .int .i64 0, .float .f32 0, .float .f32 0, .int .i64 0], .bool false] := hv14.trans (if_neg c17)
    refine s_y (v := .tuple #[.agg #[.int .i64 0, .int .i64 0, .int .i64 0, .float .f32 0, .float .f32 0, .int .i64 0], .bool false]) rfl (y_move rfl) ?_
    refine s_y (v := .agg #[.int .i64 0, .int .i64 0, .int .i64 0, .float .f32 0, .float .f32 0, .int .i64 0]) rfl (y_extract rfl rfl) ?_
    refine s_y (v := .bool false) rfl (y_extract rfl rfl) ?_
    refine s_k rfl (k_alloc (z := (.agg #[.int .i64 0, .int .i64 0, .int .i64 0, .float .f32 0, .float .f32 0, .int .i64 0])) (cs := [.int .i64 0, .int .i64 0, .int .i64 0, .float .f32 0, .float .f32 0, .int .i64 0]) T6.zero_29 rfl (fun b64 w65 q67 e66 hB68 => ?_))
    have zw65 := e66.size
    have hB69 := hB15.ext0 e66
    have E70 := E16.fresh e66 (fun _ h _ => h.elim)
    have l_b64 : w.heap.size ≤ b64 := by have := E70.size; omega
    have t_b64 := hB68.lt
    refine s_k0 rfl (k_store (v := .agg #[.int .i64 0, .int .i64 0, .int .i64 0, .float .f32 0, .float .f32 0, .int .i64 0]) (n := 6) (cs' := [.int .i64 0, .int .i64 0, .int .i64 0, .float .f32 0, .float .f32 0, .int .i64 0]) T6.sz_29_6 rfl rfl rfl hB68 (by simp [Value.cells, Value.oneCell']) (Nat.le_of_ble_eq_true rfl) rfl (fun w71 e72 z73 hB74 => ?_))
    have zw71 := e72.size
    have hB75 := hB69.ext e72 (by show ¬ (_ = _); omega)
    have E76 := E70.fresh e72 (fun kx hs hl => by have hs : kx = b64 := hs; have h0 := l_b64; omega)
    refine s_y (v := .bool false) rfl (y_assign rfl) ?_
    refine s_nil ?_
    refine W_seq ?_
    refine W_region (by kernel_rfl) ?_
    refine s_y (v := .agg #[.int .i64 kd, .int .i64 tt, .int .i64 ln, .float .f32 tn, .float .f32 sz, .int .i64 sd]) rfl (y_loadn (b := b1) (o := 0) (vs := [.int .i64 kd, .int .i64 tt, .int .i64 ln, .float .f32 tn, .float .f32 sz, .int .i64 sd]) T6.agg_27_6 rfl rfl (hB75.cells (o := 0) rfl)) ?_
    refine s_k rfl (k_call T6.fn_10 (c_l_toWave _ _ _ _ _ _ _) rfl ?_)
    rintro _ w77 ⟨rfl, e78⟩
    have zw77 := e78.size
    have hB79 := hB75.ext0 e78
    have hB80 := hB74.ext0 e78
    have E81 := E76.fresh e78 (fun _ h _ => h.elim)
    refine s_y (v := .int .i64 y) rfl (y_move rfl) ?_
    refine s_k rfl (k_call T6.fn_17 (c_i_LaterWave _ _ _ _ _ _ _ rfl _ _) rfl ?_)
    rintro v84 w82 ⟨hv85, e83⟩
    have zw82 := e83.size
    have hB86 := hB79.ext0 e83
    have hB87 := hB80.ext0 e83
    have E88 := E81.fresh e83 (fun _ h _ => h.elim)
    obtain rfl : v84 = .tuple #[.agg #[.int .i64 0, .int .i64 0, .int .i64 0, .float .f32 0, .float .f32 0, .int .i64 0], .bool false] := hv85.trans (if_neg c17)
    refine s_y (v := .tuple #[.agg #[.int .i64 0, .int .i64 0, .int .i64 0, .float .f32 0, .float .f32 0, .int .i64 0], .bool false]) rfl (y_move rfl) ?_
    refine s_y (v := .agg #[.int .i64 0, .int .i64 0, .int .i64 0, .float .f32 0, .float .f32 0, .int .i64 0]) rfl (y_extract rfl rfl) ?_
    refine s_y (v := .bool false) rfl (y_extract rfl rfl) ?_
    refine s_k rfl (k_alloc (z := (.agg #[.int .i64 0, .int .i64 0, .int .i64 0, .float .f32 0, .float .f32 0, .int .i64 0])) (cs := [.int .i64 0, .int .i64 0, .int .i64 0, .float .f32 0, .float .f32 0, .int .i64 0]) T6.zero_29 rfl (fun b89 w90 q92 e91 hB93 => ?_))
    have zw90 := e91.size
    have hB94 := hB86.ext0 e91
    have hB95 := hB87.ext0 e91
    have E96 := E88.fresh e91 (fun _ h _ => h.elim)
    have l_b89 : w.heap.size ≤ b89 := by have := E96.size; omega
    have t_b89 := hB93.lt
    refine s_k0 rfl (k_store (v := .agg #[.int .i64 0, .int .i64 0, .int .i64 0, .float .f32 0, .float .f32 0, .int .i64 0]) (n := 6) (cs' := [.int .i64 0, .int .i64 0, .int .i64 0, .float .f32 0, .float .f32 0, .int .i64 0]) T6.sz_29_6 rfl rfl rfl hB93 (by simp [Value.cells, Value.oneCell']) (Nat.le_of_ble_eq_true rfl) rfl (fun w97 e98 z99 hB100 => ?_))
    have zw97 := e98.size
    have hB101 := hB94.ext e98 (by show ¬ (_ = _); omega)
    have hB102 := hB95.ext e98 (by show ¬ (_ = _); omega)
    have E103 := E96.fresh e98 (fun kx hs hl => by have hs : kx = b89 := hs; have h0 := l_b89; omega)
    refine s_y (v := .bool false) rfl (y_assign rfl) ?_
    refine s_nil ?_
    refine W_seq ?_
    refine W_seq ?_
    refine W_region (by kernel_rfl) ?_
    refine s_y (v := .agg #[.int .i64 0, .int .i64 0, .int .i64 0, .float .f32 0, .float .f32 0, .int .i64 0]) rfl (y_loadn (b := b89) (o := 0) (vs := [.int .i64 0, .int .i64 0, .int .i64 0, .float .f32 0, .float .f32 0, .int .i64 0]) T6.agg_29_6 rfl rfl (hB100.cells (o := 0) rfl)) ?_
    refine s_y (v := .agg #[.int .i64 0, .int .i64 0, .int .i64 0, .float .f32 0, .float .f32 0, .int .i64 0]) rfl (y_loadn (b := b64) (o := 0) (vs := [.int .i64 0, .int .i64 0, .int .i64 0, .float .f32 0, .float .f32 0, .int .i64 0]) T6.agg_29_6 rfl rfl (hB102.cells (o := 0) rfl)) ?_
    refine s_k rfl (k_call T6.fn_18 (c_l_eqWave _ _ _ _ _ _ _ _ rfl rfl _) rfl ?_)
    rintro _ w104 ⟨rfl, e105⟩
    have zw104 := e105.size
    have hB106 := hB101.ext0 e105
    have hB107 := hB102.ext0 e105
    have hB108 := hB100.ext0 e105
    have E109 := E103.fresh e105 (fun _ h _ => h.elim)
    refine s_y (v := .bool false) rfl (y_not rfl rfl) ?_
    refine s_y (v := .bool false) rfl (y_move rfl) ?_
    refine s_y (v := .bool false) rfl (y_move rfl) ?_
    refine s_y (v := .bool false) rfl (y_move rfl) ?_
    refine s_y (v := .bool false) rfl (y_bneq T6.bool_4 rfl rfl rfl) ?_
    refine s_y (v := .bool false) rfl (y_pick_f rfl rfl) ?_
    refine s_nil ?_
    refine W_if_f (by decide) rfl ?_
    refine W_skip ?_
    refine W_seq ?_
    refine W_region (by kernel_rfl) ?_
    refine s_y (v := .bool true) rfl (y_assign rfl) ?_
    refine s_nil ?_
    refine W_ret ?_
    refine ret1 rfl rfl rfl ⟨_, rfl, ?_⟩
    exact ⟨rfl, E109⟩
end Go.Proofs.Ytebigoiegiaggaa
