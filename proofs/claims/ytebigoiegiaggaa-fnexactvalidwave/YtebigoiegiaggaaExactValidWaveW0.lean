/- Walks: what the functions under FnExactValidWave do (part 1). Printed by a program of this claim's author. -/
import Derived.Test.YtebigoiegiaggaaL1
import Derived.Test.YtebigoiegiaggaaModel
import Derived.Test.YtebigoiegiaggaaProg
open Go.Wv
namespace Go.Proofs.Ytebigoiegiaggaa
open Go.Proofs
namespace T10
theorem mx : Try.prog.follows .mixedOrders = true := by kernel_rfl
theorem agg_29_6 : aggB Try.prog 29 6 = true := by kernel_rfl
theorem fld_27_0_0 : fldB Try.prog 27 0 0 = true := by kernel_rfl
theorem fld_27_1_1 : fldB Try.prog 27 1 1 = true := by kernel_rfl
theorem fld_27_2_2 : fldB Try.prog 27 2 2 = true := by kernel_rfl
theorem fld_27_3_3 : fldB Try.prog 27 3 3 = true := by kernel_rfl
theorem fld_27_4_4 : fldB Try.prog 27 4 4 = true := by kernel_rfl
theorem fld_27_5_5 : fldB Try.prog 27 5 5 = true := by kernel_rfl
theorem fld_29_0_0 : fldB Try.prog 29 0 0 = true := by kernel_rfl
theorem fld_29_1_1 : fldB Try.prog 29 1 1 = true := by kernel_rfl
theorem fld_29_2_2 : fldB Try.prog 29 2 2 = true := by kernel_rfl
theorem fld_29_3_3 : fldB Try.prog 29 3 3 = true := by kernel_rfl
theorem fld_29_4_4 : fldB Try.prog 29 4 4 = true := by kernel_rfl
theorem fld_29_5_5 : fldB Try.prog 29 5 5 = true := by kernel_rfl
theorem one_2 : oneB Try.prog 2 = true := by kernel_rfl
theorem one_25 : oneB Try.prog 25 = true := by kernel_rfl
theorem sz_2_1 : szB Try.prog 2 1 = true := by kernel_rfl
theorem sz_25_1 : szB Try.prog 25 1 = true := by kernel_rfl
theorem sz_29_6 : szB Try.prog 29 6 = true := by kernel_rfl
theorem zero_29 : zeroB Try.prog 29 (.agg #[.int .i64 0, .int .i64 0, .int .i64 0, .float .f32 0, .float .f32 0, .int .i64 0]) := by unfold zeroB; kernel_rfl
end T10
set_option maxRecDepth 100000 in
set_option maxHeartbeats 400000 in
theorem c_l_toWave (kd tt ln : Int) (tn sz : Nat) (sd : Int) (w : World) :
    Calls Try.prog 10 #[.agg #[.int .i64 kd, .int .i64 tt, .int .i64 ln, .float .f32 tn, .float .f32 sz, .int .i64 sd]] w (Rt fun v w' => v = .agg #[.int .i64 kd, .int .i64 tt, .int .i64 ln, .float .f32 tn, .float .f32 sz, .int .i64 sd] ∧ Ext0 w w') := by
  have E0 : Ext0 w w := Ext.refl _ _
  refine calls_W (n := 23) Try.func10 rfl rfl (Nat.le_of_ble_eq_true rfl) ?_
  refine W_seq ?_
  refine W_region (by kernel_rfl) ?_
  refine s_k rfl (k_box (v := .agg #[.int .i64 kd, .int .i64 tt, .int .i64 ln, .float .f32 tn, .float .f32 sz, .int .i64 sd]) (cs := [.int .i64 kd, .int .i64 tt, .int .i64 ln, .float .f32 tn, .float .f32 sz, .int .i64 sd]) rfl rfl (fun b1 w2 q4 e3 hB5 => ?_))
  have zw2 := e3.size
  have E6 := E0.fresh e3 (fun _ h _ => h.elim)
  have l_b1 : w.heap.size ≤ b1 := by omega
  have t_b1 := hB5.lt
  refine s_k rfl (k_alloc (z := (.agg #[.int .i64 0, .int .i64 0, .int .i64 0, .float .f32 0, .float .f32 0, .int .i64 0])) (cs := [.int .i64 0, .int .i64 0, .int .i64 0, .float .f32 0, .float .f32 0, .int .i64 0]) T10.zero_29 rfl (fun b7 w8 q10 e9 hB11 => ?_))
  have zw8 := e9.size
  have hB12 := hB5.ext0 e9
  have E13 := E6.fresh e9 (fun _ h _ => h.elim)
  have l_b7 : w.heap.size ≤ b7 := by have := E13.size; omega
  have t_b7 := hB11.lt
  refine s_nil ?_
  refine W_seq ?_
  refine W_region (by kernel_rfl) ?_
  refine s_k rfl (k_alloc (z := (.agg #[.int .i64 0, .int .i64 0, .int .i64 0, .float .f32 0, .float .f32 0, .int .i64 0])) (cs := [.int .i64 0, .int .i64 0, .int .i64 0, .float .f32 0, .float .f32 0, .int .i64 0]) T10.zero_29 rfl (fun b14 w15 q17 e16 hB18 => ?_))
  have zw15 := e16.size
  have hB19 := hB12.ext0 e16
  have hB20 := hB11.ext0 e16
  have E21 := E13.fresh e16 (fun _ h _ => h.elim)
  have l_b14 : w.heap.size ≤ b14 := by have := E21.size; omega
  have t_b14 := hB18.lt
  refine s_nil ?_
  refine W_seq ?_
  refine W_region (by kernel_rfl) ?_
  refine s_y (v := .pointer (some ⟨b1, 0, none⟩)) rfl (y_fld (o := 0) T10.fld_27_0_0 rfl) ?_
  refine s_y (v := .int .i64 kd) rfl (y_load T10.one_2 rfl (hB19.cell (j := 0) rfl)) ?_
  refine s_y (v := .pointer (some ⟨b14, 0, none⟩)) rfl (y_fld (o := 0) T10.fld_29_0_0 rfl) ?_
  refine s_k0 rfl (k_store (v := .int .i64 kd) (n := 1) (cs' := [.int .i64 kd, .int .i64 0, .int .i64 0, .float .f32 0, .float .f32 0, .int .i64 0]) T10.sz_2_1 rfl rfl rfl hB18 (by simp [Value.cells, Value.oneCell']) (Nat.le_of_ble_eq_true rfl) rfl (fun w22 e23 z24 hB25 => ?_))
  have zw22 := e23.size
  have hB26 := hB19.ext e23 (by show ¬ (_ = _); omega)
  have hB27 := hB20.ext e23 (by show ¬ (_ = _); omega)
  have E28 := E21.fresh e23 (fun kx hs hl => by have hs : kx = b14 := hs; have h0 := l_b14; omega)
  refine s_nil ?_
  refine W_seq ?_
  refine W_region (by kernel_rfl) ?_
  refine s_y (v := .pointer (some ⟨b1, 1, none⟩)) rfl (y_fld (o := 0) T10.fld_27_1_1 rfl) ?_
  refine s_y (v := .int .i64 tt) rfl (y_load T10.one_2 rfl (hB26.cell (j := 1) rfl)) ?_
  refine s_y (v := .pointer (some ⟨b14, 1, none⟩)) rfl (y_fld (o := 0) T10.fld_29_1_1 rfl) ?_
  refine s_k0 rfl (k_store (v := .int .i64 tt) (n := 1) (cs' := [.int .i64 kd, .int .i64 tt, .int .i64 0, .float .f32 0, .float .f32 0, .int .i64 0]) T10.sz_2_1 rfl rfl rfl hB25 (by simp [Value.cells, Value.oneCell']) (Nat.le_of_ble_eq_true rfl) rfl (fun w29 e30 z31 hB32 => ?_))
  have zw29 := e30.size
  have hB33 := hB26.ext e30 (by show ¬ (_ = _); omega)
  have hB34 := hB27.ext e30 (by show ¬ (_ = _); omega)
  have E35 := E28.fresh e30 (fun kx hs hl => by have hs : kx = b14 := hs; have h0 := l_b14; omega)
  refine s_nil ?_
  refine W_seq ?_
  refine W_region (by kernel_rfl) ?_
  refine s_y (v := .pointer (some ⟨b1, 2, none⟩)) rfl (y_fld (o := 0) T10.fld_27_2_2 rfl) ?_
  refine s_y (v := .int .i64 ln) rfl (y_load T10.one_2 rfl (hB33.cell (j := 2) rfl)) ?_
  refine s_y (v := .pointer (some ⟨b14, 2, none⟩)) rfl (y_fld (o := 0) T10.fld_29_2_2 rfl) ?_
  refine s_k0 rfl (k_store (v := .int .i64 ln) (n := 1) (cs' := [.int .i64 kd, .int .i64 tt, .int .i64 ln, .float .f32 0, .float .f32 0, .int .i64 0]) T10.sz_2_1 rfl rfl rfl hB32 (by simp [Value.cells, Value.oneCell']) (Nat.le_of_ble_eq_true rfl) rfl (fun w36 e37 z38 hB39 => ?_))
  have zw36 := e37.size
  have hB40 := hB33.ext e37 (by show ¬ (_ = _); omega)
  have hB41 := hB34.ext e37 (by show ¬ (_ = _); omega)
  have E42 := E35.fresh e37 (fun kx hs hl => by have hs : kx = b14 := hs; have h0 := l_b14; omega)
  refine s_nil ?_
  refine W_seq ?_
  refine W_region (by kernel_rfl) ?_
  refine s_y (v := .pointer (some ⟨b1, 3, none⟩)) rfl (y_fld (o := 0) T10.fld_27_3_3 rfl) ?_
  refine s_y (v := .float .f32 tn) rfl (y_load T10.one_25 rfl (hB40.cell (j := 3) rfl)) ?_
  refine s_y (v := .pointer (some ⟨b14, 3, none⟩)) rfl (y_fld (o := 0) T10.fld_29_3_3 rfl) ?_
  refine s_k0 rfl (k_store (v := .float .f32 tn) (n := 1) (cs' := [.int .i64 kd, .int .i64 tt, .int .i64 ln, .float .f32 tn, .float .f32 0, .int .i64 0]) T10.sz_25_1 rfl rfl rfl hB39 (by simp [Value.cells, Value.oneCell']) (Nat.le_of_ble_eq_true rfl) rfl (fun w43 e44 z45 hB46 => ?_))
  have zw43 := e44.size
  have hB47 := hB40.ext e44 (by show ¬ (_ = _); omega)
  have hB48 := hB41.ext e44 (by show ¬ (_ = _); omega)
  have E49 := E42.fresh e44 (fun kx hs hl => by have hs : kx = b14 := hs; have h0 := l_b14; omega)
  refine s_nil ?_
  refine W_seq ?_
  refine W_region (by kernel_rfl) ?_
  refine s_y (v := .pointer (some ⟨b1, 4, none⟩)) rfl (y_fld (o := 0) T10.fld_27_4_4 rfl) ?_
  refine s_y (v := .float .f32 sz) rfl (y_load T10.one_25 rfl (hB47.cell (j := 4) rfl)) ?_
  refine s_y (v := .pointer (some ⟨b14, 4, none⟩)) rfl (y_fld (o := 0) T10.fld_29_4_4 rfl) ?_
  refine s_k0 rfl (k_store (v := .float .f32 sz) (n := 1) (cs' := [.int .i64 kd, .int .i64 tt, .int .i64 ln, .float .f32 tn, .float .f32 sz, .int .i64 0]) T10.sz_25_1 rfl rfl rfl hB46 (by simp [Value.cells, Value.oneCell']) (Nat.le_of_ble_eq_true rfl) rfl (fun w50 e51 z52 hB53 => ?_))
  have zw50 := e51.size
  have hB54 := hB47.ext e51 (by show ¬ (_ = _); omega)
  have hB55 := hB48.ext e51 (by show ¬ (_ = _); omega)
  have E56 := E49.fresh e51 (fun kx hs hl => by have hs : kx = b14 := hs; have h0 := l_b14; omega)
  refine s_nil ?_
  refine W_seq ?_
  refine W_region (by kernel_rfl) ?_
  refine s_y (v := .pointer (some ⟨b1, 5, none⟩)) rfl (y_fld (o := 0) T10.fld_27_5_5 rfl) ?_
  refine s_y (v := .int .i64 sd) rfl (y_load T10.one_2 rfl (hB54.cell (j := 5) rfl)) ?_
  refine s_y (v := .pointer (some ⟨b14, 5, none⟩)) rfl (y_fld (o := 0) T10.fld_29_5_5 rfl) ?_
  refine s_k0 rfl (k_store (v := .int .i64 sd) (n := 1) (cs' := [.int .i64 kd, .int .i64 tt, .int .i64 ln, .float .f32 tn, .float .f32 sz, .int .i64 sd]) T10.sz_2_1 rfl rfl rfl hB53 (by simp [Value.cells, Value.oneCell']) (Nat.le_of_ble_eq_true rfl) rfl (fun w57 e58 z59 hB60 => ?_))
  have zw57 := e58.size
  have hB61 := hB54.ext e58 (by show ¬ (_ = _); omega)
  have hB62 := hB55.ext e58 (by show ¬ (_ = _); omega)
  have E63 := E56.fresh e58 (fun kx hs hl => by have hs : kx = b14 := hs; have h0 := l_b14; omega)
  refine s_nil ?_
  refine W_seq ?_
  refine W_region (by kernel_rfl) ?_
  refine s_y (v := .agg #[.int .i64 kd, .int .i64 tt, .int .i64 ln, .float .f32 tn, .float .f32 sz, .int .i64 sd]) rfl (y_loadn (b := b14) (o := 0) (vs := [.int .i64 kd, .int .i64 tt, .int .i64 ln, .float .f32 tn, .float .f32 sz, .int .i64 sd]) T10.agg_29_6 rfl rfl (hB60.cells (o := 0) rfl)) ?_
  refine s_k0 rfl (k_store (v := .agg #[.int .i64 kd, .int .i64 tt, .int .i64 ln, .float .f32 tn, .float .f32 sz, .int .i64 sd]) (n := 6) (cs' := [.int .i64 kd, .int .i64 tt, .int .i64 ln, .float .f32 tn, .float .f32 sz, .int .i64 sd]) T10.sz_29_6 rfl rfl rfl hB62 (by simp [Value.cells, Value.oneCell']) (Nat.le_of_ble_eq_true rfl) rfl (fun w64 e65 z66 hB67 => ?_))
  have zw64 := e65.size
  have hB68 := hB61.ext e65 (by show ¬ (_ = _); omega)
  have hB69 := hB60.ext e65 (by show ¬ (_ = _); omega)
  have E70 := E63.fresh e65 (fun kx hs hl => by have hs : kx = b7 := hs; have h0 := l_b7; omega)
  refine s_nil ?_
  refine W_ret ?_
  refine ret1 rfl rfl ⟨_, [.int .i64 kd, .int .i64 tt, .int .i64 ln, .float .f32 tn, .float .f32 sz, .int .i64 sd], _, rfl, hB67, T10.agg_29_6, rfl⟩ ⟨_, rfl, ?_⟩
  exact ⟨rfl, E70⟩
namespace T31
theorem mx : Try.prog.follows .mixedOrders = true := by kernel_rfl
end T31
set_option maxRecDepth 100000 in
set_option maxHeartbeats 400000 in
theorem c_s_l00In (n lo hi : Int) (w : World) :
    Calls Try.prog 31 #[.int .i64 n, .int .i64 lo, .int .i64 hi] w (Rt fun v w' => v = .bool (within n lo hi) ∧ Ext0 w w') := by
  have E0 : Ext0 w w := Ext.refl _ _
  refine calls_W (n := 15) Try.func31 rfl rfl (Nat.le_of_ble_eq_true rfl) ?_
  refine W_seq ?_
  refine W_region (by kernel_rfl) ?_
  refine s_y (v := .bool false) rfl (y_assign rfl) ?_
  refine s_nil ?_
  refine W_seq ?_
  refine W_region (by kernel_rfl) ?_
  refine s_y (v := .int .i64 n) rfl (y_move rfl) ?_
  refine s_y (v := .int .i64 lo) rfl (y_move rfl) ?_
  by_cases c1 : lo ≤ n
  · refine s_y (v := .bool true) rfl (y_geq rfl rfl (decide_eq_true c1)) ?_
    refine s_y (v := .bool true) rfl (y_move rfl) ?_
    refine s_y (v := .int .i64 n) rfl (y_move rfl) ?_
    refine s_y (v := .int .i64 hi) rfl (y_move rfl) ?_
    by_cases c2 : n ≤ hi
    · refine s_y (v := .bool true) rfl (y_leq rfl rfl (decide_eq_true c2)) ?_
      refine s_y (v := .bool true) rfl (y_pick_t rfl rfl) ?_
      refine s_y (v := .bool true) rfl (y_assign rfl) ?_
      refine s_nil ?_
      refine W_ret ?_
      refine ret1 rfl rfl rfl ⟨_, rfl, ?_⟩
      exact ⟨congrArg Value.bool (by simp [within] <;> omega), E0⟩
    · refine s_y (v := .bool false) rfl (y_leq rfl rfl (decide_eq_false c2)) ?_
      refine s_y (v := .bool false) rfl (y_pick_t rfl rfl) ?_
      refine s_y (v := .bool false) rfl (y_assign rfl) ?_
      refine s_nil ?_
      refine W_ret ?_
      refine ret1 rfl rfl rfl ⟨_, rfl, ?_⟩
      exact ⟨congrArg Value.bool (by simp [within] <;> omega), E0⟩
  · refine s_y (v := .bool false) rfl (y_geq rfl rfl (decide_eq_false c1)) ?_
    refine s_y (v := .bool false) rfl (y_move rfl) ?_
    refine s_skip rfl ?_
    refine s_skip rfl ?_
    refine s_skip rfl ?_
    refine s_y (v := .bool false) rfl (y_pick_f rfl rfl) ?_
    refine s_y (v := .bool false) rfl (y_assign rfl) ?_
    refine s_nil ?_
    refine W_ret ?_
    refine ret1 rfl rfl rfl ⟨_, rfl, ?_⟩
    exact ⟨congrArg Value.bool (by simp [within] <;> omega), E0⟩
namespace T32
theorem mx : Try.prog.follows .mixedOrders = true := by kernel_rfl
theorem fn_31 : fnB Try.prog 31 = true := by kernel_rfl
end T32
set_option maxRecDepth 100000 in
set_option maxHeartbeats 400000 in
theorem c_s_l04Tick (n : Int) (w : World) :
    Calls Try.prog 32 #[.int .i64 n] w (Rt fun v w' => v = .bool (isTick n) ∧ Ext0 w w') := by
  have E0 : Ext0 w w := Ext.refl _ _
  refine calls_W (n := 5) Try.func32 rfl rfl (Nat.le_of_ble_eq_true rfl) ?_
  refine W_seq ?_
  refine W_region (by kernel_rfl) ?_
  refine s_y (v := .bool false) rfl (y_assign rfl) ?_
  refine s_nil ?_
  refine W_seq ?_
  refine W_region (by kernel_rfl) ?_
  refine s_y (v := .int .i64 n) rfl (y_move rfl) ?_
  refine s_k rfl (k_call T32.fn_31 (c_s_l00In _ _ _ _) rfl ?_)
  rintro v3 w1 ⟨hv4, e2⟩
  have zw1 := e2.size
  have E5 := E0.fresh e2 (fun _ h _ => h.elim)
  by_cases c6 : within n 0 1000000 = true
  · obtain rfl : v3 = .bool true := hv4.trans (congrArg Value.bool c6)
    refine s_y (v := .bool true) rfl (y_assign rfl) ?_
    refine s_nil ?_
    refine W_ret ?_
    refine ret1 rfl rfl rfl ⟨_, rfl, ?_⟩
    exact ⟨congrArg Value.bool (by simp [isTick, *]), E5⟩
  · obtain rfl : v3 = .bool false := hv4.trans (congrArg Value.bool (Bool.eq_false_iff.2 c6))
    refine s_y (v := .bool false) rfl (y_assign rfl) ?_
    refine s_nil ?_
    refine W_ret ?_
    refine ret1 rfl rfl rfl ⟨_, rfl, ?_⟩
    exact ⟨congrArg Value.bool (by simp [isTick, *]), E5⟩
namespace T27
theorem mx : Try.prog.follows .mixedOrders = true := by kernel_rfl
end T27
set_option maxRecDepth 100000 in
set_option maxHeartbeats 400000 in
theorem c_s_l01Finite (x X : Nat) (hx : can .f32 x = X) (w : World) :
    Calls Try.prog 27 #[.float .f32 x] w (Rt fun v w' => v = .bool (finB X) ∧ Ext0 w w') := by
  have E0 : Ext0 w w := Ext.refl _ _
  refine calls_W (n := 7) Try.func27 rfl rfl (Nat.le_of_ble_eq_true rfl) ?_
  refine W_seq ?_
  refine W_region (by kernel_rfl) ?_
  refine s_y (v := .bool false) rfl (y_assign rfl) ?_
  refine s_nil ?_
  refine W_seq ?_
  refine W_region (by kernel_rfl) ?_
  refine s_y (v := .float .f32 x) rfl (y_move rfl) ?_
  refine s_y (v := .float .f32 x) rfl (y_move rfl) ?_
  refine s_n rfl (n_arith (by decide) rfl rfl) ?_
  rintro _ w4 e5 ⟨r2, rfl, hr3⟩
  have zw4 := e5.size
  have E6 := E0.fresh e5 (fun _ h _ => h.elim)
  have hc7 := fopC hr3 hx hx
  by_cases c8 : feq .f32 (fop .sub .f32 X X) 0 = true
  · refine s_y (v := .bool true) rfl (y_feql rfl rfl (feqC hc7 (by kernel_rfl) c8)) ?_
    refine s_y (v := .bool true) rfl (y_assign rfl) ?_
    refine s_nil ?_
    refine W_ret ?_
    refine ret1 rfl rfl rfl ⟨_, rfl, ?_⟩
    exact ⟨congrArg Value.bool (by simp_all [finB]), E6⟩
  · refine s_y (v := .bool false) rfl (y_feql rfl rfl (feqC hc7 (by kernel_rfl) (Bool.eq_false_iff.2 c8))) ?_
    refine s_y (v := .bool false) rfl (y_assign rfl) ?_
    refine s_nil ?_
    refine W_ret ?_
    refine ret1 rfl rfl rfl ⟨_, rfl, ?_⟩
    exact ⟨congrArg Value.bool (by simp_all [finB]), E6⟩
namespace T19
theorem mx : Try.prog.follows .mixedOrders = true := by kernel_rfl
theorem fn_31 : fnB Try.prog 31 = true := by kernel_rfl
end T19
set_option maxRecDepth 100000 in
set_option maxHeartbeats 400000 in
theorem c_s_l04Seed (n : Int) (w : World) :
    Calls Try.prog 19 #[.int .i64 n] w (Rt fun v w' => v = .bool (isSeed n) ∧ Ext0 w w') := by
  have E0 : Ext0 w w := Ext.refl _ _
  refine calls_W (n := 5) Try.func19 rfl rfl (Nat.le_of_ble_eq_true rfl) ?_
  refine W_seq ?_
  refine W_region (by kernel_rfl) ?_
  refine s_y (v := .bool false) rfl (y_assign rfl) ?_
  refine s_nil ?_
  refine W_seq ?_
  refine W_region (by kernel_rfl) ?_
  refine s_y (v := .int .i64 n) rfl (y_move rfl) ?_
  refine s_k rfl (k_call T19.fn_31 (c_s_l00In _ _ _ _) rfl ?_)
  rintro v3 w1 ⟨hv4, e2⟩
  have zw1 := e2.size
  have E5 := E0.fresh e2 (fun _ h _ => h.elim)
  by_cases c6 : within n 0 2147483647 = true
  · obtain rfl : v3 = .bool true := hv4.trans (congrArg Value.bool c6)
    refine s_y (v := .bool true) rfl (y_assign rfl) ?_
    refine s_nil ?_
    refine W_ret ?_
    refine ret1 rfl rfl rfl ⟨_, rfl, ?_⟩
    exact ⟨congrArg Value.bool (by simp [isSeed, *]), E5⟩
  · obtain rfl : v3 = .bool false := hv4.trans (congrArg Value.bool (Bool.eq_false_iff.2 c6))
    refine s_y (v := .bool false) rfl (y_assign rfl) ?_
    refine s_nil ?_
    refine W_ret ?_
    refine ret1 rfl rfl rfl ⟨_, rfl, ?_⟩
    exact ⟨congrArg Value.bool (by simp [isSeed, *]), E5⟩
namespace T23
theorem mx : Try.prog.follows .mixedOrders = true := by kernel_rfl
theorem fld_29_0_0 : fldB Try.prog 29 0 0 = true := by kernel_rfl
theorem fld_29_1_1 : fldB Try.prog 29 1 1 = true := by kernel_rfl
theorem fld_29_2_2 : fldB Try.prog 29 2 2 = true := by kernel_rfl
theorem fld_29_3_3 : fldB Try.prog 29 3 3 = true := by kernel_rfl
theorem fld_29_5_5 : fldB Try.prog 29 5 5 = true := by kernel_rfl
theorem fn_19 : fnB Try.prog 19 = true := by kernel_rfl
theorem fn_27 : fnB Try.prog 27 = true := by kernel_rfl
theorem fn_31 : fnB Try.prog 31 = true := by kernel_rfl
theorem fn_32 : fnB Try.prog 32 = true := by kernel_rfl
theorem one_2 : oneB Try.prog 2 = true := by kernel_rfl
theorem one_25 : oneB Try.prog 25 = true := by kernel_rfl
end T23
set_option maxRecDepth 100000 in
set_option maxHeartbeats 400000 in
theorem c_s_l04Is (kd tt ln : Int) (tn sz : Nat) (sd : Int) (TN : Nat) (htn : can .f32 tn = TN) (b o : Nat) (w : World) (hP : Sl w (some ⟨b, o, none⟩) [.int .i64 kd, .int .i64 tt, .int .i64 ln, .float .f32 tn, .float .f32 sz, .int .i64 sd]) :
    Calls Try.prog 23 #[.pointer (some ⟨b, o, none⟩)] w (Rt fun v w' => v = .bool (validW kd tt ln TN sd) ∧ Ext0 w w') := by
  have E0 : Ext0 w w := Ext.refl _ _
  refine calls_W (n := 36) Try.func23 rfl rfl (Nat.le_of_ble_eq_true rfl) ?_
  refine W_seq ?_
  refine W_region (by kernel_rfl) ?_
  refine s_y (v := .bool false) rfl (y_assign rfl) ?_
  refine s_nil ?_
  refine W_seq ?_
  refine W_region (by kernel_rfl) ?_
  refine s_y (v := .pointer (some ⟨b, o, none⟩)) rfl (y_move rfl) ?_
  refine s_y (v := .pointer (some ⟨b, o, none⟩)) rfl (y_nil rfl) ?_
  refine s_y (v := .pointer (some ⟨b, o, none⟩)) rfl (y_fld (o := o + 0) T23.fld_29_0_0 rfl) ?_
  refine s_y (v := .int .i64 kd) rfl (y_load T23.one_2 rfl (hP.cell (j := 0) rfl)) ?_
  refine s_k rfl (k_call T23.fn_31 (c_s_l00In _ _ _ _) rfl ?_)
  rintro v3 w1 ⟨hv4, e2⟩
  have zw1 := e2.size
  have hS5 := hP.ext0 e2
  have E6 := E0.fresh e2 (fun _ h _ => h.elim)
  by_cases c7 : within kd 0 4 = true
  · obtain rfl : v3 = .bool true := hv4.trans (congrArg Value.bool c7)
    refine s_y (v := .bool true) rfl (y_move rfl) ?_
    refine s_y (v := .pointer (some ⟨b, o, none⟩)) rfl (y_move rfl) ?_
    refine s_y (v := .pointer (some ⟨b, o, none⟩)) rfl (y_nil rfl) ?_
    refine s_y (v := .pointer (some ⟨b, o + 1, none⟩)) rfl (y_fld (o := o + 0) T23.fld_29_1_1 rfl) ?_
    refine s_y (v := .int .i64 tt) rfl (y_load T23.one_2 rfl (hS5.cell (j := 1) rfl)) ?_
    refine s_k rfl (k_call T23.fn_32 (c_s_l04Tick _ _) rfl ?_)
    rintro v10 w8 ⟨hv11, e9⟩
    have zw8 := e9.size
    have hS12 := hS5.ext0 e9
    have E13 := E6.fresh e9 (fun _ h _ => h.elim)
    by_cases c14 : isTick tt = true
    · obtain rfl : v10 = .bool true := hv11.trans (congrArg Value.bool c14)
      refine s_y (v := .bool true) rfl (y_pick_t rfl rfl) ?_
      refine s_y (v := .bool true) rfl (y_move rfl) ?_
      refine s_y (v := .pointer (some ⟨b, o, none⟩)) rfl (y_move rfl) ?_
      refine s_y (v := .pointer (some ⟨b, o, none⟩)) rfl (y_nil rfl) ?_
      refine s_y (v := .pointer (some ⟨b, o + 2, none⟩)) rfl (y_fld (o := o + 0) T23.fld_29_2_2 rfl) ?_
      refine s_y (v := .int .i64 ln) rfl (y_load T23.one_2 rfl (hS12.cell (j := 2) rfl)) ?_
      refine s_k rfl (k_call T23.fn_31 (c_s_l00In _ _ _ _) rfl ?_)
      rintro v17 w15 ⟨hv18, e16⟩
      have zw15 := e16.size
      have hS19 := hS12.ext0 e16
      have E20 := E13.fresh e16 (fun _ h _ => h.elim)
      by_cases c21 : within ln 1 1000000 = true
      · obtain rfl : v17 = .bool true := hv18.trans (congrArg Value.bool c21)
        refine s_y (v := .bool true) rfl (y_pick_t rfl rfl) ?_
        refine s_y (v := .bool true) rfl (y_move rfl) ?_
        refine s_y (v := .pointer (some ⟨b, o, none⟩)) rfl (y_move rfl) ?_
        refine s_y (v := .pointer (some ⟨b, o, none⟩)) rfl (y_nil rfl) ?_
        refine s_y (v := .pointer (some ⟨b, o + 3, none⟩)) rfl (y_fld (o := o + 0) T23.fld_29_3_3 rfl) ?_
        refine s_y (v := .float .f32 tn) rfl (y_load T23.one_25 rfl (hS19.cell (j := 3) rfl)) ?_
        refine s_k rfl (k_call T23.fn_27 (c_s_l01Finite _ _ htn _) rfl ?_)
        rintro v24 w22 ⟨hv25, e23⟩
        have zw22 := e23.size
        have hS26 := hS19.ext0 e23
        have E27 := E20.fresh e23 (fun _ h _ => h.elim)
        by_cases c28 : finB TN = true
        · obtain rfl : v24 = .bool true := hv25.trans (congrArg Value.bool c28)
          refine s_y (v := .bool true) rfl (y_pick_t rfl rfl) ?_
          refine s_y (v := .bool true) rfl (y_move rfl) ?_
          refine s_y (v := .pointer (some ⟨b, o, none⟩)) rfl (y_move rfl) ?_
          refine s_y (v := .pointer (some ⟨b, o, none⟩)) rfl (y_nil rfl) ?_
          refine s_y (v := .pointer (some ⟨b, o + 5, none⟩)) rfl (y_fld (o := o + 0) T23.fld_29_5_5 rfl) ?_
          refine s_y (v := .int .i64 sd) rfl (y_load T23.one_2 rfl (hS26.cell (j := 5) rfl)) ?_
          refine s_k rfl (k_call T23.fn_19 (c_s_l04Seed _ _) rfl ?_)
          rintro v31 w29 ⟨hv32, e30⟩
          have zw29 := e30.size
          have hS33 := hS26.ext0 e30
          have E34 := E27.fresh e30 (fun _ h _ => h.elim)
          by_cases c35 : isSeed sd = true
          · obtain rfl : v31 = .bool true := hv32.trans (congrArg Value.bool c35)
            refine s_y (v := .bool true) rfl (y_pick_t rfl rfl) ?_
            refine s_y (v := .bool true) rfl (y_assign rfl) ?_
            refine s_nil ?_
            refine W_ret ?_
            refine ret1 rfl rfl rfl ⟨_, rfl, ?_⟩
            exact ⟨congrArg Value.bool (by simp [validW, *]), E34⟩
          · obtain rfl : v31 = .bool false := hv32.trans (congrArg Value.bool (Bool.eq_false_iff.2 c35))
            refine s_y (v := .bool false) rfl (y_pick_t rfl rfl) ?_
            refine s_y (v := .bool false) rfl (y_assign rfl) ?_
            refine s_nil ?_
            refine W_ret ?_
            refine ret1 rfl rfl rfl ⟨_, rfl, ?_⟩
            exact ⟨congrArg Value.bool (by simp [validW, *]), E34⟩
        · obtain rfl : v24 = .bool false := hv25.trans (congrArg Value.bool (Bool.eq_false_iff.2 c28))
          refine s_y (v := .bool false) rfl (y_pick_t rfl rfl) ?_
          refine s_y (v := .bool false) rfl (y_move rfl) ?_
          refine s_skip rfl ?_
          refine s_skip rfl ?_
          refine s_skip rfl ?_
          refine s_skip rfl ?_
          refine s_skip rfl ?_
          refine s_y (v := .bool false) rfl (y_pick_f rfl rfl) ?_
          refine s_y (v := .bool false) rfl (y_assign rfl) ?_
          refine s_nil ?_
          refine W_ret ?_
          refine ret1 rfl rfl rfl ⟨_, rfl, ?_⟩
          exact ⟨congrArg Value.bool (by simp [validW, *]), E27⟩
      · obtain rfl : v17 = .bool false := hv18.trans (congrArg Value.bool (Bool.eq_false_iff.2 c21))
        refine s_y (v := .bool false) rfl (y_pick_t rfl rfl) ?_
        refine s_y (v := .bool false) rfl (y_move rfl) ?_
        refine s_skip rfl ?_
        refine s_skip rfl ?_
        refine s_skip rfl ?_
        refine s_skip rfl ?_
        refine s_skip rfl ?_
        refine s_y (v := .bool false) rfl (y_pick_f rfl rfl) ?_
        refine s_y (v := .bool false) rfl (y_move rfl) ?_
        refine s_skip rfl ?_
        refine s_skip rfl ?_
        refine s_skip rfl ?_
        refine s_skip rfl ?_
        refine s_skip rfl ?_
        refine s_y (v := .bool false) rfl (y_pick_f rfl rfl) ?_
        refine s_y (v := .bool false) rfl (y_assign rfl) ?_
        refine s_nil ?_
        refine W_ret ?_
        refine ret1 rfl rfl rfl ⟨_, rfl, ?_⟩
        exact ⟨congrArg Value.bool (by simp [validW, *]), E20⟩
    · obtain rfl : v10 = .bool false := hv11.trans (congrArg Value.bool (Bool.eq_false_iff.2 c14))
      refine s_y (v := .bool false) rfl (y_pick_t rfl rfl) ?_
      refine s_y (v := .bool false) rfl (y_move rfl) ?_
      refine s_skip rfl ?_
      refine s_skip rfl ?_
      refine s_skip rfl ?_
      refine s_skip rfl ?_
      refine s_skip rfl ?_
      refine s_y (v := .bool false) rfl (y_pick_f rfl rfl) ?_
      refine s_y (v := .bool false) rfl (y_move rfl) ?_
      refine s_skip rfl ?_
      refine s_skip rfl ?_
      refine s_skip rfl ?_
      refine s_skip rfl ?_
      refine s_skip rfl ?_
      refine s_y (v := .bool false) rfl (y_pick_f rfl rfl) ?_
      refine s_y (v := .bool false) rfl (y_move rfl) ?_
      refine s_skip rfl ?_
      refine s_skip rfl ?_
      refine s_skip rfl ?_
      refine s_skip rfl ?_
      refine s_skip rfl ?_
      refine s_y (v := .bool false) rfl (y_pick_f rfl rfl) ?_
      refine s_y (v := .bool false) rfl (y_assign rfl) ?_
      refine s_nil ?_
      refine W_ret ?_
      refine ret1 rfl rfl rfl ⟨_, rfl, ?_⟩
      exact ⟨congrArg Value.bool (by simp [validW, *]), E13⟩
  · obtain rfl : v3 = .bool false := hv4.trans (congrArg Value.bool (Bool.eq_false_iff.2 c7))
    refine s_y (v := .bool false) rfl (y_move rfl) ?_
    refine s_skip rfl ?_
    refine s_skip rfl ?_
    refine s_skip rfl ?_
    refine s_skip rfl ?_
    refine s_skip rfl ?_
    refine s_y (v := .bool false) rfl (y_pick_f rfl rfl) ?_
    refine s_y (v := .bool false) rfl (y_move rfl) ?_
    refine s_skip rfl ?_
    refine s_skip rfl ?_
    refine s_skip rfl ?_
    refine s_skip rfl ?_
    refine s_skip rfl ?_
    refine s_y (v := .bool false) rfl (y_pick_f rfl rfl) ?_
    refine s_y (v := .bool false) rfl (y_move rfl) ?_
    refine s_skip rfl ?_
    refine s_skip rfl ?_
    refine s_skip rfl ?_
    refine s_skip rfl ?_
    refine s_skip rfl ?_
    refine s_y (v := .bool false) rfl (y_pick_f rfl rfl) ?_
    refine s_y (v := .bool false) rfl (y_move rfl) ?_
    refine s_skip rfl ?_
    refine s_skip rfl ?_
    refine s_skip rfl ?_
    refine s_skip rfl ?_
    refine s_skip rfl ?_
    refine s_y (v := .bool false) rfl (y_pick_f rfl rfl) ?_
    refine s_y (v := .bool false) rfl (y_assign rfl) ?_
    refine s_nil ?_
    refine W_ret ?_
    refine ret1 rfl rfl rfl ⟨_, rfl, ?_⟩
    exact ⟨congrArg Value.bool (by simp [validW, *]), E6⟩
namespace T9
theorem mx : Try.prog.follows .mixedOrders = true := by kernel_rfl
theorem fn_23 : fnB Try.prog 23 = true := by kernel_rfl
end T9
set_option maxRecDepth 100000 in
set_option maxHeartbeats 400000 in
theorem c_s_ValidWave (kd tt ln : Int) (tn sz : Nat) (sd : Int) (TN : Nat) (htn : can .f32 tn = TN) (w : World) :
    Calls Try.prog 9 #[.agg #[.int .i64 kd, .int .i64 tt, .int .i64 ln, .float .f32 tn, .float .f32 sz, .int .i64 sd]] w (Rt fun v w' => v = .bool (validW kd tt ln TN sd) ∧ Ext0 w w') := by
  have E0 : Ext0 w w := Ext.refl _ _
  refine calls_W (n := 4) Try.func9 rfl rfl (Nat.le_of_ble_eq_true rfl) ?_
  refine W_seq ?_
  refine W_region (by kernel_rfl) ?_
  refine s_k rfl (k_box (v := .agg #[.int .i64 kd, .int .i64 tt, .int .i64 ln, .float .f32 tn, .float .f32 sz, .int .i64 sd]) (cs := [.int .i64 kd, .int .i64 tt, .int .i64 ln, .float .f32 tn, .float .f32 sz, .int .i64 sd]) rfl rfl (fun b1 w2 q4 e3 hB5 => ?_))
  have zw2 := e3.size
  have E6 := E0.fresh e3 (fun _ h _ => h.elim)
  have l_b1 : w.heap.size ≤ b1 := by omega
  have t_b1 := hB5.lt
  refine s_y (v := .bool false) rfl (y_assign rfl) ?_
  refine s_nil ?_
  refine W_seq ?_
  refine W_region (by kernel_rfl) ?_
  refine s_k rfl (k_call T9.fn_23 (c_s_l04Is _ _ _ _ _ _ _ htn b1 0 _ hB5.sl) rfl ?_)
  rintro v9 w7 ⟨hv10, e8⟩
  have zw7 := e8.size
  have hB11 := hB5.ext0 e8
  have E12 := E6.fresh e8 (fun _ h _ => h.elim)
  by_cases c13 : validW kd tt ln TN sd = true
  · obtain rfl : v9 = .bool true := hv10.trans (congrArg Value.bool c13)
    refine s_y (v := .bool true) rfl (y_assign rfl) ?_
    refine s_nil ?_
    refine W_ret ?_
    refine ret1 rfl rfl rfl ⟨_, rfl, ?_⟩
    exact ⟨congrArg Value.bool (by simp [*]), E12⟩
  · obtain rfl : v9 = .bool false := hv10.trans (congrArg Value.bool (Bool.eq_false_iff.2 c13))
    refine s_y (v := .bool false) rfl (y_assign rfl) ?_
    refine s_nil ?_
    refine W_ret ?_
    refine ret1 rfl rfl rfl ⟨_, rfl, ?_⟩
    exact ⟨congrArg Value.bool (by simp [*]), E12⟩
namespace T24
theorem mx : Try.prog.follows .mixedOrders = true := by kernel_rfl
end T24
set_option maxRecDepth 100000 in
set_option maxHeartbeats 400000 in
theorem c_i_within (n lo hi : Int) (w : World) :
    Calls Try.prog 24 #[.int .i64 n, .int .i64 lo, .int .i64 hi] w (Rt fun v w' => v = .bool (within n lo hi) ∧ Ext0 w w') := by
  have E0 : Ext0 w w := Ext.refl _ _
  refine calls_W (n := 15) Try.func24 rfl rfl (Nat.le_of_ble_eq_true rfl) ?_
  refine W_seq ?_
  refine W_region (by kernel_rfl) ?_
  refine s_y (v := .bool false) rfl (y_assign rfl) ?_
  refine s_nil ?_
  refine W_seq ?_
  refine W_region (by kernel_rfl) ?_
  refine s_y (v := .int .i64 n) rfl (y_move rfl) ?_
  refine s_y (v := .int .i64 lo) rfl (y_move rfl) ?_
  by_cases c1 : lo ≤ n
  · refine s_y (v := .bool true) rfl (y_geq rfl rfl (decide_eq_true c1)) ?_
    refine s_y (v := .bool true) rfl (y_move rfl) ?_
    refine s_y (v := .int .i64 n) rfl (y_move rfl) ?_
    refine s_y (v := .int .i64 hi) rfl (y_move rfl) ?_
    by_cases c2 : n ≤ hi
    · refine s_y (v := .bool true) rfl (y_leq rfl rfl (decide_eq_true c2)) ?_
      refine s_y (v := .bool true) rfl (y_pick_t rfl rfl) ?_
      refine s_y (v := .bool true) rfl (y_assign rfl) ?_
      refine s_nil ?_
      refine W_ret ?_
      refine ret1 rfl rfl rfl ⟨_, rfl, ?_⟩
      exact ⟨congrArg Value.bool (by simp [within] <;> omega), E0⟩
    · refine s_y (v := .bool false) rfl (y_leq rfl rfl (decide_eq_false c2)) ?_
      refine s_y (v := .bool false) rfl (y_pick_t rfl rfl) ?_
      refine s_y (v := .bool false) rfl (y_assign rfl) ?_
      refine s_nil ?_
      refine W_ret ?_
      refine ret1 rfl rfl rfl ⟨_, rfl, ?_⟩
      exact ⟨congrArg Value.bool (by simp [within] <;> omega), E0⟩
  · refine s_y (v := .bool false) rfl (y_geq rfl rfl (decide_eq_false c1)) ?_
    refine s_y (v := .bool false) rfl (y_move rfl) ?_
    refine s_skip rfl ?_
    refine s_skip rfl ?_
    refine s_skip rfl ?_
    refine s_y (v := .bool false) rfl (y_pick_f rfl rfl) ?_
    refine s_y (v := .bool false) rfl (y_assign rfl) ?_
    refine s_nil ?_
    refine W_ret ?_
    refine ret1 rfl rfl rfl ⟨_, rfl, ?_⟩
    exact ⟨congrArg Value.bool (by simp [within] <;> omega), E0⟩
namespace T25
theorem mx : Try.prog.follows .mixedOrders = true := by kernel_rfl
theorem fn_24 : fnB Try.prog 24 = true := by kernel_rfl
end T25
set_option maxRecDepth 100000 in
set_option maxHeartbeats 400000 in
theorem c_i_isTick (n : Int) (w : World) :
    Calls Try.prog 25 #[.int .i64 n] w (Rt fun v w' => v = .bool (isTick n) ∧ Ext0 w w') := by
  have E0 : Ext0 w w := Ext.refl _ _
  refine calls_W (n := 5) Try.func25 rfl rfl (Nat.le_of_ble_eq_true rfl) ?_
  refine W_seq ?_
  refine W_region (by kernel_rfl) ?_
  refine s_y (v := .bool false) rfl (y_assign rfl) ?_
  refine s_nil ?_
  refine W_seq ?_
  refine W_region (by kernel_rfl) ?_
  refine s_y (v := .int .i64 n) rfl (y_move rfl) ?_
  refine s_k rfl (k_call T25.fn_24 (c_i_within _ _ _ _) rfl ?_)
  rintro v3 w1 ⟨hv4, e2⟩
  have zw1 := e2.size
  have E5 := E0.fresh e2 (fun _ h _ => h.elim)
  by_cases c6 : within n 0 1000000 = true
  · obtain rfl : v3 = .bool true := hv4.trans (congrArg Value.bool c6)
    refine s_y (v := .bool true) rfl (y_assign rfl) ?_
    refine s_nil ?_
    refine W_ret ?_
    refine ret1 rfl rfl rfl ⟨_, rfl, ?_⟩
    exact ⟨congrArg Value.bool (by simp [isTick, *]), E5⟩
  · obtain rfl : v3 = .bool false := hv4.trans (congrArg Value.bool (Bool.eq_false_iff.2 c6))
    refine s_y (v := .bool false) rfl (y_assign rfl) ?_
    refine s_nil ?_
    refine W_ret ?_
    refine ret1 rfl rfl rfl ⟨_, rfl, ?_⟩
    exact ⟨congrArg Value.bool (by simp [isTick, *]), E5⟩
namespace T26
theorem mx : Try.prog.follows .mixedOrders = true := by kernel_rfl
end T26
set_option maxRecDepth 100000 in
set_option maxHeartbeats 400000 in
theorem c_i_IsFinite (x X : Nat) (hx : can .f32 x = X) (w : World) :
    Calls Try.prog 26 #[.float .f32 x] w (Rt fun v w' => v = .bool (finB X) ∧ Ext0 w w') := by
  have E0 : Ext0 w w := Ext.refl _ _
  refine calls_W (n := 7) Try.func26 rfl rfl (Nat.le_of_ble_eq_true rfl) ?_
  refine W_seq ?_
  refine W_region (by kernel_rfl) ?_
  refine s_y (v := .bool false) rfl (y_assign rfl) ?_
  refine s_nil ?_
  refine W_seq ?_
  refine W_region (by kernel_rfl) ?_
  refine s_y (v := .float .f32 x) rfl (y_move rfl) ?_
  refine s_y (v := .float .f32 x) rfl (y_move rfl) ?_
  refine s_n rfl (n_arith (by decide) rfl rfl) ?_
  rintro _ w4 e5 ⟨r2, rfl, hr3⟩
  have zw4 := e5.size
  have E6 := E0.fresh e5 (fun _ h _ => h.elim)
  have hc7 := fopC hr3 hx hx
  by_cases c8 : feq .f32 (fop .sub .f32 X X) 0 = true
  · refine s_y (v := .bool true) rfl (y_feql rfl rfl (feqC hc7 (by kernel_rfl) c8)) ?_
    refine s_y (v := .bool true) rfl (y_assign rfl) ?_
    refine s_nil ?_
    refine W_ret ?_
    refine ret1 rfl rfl rfl ⟨_, rfl, ?_⟩
    exact ⟨congrArg Value.bool (by simp_all [finB]), E6⟩
  · refine s_y (v := .bool false) rfl (y_feql rfl rfl (feqC hc7 (by kernel_rfl) (Bool.eq_false_iff.2 c8))) ?_
    refine s_y (v := .bool false) rfl (y_assign rfl) ?_
    refine s_nil ?_
    refine W_ret ?_
    refine ret1 rfl rfl rfl ⟨_, rfl, ?_⟩
    exact ⟨congrArg Value.bool (by simp_all [finB]), E6⟩
namespace T21
theorem mx : Try.prog.follows .mixedOrders = true := by kernel_rfl
theorem fn_24 : fnB Try.prog 24 = true := by kernel_rfl
end T21
set_option maxRecDepth 100000 in
set_option maxHeartbeats 400000 in
theorem c_i_isSeed (n : Int) (w : World) :
    Calls Try.prog 21 #[.int .i64 n] w (Rt fun v w' => v = .bool (isSeed n) ∧ Ext0 w w') := by
  have E0 : Ext0 w w := Ext.refl _ _
  refine calls_W (n := 5) Try.func21 rfl rfl (Nat.le_of_ble_eq_true rfl) ?_
  refine W_seq ?_
  refine W_region (by kernel_rfl) ?_
  refine s_y (v := .bool false) rfl (y_assign rfl) ?_
  refine s_nil ?_
  refine W_seq ?_
  refine W_region (by kernel_rfl) ?_
  refine s_y (v := .int .i64 n) rfl (y_move rfl) ?_
  refine s_k rfl (k_call T21.fn_24 (c_i_within _ _ _ _) rfl ?_)
  rintro v3 w1 ⟨hv4, e2⟩
  have zw1 := e2.size
  have E5 := E0.fresh e2 (fun _ h _ => h.elim)
  by_cases c6 : within n 0 2147483647 = true
  · obtain rfl : v3 = .bool true := hv4.trans (congrArg Value.bool c6)
    refine s_y (v := .bool true) rfl (y_assign rfl) ?_
    refine s_nil ?_
    refine W_ret ?_
    refine ret1 rfl rfl rfl ⟨_, rfl, ?_⟩
    exact ⟨congrArg Value.bool (by simp [isSeed, *]), E5⟩
  · obtain rfl : v3 = .bool false := hv4.trans (congrArg Value.bool (Bool.eq_false_iff.2 c6))
    refine s_y (v := .bool false) rfl (y_assign rfl) ?_
    refine s_nil ?_
    refine W_ret ?_
    refine ret1 rfl rfl rfl ⟨_, rfl, ?_⟩
    exact ⟨congrArg Value.bool (by simp [isSeed, *]), E5⟩
namespace T11
theorem mx : Try.prog.follows .mixedOrders = true := by kernel_rfl
theorem fld_29_0_0 : fldB Try.prog 29 0 0 = true := by kernel_rfl
theorem fld_29_1_1 : fldB Try.prog 29 1 1 = true := by kernel_rfl
theorem fld_29_2_2 : fldB Try.prog 29 2 2 = true := by kernel_rfl
theorem fld_29_3_3 : fldB Try.prog 29 3 3 = true := by kernel_rfl
theorem fld_29_5_5 : fldB Try.prog 29 5 5 = true := by kernel_rfl
theorem fn_21 : fnB Try.prog 21 = true := by kernel_rfl
theorem fn_24 : fnB Try.prog 24 = true := by kernel_rfl
theorem fn_25 : fnB Try.prog 25 = true := by kernel_rfl
theorem fn_26 : fnB Try.prog 26 = true := by kernel_rfl
theorem one_2 : oneB Try.prog 2 = true := by kernel_rfl
theorem one_25 : oneB Try.prog 25 = true := by kernel_rfl
end T11
set_option maxRecDepth 100000 in
set_option maxHeartbeats 400000 in
theorem c_i_ValidWave (kd tt ln : Int) (tn sz : Nat) (sd : Int) (TN : Nat) (htn : can .f32 tn = TN) (w : World) :
    Calls Try.prog 11 #[.agg #[.int .i64 kd, .int .i64 tt, .int .i64 ln, .float .f32 tn, .float .f32 sz, .int .i64 sd]] w (Rt fun v w' => v = .bool (validW kd tt ln TN sd) ∧ Ext0 w w') := by
  have E0 : Ext0 w w := Ext.refl _ _
  refine calls_W (n := 26) Try.func11 rfl rfl (Nat.le_of_ble_eq_true rfl) ?_
  refine W_seq ?_
  refine W_region (by kernel_rfl) ?_
  refine s_k rfl (k_box (v := .agg #[.int .i64 kd, .int .i64 tt, .int .i64 ln, .float .f32 tn, .float .f32 sz, .int .i64 sd]) (cs := [.int .i64 kd, .int .i64 tt, .int .i64 ln, .float .f32 tn, .float .f32 sz, .int .i64 sd]) rfl rfl (fun b1 w2 q4 e3 hB5 => ?_))
  have zw2 := e3.size
  have E6 := E0.fresh e3 (fun _ h _ => h.elim)
  have l_b1 : w.heap.size ≤ b1 := by omega
  have t_b1 := hB5.lt
  refine s_y (v := .bool false) rfl (y_assign rfl) ?_
  refine s_nil ?_
  refine W_seq ?_
  refine W_region (by kernel_rfl) ?_
  refine s_y (v := .pointer (some ⟨b1, 0, none⟩)) rfl (y_fld (o := 0) T11.fld_29_0_0 rfl) ?_
  refine s_y (v := .int .i64 kd) rfl (y_load T11.one_2 rfl (hB5.cell (j := 0) rfl)) ?_
  refine s_k rfl (k_call T11.fn_24 (c_i_within _ _ _ _) rfl ?_)
  rintro v9 w7 ⟨hv10, e8⟩
  have zw7 := e8.size
  have hB11 := hB5.ext0 e8
  have E12 := E6.fresh e8 (fun _ h _ => h.elim)
  by_cases c13 : within kd 0 4 = true
  · obtain rfl : v9 = .bool true := hv10.trans (congrArg Value.bool c13)
    refine s_y (v := .bool true) rfl (y_move rfl) ?_
    refine s_y (v := .pointer (some ⟨b1, 1, none⟩)) rfl (y_fld (o := 0) T11.fld_29_1_1 rfl) ?_
    refine s_y (v := .int .i64 tt) rfl (y_load T11.one_2 rfl (hB11.cell (j := 1) rfl)) ?_
    refine s_k rfl (k_call T11.fn_25 (c_i_isTick _ _) rfl ?_)
    rintro v16 w14 ⟨hv17, e15⟩
    have zw14 := e15.size
    have hB18 := hB11.ext0 e15
    have E19 := E12.fresh e15 (fun _ h _ => h.elim)
    by_cases c20 : isTick tt = true
    · obtain rfl : v16 = .bool true := hv17.trans (congrArg Value.bool c20)
      refine s_y (v := .bool true) rfl (y_pick_t rfl rfl) ?_
      refine s_y (v := .bool true) rfl (y_move rfl) ?_
      refine s_y (v := .pointer (some ⟨b1, 2, none⟩)) rfl (y_fld (o := 0) T11.fld_29_2_2 rfl) ?_
      refine s_y (v := .int .i64 ln) rfl (y_load T11.one_2 rfl (hB18.cell (j := 2) rfl)) ?_
      refine s_k rfl (k_call T11.fn_24 (c_i_within _ _ _ _) rfl ?_)
      rintro v23 w21 ⟨hv24, e22⟩
      have zw21 := e22.size
      have hB25 := hB18.ext0 e22
      have E26 := E19.fresh e22 (fun _ h _ => h.elim)
      by_cases c27 : within ln 1 1000000 = true
      · obtain rfl : v23 = .bool true := hv24.trans (congrArg Value.bool c27)
        refine s_y (v := .bool true) rfl (y_pick_t rfl rfl) ?_
        refine s_y (v := .bool true) rfl (y_move rfl) ?_
        refine s_y (v := .pointer (some ⟨b1, 3, none⟩)) rfl (y_fld (o := 0) T11.fld_29_3_3 rfl) ?_
        refine s_y (v := .float .f32 tn) rfl (y_load T11.one_25 rfl (hB25.cell (j := 3) rfl)) ?_
        refine s_k rfl (k_call T11.fn_26 (c_i_IsFinite _ _ htn _) rfl ?_)
        rintro v30 w28 ⟨hv31, e29⟩
        have zw28 := e29.size
        have hB32 := hB25.ext0 e29
        have E33 := E26.fresh e29 (fun _ h _ => h.elim)
        by_cases c34 : finB TN = true
        · obtain rfl : v30 = .bool true := hv31.trans (congrArg Value.bool c34)
          refine s_y (v := .bool true) rfl (y_pick_t rfl rfl) ?_
          refine s_y (v := .bool true) rfl (y_move rfl) ?_
          refine s_y (v := .pointer (some ⟨b1, 5, none⟩)) rfl (y_fld (o := 0) T11.fld_29_5_5 rfl) ?_
          refine s_y (v := .int .i64 sd) rfl (y_load T11.one_2 rfl (hB32.cell (j := 5) rfl)) ?_
          refine s_k rfl (k_call T11.fn_21 (c_i_isSeed _ _) rfl ?_)
          rintro v37 w35 ⟨hv38, e36⟩
          have zw35 := e36.size
          have hB39 := hB32.ext0 e36
          have E40 := E33.fresh e36 (fun _ h _ => h.elim)
          by_cases c41 : isSeed sd = true
          · obtain rfl : v37 = .bool true := hv38.trans (congrArg Value.bool c41)
            refine s_y (v := .bool true) rfl (y_pick_t rfl rfl) ?_
            refine s_y (v := .bool true) rfl (y_assign rfl) ?_
            refine s_nil ?_
            refine W_ret ?_
            refine ret1 rfl rfl rfl ⟨_, rfl, ?_⟩
            exact ⟨congrArg Value.bool (by simp [validW, *]), E40⟩
          · obtain rfl : v37 = .bool false := hv38.trans (congrArg Value.bool (Bool.eq_false_iff.2 c41))
            refine s_y (v := .bool false) rfl (y_pick_t rfl rfl) ?_
            refine s_y (v := .bool false) rfl (y_assign rfl) ?_
            refine s_nil ?_
            refine W_ret ?_
            refine ret1 rfl rfl rfl ⟨_, rfl, ?_⟩
            exact ⟨congrArg Value.bool (by simp [validW, *]), E40⟩
        · obtain rfl : v30 = .bool false := hv31.trans (congrArg Value.bool (Bool.eq_false_iff.2 c34))
          refine s_y (v := .bool false) rfl (y_pick_t rfl rfl) ?_
          refine s_y (v := .bool false) rfl (y_move rfl) ?_
          refine s_skip rfl ?_
          refine s_skip rfl ?_
          refine s_skip rfl ?_
          refine s_y (v := .bool false) rfl (y_pick_f rfl rfl) ?_
          refine s_y (v := .bool false) rfl (y_assign rfl) ?_
          refine s_nil ?_
          refine W_ret ?_
          refine ret1 rfl rfl rfl ⟨_, rfl, ?_⟩
          exact ⟨congrArg Value.bool (by simp [validW, *]), E33⟩
      · obtain rfl : v23 = .bool false := hv24.trans (congrArg Value.bool (Bool.eq_false_iff.2 c27))
        refine s_y (v := .bool false) rfl (y_pick_t rfl rfl) ?_
        refine s_y (v := .bool false) rfl (y_move rfl) ?_
        refine s_skip rfl ?_
        refine s_skip rfl ?_
        refine s_skip rfl ?_
        refine s_y (v := .bool false) rfl (y_pick_f rfl rfl) ?_
        refine s_y (v := .bool false) rfl (y_move rfl) ?_
        refine s_skip rfl ?_
        refine s_skip rfl ?_
        refine s_skip rfl ?_
        refine s_y (v := .bool false) rfl (y_pick_f rfl rfl) ?_
        refine s_y (v := .bool false) rfl (y_assign rfl) ?_
        refine s_nil ?_
        refine W_ret ?_
        refine ret1 rfl rfl rfl ⟨_, rfl, ?_⟩
        exact ⟨congrArg Value.bool (by simp [validW, *]), E26⟩
    · obtain rfl : v16 = .bool false := hv17.trans (congrArg Value.bool (Bool.eq_false_iff.2 c20))
      refine s_y (v := .bool false) rfl (y_pick_t rfl rfl) ?_
      refine s_y (v := .bool false) rfl (y_move rfl) ?_
      refine s_skip rfl ?_
      refine s_skip rfl ?_
      refine s_skip rfl ?_
      refine s_y (v := .bool false) rfl (y_pick_f rfl rfl) ?_
      refine s_y (v := .bool false) rfl (y_move rfl) ?_
      refine s_skip rfl ?_
      refine s_skip rfl ?_
      refine s_skip rfl ?_
      refine s_y (v := .bool false) rfl (y_pick_f rfl rfl) ?_
      refine s_y (v := .bool false) rfl (y_move rfl) ?_
      refine s_skip rfl ?_
      refine s_skip rfl ?_
      refine s_skip rfl ?_
      refine s_y (v := .bool false) rfl (y_pick_f rfl rfl) ?_
      refine s_y (v := .bool false) rfl (y_assign rfl) ?_
      refine s_nil ?_
      refine W_ret ?_
      refine ret1 rfl rfl rfl ⟨_, rfl, ?_⟩
      exact ⟨congrArg Value.bool (by simp [validW, *]), E19⟩
  · obtain rfl : v9 = .bool false := hv10.trans (congrArg Value.bool (Bool.eq_false_iff.2 c13))
    refine s_y (v := .bool false) rfl (y_move rfl) ?_
    refine s_skip rfl ?_
    refine s_skip rfl ?_
    refine s_skip rfl ?_
    refine s_y (v := .bool false) rfl (y_pick_f rfl rfl) ?_
    refine s_y (v := .bool false) rfl (y_move rfl) ?_
    refine s_skip rfl ?_
    refine s_skip rfl ?_
    refine s_skip rfl ?_
    refine s_y (v := .bool false) rfl (y_pick_f rfl rfl) ?_
    refine s_y (v := .bool false) rfl (y_move rfl) ?_
    refine s_skip rfl ?_
    refine s_skip rfl ?_
    refine s_skip rfl ?_
    refine s_y (v := .bool false) rfl (y_pick_f rfl rfl) ?_
    refine s_y (v := .bool false) rfl (y_move rfl) ?_
    refine s_skip rfl ?_
    refine s_skip rfl ?_
    refine s_skip rfl ?_
    refine s_y (v := .bool false) rfl (y_pick_f rfl rfl) ?_
    refine s_y (v := .bool false) rfl (y_assign rfl) ?_
    refine s_nil ?_
    refine W_ret ?_
    refine ret1 rfl rfl rfl ⟨_, rfl, ?_⟩
    exact ⟨congrArg Value.bool (by simp [validW, *]), E12⟩
namespace T4
theorem mx : Try.prog.follows .mixedOrders = true := by kernel_rfl
theorem agg_27_6 : aggB Try.prog 27 6 = true := by kernel_rfl
theorem bool_4 : Try.prog.underlying 4 = some .bool := by kernel_rfl
theorem fn_10 : fnB Try.prog 10 = true := by kernel_rfl
theorem fn_11 : fnB Try.prog 11 = true := by kernel_rfl
theorem fn_9 : fnB Try.prog 9 = true := by kernel_rfl
end T4
set_option maxRecDepth 100000 in
set_option maxHeartbeats 400000 in
theorem c_FnExactValidWave (kd tt ln : Int) (tn sz : Nat) (sd : Int) (w : World) :
    Calls Try.prog 4 #[.agg #[.int .i64 kd, .int .i64 tt, .int .i64 ln, .float .f32 tn, .float .f32 sz, .int .i64 sd]] w (Rt fun v w' => v = .bool true ∧ Ext no w w') := by
  have E0 : Ext0 w w := Ext.refl _ _
  refine calls_W (n := 14) Try.func4 rfl rfl (Nat.le_of_ble_eq_true rfl) ?_
  refine W_seq ?_
  refine W_region (by kernel_rfl) ?_
  refine s_k rfl (k_box (v := .agg #[.int .i64 kd, .int .i64 tt, .int .i64 ln, .float .f32 tn, .float .f32 sz, .int .i64 sd]) (cs := [.int .i64 kd, .int .i64 tt, .int .i64 ln, .float .f32 tn, .float .f32 sz, .int .i64 sd]) rfl rfl (fun b1 w2 q4 e3 hB5 => ?_))
  have zw2 := e3.size
  have E6 := E0.fresh e3 (fun _ h _ => h.elim)
  have l_b1 : w.heap.size ≤ b1 := by omega
  have t_b1 := hB5.lt
  refine s_y (v := .bool false) rfl (y_assign rfl) ?_
  refine s_nil ?_
  refine W_seq ?_
  refine W_region (by kernel_rfl) ?_
  refine s_y (v := .agg #[.int .i64 kd, .int .i64 tt, .int .i64 ln, .float .f32 tn, .float .f32 sz, .int .i64 sd]) rfl (y_loadn (b := b1) (o := 0) (vs := [.int .i64 kd, .int .i64 tt, .int .i64 ln, .float .f32 tn, .float .f32 sz, .int .i64 sd]) T4.agg_27_6 rfl rfl (hB5.cells (o := 0) rfl)) ?_
  refine s_k rfl (k_call T4.fn_10 (c_l_toWave _ _ _ _ _ _ _) rfl ?_)
  rintro _ w7 ⟨rfl, e8⟩
  have zw7 := e8.size
  have hB9 := hB5.ext0 e8
  have E10 := E6.fresh e8 (fun _ h _ => h.elim)
  refine s_k rfl (k_call T4.fn_9 (c_s_ValidWave _ _ _ _ _ _ _ rfl _) rfl ?_)
  rintro v13 w11 ⟨hv14, e12⟩
  have zw11 := e12.size
  have hB15 := hB9.ext0 e12
  have E16 := E10.fresh e12 (fun _ h _ => h.elim)
  by_cases c17 : validW kd tt ln (can .f32 tn) sd = true
  · obtain rfl : v13 = .bool true := hv14.trans (congrArg Value.bool c17)
    refine s_y (v := .bool true) rfl (y_assign rfl) ?_
    refine s_nil ?_
    refine W_seq ?_
    refine W_region (by kernel_rfl) ?_
    refine s_y (v := .agg #[.int .i64 kd, .int .i64 tt, .int .i64 ln, .float .f32 tn, .float .f32 sz, .int .i64 sd]) rfl (y_loadn (b := b1) (o := 0) (vs := [.int .i64 kd, .int .i64 tt, .int .i64 ln, .float .f32 tn, .float .f32 sz, .int .i64 sd]) T4.agg_27_6 rfl rfl (hB15.cells (o := 0) rfl)) ?_
    refine s_k rfl (k_call T4.fn_10 (c_l_toWave _ _ _ _ _ _ _) rfl ?_)
    rintro _ w18 ⟨rfl, e19⟩
    have zw18 := e19.size
    have hB20 := hB15.ext0 e19
    have E21 := E16.fresh e19 (fun _ h _ => h.elim)
    refine s_k rfl (k_call T4.fn_11 (c_i_ValidWave _ _ _ _ _ _ _ rfl _) rfl ?_)
    rintro v24 w22 ⟨hv25, e23⟩
    have zw22 := e23.size
    have hB26 := hB20.ext0 e23
    have E27 := E21.fresh e23 (fun _ h _ => h.elim)
    obtain rfl : v24 = .bool true := hv25.trans (congrArg Value.bool c17)
    refine s_y (v := .bool true) rfl (y_assign rfl) ?_
    refine s_nil ?_
    refine W_seq ?_
    refine W_seq ?_
    refine W_region (by kernel_rfl) ?_
    refine s_y (v := .bool true) rfl (y_move rfl) ?_
    refine s_y (v := .bool true) rfl (y_move rfl) ?_
    refine s_y (v := .bool false) rfl (y_bneq T4.bool_4 rfl rfl rfl) ?_
    refine s_nil ?_
    refine W_if_f (by decide) rfl ?_
    refine W_skip ?_
    refine W_seq ?_
    refine W_region (by kernel_rfl) ?_
    refine s_y (v := .bool true) rfl (y_assign rfl) ?_
    refine s_nil ?_
    refine W_ret ?_
    refine ret1 rfl rfl rfl ⟨_, rfl, ?_⟩
    exact ⟨rfl, E27⟩
  · obtain rfl : v13 = .bool false := hv14.trans (congrArg Value.bool (Bool.eq_false_iff.2 c17))
    refine s_y (v := .bool false) rfl (y_assign rfl) ?_
    refine s_nil ?_
    refine W_seq ?_
    refine W_region (by kernel_rfl) ?_
    refine s_y (v := .agg #[.int .i64 kd, .int .i64 tt, .int .i64 ln, .float .f32 tn, .float .f32 sz, .int .i64 sd]) rfl (y_loadn (b := b1) (o := 0) (vs := [.int .i64 kd, .int .i64 tt, .int .i64 ln, .float .f32 tn, .float .f32 sz, .int .i64 sd]) T4.agg_27_6 rfl rfl (hB15.cells (o := 0) rfl)) ?_
    refine s_k rfl (k_call T4.fn_10 (c_l_toWave _ _ _ _ _ _ _) rfl ?_)
    rintro _ w28 ⟨rfl, e29⟩
    have zw28 := e29.size
    have hB30 := hB15.ext0 e29
    have E31 := E16.fresh e29 (fun _ h _ => h.elim)
    refine s_k rfl (k_call T4.fn_11 (c_i_ValidWave _ _ _ _ _ _ _ rfl _) rfl ?_)
    rintro v34 w32 ⟨hv35, e33⟩
    have zw32 := e33.size
    have hB36 := hB30.ext0 e33
    have E37 := E31.fresh e33 (fun _ h _ => h.elim)
    obtain rfl : v34 = .bool false := hv35.trans (congrArg Value.bool (Bool.eq_false_iff.2 c17))
    refine s_y (v := .bool false) rfl (y_assign rfl) ?_
    refine s_nil ?_
    refine W_seq ?_
    refine W_seq ?_
    refine W_region (by kernel_rfl) ?_
    refine s_y (v := .bool false) rfl (y_move rfl) ?_
    refine s_y (v := .bool false) rfl (y_move rfl) ?_
    refine s_y (v := .bool false) rfl (y_bneq T4.bool_4 rfl rfl rfl) ?_
    refine s_nil ?_
    refine W_if_f (by decide) rfl ?_
    refine W_skip ?_
    refine W_seq ?_
    refine W_region (by kernel_rfl) ?_
    refine s_y (v := .bool true) rfl (y_assign rfl) ?_
    refine s_nil ?_
    refine W_ret ?_
    refine ret1 rfl rfl rfl ⟨_, rfl, ?_⟩
    exact ⟨rfl, E37⟩
end Go.Proofs.Ytebigoiegiaggaa
