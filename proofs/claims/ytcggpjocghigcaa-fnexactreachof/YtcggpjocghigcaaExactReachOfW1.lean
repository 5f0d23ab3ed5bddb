/- Walks: what the functions under FnExactReachOf do (part 2). Printed by a program of this claim's author. -/
import Derived.Test.YtcggpjocghigcaaExactReachOfW0
set_option linter.unusedSimpArgs false
set_option linter.unusedVariables false
open Go.Wv
namespace Go.Proofs.Ytcggpjocghigcaa
open Go.Proofs
namespace T45
theorem mx : Try.prog.follows .mixedOrders = true := by kernel_rfl
theorem bool_4 : Try.prog.underlying 4 = some .bool := by kernel_rfl
end T45
set_option maxRecDepth 100000 in
set_option maxHeartbeats 4000000 in
theorem c_l_sameFloat (a b A : Nat) (ha : can .f64 a = A) (hb : can .f64 b = A) (w : World) :
    Calls Try.prog 45 #[.float .f64 a, .float .f64 b] w (Rt fun v w' => v = .bool true ∧ Ext0 w w') := by
  have E0 : Ext no w w := Ext.refl _ _
  refine calls_W (n := 37) Try.func45 rfl rfl (Nat.le_of_ble_eq_true rfl) ?_
  refine W_seq ?_
  refine W_region (by kernel_rfl) ?_
  refine s_y (v := .bool false) rfl (y_assign rfl) ?_
  refine s_nil ?_
  refine W_seq ?_
  refine W_seq ?_
  refine W_region (by kernel_rfl) ?_
  refine s_y (v := .float .f64 a) rfl (y_move rfl) ?_
  refine s_y (v := .float .f64 a) rfl (y_move rfl) ?_
  by_cases c1 : fne .f64 A A = true
  · refine s_y (v := .bool true) rfl (y_fneq rfl rfl (fneC ha ha c1)) ?_
    refine s_y (v := .bool true) rfl (y_move rfl) ?_
    refine s_skip rfl ?_
    refine s_skip rfl ?_
    refine s_skip rfl ?_
    refine s_y (v := .bool true) rfl (y_pick_t rfl rfl) ?_
    refine s_nil ?_
    refine W_if_t (by decide) rfl ?_
    refine W_seq ?_
    refine W_region (by kernel_rfl) ?_
    refine s_y (v := .float .f64 a) rfl (y_move rfl) ?_
    refine s_y (v := .float .f64 a) rfl (y_move rfl) ?_
    refine s_y (v := .bool true) rfl (y_fneq rfl rfl (fneC ha ha c1)) ?_
    refine s_y (v := .bool true) rfl (y_move rfl) ?_
    refine s_y (v := .float .f64 b) rfl (y_move rfl) ?_
    refine s_y (v := .float .f64 b) rfl (y_move rfl) ?_
    refine s_y (v := .bool true) rfl (y_fneq rfl rfl (fneC hb hb c1)) ?_
    refine s_y (v := .bool true) rfl (y_pick_t rfl rfl) ?_
    refine s_y (v := .bool true) rfl (y_assign rfl) ?_
    refine s_nil ?_
    refine W_ret ?_
    refine ret1 rfl rfl rfl ⟨_, rfl, ?_⟩
    exact ⟨rfl, E0⟩
  · refine s_y (v := .bool false) rfl (y_fneq rfl rfl (fneC ha ha (Bool.eq_false_iff.2 c1))) ?_
    refine s_y (v := .bool false) rfl (y_move rfl) ?_
    refine s_y (v := .float .f64 b) rfl (y_move rfl) ?_
    refine s_y (v := .float .f64 b) rfl (y_move rfl) ?_
    refine s_y (v := .bool false) rfl (y_fneq rfl rfl (fneC hb hb (Bool.eq_false_iff.2 c1))) ?_
    refine s_y (v := .bool false) rfl (y_pick_f rfl rfl) ?_
    refine s_nil ?_
    refine W_if_f (by decide) rfl ?_
    refine W_skip ?_
    refine W_seq ?_
    refine W_seq ?_
    refine W_region (by kernel_rfl) ?_
    refine s_y (v := .float .f64 a) rfl (y_move rfl) ?_
    by_cases c2 : feq .f64 A 0 = true
    · refine s_y (v := .bool true) rfl (y_feql rfl rfl (feqC ha (show can .f64 0 = 0 by kernel_rfl) c2)) ?_
      refine s_y (v := .bool true) rfl (y_move rfl) ?_
      refine s_y (v := .float .f64 b) rfl (y_move rfl) ?_
      refine s_y (v := .bool true) rfl (y_feql rfl rfl (feqC hb (show can .f64 0 = 0 by kernel_rfl) c2)) ?_
      refine s_y (v := .bool true) rfl (y_pick_t rfl rfl) ?_
      refine s_nil ?_
      refine W_if_t (by decide) rfl ?_
      refine W_seq ?_
      refine W_region (by kernel_rfl) ?_
      refine s_y (v := .float .f64 a) rfl (y_move rfl) ?_
      refine s_n rfl (n_arith (by decide) rfl rfl) ?_
      rintro _ w6 e7 ⟨r4, rfl, hr5⟩
      have E8 := E0.fresh e7 (fun _ h _ => h.elim)
      have hc9 := fopC hr5 (show can .f64 4607182418800017408 = 4607182418800017408 by kernel_rfl) ha
      by_cases c10 : fgt .f64 (fop .quo .f64 4607182418800017408 A) 0 = true
      · refine s_y (v := .bool true) rfl (y_fgtr rfl rfl (fgtC hc9 (show can .f64 0 = 0 by kernel_rfl) c10)) ?_
        refine s_y (v := .float .f64 b) rfl (y_move rfl) ?_
        refine s_n rfl (n_arith (by decide) rfl rfl) ?_
        rintro _ w14 e15 ⟨r12, rfl, hr13⟩
        have E16 := E8.fresh e15 (fun _ h _ => h.elim)
        have hc17 := fopC hr13 (show can .f64 4607182418800017408 = 4607182418800017408 by kernel_rfl) hb
        refine s_y (v := .bool true) rfl (y_fgtr rfl rfl (fgtC hc17 (show can .f64 0 = 0 by kernel_rfl) c10)) ?_
        refine s_y (v := .bool true) rfl (y_beql T45.bool_4 rfl rfl rfl) ?_
        refine s_y (v := .bool true) rfl (y_assign rfl) ?_
        refine s_nil ?_
        refine W_ret ?_
        refine ret1 rfl rfl rfl ⟨_, rfl, ?_⟩
        exact ⟨rfl, E16⟩
      · refine s_y (v := .bool false) rfl (y_fgtr rfl rfl (fgtC hc9 (show can .f64 0 = 0 by kernel_rfl) (Bool.eq_false_iff.2 c10))) ?_
        refine s_y (v := .float .f64 b) rfl (y_move rfl) ?_
        refine s_n rfl (n_arith (by decide) rfl rfl) ?_
        rintro _ w21 e22 ⟨r19, rfl, hr20⟩
        have E23 := E8.fresh e22 (fun _ h _ => h.elim)
        have hc24 := fopC hr20 (show can .f64 4607182418800017408 = 4607182418800017408 by kernel_rfl) hb
        refine s_y (v := .bool false) rfl (y_fgtr rfl rfl (fgtC hc24 (show can .f64 0 = 0 by kernel_rfl) (Bool.eq_false_iff.2 c10))) ?_
        refine s_y (v := .bool true) rfl (y_beql T45.bool_4 rfl rfl rfl) ?_
        refine s_y (v := .bool true) rfl (y_assign rfl) ?_
        refine s_nil ?_
        refine W_ret ?_
        refine ret1 rfl rfl rfl ⟨_, rfl, ?_⟩
        exact ⟨rfl, E23⟩
    · refine s_y (v := .bool false) rfl (y_feql rfl rfl (feqC ha (show can .f64 0 = 0 by kernel_rfl) (Bool.eq_false_iff.2 c2))) ?_
      refine s_y (v := .bool false) rfl (y_move rfl) ?_
      refine s_skip rfl ?_
      refine s_skip rfl ?_
      refine s_y (v := .bool false) rfl (y_pick_f rfl rfl) ?_
      refine s_nil ?_
      refine W_if_f (by decide) rfl ?_
      refine W_skip ?_
      refine W_seq ?_
      refine W_region (by kernel_rfl) ?_
      refine s_y (v := .float .f64 a) rfl (y_move rfl) ?_
      refine s_y (v := .float .f64 b) rfl (y_move rfl) ?_
      by_cases c25 : feq .f64 A A = true
      · refine s_y (v := .bool true) rfl (y_feql rfl rfl (feqC ha hb c25)) ?_
        refine s_y (v := .bool true) rfl (y_assign rfl) ?_
        refine s_nil ?_
        refine W_ret ?_
        refine ret1 rfl rfl rfl ⟨_, rfl, ?_⟩
        exact ⟨rfl, E0⟩
      · refine s_y (v := .bool false) rfl (y_feql rfl rfl (feqC ha hb (Bool.eq_false_iff.2 c25))) ?_
        refine s_y (v := .bool false) rfl (y_assign rfl) ?_
        refine s_nil ?_
        refine W_ret ?_
        refine ret1 rfl rfl rfl ⟨_, rfl, ?_⟩
        exfalso; simp_all [fne, feq]
namespace T71
theorem mx : Try.prog.follows .mixedOrders = true := by kernel_rfl
theorem flt_68_f64 : Try.prog.underlying 68 = some (.float .f64) := by kernel_rfl
theorem fn_45 : fnB Try.prog 45 = true := by kernel_rfl
theorem one_62 : oneB Try.prog 62 = true := by kernel_rfl
theorem sl_24_62_1 : slB Try.prog 24 62 1 = true := by kernel_rfl
theorem und_62 : (Try.prog.underlying 62).isSome = true := by kernel_rfl
end T71
set_option maxRecDepth 100000 in
set_option maxHeartbeats 4000000 in
theorem c_l_eqFloat32S {a a2 : Option Addr} {n m cc c2 : Nat} {x y X : List Nat} (w : World) (h1 : Sl w a (flts x)) (l1 : x.length = n) (k1 : cn x = X) (h2 : Sl w a2 (flts y)) (l2 : y.length = m) (k2 : cn y = X) (hb : n ≤ 9223372036854775806) :
    Calls Try.prog 71 #[.slice a n cc, .slice a2 m c2] w (Rt fun v w' => v = .bool true ∧ Ext0 w w') := by
  have E0 : Ext no w w := Ext.refl _ _
  have lx := cn_lenX k1
  have ly := cn_lenX k2
  have lo_a := Sl.low h1
  have lo_a2 := Sl.low h2
  refine calls_W (n := 29) Try.func71 rfl rfl (Nat.le_of_ble_eq_true rfl) ?_
  refine W_seq ?_
  refine W_region (by kernel_rfl) ?_
  refine s_y (v := .bool false) rfl (y_assign rfl) ?_
  refine s_nil ?_
  refine W_seq ?_
  refine W_seq ?_
  refine W_region (by kernel_rfl) ?_
  refine s_y (v := .slice a n cc) rfl (y_move rfl) ?_
  refine s_y (v := .int .i64 ((n : Nat) : Int)) rfl (y_len T71.sl_24_62_1 rfl rfl) ?_
  refine s_y (v := .slice a2 m c2) rfl (y_move rfl) ?_
  refine s_y (v := .int .i64 ((m : Nat) : Int)) rfl (y_len T71.sl_24_62_1 rfl rfl) ?_
  by_cases c1 : ((n : Nat) : Int) ≠ ((m : Nat) : Int)
  · refine s_y (v := .bool true) rfl (y_neq rfl rfl (decide_eq_true c1)) ?_
    refine s_nil ?_
    refine W_if_t (by decide) rfl ?_
    refine W_seq ?_
    refine W_region (by kernel_rfl) ?_
    refine s_y (v := .bool false) rfl (y_assign rfl) ?_
    refine s_nil ?_
    refine W_ret ?_
    refine ret1 rfl rfl rfl ⟨_, rfl, ?_⟩
    omega
  · refine s_y (v := .bool false) rfl (y_neq rfl rfl (decide_eq_false c1)) ?_
    refine s_nil ?_
    refine W_if_f (by decide) rfl ?_
    refine W_skip ?_
    refine W_seq ?_
    refine W_seq ?_
    refine W_region (by kernel_rfl) ?_
    refine s_y (v := .int .i64 0) rfl (y_assign rfl) ?_
    refine s_nil ?_
    refine W_block ?_
-- loop drops slots [4]
    refine W_loop (fun ρ' w' => ∃ (ρ1 : Env) (k : Int), ρ' = updL ρ1 [(0, .slice a n cc), (1, .slice a2 m c2), (5, .int .i64 k)] ∧ Ext no w w' ∧ Sl w' a (flts x) ∧ Sl w' a2 (flts y) ∧ (0 ≤ k) ∧ (k ≤ (n : Int))) (fun ρ' _ => ((n : Int) - iv (ρ' 5)).toNat) ?_ ?_
    · exact ⟨_, 0, Fits.eq ⟨rfl, rfl, rfl, trivial⟩, E0, h1, h2, (Int.le_refl _), (by omega)⟩
    · rintro _ w2 ⟨ρ6, k, rfl, E3, hS4, hS5, h0k, h1k⟩
      refine W_seq ?_
      refine W_seq ?_
      refine W_region (by kernel_rfl) ?_
      refine s_y (v := .int .i64 k) rfl (y_move rfl) ?_
      refine s_y (v := .slice a n cc) rfl (y_move rfl) ?_
      refine s_y (v := .int .i64 ((n : Nat) : Int)) rfl (y_len T71.sl_24_62_1 rfl rfl) ?_
      by_cases c7 : k < ((n : Nat) : Int)
      · refine s_y (v := .bool true) rfl (y_lss rfl rfl (decide_eq_true c7)) ?_
        refine s_nil ?_
        refine W_if_t (by decide) rfl ?_
        refine W_skip ?_
        refine W_seq ?_
        refine W_block ?_
        refine W_seq ?_
        refine W_draw (no) T71.mx (by kernel_rfl) (fun w8 e9 => ?_)
        have hS10 := hS4.ext0 e9
        have hS11 := hS5.ext0 e9
        have E12 := E3.fresh e9 (fun _ h _ => h.elim)
        have R13 := (Ext.refl (no) w2).trans (Ext0.any e9)
        refine m_y (v := .slice a n cc) 0 rfl (by kernel_rfl) rfl rfl (fun w' e' => y_move rfl) ?_
        refine m_y (v := .int .i64 k) 1 rfl (by kernel_rfl) rfl rfl (fun w' e' => y_move rfl) ?_
        refine m_y (v := .pointer (some (sat a ((k).toNat * 1)))) 2 rfl (by kernel_rfl) rfl rfl (fun w' e' => y_idx T71.sl_24_62_1 rfl rfl (hS10.addr (by rw [flts_length]; omega)) (by omega) (by omega)) ?_
        refine m_y (v := .float .f32 (el x k)) 3 rfl (by kernel_rfl) rfl rfl (fun w' e' => y_load T71.one_62 rfl ((hS4.ext0 e').cell (fl_at (by omega) (by omega)))) ?_
        refine m_y (v := .slice a2 m c2) 5 rfl (by kernel_rfl) rfl rfl (fun w' e' => y_move rfl) ?_
        refine m_y (v := .int .i64 k) 6 rfl (by kernel_rfl) rfl rfl (fun w' e' => y_move rfl) ?_
        refine m_y (v := .pointer (some (sat a2 ((k).toNat * 1)))) 7 rfl (by kernel_rfl) rfl rfl (fun w' e' => y_idx T71.sl_24_62_1 rfl rfl (hS11.addr (by rw [flts_length]; omega)) (by omega) (by omega)) ?_
        refine m_y (v := .float .f32 (el y k)) 8 rfl (by kernel_rfl) rfl rfl (fun w' e' => y_load T71.one_62 rfl ((hS5.ext0 e').cell (fl_at (by omega) (by omega)))) ?_
        refine m_n 4 [10, 11] rfl (by kernel_rfl) rfl rfl (fun w' e' => n_wide T71.und_62 T71.flt_68_f64 rfl) ?_
        rintro _ ⟨r14, rfl, hr15⟩
        have hc18 := wideC hr15 (cn_el k1 k)
        refine m_n 9 [10, 11] rfl (by kernel_rfl) rfl rfl (fun w' e' => n_wide T71.und_62 T71.flt_68_f64 rfl) ?_
        rintro _ ⟨r19, rfl, hr20⟩
        have hc23 := wideC hr20 (cn_el k2 k)
        refine m_k 10 [11] rfl (by kernel_rfl) rfl rfl (fun w24 e25 => ?_)
        have hS26 := hS10.ext0 e25
        have hS27 := hS11.ext0 e25
        have E28 := E12.fresh e25 (fun _ h _ => h.elim)
        have R29 := R13.trans (Ext0.any e25)
        refine k_call T71.fn_45 (c_l_sameFloat _ _ _ hc18 hc23 _) rfl ?_
        rintro _ w30 ⟨rfl, e31⟩
        have hS32 := hS26.ext0 e31
        have hS33 := hS27.ext0 e31
        have E34 := E28.fresh e31 (fun _ h _ => h.elim)
        have R35 := R29.trans (Ext0.any e31)
        refine ⟨fun _ => R35, ?_⟩
        refine m_y (v := .bool false) 11 rfl (by kernel_rfl) rfl rfl (fun w' e' => y_not rfl rfl) ?_
        refine m_done (by kernel_rfl) (fun w36 e37 => ?_)
        have hS38 := hS32.ext0 e37
        have hS39 := hS33.ext0 e37
        have E40 := E34.fresh e37 (fun _ h _ => h.elim)
        have R41 := R35.trans (Ext0.any e37)
        refine W_if_f (by decide) rfl ?_
        refine W_skip ?_
        refine W_region (by kernel_rfl) ?_
        refine s_y (v := .int .i64 k) rfl (y_move rfl) ?_
        refine s_y (v := .int .i64 (k + 1)) rfl (y_add rfl rfl rfl (by omega)) ?_
        refine s_y (v := .int .i64 (k + 1)) rfl (y_assign rfl) ?_
        refine s_nil ?_
        refine ⟨⟨_, k + 1, Fits.eq ⟨rfl, rfl, rfl, trivial⟩, E40, hS38, hS39, (by omega), (by omega)⟩, ?_⟩
        show ((n : Int) - (k + 1)).toNat < ((n : Int) - k).toNat
        omega
      · refine s_y (v := .bool false) rfl (y_lss rfl rfl (decide_eq_false c7)) ?_
        refine s_nil ?_
        refine W_if_f (by decide) rfl ?_
        refine W_exit ?_
        refine W_seq ?_
        refine W_region (by kernel_rfl) ?_
        refine s_y (v := .bool true) rfl (y_assign rfl) ?_
        refine s_nil ?_
        refine W_ret ?_
        refine ret1 rfl rfl rfl ⟨_, rfl, ?_⟩
        exact ⟨rfl, E3⟩
namespace T25
theorem mx : Try.prog.follows .mixedOrders = true := by kernel_rfl
theorem bool_4 : Try.prog.underlying 4 = some .bool := by kernel_rfl
theorem fld_26_0_0 : fldB Try.prog 26 0 0 = true := by kernel_rfl
theorem fld_26_1_1 : fldB Try.prog 26 1 1 = true := by kernel_rfl
theorem fld_26_2_2 : fldB Try.prog 26 2 2 = true := by kernel_rfl
theorem fld_26_3_3 : fldB Try.prog 26 3 3 = true := by kernel_rfl
theorem fld_26_4_4 : fldB Try.prog 26 4 4 = true := by kernel_rfl
theorem fn_71 : fnB Try.prog 71 = true := by kernel_rfl
theorem one_2 : oneB Try.prog 2 = true := by kernel_rfl
theorem one_24 : oneB Try.prog 24 = true := by kernel_rfl
theorem one_4 : oneB Try.prog 4 = true := by kernel_rfl
end T25
set_option maxRecDepth 100000 in
set_option maxHeartbeats 4000000 in
theorem c_l_eqSheet {wd hi : Int} {wr : Bool} {asp bsp : Option Addr} {nsp csp msp esp : Nat} {xsp ysp Xsp : List Nat} {als bls : Option Addr} {nls cls mls els : Nat} {xls yls Xls : List Nat} (w : World) (qssp : Sl w asp (flts xsp)) (qlsp : xsp.length = nsp) (qksp : cn xsp = Xsp) (rssp : Sl w bsp (flts ysp)) (rlsp : ysp.length = msp) (rksp : cn ysp = Xsp) (hbsp : nsp ≤ 9223372036854775806) (qsls : Sl w als (flts xls)) (qlls : xls.length = nls) (qkls : cn xls = Xls) (rsls : Sl w bls (flts yls)) (rlls : yls.length = mls) (rkls : cn yls = Xls) (hbls : nls ≤ 9223372036854775806) :
    Calls Try.prog 25 #[.agg #[.int .i64 wd, .int .i64 hi, .bool wr, .slice asp nsp csp, .slice als nls cls], .agg #[.int .i64 wd, .int .i64 hi, .bool wr, .slice bsp msp esp, .slice bls mls els]] w (Rt fun v w' => v = .bool true ∧ Ext0 w w') := by
  have E0 : Ext no w w := Ext.refl _ _
  have lo_asp := Sl.low qssp
  have lo_bsp := Sl.low rssp
  have lo_als := Sl.low qsls
  have lo_bls := Sl.low rsls
  refine calls_W (n := 32) Try.func25 rfl rfl (Nat.le_of_ble_eq_true rfl) ?_
  refine W_seq ?_
  refine W_region (by kernel_rfl) ?_
  refine s_k rfl (k_box (v := .agg #[.int .i64 wd, .int .i64 hi, .bool wr, .slice asp nsp csp, .slice als nls cls]) (cs := [.int .i64 wd, .int .i64 hi, .bool wr, .slice asp nsp csp, .slice als nls cls]) rfl rfl (fun b1 w2 q4 e3 hB5 => ?_))
  have hS6 := qssp.ext0 e3
  have hS7 := rssp.ext0 e3
  have hS8 := qsls.ext0 e3
  have hS9 := rsls.ext0 e3
  have E10 := E0.fresh e3 (fun _ h _ => h.elim)
  have fr11 : NotLt b1 w.heap.size := fun h => Nat.not_lt.2 (Nat.le_trans E0.size (Nat.le_of_eq q4.symm)) h
  clear q4
  refine s_k rfl (k_box (v := .agg #[.int .i64 wd, .int .i64 hi, .bool wr, .slice bsp msp esp, .slice bls mls els]) (cs := [.int .i64 wd, .int .i64 hi, .bool wr, .slice bsp msp esp, .slice bls mls els]) rfl rfl (fun b12 w13 q15 e14 hB16 => ?_))
  have hB17 := hB5.ext0 e14
  have hS18 := hS6.ext0 e14
  have hS19 := hS7.ext0 e14
  have hS20 := hS8.ext0 e14
  have hS21 := hS9.ext0 e14
  have E22 := E10.fresh e14 (fun _ h _ => h.elim)
  have dj23 : NeB b1 b12 := fun h => Nat.ne_of_lt hB5.lt (h.trans q15)
  have fr24 : NotLt b12 w.heap.size := fun h => Nat.not_lt.2 (Nat.le_trans E10.size (Nat.le_of_eq q15.symm)) h
  clear q15
  refine s_y (v := .bool false) rfl (y_assign rfl) ?_
  refine s_nil ?_
  refine W_seq ?_
  refine W_seq ?_
  refine W_region (by kernel_rfl) ?_
  refine s_y (v := .pointer (some ⟨b1, 0, none⟩)) rfl (y_fld (o := 0) T25.fld_26_0_0 rfl) ?_
  refine s_y (v := .int .i64 wd) rfl (y_load T25.one_2 rfl (hB17.cell (j := 0) rfl)) ?_
  refine s_y (v := .pointer (some ⟨b12, 0, none⟩)) rfl (y_fld (o := 0) T25.fld_26_0_0 rfl) ?_
  refine s_y (v := .int .i64 wd) rfl (y_load T25.one_2 rfl (hB16.cell (j := 0) rfl)) ?_
  refine s_y (v := .bool false) rfl (y_neq rfl rfl (decide_eq_false (fun hq => hq rfl))) ?_
  refine s_nil ?_
  refine W_if_f (by decide) rfl ?_
  refine W_skip ?_
  refine W_seq ?_
  refine W_seq ?_
  refine W_region (by kernel_rfl) ?_
  refine s_y (v := .pointer (some ⟨b1, 1, none⟩)) rfl (y_fld (o := 0) T25.fld_26_1_1 rfl) ?_
  refine s_y (v := .int .i64 hi) rfl (y_load T25.one_2 rfl (hB17.cell (j := 1) rfl)) ?_
  refine s_y (v := .pointer (some ⟨b12, 1, none⟩)) rfl (y_fld (o := 0) T25.fld_26_1_1 rfl) ?_
  refine s_y (v := .int .i64 hi) rfl (y_load T25.one_2 rfl (hB16.cell (j := 1) rfl)) ?_
  refine s_y (v := .bool false) rfl (y_neq rfl rfl (decide_eq_false (fun hq => hq rfl))) ?_
  refine s_nil ?_
  refine W_if_f (by decide) rfl ?_
  refine W_skip ?_
  refine W_seq ?_
  refine W_seq ?_
  refine W_region (by kernel_rfl) ?_
  refine s_y (v := .pointer (some ⟨b1, 2, none⟩)) rfl (y_fld (o := 0) T25.fld_26_2_2 rfl) ?_
  refine s_y (v := .bool wr) rfl (y_load T25.one_4 rfl (hB17.cell (j := 2) rfl)) ?_
  refine s_y (v := .pointer (some ⟨b12, 2, none⟩)) rfl (y_fld (o := 0) T25.fld_26_2_2 rfl) ?_
  refine s_y (v := .bool wr) rfl (y_load T25.one_4 rfl (hB16.cell (j := 2) rfl)) ?_
  refine s_y (v := .bool false) rfl (y_bneq T25.bool_4 rfl rfl (by simp)) ?_
  refine s_nil ?_
  refine W_if_f (by decide) rfl ?_
  refine W_skip ?_
  refine W_seq ?_
  refine W_seq ?_
  refine W_region (by kernel_rfl) ?_
  refine s_y (v := .pointer (some ⟨b1, 3, none⟩)) rfl (y_fld (o := 0) T25.fld_26_3_3 rfl) ?_
  refine s_y (v := .slice asp nsp csp) rfl (y_load T25.one_24 rfl (hB17.cell (j := 3) rfl)) ?_
  refine s_y (v := .pointer (some ⟨b12, 3, none⟩)) rfl (y_fld (o := 0) T25.fld_26_3_3 rfl) ?_
  refine s_y (v := .slice bsp msp esp) rfl (y_load T25.one_24 rfl (hB16.cell (j := 3) rfl)) ?_
  refine s_k rfl (k_call T25.fn_71 (c_l_eqFloat32S _ hS18 qlsp qksp hS19 rlsp rksp (by omega)) rfl ?_)
  rintro _ w25 ⟨rfl, e26⟩
  have hB27 := hB17.ext0 e26
  have hB28 := hB16.ext0 e26
  have hS29 := hS18.ext0 e26
  have hS30 := hS19.ext0 e26
  have hS31 := hS20.ext0 e26
  have hS32 := hS21.ext0 e26
  have E33 := E22.fresh e26 (fun _ h _ => h.elim)
  refine s_y (v := .bool false) rfl (y_not rfl rfl) ?_
  refine s_nil ?_
  refine W_if_f (by decide) rfl ?_
  refine W_skip ?_
  refine W_seq ?_
  refine W_seq ?_
  refine W_region (by kernel_rfl) ?_
  refine s_y (v := .pointer (some ⟨b1, 4, none⟩)) rfl (y_fld (o := 0) T25.fld_26_4_4 rfl) ?_
  refine s_y (v := .slice als nls cls) rfl (y_load T25.one_24 rfl (hB27.cell (j := 4) rfl)) ?_
  refine s_y (v := .pointer (some ⟨b12, 4, none⟩)) rfl (y_fld (o := 0) T25.fld_26_4_4 rfl) ?_
  refine s_y (v := .slice bls mls els) rfl (y_load T25.one_24 rfl (hB28.cell (j := 4) rfl)) ?_
  refine s_k rfl (k_call T25.fn_71 (c_l_eqFloat32S _ hS31 qlls qkls hS32 rlls rkls (by omega)) rfl ?_)
  rintro _ w34 ⟨rfl, e35⟩
  have hB36 := hB27.ext0 e35
  have hB37 := hB28.ext0 e35
  have hS38 := hS29.ext0 e35
  have hS39 := hS30.ext0 e35
  have hS40 := hS31.ext0 e35
  have hS41 := hS32.ext0 e35
  have E42 := E33.fresh e35 (fun _ h _ => h.elim)
  refine s_y (v := .bool false) rfl (y_not rfl rfl) ?_
  refine s_nil ?_
  refine W_if_f (by decide) rfl ?_
  refine W_skip ?_
  refine W_seq ?_
  refine W_region (by kernel_rfl) ?_
  refine s_y (v := .bool true) rfl (y_assign rfl) ?_
  refine s_nil ?_
  refine W_ret ?_
  refine ret1 rfl rfl rfl ⟨_, rfl, ?_⟩
  exact ⟨rfl, E42⟩
namespace T82
theorem mx : Try.prog.follows .mixedOrders = true := by kernel_rfl
theorem flt_62_f32 : Try.prog.underlying 62 = some (.float .f32) := by kernel_rfl
theorem sl_24_62_1 : slB Try.prog 24 62 1 = true := by kernel_rfl
theorem sz_62_1 : szB Try.prog 62 1 = true := by kernel_rfl
theorem und_3 : (Try.prog.underlying 3).isSome = true := by kernel_rfl
end T82
set_option maxRecDepth 100000 in
set_option maxHeartbeats 4000000 in
theorem c_l_markFloat32S {a : Option Addr} {n c : Nat} {x X : List Nat} {k : Int} (w : World) {B : Nat} (qo : Own w B a n c 62 1 (flts x)) (ql : x.length = n) (qk : cn x = X) (hl : n ≤ 1048576) (hk0 : 0 ≤ k) (hk1 : k ≤ 4294967296) :
    Calls Try.prog 82 #[.slice a n c, .int .i64 k] w (Rt fun v w' => v = .int .i64 (k + (n : Nat)) ∧ Own w' B a n c 62 1 (flts (marks k n)) ∧ Ext (inA a) w w') := by
  have E0 : Ext (inA a) w w := Ext.refl _ _
  refine calls_W (n := 20) Try.func82 rfl rfl (Nat.le_of_ble_eq_true rfl) ?_
  refine W_seq ?_
  refine W_region (by kernel_rfl) ?_
  refine s_y (v := .int .i64 0) rfl (y_assign rfl) ?_
  refine s_nil ?_
  refine W_seq ?_
  refine W_seq ?_
  refine W_region (by kernel_rfl) ?_
  refine s_y (v := .int .i64 0) rfl (y_assign rfl) ?_
  refine s_nil ?_
  refine W_block ?_
  refine W_loop (fun ρ' w' => ∃ (ρ1 : Env) (j : Int) (zs : List Nat), ρ' = updL ρ1 [(0, .slice a n c), (1, .int .i64 (k + j)), (4, .int .i64 0), (5, .int .i64 j)] ∧ Ext (inA a) w w' ∧ Own w' B a n c 62 1 (flts zs) ∧ (0 ≤ j) ∧ (j ≤ (n : Int)) ∧ (zs.length = n) ∧ (∀ i, 0 ≤ i → i < j → el zs i = FloatKind.nearest .f32 (k + i))) (fun ρ' _ => ((n : Int) - iv (ρ' 5)).toNat) ?_ ?_
  · exact ⟨_, 0, _, Fits.eq ⟨rfl, (by first | rfl | exact congrArg (Value.int .i64) (by omega)), rfl, rfl, trivial⟩, E0, qo, (Int.le_refl _), (by omega), ql, (by intro i h0 h1; omega)⟩
  · rintro _ w1 ⟨ρ4, j, zs, rfl, E2, hO3, h0j, h1j, hz, hq⟩
    refine W_seq ?_
    refine W_seq ?_
    refine W_region (by kernel_rfl) ?_
    refine s_y (v := .int .i64 j) rfl (y_move rfl) ?_
    refine s_y (v := .slice a n c) rfl (y_move rfl) ?_
    refine s_y (v := .int .i64 ((n : Nat) : Int)) rfl (y_len T82.sl_24_62_1 rfl rfl) ?_
    by_cases c5 : j < ((n : Nat) : Int)
    · refine s_y (v := .bool true) rfl (y_lss rfl rfl (decide_eq_true c5)) ?_
      refine s_nil ?_
      refine W_if_t (by decide) rfl ?_
      refine W_skip ?_
      refine W_seq ?_
      refine W_block ?_
      refine W_seq ?_
      refine W_region (by kernel_rfl) ?_
      refine s_y (v := .slice a n c) rfl (y_move rfl) ?_
      refine s_y (v := .int .i64 j) rfl (y_move rfl) ?_
      refine s_y (v := .int .i64 (k + j)) rfl (y_move rfl) ?_
      refine s_y (v := .float .f32 (FloatKind.nearest .f32 (k + j))) rfl (y_if T82.und_3 T82.flt_62_f32 rfl) ?_
      refine s_y (v := .pointer (some (sat a ((j).toNat * 1)))) rfl (y_idx T82.sl_24_62_1 rfl rfl (hO3.sl.addr (by rw [flts_length]; omega)) (by omega) (by omega)) ?_
      refine s_k0 rfl (k_storeEl (v := .float .f32 (FloatKind.nearest .f32 (k + j))) T82.sz_62_1 rfl rfl rfl rfl hO3 (by rw [flts_length]; omega) (fun w6 e7 z8 hO9 => ?_))
      clear z8
      have E10 := E2.fresh e7 (fun kx hs hl => (fun hs => hs) hs)
      have hO11 := hO9.cast rfl (flts_put zs j (FloatKind.nearest .f32 (k + j)))
      have hl12 := (put_length zs j (FloatKind.nearest .f32 (k + j))).trans hz
      have hc13 := cn_put (rfl : cn zs = cn zs) (can_nearest .f32 (k + j)) j
      refine s_nil ?_
      refine W_region (by kernel_rfl) ?_
      refine s_y (v := .int .i64 (k + j)) rfl (y_move rfl) ?_
      refine s_y (v := .int .i64 ((k + j) + 1)) rfl (y_add rfl rfl rfl (by omega)) ?_
      refine s_y (v := .int .i64 ((k + j) + 1)) rfl (y_assign rfl) ?_
      refine s_nil ?_
      refine W_region (by kernel_rfl) ?_
      refine s_y (v := .int .i64 j) rfl (y_move rfl) ?_
      refine s_y (v := .int .i64 (j + 1)) rfl (y_add rfl rfl rfl (by omega)) ?_
      refine s_y (v := .int .i64 (j + 1)) rfl (y_assign rfl) ?_
      refine s_nil ?_
      refine ⟨⟨_, j + 1, _, Fits.eq ⟨rfl, (by first | rfl | exact congrArg (Value.int .i64) (by omega)), rfl, rfl, trivial⟩, E10, hO11, (by omega), (by omega), hl12, (el_mark (by omega) (by omega) (by omega) hq)⟩, ?_⟩
      show ((n : Int) - (j + 1)).toNat < ((n : Int) - j).toNat
      omega
    · refine s_y (v := .bool false) rfl (y_lss rfl rfl (decide_eq_false c5)) ?_
      refine s_nil ?_
      refine W_if_f (by decide) rfl ?_
      refine W_exit ?_
      refine W_seq ?_
      refine W_region (by kernel_rfl) ?_
      refine s_y (v := .int .i64 (k + j)) rfl (y_move rfl) ?_
      refine s_y (v := .int .i64 (k + j)) rfl (y_assign rfl) ?_
      refine s_nil ?_
      refine W_ret ?_
      refine ret1 rfl rfl rfl ⟨_, rfl, ?_⟩
      obtain rfl : zs = marks k n := marks_done (by omega) (fun i h0 h1 => hq i h0 (by omega))
      exact ⟨congrArg (Value.int .i64) (by omega), hO3, E2⟩
namespace T37
theorem mx : Try.prog.follows .mixedOrders = true := by kernel_rfl
theorem fld_26_3_3 : fldB Try.prog 26 3 3 = true := by kernel_rfl
theorem fld_26_4_4 : fldB Try.prog 26 4 4 = true := by kernel_rfl
theorem fn_82 : fnB Try.prog 82 = true := by kernel_rfl
theorem one_24 : oneB Try.prog 24 = true := by kernel_rfl
end T37
set_option maxRecDepth 100000 in
set_option maxHeartbeats 4000000 in
theorem c_l_markSheet {wd hi : Int} {wr : Bool} {asp : Option Addr} {nsp csp : Nat} {xsp Xsp : List Nat} {als : Option Addr} {nls cls : Nat} {xls Xls : List Nat} {k : Int} (w : World) {Bsp : Nat} (qosp : Own w Bsp asp nsp csp 62 1 (flts xsp)) (qlsp : xsp.length = nsp) (qksp : cn xsp = Xsp) {Bls : Nat} (qols : Own w Bls als nls cls 62 1 (flts xls)) (qlls : xls.length = nls) (qkls : cn xls = Xls) (djspls : ∀ k, inA asp k → inA als k → False) (hbsp : nsp ≤ 1048576) (hbls : nls ≤ 1048576) (hk0 : 0 ≤ k) (hk1 : k ≤ 4200000000) :
    Calls Try.prog 37 #[.agg #[.int .i64 wd, .int .i64 hi, .bool wr, .slice asp nsp csp, .slice als nls cls], .int .i64 k] w (Rt fun v w' => v = .int .i64 (k + ((nsp : Nat) : Int) + ((nls : Nat) : Int)) ∧ Own w' Bsp asp nsp csp 62 1 (flts (marks k nsp)) ∧ Own w' Bls als nls cls 62 1 (flts (marks (k + ((nsp : Nat) : Int)) nls)) ∧ Ext (fun k => inA asp k ∨ inA als k) w w') := by
  have E0 : Ext (fun k => inA asp k ∨ inA als k) w w := Ext.refl _ _
  refine calls_W (n := 14) Try.func37 rfl rfl (Nat.le_of_ble_eq_true rfl) ?_
  refine W_seq ?_
  refine W_region (by kernel_rfl) ?_
  refine s_k rfl (k_box (v := .agg #[.int .i64 wd, .int .i64 hi, .bool wr, .slice asp nsp csp, .slice als nls cls]) (cs := [.int .i64 wd, .int .i64 hi, .bool wr, .slice asp nsp csp, .slice als nls cls]) rfl rfl (fun b1 w2 q4 e3 hB5 => ?_))
  have hO6 := qosp.ext0 e3
  have hO7 := qols.ext0 e3
  have E8 := E0.fresh e3 (fun _ h _ => h.elim)
  have dj9 : inA asp b1 → False := fun h => Nat.ne_of_lt (qosp.blk _ h).2 q4
  have dj10 : inA als b1 → False := fun h => Nat.ne_of_lt (qols.blk _ h).2 q4
  have fr11 : NotLt b1 w.heap.size := fun h => Nat.not_lt.2 (Nat.le_trans E0.size (Nat.le_of_eq q4.symm)) h
  clear q4
  refine s_y (v := .int .i64 0) rfl (y_assign rfl) ?_
  refine s_nil ?_
  refine W_seq ?_
  refine W_region (by kernel_rfl) ?_
  refine s_y (v := .pointer (some ⟨b1, 3, none⟩)) rfl (y_fld (o := 0) T37.fld_26_3_3 rfl) ?_
  refine s_y (v := .slice asp nsp csp) rfl (y_load T37.one_24 rfl (hB5.cell (j := 3) rfl)) ?_
  refine s_y (v := .int .i64 k) rfl (y_move rfl) ?_
  refine s_k rfl (k_call T37.fn_82 (c_l_markFloat32S _ hO6 qlsp qksp (by omega) (by omega) (by omega)) rfl ?_)
  rintro _ w12 ⟨rfl, hO14, e13⟩
  have hB15 := hB5.ext e13 (fun hk => dj9 hk)
  have hO16 := hO7.ext e13 (fun kx hk hs => (fun hs => djspls kx hs hk) hs)
  have E17 := E8.fresh e13 (fun kx hs hl => (fun hs => (.inl hs)) hs)
  refine s_y (v := .int .i64 (k + ((nsp : Nat) : Int))) rfl (y_assign rfl) ?_
  refine s_nil ?_
  refine W_seq ?_
  refine W_region (by kernel_rfl) ?_
  refine s_y (v := .pointer (some ⟨b1, 4, none⟩)) rfl (y_fld (o := 0) T37.fld_26_4_4 rfl) ?_
  refine s_y (v := .slice als nls cls) rfl (y_load T37.one_24 rfl (hB15.cell (j := 4) rfl)) ?_
  refine s_y (v := .int .i64 (k + ((nsp : Nat) : Int))) rfl (y_move rfl) ?_
  refine s_k rfl (k_call T37.fn_82 (c_l_markFloat32S _ hO16 qlls qkls (by omega) (by omega) (by omega)) rfl ?_)
  rintro _ w18 ⟨rfl, hO20, e19⟩
  have hB21 := hB15.ext e19 (fun hk => dj10 hk)
  have hO22 := hO14.ext e19 (fun kx hk hs => (fun hs => (fun kx h1 h2 => djspls kx h2 h1) kx hs hk) hs)
  have E23 := E17.fresh e19 (fun kx hs hl => (fun hs => (.inr hs)) hs)
  refine s_y (v := .int .i64 ((k + ((nsp : Nat) : Int)) + ((nls : Nat) : Int))) rfl (y_assign rfl) ?_
  refine s_nil ?_
  refine W_seq ?_
  refine W_region (by kernel_rfl) ?_
  refine s_y (v := .int .i64 ((k + ((nsp : Nat) : Int)) + ((nls : Nat) : Int))) rfl (y_move rfl) ?_
  refine s_y (v := .int .i64 ((k + ((nsp : Nat) : Int)) + ((nls : Nat) : Int))) rfl (y_assign rfl) ?_
  refine s_nil ?_
  refine W_ret ?_
  refine ret1 rfl rfl rfl ⟨_, rfl, ?_⟩
  exact ⟨rfl, hO22, hO20, E23⟩
namespace T55
theorem mx : Try.prog.follows .mixedOrders = true := by kernel_rfl
theorem sl_74_2_1 : slB Try.prog 74 2 1 = true := by kernel_rfl
theorem sz_2_1 : szB Try.prog 2 1 = true := by kernel_rfl
end T55
set_option maxRecDepth 100000 in
set_option maxHeartbeats 4000000 in
theorem c_l_markInt64S {a : Option Addr} {n c : Nat} {x : List (Int)} {k : Int} {B : Nat} (w : World) (qo : Own w B a n c 2 1 (flat inC x)) (ql : x.length = n) (hl : n ≤ 1048576) (hk0 : 0 ≤ k) (hk1 : k ≤ 4294967296) :
    Calls Try.prog 55 #[.slice a n c, .int .i64 k] w (Rt fun v w' => v = .int .i64 (k + (n : Nat)) ∧ Own w' B a n c 2 1 (flat inC (imarks k n)) ∧ Ext (inA a) w w') := by
  have E0 : Ext (inA a) w w := Ext.refl _ _
  refine calls_W (n := 19) Try.func55 rfl rfl (Nat.le_of_ble_eq_true rfl) ?_
  refine W_seq ?_
  refine W_region (by kernel_rfl) ?_
  refine s_y (v := .int .i64 0) rfl (y_assign rfl) ?_
  refine s_nil ?_
  refine W_seq ?_
  refine W_seq ?_
  refine W_region (by kernel_rfl) ?_
  refine s_y (v := .int .i64 0) rfl (y_assign rfl) ?_
  refine s_nil ?_
  refine W_block ?_
  refine W_loop (fun ρ' w' => ∃ (ρ1 : Env) (j : Int) (zs : List Int), ρ' = updL ρ1 [(0, .slice a n c), (1, .int .i64 (k + j)), (4, .int .i64 0), (5, .int .i64 j)] ∧ Ext (inA a) w w' ∧ Own w' B a n c 2 1 (flat inC zs) ∧ (0 ≤ j) ∧ (j ≤ (n : Int)) ∧ (zs.length = n) ∧ (∀ i, 0 ≤ i → i < j → gl zs i = k + i)) (fun ρ' _ => ((n : Int) - iv (ρ' 5)).toNat) ?_ ?_
  · exact ⟨_, 0, _, Fits.eq ⟨rfl, (by first | rfl | exact congrArg (Value.int .i64) (by omega)), rfl, rfl, trivial⟩, E0, qo, (Int.le_refl _), (by omega), ql, (by intro i h0 h1; omega)⟩
  · rintro _ w1 ⟨ρ4, j, zs, rfl, E2, hO3, h0j, h1j, hz, hq⟩
    refine W_seq ?_
    refine W_seq ?_
    refine W_region (by kernel_rfl) ?_
    refine s_y (v := .int .i64 j) rfl (y_move rfl) ?_
    refine s_y (v := .slice a n c) rfl (y_move rfl) ?_
    refine s_y (v := .int .i64 ((n : Nat) : Int)) rfl (y_len T55.sl_74_2_1 rfl rfl) ?_
    by_cases c5 : j < ((n : Nat) : Int)
    · refine s_y (v := .bool true) rfl (y_lss rfl rfl (decide_eq_true c5)) ?_
      refine s_nil ?_
      refine W_if_t (by decide) rfl ?_
      refine W_skip ?_
      refine W_seq ?_
      refine W_block ?_
      refine W_seq ?_
      refine W_region (by kernel_rfl) ?_
      refine s_y (v := .slice a n c) rfl (y_move rfl) ?_
      refine s_y (v := .int .i64 j) rfl (y_move rfl) ?_
      refine s_y (v := .int .i64 (k + j)) rfl (y_move rfl) ?_
      refine s_y (v := .pointer (some (sat a ((j).toNat * 1)))) rfl (y_idx T55.sl_74_2_1 rfl rfl (hO3.sl.addr (by rw [flat_length inC_len]; omega)) (by omega) (by omega)) ?_
      refine s_k0 rfl (k_storeElN (v := .int .i64 (k + j)) (m := 1) (cs' := flat inC (pl zs j (k + j))) T55.sz_2_1 rfl rfl rfl (by simp [Value.cells, Value.oneCell']) (by decide) hO3 (by rw [flat_length inC_len]; omega) (flat_put inC_len (by omega) (by omega) (k + j)) (fun w6 e7 z8 hO9 => ?_))
      clear z8
      have E10 := E2.fresh e7 (fun kx hs hl => (fun hs => hs) hs)
      have hl11 := (pl_length zs j (k + j)).trans hz
      refine s_nil ?_
      refine W_region (by kernel_rfl) ?_
      refine s_y (v := .int .i64 (k + j)) rfl (y_move rfl) ?_
      refine s_y (v := .int .i64 ((k + j) + 1)) rfl (y_add rfl rfl rfl (by omega)) ?_
      refine s_y (v := .int .i64 ((k + j) + 1)) rfl (y_assign rfl) ?_
      refine s_nil ?_
      refine W_region (by kernel_rfl) ?_
      refine s_y (v := .int .i64 j) rfl (y_move rfl) ?_
      refine s_y (v := .int .i64 (j + 1)) rfl (y_add rfl rfl rfl (by omega)) ?_
      refine s_y (v := .int .i64 (j + 1)) rfl (y_assign rfl) ?_
      refine s_nil ?_
      refine ⟨⟨_, j + 1, _, Fits.eq ⟨rfl, (by first | rfl | exact congrArg (Value.int .i64) (by omega)), rfl, rfl, trivial⟩, E10, hO9, (by omega), (by omega), hl11, (gl_put (g := fun i => k + i) (by omega) (by omega) (by omega) rfl hq)⟩, ?_⟩
      show ((n : Int) - (j + 1)).toNat < ((n : Int) - j).toNat
      omega
    · refine s_y (v := .bool false) rfl (y_lss rfl rfl (decide_eq_false c5)) ?_
      refine s_nil ?_
      refine W_if_f (by decide) rfl ?_
      refine W_exit ?_
      refine W_seq ?_
      refine W_region (by kernel_rfl) ?_
      refine s_y (v := .int .i64 (k + j)) rfl (y_move rfl) ?_
      refine s_y (v := .int .i64 (k + j)) rfl (y_assign rfl) ?_
      refine s_nil ?_
      refine W_ret ?_
      refine ret1 rfl rfl rfl ⟨_, rfl, ?_⟩
      obtain rfl : zs = imarks k n := imarks_done (by omega) (fun i h0 h1 => hq i h0 (by omega))
      exact ⟨congrArg (Value.int .i64) (by omega), hO3, E2⟩
namespace T56
theorem mx : Try.prog.follows .mixedOrders = true := by kernel_rfl
theorem one_2 : oneB Try.prog 2 = true := by kernel_rfl
theorem sl_74_2_1 : slB Try.prog 74 2 1 = true := by kernel_rfl
end T56
set_option maxRecDepth 100000 in
set_option maxHeartbeats 4000000 in
theorem c_l_heldInt64S {a : Option Addr} {n c : Nat} {k : Int} (w : World) (qs : Sl w a (flat inC (imarks k n))) (hl : n ≤ 1048576) (hk0 : 0 ≤ k) (hk1 : k ≤ 4294967296) :
    Calls Try.prog 56 #[.slice a n c, .int .i64 k] w (Rt fun v w' => v = .int .i64 (k + (n : Nat)) ∧ Ext0 w w') := by
  have E0 : Ext no w w := Ext.refl _ _
  have hml := imarks_length k n
  have lo_a := Sl.low qs
  refine calls_W (n := 21) Try.func56 rfl rfl (Nat.le_of_ble_eq_true rfl) ?_
  refine W_seq ?_
  refine W_region (by kernel_rfl) ?_
  refine s_y (v := .int .i64 0) rfl (y_assign rfl) ?_
  refine s_nil ?_
  refine W_seq ?_
  refine W_seq ?_
  refine W_region (by kernel_rfl) ?_
  refine s_y (v := .int .i64 0) rfl (y_assign rfl) ?_
  refine s_nil ?_
  refine W_block ?_
-- loop drops slots [4]
  refine W_loop (fun ρ' w' => ∃ (ρ1 : Env) (j : Int), ρ' = updL ρ1 [(0, .slice a n c), (1, .int .i64 (k + j)), (5, .int .i64 j)] ∧ Ext no w w' ∧ Sl w' a (flat inC (imarks k n)) ∧ (0 ≤ j) ∧ (j ≤ (n : Int))) (fun ρ' _ => ((n : Int) - iv (ρ' 5)).toNat) ?_ ?_
  · exact ⟨_, 0, Fits.eq ⟨rfl, (by first | rfl | exact congrArg (Value.int .i64) (by omega)), rfl, trivial⟩, E0, qs, (Int.le_refl _), (by omega)⟩
  · rintro _ w1 ⟨ρ4, j, rfl, E2, hS3, h0j, h1j⟩
    refine W_seq ?_
    refine W_seq ?_
    refine W_region (by kernel_rfl) ?_
    refine s_y (v := .int .i64 j) rfl (y_move rfl) ?_
    refine s_y (v := .slice a n c) rfl (y_move rfl) ?_
    refine s_y (v := .int .i64 ((n : Nat) : Int)) rfl (y_len T56.sl_74_2_1 rfl rfl) ?_
    by_cases c5 : j < ((n : Nat) : Int)
    · refine s_y (v := .bool true) rfl (y_lss rfl rfl (decide_eq_true c5)) ?_
      refine s_nil ?_
      refine W_if_t (by decide) rfl ?_
      refine W_skip ?_
      refine W_seq ?_
      refine W_block ?_
      refine W_seq ?_
      refine W_seq ?_
      refine W_region (by kernel_rfl) ?_
      refine s_y (v := .slice a n c) rfl (y_move rfl) ?_
      refine s_y (v := .int .i64 j) rfl (y_move rfl) ?_
      refine s_y (v := .pointer (some (sat a ((j).toNat * 1)))) rfl (y_idx T56.sl_74_2_1 rfl rfl (hS3.addr (by rw [flat_length inC_len]; omega)) (by omega) (by omega)) ?_
      refine s_y (v := .int .i64 (gl (imarks k n) j)) rfl (y_load T56.one_2 rfl (hS3.cell (flat_cell inC_len (by omega) (by omega) (j := 0) rfl))) ?_
      refine s_y (v := .int .i64 (k + j)) rfl (y_move rfl) ?_
      have hk6 : ¬ ((gl (imarks k n) j) ≠ (k + j)) := (by rw [not_ne_imarks (by omega) (by omega)]; omega)
      refine s_y (v := .bool false) rfl (y_neq rfl rfl (decide_eq_false hk6)) ?_
      refine s_nil ?_
      refine W_if_f (by decide) rfl ?_
      refine W_skip ?_
      refine W_region (by kernel_rfl) ?_
      refine s_y (v := .int .i64 (k + j)) rfl (y_move rfl) ?_
      refine s_y (v := .int .i64 ((k + j) + 1)) rfl (y_add rfl rfl rfl (by omega)) ?_
      refine s_y (v := .int .i64 ((k + j) + 1)) rfl (y_assign rfl) ?_
      refine s_nil ?_
      refine W_region (by kernel_rfl) ?_
      refine s_y (v := .int .i64 j) rfl (y_move rfl) ?_
      refine s_y (v := .int .i64 (j + 1)) rfl (y_add rfl rfl rfl (by omega)) ?_
      refine s_y (v := .int .i64 (j + 1)) rfl (y_assign rfl) ?_
      refine s_nil ?_
      refine ⟨⟨_, j + 1, Fits.eq ⟨rfl, (by first | rfl | exact congrArg (Value.int .i64) (by omega)), rfl, trivial⟩, E2, hS3, (by omega), (by omega)⟩, ?_⟩
      show ((n : Int) - (j + 1)).toNat < ((n : Int) - j).toNat
      omega
    · refine s_y (v := .bool false) rfl (y_lss rfl rfl (decide_eq_false c5)) ?_
      refine s_nil ?_
      refine W_if_f (by decide) rfl ?_
      refine W_exit ?_
      refine W_seq ?_
      refine W_region (by kernel_rfl) ?_
      refine s_y (v := .int .i64 (k + j)) rfl (y_move rfl) ?_
      refine s_y (v := .int .i64 (k + j)) rfl (y_assign rfl) ?_
      refine s_nil ?_
      refine W_ret ?_
      refine ret1 rfl rfl rfl ⟨_, rfl, ?_⟩
      exact ⟨congrArg (Value.int .i64) (by omega), E2⟩
namespace T13
theorem mx : Try.prog.follows .mixedOrders = true := by kernel_rfl
theorem agg_26_5 : aggB Try.prog 26 5 = true := by kernel_rfl
theorem agg_36_5 : aggB Try.prog 36 5 = true := by kernel_rfl
theorem bool_4 : Try.prog.underlying 4 = some .bool := by kernel_rfl
theorem fn_21 : fnB Try.prog 21 = true := by kernel_rfl
theorem fn_23 : fnB Try.prog 23 = true := by kernel_rfl
theorem fn_25 : fnB Try.prog 25 = true := by kernel_rfl
theorem fn_37 : fnB Try.prog 37 = true := by kernel_rfl
theorem fn_52 : fnB Try.prog 52 = true := by kernel_rfl
theorem fn_53 : fnB Try.prog 53 = true := by kernel_rfl
theorem fn_54 : fnB Try.prog 54 = true := by kernel_rfl
theorem fn_55 : fnB Try.prog 55 = true := by kernel_rfl
theorem fn_56 : fnB Try.prog 56 = true := by kernel_rfl
theorem sz_26_5 : szB Try.prog 26 5 = true := by kernel_rfl
theorem zero_26 : zeroB Try.prog 26 (.agg #[.int .i64 0, .int .i64 0, .bool false, .slice none 0 0, .slice none 0 0]) := by unfold zeroB; kernel_rfl
end T13
set_option maxRecDepth 100000 in
set_option maxHeartbeats 4000000 in
theorem c_FnExactReachOf {wd0 hi0 : Int} {wr0 : Bool} {asp0 : Option Addr} {nsp0 csp0 : Nat} {xsp0 Xsp0 : List Nat} {als0 : Option Addr} {nls0 cls0 : Nat} {xls0 Xls0 : List Nat} {i1 i2 i3 : Int} (w : World) (qssp0 : Sl w asp0 (flts xsp0)) (qlsp0 : xsp0.length = nsp0) (qksp0 : cn xsp0 = Xsp0) (qsls0 : Sl w als0 (flts xls0)) (qlls0 : xls0.length = nls0) (qkls0 : cn xls0 = Xls0) (g1 : nsp0 ≤ 9223372036854775807) (g2 : nls0 ≤ 9223372036854775807) :
    Calls Try.prog 13 #[.agg #[.int .i64 wd0, .int .i64 hi0, .bool wr0, .slice asp0 nsp0 csp0, .slice als0 nls0 cls0], .int .i64 i1, .int .i64 i2, .int .i64 i3] w (Rt fun v w' => v = .bool true ∧ Ext no w w') := by
  have E0 : Ext no w w := Ext.refl _ _
  have hlP0 : Xsp0.length = nsp0 := (cn_lenX qksp0).trans qlsp0
  have hlL0 : Xls0.length = nls0 := (cn_lenX qkls0).trans qlls0
  have lo_asp0 := Sl.low qssp0
  have lo_als0 := Sl.low qsls0
  refine calls_W (n := 111) Try.func13 rfl rfl (Nat.le_of_ble_eq_true rfl) ?_
  refine W_seq ?_
  refine W_region (by kernel_rfl) ?_
  refine s_k rfl (k_box (v := .agg #[.int .i64 wd0, .int .i64 hi0, .bool wr0, .slice asp0 nsp0 csp0, .slice als0 nls0 cls0]) (cs := [.int .i64 wd0, .int .i64 hi0, .bool wr0, .slice asp0 nsp0 csp0, .slice als0 nls0 cls0]) rfl rfl (fun b1 w2 q4 e3 hB5 => ?_))
  have hS6 := qssp0.ext0 e3
  have hS7 := qsls0.ext0 e3
  have E8 := E0.fresh e3 (fun _ h _ => h.elim)
  have fr9 : NotLt b1 w.heap.size := fun h => Nat.not_lt.2 (Nat.le_trans E0.size (Nat.le_of_eq q4.symm)) h
  clear q4
  refine s_y (v := .bool false) rfl (y_assign rfl) ?_
  refine s_nil ?_
  refine W_seq ?_
  refine W_region (by kernel_rfl) ?_
  refine s_y (v := .int .i64 1048576) rfl (y_assign rfl) ?_
  refine s_nil ?_
  refine W_seq ?_
  refine W_region (by kernel_rfl) ?_
  refine s_y (v := .agg #[.int .i64 wd0, .int .i64 hi0, .bool wr0, .slice asp0 nsp0 csp0, .slice als0 nls0 cls0]) rfl (y_loadn (b := b1) (o := 0) (vs := [.int .i64 wd0, .int .i64 hi0, .bool wr0, .slice asp0 nsp0 csp0, .slice als0 nls0 cls0]) T13.agg_36_5 rfl rfl (hB5.cells (o := 0) rfl)) ?_
  refine s_y (v := .int .i64 1048576) rfl (y_move rfl) ?_
  refine s_k rfl (k_call T13.fn_21 (c_l_szSheet _ (by omega) (by omega) (by omega) (by omega)) rfl ?_)
  rintro v12 w10 ⟨hv13, e11⟩
  have hB14 := hB5.ext0 e11
  have hS15 := hS6.ext0 e11
  have hS16 := hS7.ext0 e11
  have E17 := E8.fresh e11 (fun _ h _ => h.elim)
  by_cases c18 : ((nsp0 : Nat) : Int) + ((nls0 : Nat) : Int) ≤ 1048576
  · obtain rfl : v12 = .int .i64 (1048576 - ((nsp0 : Nat) : Int) - ((nls0 : Nat) : Int)) := hv13.trans (congrArg _ (if_pos c18))
    have hk19 : ¬ (1048576 - ((nsp0 : Nat) : Int) - ((nls0 : Nat) : Int)) < 0 := by omega
    refine s_y (v := .int .i64 (1048576 - ((nsp0 : Nat) : Int) - ((nls0 : Nat) : Int))) rfl (y_assign rfl) ?_
    refine s_nil ?_
    refine W_seq ?_
    refine W_seq ?_
    refine W_region (by kernel_rfl) ?_
    refine s_y (v := .int .i64 (1048576 - ((nsp0 : Nat) : Int) - ((nls0 : Nat) : Int))) rfl (y_move rfl) ?_
    refine s_y (v := .bool false) rfl (y_lss rfl rfl (decide_eq_false hk19)) ?_
    refine s_nil ?_
    refine W_if_f (by decide) rfl ?_
    refine W_skip ?_
    refine W_seq ?_
    refine W_region (by kernel_rfl) ?_
    refine s_y (v := .agg #[.int .i64 wd0, .int .i64 hi0, .bool wr0, .slice asp0 nsp0 csp0, .slice als0 nls0 cls0]) rfl (y_loadn (b := b1) (o := 0) (vs := [.int .i64 wd0, .int .i64 hi0, .bool wr0, .slice asp0 nsp0 csp0, .slice als0 nls0 cls0]) T13.agg_36_5 rfl rfl (hB14.cells (o := 0) rfl)) ?_
    refine s_k rfl (k_call T13.fn_23 (c_l_toSheet _ hS15 qlsp0 qksp0 hS16 qlls0 qkls0 (by omega) (by omega)) rfl ?_)
    rintro _ w20 ⟨⟨a22, c23, z24, a25, c26, z27, rfl, hO28, hl29, hc30, hO31, hl32, hc33, dj34⟩, e21⟩
    have hB35 := hB14.ext0 e21
    have hS36 := hS15.ext0 e21
    have hS37 := hS16.ext0 e21
    have E38 := E17.fresh e21 (fun _ h _ => h.elim)
    have d39 : ∀ k, inA a22 k → w10.heap.size ≤ k := fun kx hk => (hO28.blk kx hk).1
    have dj40 : inA a22 b1 → False := fun h => Nat.not_lt.2 (d39 _ h) hB14.lt
    have fr41 : ∀ k, inA a22 k → k < w.heap.size → False := fun kx h1 h2 => Nat.not_lt.2 (Nat.le_trans E17.size (d39 kx h1)) h2
    have hO42 := hO28.base E17.size
    have d43 : ∀ k, inA a25 k → w10.heap.size ≤ k := fun kx hk => (hO31.blk kx hk).1
    have dj44 : inA a25 b1 → False := fun h => Nat.not_lt.2 (d43 _ h) hB14.lt
    have fr45 : ∀ k, inA a25 k → k < w.heap.size → False := fun kx h1 h2 => Nat.not_lt.2 (Nat.le_trans E17.size (d43 kx h1)) h2
    have hO46 := hO31.base E17.size
    refine s_y (v := .int .i64 i1) rfl (y_move rfl) ?_
    refine s_y (v := .int .i64 i2) rfl (y_move rfl) ?_
    refine s_y (v := .int .i64 i3) rfl (y_move rfl) ?_
    refine s_k rfl (k_call T13.fn_52 (c_s_ReachOf _ hO42.sl hl29 hc30 hO46.sl hl32 hc33 (by omega) (by omega)) rfl ?_)
    rintro vhx49 w47 ⟨hx49, e48⟩
    have hB50 := hB35.ext0 e48
    have hS51 := hS36.ext0 e48
    have hS52 := hS37.ext0 e48
    have hO53 := hO42.ext0 e48
    have hO54 := hO46.ext0 e48
    have E55 := E38.fresh e48 (fun _ h _ => h.elim)
    by_cases c56 : reachB wd0 hi0 Xsp0 Xls0 i1 i2 i3 = true
    · have hb57 := reachB_b c56
      obtain ⟨a58, c59, rfl, hO60⟩ := (hx49.resolve_right (fun hz => by rw [c56] at hz; cases hz.1)).2
      clear hx49
      have d61 : ∀ k, inA a58 k → w20.heap.size ≤ k := fun kx hk => (hO60.blk kx hk).1
      have dj62 : inA a58 b1 → False := fun h => Nat.not_lt.2 (d61 _ h) hB35.lt
      have dj63 : ∀ k, inA a22 k → inA a58 k → False := fun kx h1 h2 => Nat.not_lt.2 (d61 kx h2) (hO42.blk kx h1).2
      have dj64 : ∀ k, inA a25 k → inA a58 k → False := fun kx h1 h2 => Nat.not_lt.2 (d61 kx h2) (hO46.blk kx h1).2
      have fr65 : ∀ k, inA a58 k → k < w.heap.size → False := fun kx h1 h2 => Nat.not_lt.2 (Nat.le_trans E38.size (d61 kx h1)) h2
      have hO66 := hO60.base E38.size
      have hsl67 := sel_len (wd0 * hi0) (fun i => reachP wd0 hi0 wr0 i1 i2 i3 (i % wd0) (i / wd0))
      refine s_y (v := .tuple #[.slice a58 ((sel (wd0 * hi0) (fun i => reachP wd0 hi0 wr0 i1 i2 i3 (i % wd0) (i / wd0))).length) c59, .bool true]) rfl (y_move rfl) ?_
      refine s_y (v := .slice a58 ((sel (wd0 * hi0) (fun i => reachP wd0 hi0 wr0 i1 i2 i3 (i % wd0) (i / wd0))).length) c59) rfl (y_extract rfl rfl) ?_
      refine s_y (v := .bool true) rfl (y_extract rfl rfl) ?_
      refine s_y (v := .slice a58 ((sel (wd0 * hi0) (fun i => reachP wd0 hi0 wr0 i1 i2 i3 (i % wd0) (i / wd0))).length) c59) rfl (y_assign rfl) ?_
      refine s_y (v := .bool true) rfl (y_assign rfl) ?_
      refine s_nil ?_
      refine W_seq ?_
      refine W_region (by kernel_rfl) ?_
      refine s_y (v := .agg #[.int .i64 wd0, .int .i64 hi0, .bool wr0, .slice asp0 nsp0 csp0, .slice als0 nls0 cls0]) rfl (y_loadn (b := b1) (o := 0) (vs := [.int .i64 wd0, .int .i64 hi0, .bool wr0, .slice asp0 nsp0 csp0, .slice als0 nls0 cls0]) T13.agg_36_5 rfl rfl (hB50.cells (o := 0) rfl)) ?_
      refine s_k rfl (k_call T13.fn_23 (c_l_toSheet _ hS51 qlsp0 qksp0 hS52 qlls0 qkls0 (by omega) (by omega)) rfl ?_)
      rintro _ w68 ⟨⟨a70, c71, z72, a73, c74, z75, rfl, hO76, hl77, hc78, hO79, hl80, hc81, dj82⟩, e69⟩
      have hB83 := hB50.ext0 e69
      have hS84 := hS51.ext0 e69
      have hS85 := hS52.ext0 e69
      have hO86 := hO53.ext0 e69
      have hO87 := hO54.ext0 e69
      have hO88 := hO66.ext0 e69
      have E89 := E55.fresh e69 (fun _ h _ => h.elim)
      have d90 : ∀ k, inA a70 k → w47.heap.size ≤ k := fun kx hk => (hO76.blk kx hk).1
      have dj91 : inA a70 b1 → False := fun h => Nat.not_lt.2 (d90 _ h) hB50.lt
      have dj92 : ∀ k, inA a22 k → inA a70 k → False := fun kx h1 h2 => Nat.not_lt.2 (d90 kx h2) (hO53.blk kx h1).2
      have dj93 : ∀ k, inA a25 k → inA a70 k → False := fun kx h1 h2 => Nat.not_lt.2 (d90 kx h2) (hO54.blk kx h1).2
      have dj94 : ∀ k, inA a58 k → inA a70 k → False := fun kx h1 h2 => Nat.not_lt.2 (d90 kx h2) (hO66.blk kx h1).2
      have fr95 : ∀ k, inA a70 k → k < w.heap.size → False := fun kx h1 h2 => Nat.not_lt.2 (Nat.le_trans E55.size (d90 kx h1)) h2
      have hO96 := hO76.base E55.size
      have d97 : ∀ k, inA a73 k → w47.heap.size ≤ k := fun kx hk => (hO79.blk kx hk).1
      have dj98 : inA a73 b1 → False := fun h => Nat.not_lt.2 (d97 _ h) hB50.lt
      have dj99 : ∀ k, inA a22 k → inA a73 k → False := fun kx h1 h2 => Nat.not_lt.2 (d97 kx h2) (hO53.blk kx h1).2
      have dj100 : ∀ k, inA a25 k → inA a73 k → False := fun kx h1 h2 => Nat.not_lt.2 (d97 kx h2) (hO54.blk kx h1).2
      have dj101 : ∀ k, inA a58 k → inA a73 k → False := fun kx h1 h2 => Nat.not_lt.2 (d97 kx h2) (hO66.blk kx h1).2
      have fr102 : ∀ k, inA a73 k → k < w.heap.size → False := fun kx h1 h2 => Nat.not_lt.2 (Nat.le_trans E55.size (d97 kx h1)) h2
      have hO103 := hO79.base E55.size
      refine s_k rfl (k_alloc (z := (.agg #[.int .i64 0, .int .i64 0, .bool false, .slice none 0 0, .slice none 0 0])) (cs := [.int .i64 0, .int .i64 0, .bool false, .slice none 0 0, .slice none 0 0]) T13.zero_26 rfl (fun b104 w105 q107 e106 hB108 => ?_))
      have hB109 := hB83.ext0 e106
      have hS110 := hS84.ext0 e106
      have hS111 := hS85.ext0 e106
      have hO112 := hO86.ext0 e106
      have hO113 := hO87.ext0 e106
      have hO114 := hO88.ext0 e106
      have hO115 := hO96.ext0 e106
      have hO116 := hO103.ext0 e106
      have E117 := E89.fresh e106 (fun _ h _ => h.elim)
      have dj118 : NeB b1 b104 := fun h => Nat.ne_of_lt hB83.lt (h.trans q107)
      have dj119 : inA a22 b104 → False := fun h => Nat.ne_of_lt (hO86.blk _ h).2 q107
      have dj120 : inA a25 b104 → False := fun h => Nat.ne_of_lt (hO87.blk _ h).2 q107
      have dj121 : inA a58 b104 → False := fun h => Nat.ne_of_lt (hO88.blk _ h).2 q107
      have dj122 : inA a70 b104 → False := fun h => Nat.ne_of_lt (hO96.blk _ h).2 q107
      have dj123 : inA a73 b104 → False := fun h => Nat.ne_of_lt (hO103.blk _ h).2 q107
      have fr124 : NotLt b104 w.heap.size := fun h => Nat.not_lt.2 (Nat.le_trans E89.size (Nat.le_of_eq q107.symm)) h
      clear q107
      refine s_k0 rfl (k_store (v := .agg #[.int .i64 wd0, .int .i64 hi0, .bool wr0, .slice a70 nsp0 c71, .slice a73 nls0 c74]) (n := 5) (cs' := [.int .i64 wd0, .int .i64 hi0, .bool wr0, .slice a70 nsp0 c71, .slice a73 nls0 c74]) T13.sz_26_5 rfl rfl rfl hB108 (by simp [Value.cells, Value.oneCell']) (Nat.le_of_ble_eq_true rfl) rfl (fun w125 e126 z127 hB128 => ?_))
      clear z127
      have hB129 := hB109.ext e126 dj118
      have hS130 := hS110.extL lo_asp0 e126 (fun kx (hs : kx = b104) hl => fr124 (hs ▸ hl))
      have hS131 := hS111.extL lo_als0 e126 (fun kx (hs : kx = b104) hl => fr124 (hs ▸ hl))
      have hO132 := hO112.ext e126 (fun kx hk (hs : kx = b104) => dj119 (hs ▸ hk))
      have hO133 := hO113.ext e126 (fun kx hk (hs : kx = b104) => dj120 (hs ▸ hk))
      have hO134 := hO114.ext e126 (fun kx hk (hs : kx = b104) => dj121 (hs ▸ hk))
      have hO135 := hO115.ext e126 (fun kx hk (hs : kx = b104) => dj122 (hs ▸ hk))
      have hO136 := hO116.ext e126 (fun kx hk (hs : kx = b104) => dj123 (hs ▸ hk))
      have E137 := E117.fresh e126 (fun kx (hs : kx = b104) hl => (fr124 (hs ▸ hl)).elim)
      refine s_nil ?_
      refine W_seq ?_
      refine W_region (by kernel_rfl) ?_
      refine s_y (v := .agg #[.int .i64 wd0, .int .i64 hi0, .bool wr0, .slice a70 nsp0 c71, .slice a73 nls0 c74]) rfl (y_loadn (b := b104) (o := 0) (vs := [.int .i64 wd0, .int .i64 hi0, .bool wr0, .slice a70 nsp0 c71, .slice a73 nls0 c74]) T13.agg_26_5 rfl rfl (hB128.cells (o := 0) rfl)) ?_
      refine s_y (v := .int .i64 i1) rfl (y_move rfl) ?_
      refine s_y (v := .int .i64 i2) rfl (y_move rfl) ?_
      refine s_y (v := .int .i64 i3) rfl (y_move rfl) ?_
      refine s_k rfl (k_call T13.fn_53 (c_i_ReachOf _ hO135.sl hl77 hc78 hO136.sl hl80 hc81 (by omega) (by omega)) rfl ?_)
      rintro vhx140 w138 ⟨hx140, e139⟩
      have hB141 := hB129.ext0 e139
      have hB142 := hB128.ext0 e139
      have hS143 := hS130.ext0 e139
      have hS144 := hS131.ext0 e139
      have hO145 := hO132.ext0 e139
      have hO146 := hO133.ext0 e139
      have hO147 := hO134.ext0 e139
      have hO148 := hO135.ext0 e139
      have hO149 := hO136.ext0 e139
      have E150 := E137.fresh e139 (fun _ h _ => h.elim)
      obtain ⟨a151, c152, rfl, hO153⟩ := (hx140.resolve_right (fun hz => by rw [c56] at hz; cases hz.1)).2
      clear hx140
      have d154 : ∀ k, inA a151 k → w125.heap.size ≤ k := fun kx hk => (hO153.blk kx hk).1
      have dj155 : inA a151 b1 → False := fun h => Nat.not_lt.2 (d154 _ h) hB129.lt
      have dj156 : inA a151 b104 → False := fun h => Nat.not_lt.2 (d154 _ h) hB128.lt
      have dj157 : ∀ k, inA a22 k → inA a151 k → False := fun kx h1 h2 => Nat.not_lt.2 (d154 kx h2) (hO132.blk kx h1).2
      have dj158 : ∀ k, inA a25 k → inA a151 k → False := fun kx h1 h2 => Nat.not_lt.2 (d154 kx h2) (hO133.blk kx h1).2
      have dj159 : ∀ k, inA a58 k → inA a151 k → False := fun kx h1 h2 => Nat.not_lt.2 (d154 kx h2) (hO134.blk kx h1).2
      have dj160 : ∀ k, inA a70 k → inA a151 k → False := fun kx h1 h2 => Nat.not_lt.2 (d154 kx h2) (hO135.blk kx h1).2
      have dj161 : ∀ k, inA a73 k → inA a151 k → False := fun kx h1 h2 => Nat.not_lt.2 (d154 kx h2) (hO136.blk kx h1).2
      have fr162 : ∀ k, inA a151 k → k < w.heap.size → False := fun kx h1 h2 => Nat.not_lt.2 (Nat.le_trans E137.size (d154 kx h1)) h2
      have hO163 := hO153.base E137.size
      have hsl164 := sel_len (wd0 * hi0) (fun i => reachP wd0 hi0 wr0 i1 i2 i3 (i % wd0) (i / wd0))
      refine s_y (v := .tuple #[.slice a151 ((sel (wd0 * hi0) (fun i => reachP wd0 hi0 wr0 i1 i2 i3 (i % wd0) (i / wd0))).length) c152, .bool true]) rfl (y_move rfl) ?_
      refine s_y (v := .slice a151 ((sel (wd0 * hi0) (fun i => reachP wd0 hi0 wr0 i1 i2 i3 (i % wd0) (i / wd0))).length) c152) rfl (y_extract rfl rfl) ?_
      refine s_y (v := .bool true) rfl (y_extract rfl rfl) ?_
      refine s_y (v := .slice a151 ((sel (wd0 * hi0) (fun i => reachP wd0 hi0 wr0 i1 i2 i3 (i % wd0) (i / wd0))).length) c152) rfl (y_assign rfl) ?_
      refine s_y (v := .bool true) rfl (y_assign rfl) ?_
      refine s_nil ?_
      refine W_seq ?_
      refine W_seq ?_
      refine W_region (by kernel_rfl) ?_
      refine s_y (v := .slice a151 ((sel (wd0 * hi0) (fun i => reachP wd0 hi0 wr0 i1 i2 i3 (i % wd0) (i / wd0))).length) c152) rfl (y_move rfl) ?_
      refine s_y (v := .slice a58 ((sel (wd0 * hi0) (fun i => reachP wd0 hi0 wr0 i1 i2 i3 (i % wd0) (i / wd0))).length) c59) rfl (y_move rfl) ?_
      refine s_k rfl (k_call T13.fn_54 (c_l_eqInt64S _ hO163.sl rfl hO147.sl rfl (by omega)) rfl ?_)
      rintro _ w165 ⟨rfl, e166⟩
      have hB167 := hB141.ext0 e166
      have hB168 := hB142.ext0 e166
      have hS169 := hS143.ext0 e166
      have hS170 := hS144.ext0 e166
      have hO171 := hO145.ext0 e166
      have hO172 := hO146.ext0 e166
      have hO173 := hO147.ext0 e166
      have hO174 := hO148.ext0 e166
      have hO175 := hO149.ext0 e166
      have hO176 := hO163.ext0 e166
      have E177 := E150.fresh e166 (fun _ h _ => h.elim)
      refine s_y (v := .bool false) rfl (y_not rfl rfl) ?_
      refine s_y (v := .bool false) rfl (y_move rfl) ?_
      refine s_y (v := .bool true) rfl (y_move rfl) ?_
      refine s_y (v := .bool true) rfl (y_move rfl) ?_
      refine s_y (v := .bool false) rfl (y_bneq T13.bool_4 rfl rfl rfl) ?_
      refine s_y (v := .bool false) rfl (y_pick_f rfl rfl) ?_
      refine s_nil ?_
      refine W_if_f (by decide) rfl ?_
      refine W_skip ?_
      refine W_seq ?_
      refine W_seq ?_
      refine W_draw (no) T13.mx (by kernel_rfl) (fun w178 e179 => ?_)
      have hB180 := hB167.ext0 e179
      have hB181 := hB168.ext0 e179
      have hS182 := hS169.ext0 e179
      have hS183 := hS170.ext0 e179
      have hO184 := hO171.ext0 e179
      have hO185 := hO172.ext0 e179
      have hO186 := hO173.ext0 e179
      have hO187 := hO174.ext0 e179
      have hO188 := hO175.ext0 e179
      have hO189 := hO176.ext0 e179
      have E190 := E177.fresh e179 (fun _ h _ => h.elim)
      have R191 := (Ext.refl (no) w165).trans (Ext0.any e179)
      refine m_y (v := .agg #[.int .i64 wd0, .int .i64 hi0, .bool wr0, .slice a70 nsp0 c71, .slice a73 nls0 c74]) 0 rfl (by kernel_rfl) rfl rfl (fun w' e' => y_loadn (b := b104) (o := 0) (vs := [.int .i64 wd0, .int .i64 hi0, .bool wr0, .slice a70 nsp0 c71, .slice a73 nls0 c74]) T13.agg_26_5 rfl rfl ((hB168.ext0 e').cells (o := 0) rfl)) ?_
      refine m_y (v := .agg #[.int .i64 wd0, .int .i64 hi0, .bool wr0, .slice asp0 nsp0 csp0, .slice als0 nls0 cls0]) 1 rfl (by kernel_rfl) rfl rfl (fun w' e' => y_loadn (b := b1) (o := 0) (vs := [.int .i64 wd0, .int .i64 hi0, .bool wr0, .slice asp0 nsp0 csp0, .slice als0 nls0 cls0]) T13.agg_36_5 rfl rfl ((hB167.ext0 e').cells (o := 0) rfl)) ?_
      refine m_k 2 [3, 4] rfl (by kernel_rfl) rfl rfl (fun w192 e193 => ?_)
      have hB194 := hB180.ext0 e193
      have hB195 := hB181.ext0 e193
      have hS196 := hS182.ext0 e193
      have hS197 := hS183.ext0 e193
      have hO198 := hO184.ext0 e193
      have hO199 := hO185.ext0 e193
      have hO200 := hO186.ext0 e193
      have hO201 := hO187.ext0 e193
      have hO202 := hO188.ext0 e193
      have hO203 := hO189.ext0 e193
      have E204 := E190.fresh e193 (fun _ h _ => h.elim)
      have R205 := R191.trans (Ext0.any e193)
      refine k_call T13.fn_23 (c_l_toSheet _ hS196 qlsp0 qksp0 hS197 qlls0 qkls0 (by omega) (by omega)) rfl ?_
      rintro _ w206 ⟨⟨a208, c209, z210, a211, c212, z213, rfl, hO214, hl215, hc216, hO217, hl218, hc219, dj220⟩, e207⟩
      have hB221 := hB194.ext0 e207
      have hB222 := hB195.ext0 e207
      have hS223 := hS196.ext0 e207
      have hS224 := hS197.ext0 e207
      have hO225 := hO198.ext0 e207
      have hO226 := hO199.ext0 e207
      have hO227 := hO200.ext0 e207
      have hO228 := hO201.ext0 e207
      have hO229 := hO202.ext0 e207
      have hO230 := hO203.ext0 e207
      have E231 := E204.fresh e207 (fun _ h _ => h.elim)
      have R232 := R205.trans (Ext0.any e207)
      refine ⟨fun _ => R232, ?_⟩
      have d233 : ∀ k, inA a208 k → w192.heap.size ≤ k := fun kx hk => (hO214.blk kx hk).1
      have dj234 : inA a208 b1 → False := fun h => Nat.not_lt.2 (d233 _ h) hB194.lt
      have dj235 : inA a208 b104 → False := fun h => Nat.not_lt.2 (d233 _ h) hB195.lt
      have dj236 : ∀ k, inA a22 k → inA a208 k → False := fun kx h1 h2 => Nat.not_lt.2 (d233 kx h2) (hO198.blk kx h1).2
      have dj237 : ∀ k, inA a25 k → inA a208 k → False := fun kx h1 h2 => Nat.not_lt.2 (d233 kx h2) (hO199.blk kx h1).2
      have dj238 : ∀ k, inA a58 k → inA a208 k → False := fun kx h1 h2 => Nat.not_lt.2 (d233 kx h2) (hO200.blk kx h1).2
      have dj239 : ∀ k, inA a70 k → inA a208 k → False := fun kx h1 h2 => Nat.not_lt.2 (d233 kx h2) (hO201.blk kx h1).2
      have dj240 : ∀ k, inA a73 k → inA a208 k → False := fun kx h1 h2 => Nat.not_lt.2 (d233 kx h2) (hO202.blk kx h1).2
      have dj241 : ∀ k, inA a151 k → inA a208 k → False := fun kx h1 h2 => Nat.not_lt.2 (d233 kx h2) (hO203.blk kx h1).2
      have fr242 : ∀ k, inA a208 k → k < w.heap.size → False := fun kx h1 h2 => Nat.not_lt.2 (Nat.le_trans E204.size (d233 kx h1)) h2
      have hO243 := hO214.base E204.size
      have d244 : ∀ k, inA a211 k → w192.heap.size ≤ k := fun kx hk => (hO217.blk kx hk).1
      have dj245 : inA a211 b1 → False := fun h => Nat.not_lt.2 (d244 _ h) hB194.lt
      have dj246 : inA a211 b104 → False := fun h => Nat.not_lt.2 (d244 _ h) hB195.lt
      have dj247 : ∀ k, inA a22 k → inA a211 k → False := fun kx h1 h2 => Nat.not_lt.2 (d244 kx h2) (hO198.blk kx h1).2
      have dj248 : ∀ k, inA a25 k → inA a211 k → False := fun kx h1 h2 => Nat.not_lt.2 (d244 kx h2) (hO199.blk kx h1).2
      have dj249 : ∀ k, inA a58 k → inA a211 k → False := fun kx h1 h2 => Nat.not_lt.2 (d244 kx h2) (hO200.blk kx h1).2
      have dj250 : ∀ k, inA a70 k → inA a211 k → False := fun kx h1 h2 => Nat.not_lt.2 (d244 kx h2) (hO201.blk kx h1).2
      have dj251 : ∀ k, inA a73 k → inA a211 k → False := fun kx h1 h2 => Nat.not_lt.2 (d244 kx h2) (hO202.blk kx h1).2
      have dj252 : ∀ k, inA a151 k → inA a211 k → False := fun kx h1 h2 => Nat.not_lt.2 (d244 kx h2) (hO203.blk kx h1).2
      have fr253 : ∀ k, inA a211 k → k < w.heap.size → False := fun kx h1 h2 => Nat.not_lt.2 (Nat.le_trans E204.size (d244 kx h1)) h2
      have hO254 := hO217.base E204.size
      refine m_k 3 [4] rfl (by kernel_rfl) rfl rfl (fun w255 e256 => ?_)
      have hB257 := hB221.ext0 e256
      have hB258 := hB222.ext0 e256
      have hS259 := hS223.ext0 e256
      have hS260 := hS224.ext0 e256
      have hO261 := hO225.ext0 e256
      have hO262 := hO226.ext0 e256
      have hO263 := hO227.ext0 e256
      have hO264 := hO228.ext0 e256
      have hO265 := hO229.ext0 e256
      have hO266 := hO230.ext0 e256
      have hO267 := hO243.ext0 e256
      have hO268 := hO254.ext0 e256
      have E269 := E231.fresh e256 (fun _ h _ => h.elim)
      have R270 := R232.trans (Ext0.any e256)
      refine k_call T13.fn_25 (c_l_eqSheet _ hO264.sl hl77 hc78 hO267.sl hl215 hc216 (by omega) hO265.sl hl80 hc81 hO268.sl hl218 hc219 (by omega)) rfl ?_
      rintro _ w271 ⟨rfl, e272⟩
      have hB273 := hB257.ext0 e272
      have hB274 := hB258.ext0 e272
      have hS275 := hS259.ext0 e272
      have hS276 := hS260.ext0 e272
      have hO277 := hO261.ext0 e272
      have hO278 := hO262.ext0 e272
      have hO279 := hO263.ext0 e272
      have hO280 := hO264.ext0 e272
      have hO281 := hO265.ext0 e272
      have hO282 := hO266.ext0 e272
      have hO283 := hO267.ext0 e272
      have hO284 := hO268.ext0 e272
      have E285 := E269.fresh e272 (fun _ h _ => h.elim)
      have R286 := R270.trans (Ext0.any e272)
      refine ⟨fun _ => R286, ?_⟩
      refine m_y (v := .bool false) 4 rfl (by kernel_rfl) rfl rfl (fun w' e' => y_not rfl rfl) ?_
      refine m_done (by kernel_rfl) (fun w287 e288 => ?_)
      have hB289 := hB273.ext0 e288
      have hB290 := hB274.ext0 e288
      have hS291 := hS275.ext0 e288
      have hS292 := hS276.ext0 e288
      have hO293 := hO277.ext0 e288
      have hO294 := hO278.ext0 e288
      have hO295 := hO279.ext0 e288
      have hO296 := hO280.ext0 e288
      have hO297 := hO281.ext0 e288
      have hO298 := hO282.ext0 e288
      have hO299 := hO283.ext0 e288
      have hO300 := hO284.ext0 e288
      have E301 := E285.fresh e288 (fun _ h _ => h.elim)
      have R302 := R286.trans (Ext0.any e288)
      refine W_if_f (by decide) rfl ?_
      refine W_skip ?_
      refine W_seq ?_
      refine W_region (by kernel_rfl) ?_
      refine s_y (v := .int .i64 1) rfl (y_assign rfl) ?_
      refine s_nil ?_
      refine W_seq ?_
      refine W_region (by kernel_rfl) ?_
      refine s_y (v := .agg #[.int .i64 wd0, .int .i64 hi0, .bool wr0, .slice a70 nsp0 c71, .slice a73 nls0 c74]) rfl (y_loadn (b := b104) (o := 0) (vs := [.int .i64 wd0, .int .i64 hi0, .bool wr0, .slice a70 nsp0 c71, .slice a73 nls0 c74]) T13.agg_26_5 rfl rfl (hB290.cells (o := 0) rfl)) ?_
      refine s_y (v := .int .i64 1) rfl (y_move rfl) ?_
      refine s_k rfl (k_call T13.fn_37 (c_l_markSheet _ hO296 hl77 hc78 hO297 hl80 hc81 dj82 (by omega) (by omega) (by omega) (by omega)) rfl ?_)
      rintro _ w303 ⟨rfl, hO305, hO306, e304⟩
      have hB307 := hB289.ext e304 (fun hor => Or.elim hor (fun hk => dj91 hk) (fun hk => dj98 hk))
      have hB308 := hB290.ext e304 (fun hor => Or.elim hor (fun hk => dj122 hk) (fun hk => dj123 hk))
      have hS309 := hS291.extL lo_asp0 e304 (fun kx hs hl => (fun hor => Or.elim hor (fun hs => fr95 kx hs hl) (fun hs => fr102 kx hs hl)) hs)
      have hS310 := hS292.extL lo_als0 e304 (fun kx hs hl => (fun hor => Or.elim hor (fun hs => fr95 kx hs hl) (fun hs => fr102 kx hs hl)) hs)
      have hO311 := hO293.ext e304 (fun kx hk hs => (fun hor => Or.elim hor (fun hs => (fun kx h1 h2 => dj92 kx h2 h1) kx hs hk) (fun hs => (fun kx h1 h2 => dj99 kx h2 h1) kx hs hk)) hs)
      have hO312 := hO294.ext e304 (fun kx hk hs => (fun hor => Or.elim hor (fun hs => (fun kx h1 h2 => dj93 kx h2 h1) kx hs hk) (fun hs => (fun kx h1 h2 => dj100 kx h2 h1) kx hs hk)) hs)
      have hO313 := hO295.ext e304 (fun kx hk hs => (fun hor => Or.elim hor (fun hs => (fun kx h1 h2 => dj94 kx h2 h1) kx hs hk) (fun hs => (fun kx h1 h2 => dj101 kx h2 h1) kx hs hk)) hs)
      have hO314 := hO298.ext e304 (fun kx hk hs => (fun hor => Or.elim hor (fun hs => dj160 kx hs hk) (fun hs => dj161 kx hs hk)) hs)
      have hO315 := hO299.ext e304 (fun kx hk hs => (fun hor => Or.elim hor (fun hs => dj239 kx hs hk) (fun hs => dj240 kx hs hk)) hs)
      have hO316 := hO300.ext e304 (fun kx hk hs => (fun hor => Or.elim hor (fun hs => dj250 kx hs hk) (fun hs => dj251 kx hs hk)) hs)
      have E317 := E301.fresh e304 (fun kx hs hl => (fun hor => Or.elim hor (fun hs => (fr95 kx hs hl).elim) (fun hs => (fr102 kx hs hl).elim)) hs)
      refine s_y (v := .int .i64 (1 + ((nsp0 : Nat) : Int) + ((nls0 : Nat) : Int))) rfl (y_assign rfl) ?_
      refine s_nil ?_
      refine W_seq ?_
      refine W_seq ?_
      refine W_region (by kernel_rfl) ?_
      refine s_y (v := .int .i64 (1 + ((nsp0 : Nat) : Int) + ((nls0 : Nat) : Int))) rfl (y_move rfl) ?_
      by_cases c318 : (1 + ((nsp0 : Nat) : Int) + ((nls0 : Nat) : Int)) < 0
      · refine s_y (v := .bool true) rfl (y_lss rfl rfl (decide_eq_true c318)) ?_
        refine s_y (v := .bool true) rfl (y_move rfl) ?_
        refine s_skip rfl ?_
        refine s_skip rfl ?_
        refine s_skip rfl ?_
        refine s_skip rfl ?_
        refine s_y (v := .bool true) rfl (y_pick_t rfl rfl) ?_
        refine s_y (v := .bool true) rfl (y_move rfl) ?_
        refine s_skip rfl ?_
        refine s_skip rfl ?_
        refine s_skip rfl ?_
        refine s_y (v := .bool true) rfl (y_pick_t rfl rfl) ?_
        refine s_nil ?_
        refine W_if_t (by decide) rfl ?_
        refine W_seq ?_
        refine W_region (by kernel_rfl) ?_
        refine s_y (v := .bool false) rfl (y_assign rfl) ?_
        refine s_nil ?_
        refine W_ret ?_
        refine ret1 rfl rfl rfl ⟨_, rfl, ?_⟩
        exfalso; omega
      · refine s_y (v := .bool false) rfl (y_lss rfl rfl (decide_eq_false c318)) ?_
        refine s_y (v := .bool false) rfl (y_move rfl) ?_
        refine s_y (v := .slice a151 ((sel (wd0 * hi0) (fun i => reachP wd0 hi0 wr0 i1 i2 i3 (i % wd0) (i / wd0))).length) c152) rfl (y_move rfl) ?_
        refine s_y (v := .slice a58 ((sel (wd0 * hi0) (fun i => reachP wd0 hi0 wr0 i1 i2 i3 (i % wd0) (i / wd0))).length) c59) rfl (y_move rfl) ?_
        refine s_k rfl (k_call T13.fn_54 (c_l_eqInt64S _ hO314.sl rfl hO313.sl rfl (by omega)) rfl ?_)
        rintro _ w319 ⟨rfl, e320⟩
        have hB321 := hB307.ext0 e320
        have hB322 := hB308.ext0 e320
        have hS323 := hS309.ext0 e320
        have hS324 := hS310.ext0 e320
        have hO325 := hO311.ext0 e320
        have hO326 := hO312.ext0 e320
        have hO327 := hO313.ext0 e320
        have hO328 := hO305.ext0 e320
        have hO329 := hO306.ext0 e320
        have hO330 := hO314.ext0 e320
        have hO331 := hO315.ext0 e320
        have hO332 := hO316.ext0 e320
        have E333 := E317.fresh e320 (fun _ h _ => h.elim)
        refine s_y (v := .bool false) rfl (y_not rfl rfl) ?_
        refine s_y (v := .bool false) rfl (y_pick_f rfl rfl) ?_
        refine s_y (v := .bool false) rfl (y_move rfl) ?_
        refine s_y (v := .bool true) rfl (y_move rfl) ?_
        refine s_y (v := .bool true) rfl (y_move rfl) ?_
        refine s_y (v := .bool false) rfl (y_bneq T13.bool_4 rfl rfl rfl) ?_
        refine s_y (v := .bool false) rfl (y_pick_f rfl rfl) ?_
        refine s_nil ?_
        refine W_if_f (by decide) rfl ?_
        refine W_skip ?_
        refine W_seq ?_
        refine W_region (by kernel_rfl) ?_
        refine s_y (v := .int .i64 1) rfl (y_assign rfl) ?_
        refine s_nil ?_
        refine W_seq ?_
        refine W_region (by kernel_rfl) ?_
        refine s_y (v := .slice a151 ((sel (wd0 * hi0) (fun i => reachP wd0 hi0 wr0 i1 i2 i3 (i % wd0) (i / wd0))).length) c152) rfl (y_move rfl) ?_
        refine s_y (v := .int .i64 1) rfl (y_move rfl) ?_
        refine s_k rfl (k_call T13.fn_55 (c_l_markInt64S _ hO330 rfl (by omega) (by omega) (by omega)) rfl ?_)
        rintro _ w334 ⟨rfl, hO336, e335⟩
        have hB337 := hB321.ext e335 (fun hk => dj155 hk)
        have hB338 := hB322.ext e335 (fun hk => dj156 hk)
        have hS339 := hS323.extL lo_asp0 e335 (fun kx hs hl => (fun hs => fr162 kx hs hl) hs)
        have hS340 := hS324.extL lo_als0 e335 (fun kx hs hl => (fun hs => fr162 kx hs hl) hs)
        have hO341 := hO325.ext e335 (fun kx hk hs => (fun hs => (fun kx h1 h2 => dj157 kx h2 h1) kx hs hk) hs)
        have hO342 := hO326.ext e335 (fun kx hk hs => (fun hs => (fun kx h1 h2 => dj158 kx h2 h1) kx hs hk) hs)
        have hO343 := hO327.ext e335 (fun kx hk hs => (fun hs => (fun kx h1 h2 => dj159 kx h2 h1) kx hs hk) hs)
        have hO344 := hO328.ext e335 (fun kx hk hs => (fun hs => (fun kx h1 h2 => dj160 kx h2 h1) kx hs hk) hs)
        have hO345 := hO329.ext e335 (fun kx hk hs => (fun hs => (fun kx h1 h2 => dj161 kx h2 h1) kx hs hk) hs)
        have hO346 := hO331.ext e335 (fun kx hk hs => (fun hs => dj241 kx hs hk) hs)
        have hO347 := hO332.ext e335 (fun kx hk hs => (fun hs => dj252 kx hs hk) hs)
        have E348 := E333.fresh e335 (fun kx hs hl => (fun hs => (fr162 kx hs hl).elim) hs)
        refine s_y (v := .int .i64 (1 + (((sel (wd0 * hi0) (fun i => reachP wd0 hi0 wr0 i1 i2 i3 (i % wd0) (i / wd0))).length : Nat) : Int))) rfl (y_assign rfl) ?_
        refine s_nil ?_
        refine W_seq ?_
        refine W_region (by kernel_rfl) ?_
        refine s_y (v := .int .i64 1) rfl (y_assign rfl) ?_
        refine s_nil ?_
        refine W_seq ?_
        refine W_region (by kernel_rfl) ?_
        refine s_y (v := .slice a151 ((sel (wd0 * hi0) (fun i => reachP wd0 hi0 wr0 i1 i2 i3 (i % wd0) (i / wd0))).length) c152) rfl (y_move rfl) ?_
        refine s_y (v := .int .i64 1) rfl (y_move rfl) ?_
        refine s_k rfl (k_call T13.fn_56 (c_l_heldInt64S _ hO336.sl (by omega) (by omega) (by omega)) rfl ?_)
        rintro _ w349 ⟨rfl, e350⟩
        have hB351 := hB337.ext0 e350
        have hB352 := hB338.ext0 e350
        have hS353 := hS339.ext0 e350
        have hS354 := hS340.ext0 e350
        have hO355 := hO341.ext0 e350
        have hO356 := hO342.ext0 e350
        have hO357 := hO343.ext0 e350
        have hO358 := hO344.ext0 e350
        have hO359 := hO345.ext0 e350
        have hO360 := hO336.ext0 e350
        have hO361 := hO346.ext0 e350
        have hO362 := hO347.ext0 e350
        have E363 := E348.fresh e350 (fun _ h _ => h.elim)
        refine s_y (v := .int .i64 (1 + (((sel (wd0 * hi0) (fun i => reachP wd0 hi0 wr0 i1 i2 i3 (i % wd0) (i / wd0))).length : Nat) : Int))) rfl (y_assign rfl) ?_
        refine s_nil ?_
        refine W_seq ?_
        refine W_seq ?_
        refine W_region (by kernel_rfl) ?_
        refine s_y (v := .int .i64 (1 + (((sel (wd0 * hi0) (fun i => reachP wd0 hi0 wr0 i1 i2 i3 (i % wd0) (i / wd0))).length : Nat) : Int))) rfl (y_move rfl) ?_
        by_cases c364 : (1 + (((sel (wd0 * hi0) (fun i => reachP wd0 hi0 wr0 i1 i2 i3 (i % wd0) (i / wd0))).length : Nat) : Int)) < 0
        · refine s_y (v := .bool true) rfl (y_lss rfl rfl (decide_eq_true c364)) ?_
          refine s_nil ?_
          refine W_if_t (by decide) rfl ?_
          refine W_seq ?_
          refine W_region (by kernel_rfl) ?_
          refine s_y (v := .bool false) rfl (y_assign rfl) ?_
          refine s_nil ?_
          refine W_ret ?_
          refine ret1 rfl rfl rfl ⟨_, rfl, ?_⟩
          exfalso; omega
        · refine s_y (v := .bool false) rfl (y_lss rfl rfl (decide_eq_false c364)) ?_
          refine s_nil ?_
          refine W_if_f (by decide) rfl ?_
          refine W_skip ?_
          refine W_seq ?_
          refine W_seq ?_
          refine W_region (by kernel_rfl) ?_
          refine s_y (v := .int .i64 (1 + (((sel (wd0 * hi0) (fun i => reachP wd0 hi0 wr0 i1 i2 i3 (i % wd0) (i / wd0))).length : Nat) : Int))) rfl (y_move rfl) ?_
          refine s_y (v := .int .i64 (1 + (((sel (wd0 * hi0) (fun i => reachP wd0 hi0 wr0 i1 i2 i3 (i % wd0) (i / wd0))).length : Nat) : Int))) rfl (y_move rfl) ?_
          refine s_y (v := .bool false) rfl (y_neq rfl rfl (decide_eq_false (fun hq => hq rfl))) ?_
          refine s_nil ?_
          refine W_if_f (by decide) rfl ?_
          refine W_skip ?_
          refine W_seq ?_
          refine W_region (by kernel_rfl) ?_
          refine s_y (v := .agg #[.int .i64 wd0, .int .i64 hi0, .bool wr0, .slice asp0 nsp0 csp0, .slice als0 nls0 cls0]) rfl (y_loadn (b := b1) (o := 0) (vs := [.int .i64 wd0, .int .i64 hi0, .bool wr0, .slice asp0 nsp0 csp0, .slice als0 nls0 cls0]) T13.agg_36_5 rfl rfl (hB351.cells (o := 0) rfl)) ?_
          refine s_k rfl (k_call T13.fn_23 (c_l_toSheet _ hS353 qlsp0 qksp0 hS354 qlls0 qkls0 (by omega) (by omega)) rfl ?_)
          rintro _ w365 ⟨⟨a367, c368, z369, a370, c371, z372, rfl, hO373, hl374, hc375, hO376, hl377, hc378, dj379⟩, e366⟩
          have hB380 := hB351.ext0 e366
          have hB381 := hB352.ext0 e366
          have hS382 := hS353.ext0 e366
          have hS383 := hS354.ext0 e366
          have hO384 := hO355.ext0 e366
          have hO385 := hO356.ext0 e366
          have hO386 := hO357.ext0 e366
          have hO387 := hO358.ext0 e366
          have hO388 := hO359.ext0 e366
          have hO389 := hO360.ext0 e366
          have hO390 := hO361.ext0 e366
          have hO391 := hO362.ext0 e366
          have E392 := E363.fresh e366 (fun _ h _ => h.elim)
          have d393 : ∀ k, inA a367 k → w349.heap.size ≤ k := fun kx hk => (hO373.blk kx hk).1
          have dj394 : inA a367 b1 → False := fun h => Nat.not_lt.2 (d393 _ h) hB351.lt
          have dj395 : inA a367 b104 → False := fun h => Nat.not_lt.2 (d393 _ h) hB352.lt
          have dj396 : ∀ k, inA a22 k → inA a367 k → False := fun kx h1 h2 => Nat.not_lt.2 (d393 kx h2) (hO355.blk kx h1).2
          have dj397 : ∀ k, inA a25 k → inA a367 k → False := fun kx h1 h2 => Nat.not_lt.2 (d393 kx h2) (hO356.blk kx h1).2
          have dj398 : ∀ k, inA a58 k → inA a367 k → False := fun kx h1 h2 => Nat.not_lt.2 (d393 kx h2) (hO357.blk kx h1).2
          have dj399 : ∀ k, inA a70 k → inA a367 k → False := fun kx h1 h2 => Nat.not_lt.2 (d393 kx h2) (hO358.blk kx h1).2
          have dj400 : ∀ k, inA a73 k → inA a367 k → False := fun kx h1 h2 => Nat.not_lt.2 (d393 kx h2) (hO359.blk kx h1).2
          have dj401 : ∀ k, inA a151 k → inA a367 k → False := fun kx h1 h2 => Nat.not_lt.2 (d393 kx h2) (hO360.blk kx h1).2
          have dj402 : ∀ k, inA a208 k → inA a367 k → False := fun kx h1 h2 => Nat.not_lt.2 (d393 kx h2) (hO361.blk kx h1).2
          have dj403 : ∀ k, inA a211 k → inA a367 k → False := fun kx h1 h2 => Nat.not_lt.2 (d393 kx h2) (hO362.blk kx h1).2
          have fr404 : ∀ k, inA a367 k → k < w.heap.size → False := fun kx h1 h2 => Nat.not_lt.2 (Nat.le_trans E363.size (d393 kx h1)) h2
          have hO405 := hO373.base E363.size
          have d406 : ∀ k, inA a370 k → w349.heap.size ≤ k := fun kx hk => (hO376.blk kx hk).1
          have dj407 : inA a370 b1 → False := fun h => Nat.not_lt.2 (d406 _ h) hB351.lt
          have dj408 : inA a370 b104 → False := fun h => Nat.not_lt.2 (d406 _ h) hB352.lt
          have dj409 : ∀ k, inA a22 k → inA a370 k → False := fun kx h1 h2 => Nat.not_lt.2 (d406 kx h2) (hO355.blk kx h1).2
          have dj410 : ∀ k, inA a25 k → inA a370 k → False := fun kx h1 h2 => Nat.not_lt.2 (d406 kx h2) (hO356.blk kx h1).2
          have dj411 : ∀ k, inA a58 k → inA a370 k → False := fun kx h1 h2 => Nat.not_lt.2 (d406 kx h2) (hO357.blk kx h1).2
          have dj412 : ∀ k, inA a70 k → inA a370 k → False := fun kx h1 h2 => Nat.not_lt.2 (d406 kx h2) (hO358.blk kx h1).2
          have dj413 : ∀ k, inA a73 k → inA a370 k → False := fun kx h1 h2 => Nat.not_lt.2 (d406 kx h2) (hO359.blk kx h1).2
          have dj414 : ∀ k, inA a151 k → inA a370 k → False := fun kx h1 h2 => Nat.not_lt.2 (d406 kx h2) (hO360.blk kx h1).2
          have dj415 : ∀ k, inA a208 k → inA a370 k → False := fun kx h1 h2 => Nat.not_lt.2 (d406 kx h2) (hO361.blk kx h1).2
          have dj416 : ∀ k, inA a211 k → inA a370 k → False := fun kx h1 h2 => Nat.not_lt.2 (d406 kx h2) (hO362.blk kx h1).2
          have fr417 : ∀ k, inA a370 k → k < w.heap.size → False := fun kx h1 h2 => Nat.not_lt.2 (Nat.le_trans E363.size (d406 kx h1)) h2
          have hO418 := hO376.base E363.size
          refine s_y (v := .int .i64 i1) rfl (y_move rfl) ?_
          refine s_y (v := .int .i64 i2) rfl (y_move rfl) ?_
          refine s_y (v := .int .i64 i3) rfl (y_move rfl) ?_
          refine s_k rfl (k_call T13.fn_53 (c_i_ReachOf _ hO405.sl hl374 hc375 hO418.sl hl377 hc378 (by omega) (by omega)) rfl ?_)
          rintro vhx421 w419 ⟨hx421, e420⟩
          have hB422 := hB380.ext0 e420
          have hB423 := hB381.ext0 e420
          have hS424 := hS382.ext0 e420
          have hS425 := hS383.ext0 e420
          have hO426 := hO384.ext0 e420
          have hO427 := hO385.ext0 e420
          have hO428 := hO386.ext0 e420
          have hO429 := hO387.ext0 e420
          have hO430 := hO388.ext0 e420
          have hO431 := hO389.ext0 e420
          have hO432 := hO390.ext0 e420
          have hO433 := hO391.ext0 e420
          have hO434 := hO405.ext0 e420
          have hO435 := hO418.ext0 e420
          have E436 := E392.fresh e420 (fun _ h _ => h.elim)
          obtain ⟨a437, c438, rfl, hO439⟩ := (hx421.resolve_right (fun hz => by rw [c56] at hz; cases hz.1)).2
          clear hx421
          have d440 : ∀ k, inA a437 k → w365.heap.size ≤ k := fun kx hk => (hO439.blk kx hk).1
          have dj441 : inA a437 b1 → False := fun h => Nat.not_lt.2 (d440 _ h) hB380.lt
          have dj442 : inA a437 b104 → False := fun h => Nat.not_lt.2 (d440 _ h) hB381.lt
          have dj443 : ∀ k, inA a22 k → inA a437 k → False := fun kx h1 h2 => Nat.not_lt.2 (d440 kx h2) (hO384.blk kx h1).2
          have dj444 : ∀ k, inA a25 k → inA a437 k → False := fun kx h1 h2 => Nat.not_lt.2 (d440 kx h2) (hO385.blk kx h1).2
          have dj445 : ∀ k, inA a58 k → inA a437 k → False := fun kx h1 h2 => Nat.not_lt.2 (d440 kx h2) (hO386.blk kx h1).2
          have dj446 : ∀ k, inA a70 k → inA a437 k → False := fun kx h1 h2 => Nat.not_lt.2 (d440 kx h2) (hO387.blk kx h1).2
          have dj447 : ∀ k, inA a73 k → inA a437 k → False := fun kx h1 h2 => Nat.not_lt.2 (d440 kx h2) (hO388.blk kx h1).2
          have dj448 : ∀ k, inA a151 k → inA a437 k → False := fun kx h1 h2 => Nat.not_lt.2 (d440 kx h2) (hO389.blk kx h1).2
          have dj449 : ∀ k, inA a208 k → inA a437 k → False := fun kx h1 h2 => Nat.not_lt.2 (d440 kx h2) (hO390.blk kx h1).2
          have dj450 : ∀ k, inA a211 k → inA a437 k → False := fun kx h1 h2 => Nat.not_lt.2 (d440 kx h2) (hO391.blk kx h1).2
          have dj451 : ∀ k, inA a367 k → inA a437 k → False := fun kx h1 h2 => Nat.not_lt.2 (d440 kx h2) (hO405.blk kx h1).2
          have dj452 : ∀ k, inA a370 k → inA a437 k → False := fun kx h1 h2 => Nat.not_lt.2 (d440 kx h2) (hO418.blk kx h1).2
          have fr453 : ∀ k, inA a437 k → k < w.heap.size → False := fun kx h1 h2 => Nat.not_lt.2 (Nat.le_trans E392.size (d440 kx h1)) h2
          have hO454 := hO439.base E392.size
          have hsl455 := sel_len (wd0 * hi0) (fun i => reachP wd0 hi0 wr0 i1 i2 i3 (i % wd0) (i / wd0))
          refine s_y (v := .tuple #[.slice a437 ((sel (wd0 * hi0) (fun i => reachP wd0 hi0 wr0 i1 i2 i3 (i % wd0) (i / wd0))).length) c438, .bool true]) rfl (y_move rfl) ?_
          refine s_y (v := .slice a437 ((sel (wd0 * hi0) (fun i => reachP wd0 hi0 wr0 i1 i2 i3 (i % wd0) (i / wd0))).length) c438) rfl (y_extract rfl rfl) ?_
          refine s_y (v := .bool true) rfl (y_extract rfl rfl) ?_
          refine s_y (v := .slice a437 ((sel (wd0 * hi0) (fun i => reachP wd0 hi0 wr0 i1 i2 i3 (i % wd0) (i / wd0))).length) c438) rfl (y_assign rfl) ?_
          refine s_y (v := .bool true) rfl (y_assign rfl) ?_
          refine s_nil ?_
          refine W_seq ?_
          refine W_seq ?_
          refine W_region (by kernel_rfl) ?_
          refine s_y (v := .slice a437 ((sel (wd0 * hi0) (fun i => reachP wd0 hi0 wr0 i1 i2 i3 (i % wd0) (i / wd0))).length) c438) rfl (y_move rfl) ?_
          refine s_y (v := .slice a58 ((sel (wd0 * hi0) (fun i => reachP wd0 hi0 wr0 i1 i2 i3 (i % wd0) (i / wd0))).length) c59) rfl (y_move rfl) ?_
          refine s_k rfl (k_call T13.fn_54 (c_l_eqInt64S _ hO454.sl rfl hO428.sl rfl (by omega)) rfl ?_)
          rintro _ w456 ⟨rfl, e457⟩
          have hB458 := hB422.ext0 e457
          have hB459 := hB423.ext0 e457
          have hS460 := hS424.ext0 e457
          have hS461 := hS425.ext0 e457
          have hO462 := hO426.ext0 e457
          have hO463 := hO427.ext0 e457
          have hO464 := hO428.ext0 e457
          have hO465 := hO429.ext0 e457
          have hO466 := hO430.ext0 e457
          have hO467 := hO431.ext0 e457
          have hO468 := hO432.ext0 e457
          have hO469 := hO433.ext0 e457
          have hO470 := hO434.ext0 e457
          have hO471 := hO435.ext0 e457
          have hO472 := hO454.ext0 e457
          have E473 := E436.fresh e457 (fun _ h _ => h.elim)
          refine s_y (v := .bool false) rfl (y_not rfl rfl) ?_
          refine s_y (v := .bool false) rfl (y_move rfl) ?_
          refine s_y (v := .bool true) rfl (y_move rfl) ?_
          refine s_y (v := .bool true) rfl (y_move rfl) ?_
          refine s_y (v := .bool false) rfl (y_bneq T13.bool_4 rfl rfl rfl) ?_
          refine s_y (v := .bool false) rfl (y_pick_f rfl rfl) ?_
          refine s_nil ?_
          refine W_if_f (by decide) rfl ?_
          refine W_skip ?_
          refine W_seq ?_
          refine W_region (by kernel_rfl) ?_
          refine s_y (v := .int .i64 1) rfl (y_assign rfl) ?_
          refine s_nil ?_
          refine W_seq ?_
          refine W_region (by kernel_rfl) ?_
          refine s_y (v := .slice a151 ((sel (wd0 * hi0) (fun i => reachP wd0 hi0 wr0 i1 i2 i3 (i % wd0) (i / wd0))).length) c152) rfl (y_move rfl) ?_
          refine s_y (v := .int .i64 1) rfl (y_move rfl) ?_
          refine s_k rfl (k_call T13.fn_56 (c_l_heldInt64S _ hO467.sl (by omega) (by omega) (by omega)) rfl ?_)
          rintro _ w474 ⟨rfl, e475⟩
          have hB476 := hB458.ext0 e475
          have hB477 := hB459.ext0 e475
          have hS478 := hS460.ext0 e475
          have hS479 := hS461.ext0 e475
          have hO480 := hO462.ext0 e475
          have hO481 := hO463.ext0 e475
          have hO482 := hO464.ext0 e475
          have hO483 := hO465.ext0 e475
          have hO484 := hO466.ext0 e475
          have hO485 := hO467.ext0 e475
          have hO486 := hO468.ext0 e475
          have hO487 := hO469.ext0 e475
          have hO488 := hO470.ext0 e475
          have hO489 := hO471.ext0 e475
          have hO490 := hO472.ext0 e475
          have E491 := E473.fresh e475 (fun _ h _ => h.elim)
          refine s_y (v := .int .i64 (1 + (((sel (wd0 * hi0) (fun i => reachP wd0 hi0 wr0 i1 i2 i3 (i % wd0) (i / wd0))).length : Nat) : Int))) rfl (y_assign rfl) ?_
          refine s_nil ?_
          refine W_seq ?_
          refine W_seq ?_
          refine W_region (by kernel_rfl) ?_
          refine s_y (v := .int .i64 (1 + (((sel (wd0 * hi0) (fun i => reachP wd0 hi0 wr0 i1 i2 i3 (i % wd0) (i / wd0))).length : Nat) : Int))) rfl (y_move rfl) ?_
          refine s_y (v := .bool false) rfl (y_lss rfl rfl (decide_eq_false c364)) ?_
          refine s_nil ?_
          refine W_if_f (by decide) rfl ?_
          refine W_skip ?_
          refine W_seq ?_
          refine W_seq ?_
          refine W_region (by kernel_rfl) ?_
          refine s_y (v := .int .i64 (1 + (((sel (wd0 * hi0) (fun i => reachP wd0 hi0 wr0 i1 i2 i3 (i % wd0) (i / wd0))).length : Nat) : Int))) rfl (y_move rfl) ?_
          refine s_y (v := .int .i64 (1 + (((sel (wd0 * hi0) (fun i => reachP wd0 hi0 wr0 i1 i2 i3 (i % wd0) (i / wd0))).length : Nat) : Int))) rfl (y_move rfl) ?_
          refine s_y (v := .bool false) rfl (y_neq rfl rfl (decide_eq_false (fun hq => hq rfl))) ?_
          refine s_nil ?_
          refine W_if_f (by decide) rfl ?_
          refine W_skip ?_
          refine W_seq ?_
          refine W_region (by kernel_rfl) ?_
          refine s_y (v := .bool true) rfl (y_assign rfl) ?_
          refine s_nil ?_
          refine W_ret ?_
          refine ret1 rfl rfl rfl ⟨_, rfl, ?_⟩
          exact ⟨rfl, E491⟩
    · obtain ⟨_, rfl⟩ := hx49.resolve_left (fun hz => c56 hz.1)
      clear hx49
      refine s_y (v := .tuple #[.slice none 0 0, .bool false]) rfl (y_move rfl) ?_
      refine s_y (v := .slice none 0 0) rfl (y_extract rfl rfl) ?_
      refine s_y (v := .bool false) rfl (y_extract rfl rfl) ?_
      refine s_y (v := .slice none 0 0) rfl (y_assign rfl) ?_
      refine s_y (v := .bool false) rfl (y_assign rfl) ?_
      refine s_nil ?_
      refine W_seq ?_
      refine W_region (by kernel_rfl) ?_
      refine s_y (v := .agg #[.int .i64 wd0, .int .i64 hi0, .bool wr0, .slice asp0 nsp0 csp0, .slice als0 nls0 cls0]) rfl (y_loadn (b := b1) (o := 0) (vs := [.int .i64 wd0, .int .i64 hi0, .bool wr0, .slice asp0 nsp0 csp0, .slice als0 nls0 cls0]) T13.agg_36_5 rfl rfl (hB50.cells (o := 0) rfl)) ?_
      refine s_k rfl (k_call T13.fn_23 (c_l_toSheet _ hS51 qlsp0 qksp0 hS52 qlls0 qkls0 (by omega) (by omega)) rfl ?_)
      rintro _ w492 ⟨⟨a494, c495, z496, a497, c498, z499, rfl, hO500, hl501, hc502, hO503, hl504, hc505, dj506⟩, e493⟩
      have hB507 := hB50.ext0 e493
      have hS508 := hS51.ext0 e493
      have hS509 := hS52.ext0 e493
      have hO510 := hO53.ext0 e493
      have hO511 := hO54.ext0 e493
      have E512 := E55.fresh e493 (fun _ h _ => h.elim)
      have d513 : ∀ k, inA a494 k → w47.heap.size ≤ k := fun kx hk => (hO500.blk kx hk).1
      have dj514 : inA a494 b1 → False := fun h => Nat.not_lt.2 (d513 _ h) hB50.lt
      have dj515 : ∀ k, inA a22 k → inA a494 k → False := fun kx h1 h2 => Nat.not_lt.2 (d513 kx h2) (hO53.blk kx h1).2
      have dj516 : ∀ k, inA a25 k → inA a494 k → False := fun kx h1 h2 => Nat.not_lt.2 (d513 kx h2) (hO54.blk kx h1).2
      have fr517 : ∀ k, inA a494 k → k < w.heap.size → False := fun kx h1 h2 => Nat.not_lt.2 (Nat.le_trans E55.size (d513 kx h1)) h2
      have hO518 := hO500.base E55.size
      have d519 : ∀ k, inA a497 k → w47.heap.size ≤ k := fun kx hk => (hO503.blk kx hk).1
      have dj520 : inA a497 b1 → False := fun h => Nat.not_lt.2 (d519 _ h) hB50.lt
      have dj521 : ∀ k, inA a22 k → inA a497 k → False := fun kx h1 h2 => Nat.not_lt.2 (d519 kx h2) (hO53.blk kx h1).2
      have dj522 : ∀ k, inA a25 k → inA a497 k → False := fun kx h1 h2 => Nat.not_lt.2 (d519 kx h2) (hO54.blk kx h1).2
      have fr523 : ∀ k, inA a497 k → k < w.heap.size → False := fun kx h1 h2 => Nat.not_lt.2 (Nat.le_trans E55.size (d519 kx h1)) h2
      have hO524 := hO503.base E55.size
      refine s_k rfl (k_alloc (z := (.agg #[.int .i64 0, .int .i64 0, .bool false, .slice none 0 0, .slice none 0 0])) (cs := [.int .i64 0, .int .i64 0, .bool false, .slice none 0 0, .slice none 0 0]) T13.zero_26 rfl (fun b525 w526 q528 e527 hB529 => ?_))
      have hB530 := hB507.ext0 e527
      have hS531 := hS508.ext0 e527
      have hS532 := hS509.ext0 e527
      have hO533 := hO510.ext0 e527
      have hO534 := hO511.ext0 e527
      have hO535 := hO518.ext0 e527
      have hO536 := hO524.ext0 e527
      have E537 := E512.fresh e527 (fun _ h _ => h.elim)
      have dj538 : NeB b1 b525 := fun h => Nat.ne_of_lt hB507.lt (h.trans q528)
      have dj539 : inA a22 b525 → False := fun h => Nat.ne_of_lt (hO510.blk _ h).2 q528
      have dj540 : inA a25 b525 → False := fun h => Nat.ne_of_lt (hO511.blk _ h).2 q528
      have dj541 : inA a494 b525 → False := fun h => Nat.ne_of_lt (hO518.blk _ h).2 q528
      have dj542 : inA a497 b525 → False := fun h => Nat.ne_of_lt (hO524.blk _ h).2 q528
      have fr543 : NotLt b525 w.heap.size := fun h => Nat.not_lt.2 (Nat.le_trans E512.size (Nat.le_of_eq q528.symm)) h
      clear q528
      refine s_k0 rfl (k_store (v := .agg #[.int .i64 wd0, .int .i64 hi0, .bool wr0, .slice a494 nsp0 c495, .slice a497 nls0 c498]) (n := 5) (cs' := [.int .i64 wd0, .int .i64 hi0, .bool wr0, .slice a494 nsp0 c495, .slice a497 nls0 c498]) T13.sz_26_5 rfl rfl rfl hB529 (by simp [Value.cells, Value.oneCell']) (Nat.le_of_ble_eq_true rfl) rfl (fun w544 e545 z546 hB547 => ?_))
      clear z546
      have hB548 := hB530.ext e545 dj538
      have hS549 := hS531.extL lo_asp0 e545 (fun kx (hs : kx = b525) hl => fr543 (hs ▸ hl))
      have hS550 := hS532.extL lo_als0 e545 (fun kx (hs : kx = b525) hl => fr543 (hs ▸ hl))
      have hO551 := hO533.ext e545 (fun kx hk (hs : kx = b525) => dj539 (hs ▸ hk))
      have hO552 := hO534.ext e545 (fun kx hk (hs : kx = b525) => dj540 (hs ▸ hk))
      have hO553 := hO535.ext e545 (fun kx hk (hs : kx = b525) => dj541 (hs ▸ hk))
      have hO554 := hO536.ext e545 (fun kx hk (hs : kx = b525) => dj542 (hs ▸ hk))
      have E555 := E537.fresh e545 (fun kx (hs : kx = b525) hl => (fr543 (hs ▸ hl)).elim)
      refine s_nil ?_
      refine W_seq ?_
      refine W_region (by kernel_rfl) ?_
      refine s_y (v := .agg #[.int .i64 wd0, .int .i64 hi0, .bool wr0, .slice a494 nsp0 c495, .slice a497 nls0 c498]) rfl (y_loadn (b := b525) (o := 0) (vs := [.int .i64 wd0, .int .i64 hi0, .bool wr0, .slice a494 nsp0 c495, .slice a497 nls0 c498]) T13.agg_26_5 rfl rfl (hB547.cells (o := 0) rfl)) ?_
      refine s_y (v := .int .i64 i1) rfl (y_move rfl) ?_
      refine s_y (v := .int .i64 i2) rfl (y_move rfl) ?_
      refine s_y (v := .int .i64 i3) rfl (y_move rfl) ?_
      refine s_k rfl (k_call T13.fn_53 (c_i_ReachOf _ hO553.sl hl501 hc502 hO554.sl hl504 hc505 (by omega) (by omega)) rfl ?_)
      rintro vhx558 w556 ⟨hx558, e557⟩
      have hB559 := hB548.ext0 e557
      have hB560 := hB547.ext0 e557
      have hS561 := hS549.ext0 e557
      have hS562 := hS550.ext0 e557
      have hO563 := hO551.ext0 e557
      have hO564 := hO552.ext0 e557
      have hO565 := hO553.ext0 e557
      have hO566 := hO554.ext0 e557
      have E567 := E555.fresh e557 (fun _ h _ => h.elim)
      obtain ⟨_, rfl⟩ := hx558.resolve_left (fun hz => c56 hz.1)
      clear hx558
      refine s_y (v := .tuple #[.slice none 0 0, .bool false]) rfl (y_move rfl) ?_
      refine s_y (v := .slice none 0 0) rfl (y_extract rfl rfl) ?_
      refine s_y (v := .bool false) rfl (y_extract rfl rfl) ?_
      refine s_y (v := .slice none 0 0) rfl (y_assign rfl) ?_
      refine s_y (v := .bool false) rfl (y_assign rfl) ?_
      refine s_nil ?_
      refine W_seq ?_
      refine W_seq ?_
      refine W_region (by kernel_rfl) ?_
      refine s_y (v := .slice none 0 0) rfl (y_move rfl) ?_
      refine s_y (v := .slice none 0 0) rfl (y_move rfl) ?_
      refine s_k rfl (k_call T13.fn_54 (c_l_eqInt64S (x := []) (n := 0) (m := 0) _ (Sl.nil _ none : Sl _ none (flat inC [])) rfl (Sl.nil _ none : Sl _ none (flat inC [])) rfl (by decide)) rfl ?_)
      rintro _ w568 ⟨rfl, e569⟩
      have hB570 := hB559.ext0 e569
      have hB571 := hB560.ext0 e569
      have hS572 := hS561.ext0 e569
      have hS573 := hS562.ext0 e569
      have hO574 := hO563.ext0 e569
      have hO575 := hO564.ext0 e569
      have hO576 := hO565.ext0 e569
      have hO577 := hO566.ext0 e569
      have E578 := E567.fresh e569 (fun _ h _ => h.elim)
      refine s_y (v := .bool false) rfl (y_not rfl rfl) ?_
      refine s_y (v := .bool false) rfl (y_move rfl) ?_
      refine s_y (v := .bool false) rfl (y_move rfl) ?_
      refine s_y (v := .bool false) rfl (y_move rfl) ?_
      refine s_y (v := .bool false) rfl (y_bneq T13.bool_4 rfl rfl rfl) ?_
      refine s_y (v := .bool false) rfl (y_pick_f rfl rfl) ?_
      refine s_nil ?_
      refine W_if_f (by decide) rfl ?_
      refine W_skip ?_
      refine W_seq ?_
      refine W_seq ?_
      refine W_draw (no) T13.mx (by kernel_rfl) (fun w579 e580 => ?_)
      have hB581 := hB570.ext0 e580
      have hB582 := hB571.ext0 e580
      have hS583 := hS572.ext0 e580
      have hS584 := hS573.ext0 e580
      have hO585 := hO574.ext0 e580
      have hO586 := hO575.ext0 e580
      have hO587 := hO576.ext0 e580
      have hO588 := hO577.ext0 e580
      have E589 := E578.fresh e580 (fun _ h _ => h.elim)
      have R590 := (Ext.refl (no) w568).trans (Ext0.any e580)
      refine m_y (v := .agg #[.int .i64 wd0, .int .i64 hi0, .bool wr0, .slice a494 nsp0 c495, .slice a497 nls0 c498]) 0 rfl (by kernel_rfl) rfl rfl (fun w' e' => y_loadn (b := b525) (o := 0) (vs := [.int .i64 wd0, .int .i64 hi0, .bool wr0, .slice a494 nsp0 c495, .slice a497 nls0 c498]) T13.agg_26_5 rfl rfl ((hB571.ext0 e').cells (o := 0) rfl)) ?_
      refine m_y (v := .agg #[.int .i64 wd0, .int .i64 hi0, .bool wr0, .slice asp0 nsp0 csp0, .slice als0 nls0 cls0]) 1 rfl (by kernel_rfl) rfl rfl (fun w' e' => y_loadn (b := b1) (o := 0) (vs := [.int .i64 wd0, .int .i64 hi0, .bool wr0, .slice asp0 nsp0 csp0, .slice als0 nls0 cls0]) T13.agg_36_5 rfl rfl ((hB570.ext0 e').cells (o := 0) rfl)) ?_
      refine m_k 2 [3, 4] rfl (by kernel_rfl) rfl rfl (fun w591 e592 => ?_)
      have hB593 := hB581.ext0 e592
      have hB594 := hB582.ext0 e592
      have hS595 := hS583.ext0 e592
      have hS596 := hS584.ext0 e592
      have hO597 := hO585.ext0 e592
      have hO598 := hO586.ext0 e592
      have hO599 := hO587.ext0 e592
      have hO600 := hO588.ext0 e592
      have E601 := E589.fresh e592 (fun _ h _ => h.elim)
      have R602 := R590.trans (Ext0.any e592)
      refine k_call T13.fn_23 (c_l_toSheet _ hS595 qlsp0 qksp0 hS596 qlls0 qkls0 (by omega) (by omega)) rfl ?_
      rintro _ w603 ⟨⟨a605, c606, z607, a608, c609, z610, rfl, hO611, hl612, hc613, hO614, hl615, hc616, dj617⟩, e604⟩
      have hB618 := hB593.ext0 e604
      have hB619 := hB594.ext0 e604
      have hS620 := hS595.ext0 e604
      have hS621 := hS596.ext0 e604
      have hO622 := hO597.ext0 e604
      have hO623 := hO598.ext0 e604
      have hO624 := hO599.ext0 e604
      have hO625 := hO600.ext0 e604
      have E626 := E601.fresh e604 (fun _ h _ => h.elim)
      have R627 := R602.trans (Ext0.any e604)
      refine ⟨fun _ => R627, ?_⟩
      have d628 : ∀ k, inA a605 k → w591.heap.size ≤ k := fun kx hk => (hO611.blk kx hk).1
      have dj629 : inA a605 b1 → False := fun h => Nat.not_lt.2 (d628 _ h) hB593.lt
      have dj630 : inA a605 b525 → False := fun h => Nat.not_lt.2 (d628 _ h) hB594.lt
      have dj631 : ∀ k, inA a22 k → inA a605 k → False := fun kx h1 h2 => Nat.not_lt.2 (d628 kx h2) (hO597.blk kx h1).2
      have dj632 : ∀ k, inA a25 k → inA a605 k → False := fun kx h1 h2 => Nat.not_lt.2 (d628 kx h2) (hO598.blk kx h1).2
      have dj633 : ∀ k, inA a494 k → inA a605 k → False := fun kx h1 h2 => Nat.not_lt.2 (d628 kx h2) (hO599.blk kx h1).2
      have dj634 : ∀ k, inA a497 k → inA a605 k → False := fun kx h1 h2 => Nat.not_lt.2 (d628 kx h2) (hO600.blk kx h1).2
      have fr635 : ∀ k, inA a605 k → k < w.heap.size → False := fun kx h1 h2 => Nat.not_lt.2 (Nat.le_trans E601.size (d628 kx h1)) h2
      have hO636 := hO611.base E601.size
      have d637 : ∀ k, inA a608 k → w591.heap.size ≤ k := fun kx hk => (hO614.blk kx hk).1
      have dj638 : inA a608 b1 → False := fun h => Nat.not_lt.2 (d637 _ h) hB593.lt
      have dj639 : inA a608 b525 → False := fun h => Nat.not_lt.2 (d637 _ h) hB594.lt
      have dj640 : ∀ k, inA a22 k → inA a608 k → False := fun kx h1 h2 => Nat.not_lt.2 (d637 kx h2) (hO597.blk kx h1).2
      have dj641 : ∀ k, inA a25 k → inA a608 k → False := fun kx h1 h2 => Nat.not_lt.2 (d637 kx h2) (hO598.blk kx h1).2
      have dj642 : ∀ k, inA a494 k → inA a608 k → False := fun kx h1 h2 => Nat.not_lt.2 (d637 kx h2) (hO599.blk kx h1).2
      have dj643 : ∀ k, inA a497 k → inA a608 k → False := fun kx h1 h2 => Nat.not_lt.2 (d637 kx h2) (hO600.blk kx h1).2
      have fr644 : ∀ k, inA a608 k → k < w.heap.size → False := fun kx h1 h2 => Nat.not_lt.2 (Nat.le_trans E601.size (d637 kx h1)) h2
      have hO645 := hO614.base E601.size
      refine m_k 3 [4] rfl (by kernel_rfl) rfl rfl (fun w646 e647 => ?_)
      have hB648 := hB618.ext0 e647
      have hB649 := hB619.ext0 e647
      have hS650 := hS620.ext0 e647
      have hS651 := hS621.ext0 e647
      have hO652 := hO622.ext0 e647
      have hO653 := hO623.ext0 e647
      have hO654 := hO624.ext0 e647
      have hO655 := hO625.ext0 e647
      have hO656 := hO636.ext0 e647
      have hO657 := hO645.ext0 e647
      have E658 := E626.fresh e647 (fun _ h _ => h.elim)
      have R659 := R627.trans (Ext0.any e647)
      refine k_call T13.fn_25 (c_l_eqSheet _ hO654.sl hl501 hc502 hO656.sl hl612 hc613 (by omega) hO655.sl hl504 hc505 hO657.sl hl615 hc616 (by omega)) rfl ?_
      rintro _ w660 ⟨rfl, e661⟩
      have hB662 := hB648.ext0 e661
      have hB663 := hB649.ext0 e661
      have hS664 := hS650.ext0 e661
      have hS665 := hS651.ext0 e661
      have hO666 := hO652.ext0 e661
      have hO667 := hO653.ext0 e661
      have hO668 := hO654.ext0 e661
      have hO669 := hO655.ext0 e661
      have hO670 := hO656.ext0 e661
      have hO671 := hO657.ext0 e661
      have E672 := E658.fresh e661 (fun _ h _ => h.elim)
      have R673 := R659.trans (Ext0.any e661)
      refine ⟨fun _ => R673, ?_⟩
      refine m_y (v := .bool false) 4 rfl (by kernel_rfl) rfl rfl (fun w' e' => y_not rfl rfl) ?_
      refine m_done (by kernel_rfl) (fun w674 e675 => ?_)
      have hB676 := hB662.ext0 e675
      have hB677 := hB663.ext0 e675
      have hS678 := hS664.ext0 e675
      have hS679 := hS665.ext0 e675
      have hO680 := hO666.ext0 e675
      have hO681 := hO667.ext0 e675
      have hO682 := hO668.ext0 e675
      have hO683 := hO669.ext0 e675
      have hO684 := hO670.ext0 e675
      have hO685 := hO671.ext0 e675
      have E686 := E672.fresh e675 (fun _ h _ => h.elim)
      have R687 := R673.trans (Ext0.any e675)
      refine W_if_f (by decide) rfl ?_
      refine W_skip ?_
      refine W_seq ?_
      refine W_region (by kernel_rfl) ?_
      refine s_y (v := .int .i64 1) rfl (y_assign rfl) ?_
      refine s_nil ?_
      refine W_seq ?_
      refine W_region (by kernel_rfl) ?_
      refine s_y (v := .agg #[.int .i64 wd0, .int .i64 hi0, .bool wr0, .slice a494 nsp0 c495, .slice a497 nls0 c498]) rfl (y_loadn (b := b525) (o := 0) (vs := [.int .i64 wd0, .int .i64 hi0, .bool wr0, .slice a494 nsp0 c495, .slice a497 nls0 c498]) T13.agg_26_5 rfl rfl (hB677.cells (o := 0) rfl)) ?_
      refine s_y (v := .int .i64 1) rfl (y_move rfl) ?_
      refine s_k rfl (k_call T13.fn_37 (c_l_markSheet _ hO682 hl501 hc502 hO683 hl504 hc505 dj506 (by omega) (by omega) (by omega) (by omega)) rfl ?_)
      rintro _ w688 ⟨rfl, hO690, hO691, e689⟩
      have hB692 := hB676.ext e689 (fun hor => Or.elim hor (fun hk => dj514 hk) (fun hk => dj520 hk))
      have hB693 := hB677.ext e689 (fun hor => Or.elim hor (fun hk => dj541 hk) (fun hk => dj542 hk))
      have hS694 := hS678.extL lo_asp0 e689 (fun kx hs hl => (fun hor => Or.elim hor (fun hs => fr517 kx hs hl) (fun hs => fr523 kx hs hl)) hs)
      have hS695 := hS679.extL lo_als0 e689 (fun kx hs hl => (fun hor => Or.elim hor (fun hs => fr517 kx hs hl) (fun hs => fr523 kx hs hl)) hs)
      have hO696 := hO680.ext e689 (fun kx hk hs => (fun hor => Or.elim hor (fun hs => (fun kx h1 h2 => dj515 kx h2 h1) kx hs hk) (fun hs => (fun kx h1 h2 => dj521 kx h2 h1) kx hs hk)) hs)
      have hO697 := hO681.ext e689 (fun kx hk hs => (fun hor => Or.elim hor (fun hs => (fun kx h1 h2 => dj516 kx h2 h1) kx hs hk) (fun hs => (fun kx h1 h2 => dj522 kx h2 h1) kx hs hk)) hs)
      have hO698 := hO684.ext e689 (fun kx hk hs => (fun hor => Or.elim hor (fun hs => dj633 kx hs hk) (fun hs => dj634 kx hs hk)) hs)
      have hO699 := hO685.ext e689 (fun kx hk hs => (fun hor => Or.elim hor (fun hs => dj642 kx hs hk) (fun hs => dj643 kx hs hk)) hs)
      have E700 := E686.fresh e689 (fun kx hs hl => (fun hor => Or.elim hor (fun hs => (fr517 kx hs hl).elim) (fun hs => (fr523 kx hs hl).elim)) hs)
      refine s_y (v := .int .i64 (1 + ((nsp0 : Nat) : Int) + ((nls0 : Nat) : Int))) rfl (y_assign rfl) ?_
      refine s_nil ?_
      refine W_seq ?_
      refine W_seq ?_
      refine W_region (by kernel_rfl) ?_
      refine s_y (v := .int .i64 (1 + ((nsp0 : Nat) : Int) + ((nls0 : Nat) : Int))) rfl (y_move rfl) ?_
      by_cases c701 : (1 + ((nsp0 : Nat) : Int) + ((nls0 : Nat) : Int)) < 0
      · refine s_y (v := .bool true) rfl (y_lss rfl rfl (decide_eq_true c701)) ?_
        refine s_y (v := .bool true) rfl (y_move rfl) ?_
        refine s_skip rfl ?_
        refine s_skip rfl ?_
        refine s_skip rfl ?_
        refine s_skip rfl ?_
        refine s_y (v := .bool true) rfl (y_pick_t rfl rfl) ?_
        refine s_y (v := .bool true) rfl (y_move rfl) ?_
        refine s_skip rfl ?_
        refine s_skip rfl ?_
        refine s_skip rfl ?_
        refine s_y (v := .bool true) rfl (y_pick_t rfl rfl) ?_
        refine s_nil ?_
        refine W_if_t (by decide) rfl ?_
        refine W_seq ?_
        refine W_region (by kernel_rfl) ?_
        refine s_y (v := .bool false) rfl (y_assign rfl) ?_
        refine s_nil ?_
        refine W_ret ?_
        refine ret1 rfl rfl rfl ⟨_, rfl, ?_⟩
        exfalso; omega
      · refine s_y (v := .bool false) rfl (y_lss rfl rfl (decide_eq_false c701)) ?_
        refine s_y (v := .bool false) rfl (y_move rfl) ?_
        refine s_y (v := .slice none 0 0) rfl (y_move rfl) ?_
        refine s_y (v := .slice none 0 0) rfl (y_move rfl) ?_
        refine s_k rfl (k_call T13.fn_54 (c_l_eqInt64S (x := []) (n := 0) (m := 0) _ (Sl.nil _ none : Sl _ none (flat inC [])) rfl (Sl.nil _ none : Sl _ none (flat inC [])) rfl (by decide)) rfl ?_)
        rintro _ w702 ⟨rfl, e703⟩
        have hB704 := hB692.ext0 e703
        have hB705 := hB693.ext0 e703
        have hS706 := hS694.ext0 e703
        have hS707 := hS695.ext0 e703
        have hO708 := hO696.ext0 e703
        have hO709 := hO697.ext0 e703
        have hO710 := hO690.ext0 e703
        have hO711 := hO691.ext0 e703
        have hO712 := hO698.ext0 e703
        have hO713 := hO699.ext0 e703
        have E714 := E700.fresh e703 (fun _ h _ => h.elim)
        refine s_y (v := .bool false) rfl (y_not rfl rfl) ?_
        refine s_y (v := .bool false) rfl (y_pick_f rfl rfl) ?_
        refine s_y (v := .bool false) rfl (y_move rfl) ?_
        refine s_y (v := .bool false) rfl (y_move rfl) ?_
        refine s_y (v := .bool false) rfl (y_move rfl) ?_
        refine s_y (v := .bool false) rfl (y_bneq T13.bool_4 rfl rfl rfl) ?_
        refine s_y (v := .bool false) rfl (y_pick_f rfl rfl) ?_
        refine s_nil ?_
        refine W_if_f (by decide) rfl ?_
        refine W_skip ?_
        refine W_seq ?_
        refine W_region (by kernel_rfl) ?_
        refine s_y (v := .int .i64 1) rfl (y_assign rfl) ?_
        refine s_nil ?_
        refine W_seq ?_
        refine W_region (by kernel_rfl) ?_
        refine s_y (v := .slice none 0 0) rfl (y_move rfl) ?_
        refine s_y (v := .int .i64 1) rfl (y_move rfl) ?_
        refine s_k rfl (k_call T13.fn_55 (c_l_markInt64S (x := []) (n := 0) (k := 1) _ (Own.nil _ 0 2 1 : Own _ 0 none 0 0 2 1 (flat inC [])) rfl (by decide) (by omega) (by omega)) rfl ?_)
        rintro _ w715 ⟨rfl, hO717, e716⟩
        have hB718 := hB704.ext0 e716.none
        have hB719 := hB705.ext0 e716.none
        have hS720 := hS706.ext0 e716.none
        have hS721 := hS707.ext0 e716.none
        have hO722 := hO708.ext0 e716.none
        have hO723 := hO709.ext0 e716.none
        have hO724 := hO710.ext0 e716.none
        have hO725 := hO711.ext0 e716.none
        have hO726 := hO712.ext0 e716.none
        have hO727 := hO713.ext0 e716.none
        have E728 := E714.fresh e716.none (fun _ h _ => h.elim)
        refine s_y (v := .int .i64 (1 + ((0 : Nat) : Int))) rfl (y_assign rfl) ?_
        refine s_nil ?_
        refine W_seq ?_
        refine W_region (by kernel_rfl) ?_
        refine s_y (v := .int .i64 1) rfl (y_assign rfl) ?_
        refine s_nil ?_
        refine W_seq ?_
        refine W_region (by kernel_rfl) ?_
        refine s_y (v := .slice none 0 0) rfl (y_move rfl) ?_
        refine s_y (v := .int .i64 1) rfl (y_move rfl) ?_
        refine s_k rfl (k_call T13.fn_56 (c_l_heldInt64S (n := 0) (k := 1) _ (Sl.nil _ none : Sl _ none (flat inC (imarks 1 0))) (by decide) (by omega) (by omega)) rfl ?_)
        rintro _ w729 ⟨rfl, e730⟩
        have hB731 := hB718.ext0 e730
        have hB732 := hB719.ext0 e730
        have hS733 := hS720.ext0 e730
        have hS734 := hS721.ext0 e730
        have hO735 := hO722.ext0 e730
        have hO736 := hO723.ext0 e730
        have hO737 := hO724.ext0 e730
        have hO738 := hO725.ext0 e730
        have hO739 := hO726.ext0 e730
        have hO740 := hO727.ext0 e730
        have E741 := E728.fresh e730 (fun _ h _ => h.elim)
        refine s_y (v := .int .i64 (1 + ((0 : Nat) : Int))) rfl (y_assign rfl) ?_
        refine s_nil ?_
        refine W_seq ?_
        refine W_seq ?_
        refine W_region (by kernel_rfl) ?_
        refine s_y (v := .int .i64 (1 + ((0 : Nat) : Int))) rfl (y_move rfl) ?_
        by_cases c742 : (1 + ((0 : Nat) : Int)) < 0
        · refine s_y (v := .bool true) rfl (y_lss rfl rfl (decide_eq_true c742)) ?_
          refine s_nil ?_
          refine W_if_t (by decide) rfl ?_
          refine W_seq ?_
          refine W_region (by kernel_rfl) ?_
          refine s_y (v := .bool false) rfl (y_assign rfl) ?_
          refine s_nil ?_
          refine W_ret ?_
          refine ret1 rfl rfl rfl ⟨_, rfl, ?_⟩
          exfalso; omega
        · refine s_y (v := .bool false) rfl (y_lss rfl rfl (decide_eq_false c742)) ?_
          refine s_nil ?_
          refine W_if_f (by decide) rfl ?_
          refine W_skip ?_
          refine W_seq ?_
          refine W_seq ?_
          refine W_region (by kernel_rfl) ?_
          refine s_y (v := .int .i64 (1 + ((0 : Nat) : Int))) rfl (y_move rfl) ?_
          refine s_y (v := .int .i64 (1 + ((0 : Nat) : Int))) rfl (y_move rfl) ?_
          refine s_y (v := .bool false) rfl (y_neq rfl rfl (decide_eq_false (fun hq => hq rfl))) ?_
          refine s_nil ?_
          refine W_if_f (by decide) rfl ?_
          refine W_skip ?_
          refine W_seq ?_
          refine W_region (by kernel_rfl) ?_
          refine s_y (v := .agg #[.int .i64 wd0, .int .i64 hi0, .bool wr0, .slice asp0 nsp0 csp0, .slice als0 nls0 cls0]) rfl (y_loadn (b := b1) (o := 0) (vs := [.int .i64 wd0, .int .i64 hi0, .bool wr0, .slice asp0 nsp0 csp0, .slice als0 nls0 cls0]) T13.agg_36_5 rfl rfl (hB731.cells (o := 0) rfl)) ?_
          refine s_k rfl (k_call T13.fn_23 (c_l_toSheet _ hS733 qlsp0 qksp0 hS734 qlls0 qkls0 (by omega) (by omega)) rfl ?_)
          rintro _ w743 ⟨⟨a745, c746, z747, a748, c749, z750, rfl, hO751, hl752, hc753, hO754, hl755, hc756, dj757⟩, e744⟩
          have hB758 := hB731.ext0 e744
          have hB759 := hB732.ext0 e744
          have hS760 := hS733.ext0 e744
          have hS761 := hS734.ext0 e744
          have hO762 := hO735.ext0 e744
          have hO763 := hO736.ext0 e744
          have hO764 := hO737.ext0 e744
          have hO765 := hO738.ext0 e744
          have hO766 := hO739.ext0 e744
          have hO767 := hO740.ext0 e744
          have E768 := E741.fresh e744 (fun _ h _ => h.elim)
          have d769 : ∀ k, inA a745 k → w729.heap.size ≤ k := fun kx hk => (hO751.blk kx hk).1
          have dj770 : inA a745 b1 → False := fun h => Nat.not_lt.2 (d769 _ h) hB731.lt
          have dj771 : inA a745 b525 → False := fun h => Nat.not_lt.2 (d769 _ h) hB732.lt
          have dj772 : ∀ k, inA a22 k → inA a745 k → False := fun kx h1 h2 => Nat.not_lt.2 (d769 kx h2) (hO735.blk kx h1).2
          have dj773 : ∀ k, inA a25 k → inA a745 k → False := fun kx h1 h2 => Nat.not_lt.2 (d769 kx h2) (hO736.blk kx h1).2
          have dj774 : ∀ k, inA a494 k → inA a745 k → False := fun kx h1 h2 => Nat.not_lt.2 (d769 kx h2) (hO737.blk kx h1).2
          have dj775 : ∀ k, inA a497 k → inA a745 k → False := fun kx h1 h2 => Nat.not_lt.2 (d769 kx h2) (hO738.blk kx h1).2
          have dj776 : ∀ k, inA a605 k → inA a745 k → False := fun kx h1 h2 => Nat.not_lt.2 (d769 kx h2) (hO739.blk kx h1).2
          have dj777 : ∀ k, inA a608 k → inA a745 k → False := fun kx h1 h2 => Nat.not_lt.2 (d769 kx h2) (hO740.blk kx h1).2
          have fr778 : ∀ k, inA a745 k → k < w.heap.size → False := fun kx h1 h2 => Nat.not_lt.2 (Nat.le_trans E741.size (d769 kx h1)) h2
          have hO779 := hO751.base E741.size
          have d780 : ∀ k, inA a748 k → w729.heap.size ≤ k := fun kx hk => (hO754.blk kx hk).1
          have dj781 : inA a748 b1 → False := fun h => Nat.not_lt.2 (d780 _ h) hB731.lt
          have dj782 : inA a748 b525 → False := fun h => Nat.not_lt.2 (d780 _ h) hB732.lt
          have dj783 : ∀ k, inA a22 k → inA a748 k → False := fun kx h1 h2 => Nat.not_lt.2 (d780 kx h2) (hO735.blk kx h1).2
          have dj784 : ∀ k, inA a25 k → inA a748 k → False := fun kx h1 h2 => Nat.not_lt.2 (d780 kx h2) (hO736.blk kx h1).2
          have dj785 : ∀ k, inA a494 k → inA a748 k → False := fun kx h1 h2 => Nat.not_lt.2 (d780 kx h2) (hO737.blk kx h1).2
          have dj786 : ∀ k, inA a497 k → inA a748 k → False := fun kx h1 h2 => Nat.not_lt.2 (d780 kx h2) (hO738.blk kx h1).2
          have dj787 : ∀ k, inA a605 k → inA a748 k → False := fun kx h1 h2 => Nat.not_lt.2 (d780 kx h2) (hO739.blk kx h1).2
          have dj788 : ∀ k, inA a608 k → inA a748 k → False := fun kx h1 h2 => Nat.not_lt.2 (d780 kx h2) (hO740.blk kx h1).2
          have fr789 : ∀ k, inA a748 k → k < w.heap.size → False := fun kx h1 h2 => Nat.not_lt.2 (Nat.le_trans E741.size (d780 kx h1)) h2
          have hO790 := hO754.base E741.size
          refine s_y (v := .int .i64 i1) rfl (y_move rfl) ?_
          refine s_y (v := .int .i64 i2) rfl (y_move rfl) ?_
          refine s_y (v := .int .i64 i3) rfl (y_move rfl) ?_
          refine s_k rfl (k_call T13.fn_53 (c_i_ReachOf _ hO779.sl hl752 hc753 hO790.sl hl755 hc756 (by omega) (by omega)) rfl ?_)
          rintro vhx793 w791 ⟨hx793, e792⟩
          have hB794 := hB758.ext0 e792
          have hB795 := hB759.ext0 e792
          have hS796 := hS760.ext0 e792
          have hS797 := hS761.ext0 e792
          have hO798 := hO762.ext0 e792
          have hO799 := hO763.ext0 e792
          have hO800 := hO764.ext0 e792
          have hO801 := hO765.ext0 e792
          have hO802 := hO766.ext0 e792
          have hO803 := hO767.ext0 e792
          have hO804 := hO779.ext0 e792
          have hO805 := hO790.ext0 e792
          have E806 := E768.fresh e792 (fun _ h _ => h.elim)
          obtain ⟨_, rfl⟩ := hx793.resolve_left (fun hz => c56 hz.1)
          clear hx793
          refine s_y (v := .tuple #[.slice none 0 0, .bool false]) rfl (y_move rfl) ?_
          refine s_y (v := .slice none 0 0) rfl (y_extract rfl rfl) ?_
          refine s_y (v := .bool false) rfl (y_extract rfl rfl) ?_
          refine s_y (v := .slice none 0 0) rfl (y_assign rfl) ?_
          refine s_y (v := .bool false) rfl (y_assign rfl) ?_
          refine s_nil ?_
          refine W_seq ?_
          refine W_seq ?_
          refine W_region (by kernel_rfl) ?_
          refine s_y (v := .slice none 0 0) rfl (y_move rfl) ?_
          refine s_y (v := .slice none 0 0) rfl (y_move rfl) ?_
          refine s_k rfl (k_call T13.fn_54 (c_l_eqInt64S (x := []) (n := 0) (m := 0) _ (Sl.nil _ none : Sl _ none (flat inC [])) rfl (Sl.nil _ none : Sl _ none (flat inC [])) rfl (by decide)) rfl ?_)
          rintro _ w807 ⟨rfl, e808⟩
          have hB809 := hB794.ext0 e808
          have hB810 := hB795.ext0 e808
          have hS811 := hS796.ext0 e808
          have hS812 := hS797.ext0 e808
          have hO813 := hO798.ext0 e808
          have hO814 := hO799.ext0 e808
          have hO815 := hO800.ext0 e808
          have hO816 := hO801.ext0 e808
          have hO817 := hO802.ext0 e808
          have hO818 := hO803.ext0 e808
          have hO819 := hO804.ext0 e808
          have hO820 := hO805.ext0 e808
          have E821 := E806.fresh e808 (fun _ h _ => h.elim)
          refine s_y (v := .bool false) rfl (y_not rfl rfl) ?_
          refine s_y (v := .bool false) rfl (y_move rfl) ?_
          refine s_y (v := .bool false) rfl (y_move rfl) ?_
          refine s_y (v := .bool false) rfl (y_move rfl) ?_
          refine s_y (v := .bool false) rfl (y_bneq T13.bool_4 rfl rfl rfl) ?_
          refine s_y (v := .bool false) rfl (y_pick_f rfl rfl) ?_
          refine s_nil ?_
          refine W_if_f (by decide) rfl ?_
          refine W_skip ?_
          refine W_seq ?_
          refine W_region (by kernel_rfl) ?_
          refine s_y (v := .int .i64 1) rfl (y_assign rfl) ?_
          refine s_nil ?_
          refine W_seq ?_
          refine W_region (by kernel_rfl) ?_
          refine s_y (v := .slice none 0 0) rfl (y_move rfl) ?_
          refine s_y (v := .int .i64 1) rfl (y_move rfl) ?_
          refine s_k rfl (k_call T13.fn_56 (c_l_heldInt64S (n := 0) (k := 1) _ (Sl.nil _ none : Sl _ none (flat inC (imarks 1 0))) (by decide) (by omega) (by omega)) rfl ?_)
          rintro _ w822 ⟨rfl, e823⟩
          have hB824 := hB809.ext0 e823
          have hB825 := hB810.ext0 e823
          have hS826 := hS811.ext0 e823
          have hS827 := hS812.ext0 e823
          have hO828 := hO813.ext0 e823
          have hO829 := hO814.ext0 e823
          have hO830 := hO815.ext0 e823
          have hO831 := hO816.ext0 e823
          have hO832 := hO817.ext0 e823
          have hO833 := hO818.ext0 e823
          have hO834 := hO819.ext0 e823
          have hO835 := hO820.ext0 e823
          have E836 := E821.fresh e823 (fun _ h _ => h.elim)
          refine s_y (v := .int .i64 (1 + ((0 : Nat) : Int))) rfl (y_assign rfl) ?_
          refine s_nil ?_
          refine W_seq ?_
          refine W_seq ?_
          refine W_region (by kernel_rfl) ?_
          refine s_y (v := .int .i64 (1 + ((0 : Nat) : Int))) rfl (y_move rfl) ?_
          refine s_y (v := .bool false) rfl (y_lss rfl rfl (decide_eq_false c742)) ?_
          refine s_nil ?_
          refine W_if_f (by decide) rfl ?_
          refine W_skip ?_
          refine W_seq ?_
          refine W_seq ?_
          refine W_region (by kernel_rfl) ?_
          refine s_y (v := .int .i64 (1 + ((0 : Nat) : Int))) rfl (y_move rfl) ?_
          refine s_y (v := .int .i64 (1 + ((0 : Nat) : Int))) rfl (y_move rfl) ?_
          refine s_y (v := .bool false) rfl (y_neq rfl rfl (decide_eq_false (fun hq => hq rfl))) ?_
          refine s_nil ?_
          refine W_if_f (by decide) rfl ?_
          refine W_skip ?_
          refine W_seq ?_
          refine W_region (by kernel_rfl) ?_
          refine s_y (v := .bool true) rfl (y_assign rfl) ?_
          refine s_nil ?_
          refine W_ret ?_
          refine ret1 rfl rfl rfl ⟨_, rfl, ?_⟩
          exact ⟨rfl, E836⟩
  · obtain rfl : v12 = .int .i64 (-1) := hv13.trans (congrArg _ (if_neg c18))
    refine s_y (v := .int .i64 (-1)) rfl (y_assign rfl) ?_
    refine s_nil ?_
    refine W_seq ?_
    refine W_seq ?_
    refine W_region (by kernel_rfl) ?_
    refine s_y (v := .int .i64 (-1)) rfl (y_move rfl) ?_
    have hk837 : (-1 : Int) < 0 := (by decide)
    refine s_y (v := .bool true) rfl (y_lss rfl rfl (decide_eq_true hk837)) ?_
    refine s_nil ?_
    refine W_if_t (by decide) rfl ?_
    refine W_seq ?_
    refine W_region (by kernel_rfl) ?_
    refine s_y (v := .bool true) rfl (y_assign rfl) ?_
    refine s_nil ?_
    refine W_ret ?_
    refine ret1 rfl rfl rfl ⟨_, rfl, ?_⟩
    exact ⟨rfl, E17⟩
end Go.Proofs.Ytcggpjocghigcaa
