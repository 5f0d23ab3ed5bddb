/- Walks: what the functions under FnExactValueAt do (part 3). Printed by a program of this claim's author. -/
import Derived.Test.YtcggpjocghigcaaExactValueAtW1
set_option linter.unusedSimpArgs false
set_option linter.unusedVariables false
open Go.Wv
namespace Go.Proofs.Ytcggpjocghigcaa
open Go.Proofs
namespace T10
theorem mx : Try.prog.follows .mixedOrders = true := by kernel_rfl
theorem agg_26_5 : aggB Try.prog 26 5 = true := by kernel_rfl
theorem agg_36_5 : aggB Try.prog 36 5 = true := by kernel_rfl
theorem agg_60_3 : aggB Try.prog 60 3 = true := by kernel_rfl
theorem agg_65_3 : aggB Try.prog 65 3 = true := by kernel_rfl
theorem bool_4 : Try.prog.underlying 4 = some .bool := by kernel_rfl
theorem flt_68_f64 : Try.prog.underlying 68 = some (.float .f64) := by kernel_rfl
theorem fn_21 : fnB Try.prog 21 = true := by kernel_rfl
theorem fn_23 : fnB Try.prog 23 = true := by kernel_rfl
theorem fn_25 : fnB Try.prog 25 = true := by kernel_rfl
theorem fn_41 : fnB Try.prog 41 = true := by kernel_rfl
theorem fn_42 : fnB Try.prog 42 = true := by kernel_rfl
theorem fn_43 : fnB Try.prog 43 = true := by kernel_rfl
theorem fn_44 : fnB Try.prog 44 = true := by kernel_rfl
theorem fn_45 : fnB Try.prog 45 = true := by kernel_rfl
theorem fn_46 : fnB Try.prog 46 = true := by kernel_rfl
theorem sz_26_5 : szB Try.prog 26 5 = true := by kernel_rfl
theorem sz_65_3 : szB Try.prog 65 3 = true := by kernel_rfl
theorem und_62 : (Try.prog.underlying 62).isSome = true := by kernel_rfl
theorem zero_26 : zeroB Try.prog 26 (.agg #[.int .i64 0, .int .i64 0, .bool false, .slice none 0 0, .slice none 0 0]) := by unfold zeroB; kernel_rfl
theorem zero_65 : zeroB Try.prog 65 (.agg #[.slice none 0 0, .slice none 0 0, .slice none 0 0]) := by unfold zeroB; kernel_rfl
end T10
set_option maxRecDepth 100000 in
set_option maxHeartbeats 4000000 in
theorem c_FnExactValueAt {wd0 hi0 : Int} {wr0 : Bool} {asp0 : Option Addr} {nsp0 csp0 : Nat} {xsp0 Xsp0 : List Nat} {als0 : Option Addr} {nls0 cls0 : Nat} {xls0 Xls0 : List Nat} {afe1 : Option Addr} {nfe1 cfe1 : Nat} {xfe1 Xfe1 : List Nat} {afx1 : Option Addr} {nfx1 cfx1 : Nat} {xfx1 Xfx1 : List Nat} {afy1 : Option Addr} {nfy1 cfy1 : Nat} {xfy1 Xfy1 : List Nat} {i2 i3 : Int} (w : World) (qssp0 : Sl w asp0 (flts xsp0)) (qlsp0 : xsp0.length = nsp0) (qksp0 : cn xsp0 = Xsp0) (qsls0 : Sl w als0 (flts xls0)) (qlls0 : xls0.length = nls0) (qkls0 : cn xls0 = Xls0) (g1 : nsp0 ≤ 9223372036854775807) (g2 : nls0 ≤ 9223372036854775807) (qsfe1 : Sl w afe1 (flts xfe1)) (qlfe1 : xfe1.length = nfe1) (qkfe1 : cn xfe1 = Xfe1) (qsfx1 : Sl w afx1 (flts xfx1)) (qlfx1 : xfx1.length = nfx1) (qkfx1 : cn xfx1 = Xfx1) (qsfy1 : Sl w afy1 (flts xfy1)) (qlfy1 : xfy1.length = nfy1) (qkfy1 : cn xfy1 = Xfy1) (gfe1 : nfe1 ≤ 9223372036854775807) (gfx1 : nfx1 ≤ 9223372036854775807) (gfy1 : nfy1 ≤ 9223372036854775807) :
    Calls Try.prog 10 #[.agg #[.int .i64 wd0, .int .i64 hi0, .bool wr0, .slice asp0 nsp0 csp0, .slice als0 nls0 cls0], .agg #[.slice afe1 nfe1 cfe1, .slice afx1 nfx1 cfx1, .slice afy1 nfy1 cfy1], .int .i64 i2, .int .i64 i3] w (Rt fun v w' => v = .bool true ∧ Ext no w w') := by
  have E0 : Ext no w w := Ext.refl _ _
  have hlP0 : Xsp0.length = nsp0 := (cn_lenX qksp0).trans qlsp0
  have hlL0 : Xls0.length = nls0 := (cn_lenX qkls0).trans qlls0
  have hlfe1 : Xfe1.length = nfe1 := (cn_lenX qkfe1).trans qlfe1
  have hlfx1 : Xfx1.length = nfx1 := (cn_lenX qkfx1).trans qlfx1
  have hlfy1 : Xfy1.length = nfy1 := (cn_lenX qkfy1).trans qlfy1
  have lo_asp0 := Sl.low qssp0
  have lo_als0 := Sl.low qsls0
  have lo_afe1 := Sl.low qsfe1
  have lo_afx1 := Sl.low qsfx1
  have lo_afy1 := Sl.low qsfy1
  refine calls_W (n := 69) Try.func10 rfl rfl (Nat.le_of_ble_eq_true rfl) ?_
  refine W_seq ?_
  refine W_region (by kernel_rfl) ?_
  refine s_k rfl (k_box (v := .agg #[.int .i64 wd0, .int .i64 hi0, .bool wr0, .slice asp0 nsp0 csp0, .slice als0 nls0 cls0]) (cs := [.int .i64 wd0, .int .i64 hi0, .bool wr0, .slice asp0 nsp0 csp0, .slice als0 nls0 cls0]) rfl rfl (fun b1 w2 q4 e3 hB5 => ?_))
  have hS6 := qssp0.ext0 e3
  have hS7 := qsls0.ext0 e3
  have hS8 := qsfe1.ext0 e3
  have hS9 := qsfx1.ext0 e3
  have hS10 := qsfy1.ext0 e3
  have E11 := E0.fresh e3 (fun _ h _ => h.elim)
  have fr12 : NotLt b1 w.heap.size := fun h => Nat.not_lt.2 (Nat.le_trans E0.size (Nat.le_of_eq q4.symm)) h
  clear q4
  refine s_k rfl (k_box (v := .agg #[.slice afe1 nfe1 cfe1, .slice afx1 nfx1 cfx1, .slice afy1 nfy1 cfy1]) (cs := [.slice afe1 nfe1 cfe1, .slice afx1 nfx1 cfx1, .slice afy1 nfy1 cfy1]) rfl rfl (fun b13 w14 q16 e15 hB17 => ?_))
  have hB18 := hB5.ext0 e15
  have hS19 := hS6.ext0 e15
  have hS20 := hS7.ext0 e15
  have hS21 := hS8.ext0 e15
  have hS22 := hS9.ext0 e15
  have hS23 := hS10.ext0 e15
  have E24 := E11.fresh e15 (fun _ h _ => h.elim)
  have dj25 : NeB b1 b13 := fun h => Nat.ne_of_lt hB5.lt (h.trans q16)
  have fr26 : NotLt b13 w.heap.size := fun h => Nat.not_lt.2 (Nat.le_trans E11.size (Nat.le_of_eq q16.symm)) h
  clear q16
  refine s_y (v := .bool false) rfl (y_assign rfl) ?_
  refine s_nil ?_
  refine W_seq ?_
  refine W_region (by kernel_rfl) ?_
  refine s_y (v := .int .i64 1048576) rfl (y_assign rfl) ?_
  refine s_nil ?_
  refine W_seq ?_
  refine W_region (by kernel_rfl) ?_
  refine s_y (v := .agg #[.int .i64 wd0, .int .i64 hi0, .bool wr0, .slice asp0 nsp0 csp0, .slice als0 nls0 cls0]) rfl (y_loadn (b := b1) (o := 0) (vs := [.int .i64 wd0, .int .i64 hi0, .bool wr0, .slice asp0 nsp0 csp0, .slice als0 nls0 cls0]) T10.agg_36_5 rfl rfl (hB18.cells (o := 0) rfl)) ?_
  refine s_y (v := .int .i64 1048576) rfl (y_move rfl) ?_
  refine s_k rfl (k_call T10.fn_21 (c_l_szSheet _ (by omega) (by omega) (by omega) (by omega)) rfl ?_)
  rintro v29 w27 ⟨hv30, e28⟩
  have hB31 := hB18.ext0 e28
  have hB32 := hB17.ext0 e28
  have hS33 := hS19.ext0 e28
  have hS34 := hS20.ext0 e28
  have hS35 := hS21.ext0 e28
  have hS36 := hS22.ext0 e28
  have hS37 := hS23.ext0 e28
  have E38 := E24.fresh e28 (fun _ h _ => h.elim)
  by_cases c39 : ((nsp0 : Nat) : Int) + ((nls0 : Nat) : Int) ≤ 1048576
  · obtain rfl : v29 = .int .i64 (1048576 - ((nsp0 : Nat) : Int) - ((nls0 : Nat) : Int)) := hv30.trans (congrArg _ (if_pos c39))
    have hk40 : ¬ (1048576 - ((nsp0 : Nat) : Int) - ((nls0 : Nat) : Int)) < 0 := by omega
    refine s_y (v := .int .i64 (1048576 - ((nsp0 : Nat) : Int) - ((nls0 : Nat) : Int))) rfl (y_assign rfl) ?_
    refine s_nil ?_
    refine W_seq ?_
    refine W_seq ?_
    refine W_region (by kernel_rfl) ?_
    refine s_y (v := .int .i64 (1048576 - ((nsp0 : Nat) : Int) - ((nls0 : Nat) : Int))) rfl (y_move rfl) ?_
    refine s_y (v := .bool false) rfl (y_lss rfl rfl (decide_eq_false hk40)) ?_
    refine s_nil ?_
    refine W_if_f (by decide) rfl ?_
    refine W_skip ?_
    refine W_seq ?_
    refine W_region (by kernel_rfl) ?_
    refine s_y (v := .agg #[.slice afe1 nfe1 cfe1, .slice afx1 nfx1 cfx1, .slice afy1 nfy1 cfy1]) rfl (y_loadn (b := b13) (o := 0) (vs := [.slice afe1 nfe1 cfe1, .slice afx1 nfx1 cfx1, .slice afy1 nfy1 cfy1]) T10.agg_60_3 rfl rfl (hB32.cells (o := 0) rfl)) ?_
    refine s_y (v := .int .i64 (1048576 - ((nsp0 : Nat) : Int) - ((nls0 : Nat) : Int))) rfl (y_move rfl) ?_
    refine s_k rfl (k_call T10.fn_41 (c_l_szField _ (by omega) (by omega) (by omega) (by omega) (by omega)) rfl ?_)
    rintro v43 w41 ⟨hv44, e42⟩
    have hB45 := hB31.ext0 e42
    have hB46 := hB32.ext0 e42
    have hS47 := hS33.ext0 e42
    have hS48 := hS34.ext0 e42
    have hS49 := hS35.ext0 e42
    have hS50 := hS36.ext0 e42
    have hS51 := hS37.ext0 e42
    have E52 := E38.fresh e42 (fun _ h _ => h.elim)
    by_cases c53 : ((nfe1 : Nat) : Int) + ((nfx1 : Nat) : Int) + ((nfy1 : Nat) : Int) ≤ 1048576 - ((nsp0 : Nat) : Int) - ((nls0 : Nat) : Int)
    · obtain rfl : v43 = .int .i64 ((1048576 - ((nsp0 : Nat) : Int) - ((nls0 : Nat) : Int)) - ((nfe1 : Nat) : Int) - ((nfx1 : Nat) : Int) - ((nfy1 : Nat) : Int)) := hv44.trans (congrArg _ (if_pos c53))
      have hk54 : ¬ ((1048576 - ((nsp0 : Nat) : Int) - ((nls0 : Nat) : Int)) - ((nfe1 : Nat) : Int) - ((nfx1 : Nat) : Int) - ((nfy1 : Nat) : Int)) < 0 := by omega
      refine s_y (v := .int .i64 ((1048576 - ((nsp0 : Nat) : Int) - ((nls0 : Nat) : Int)) - ((nfe1 : Nat) : Int) - ((nfx1 : Nat) : Int) - ((nfy1 : Nat) : Int))) rfl (y_assign rfl) ?_
      refine s_nil ?_
      refine W_seq ?_
      refine W_seq ?_
      refine W_region (by kernel_rfl) ?_
      refine s_y (v := .int .i64 ((1048576 - ((nsp0 : Nat) : Int) - ((nls0 : Nat) : Int)) - ((nfe1 : Nat) : Int) - ((nfx1 : Nat) : Int) - ((nfy1 : Nat) : Int))) rfl (y_move rfl) ?_
      refine s_y (v := .bool false) rfl (y_lss rfl rfl (decide_eq_false hk54)) ?_
      refine s_nil ?_
      refine W_if_f (by decide) rfl ?_
      refine W_skip ?_
      refine W_seq ?_
      refine W_draw (no) T10.mx (by kernel_rfl) (fun w55 e56 => ?_)
      have hB57 := hB45.ext0 e56
      have hB58 := hB46.ext0 e56
      have hS59 := hS47.ext0 e56
      have hS60 := hS48.ext0 e56
      have hS61 := hS49.ext0 e56
      have hS62 := hS50.ext0 e56
      have hS63 := hS51.ext0 e56
      have E64 := E52.fresh e56 (fun _ h _ => h.elim)
      have R65 := (Ext.refl (no) w41).trans (Ext0.any e56)
      refine m_y (v := .agg #[.int .i64 wd0, .int .i64 hi0, .bool wr0, .slice asp0 nsp0 csp0, .slice als0 nls0 cls0]) 0 rfl (by kernel_rfl) rfl rfl (fun w' e' => y_loadn (b := b1) (o := 0) (vs := [.int .i64 wd0, .int .i64 hi0, .bool wr0, .slice asp0 nsp0 csp0, .slice als0 nls0 cls0]) T10.agg_36_5 rfl rfl ((hB45.ext0 e').cells (o := 0) rfl)) ?_
      refine m_y (v := .agg #[.slice afe1 nfe1 cfe1, .slice afx1 nfx1 cfx1, .slice afy1 nfy1 cfy1]) 2 rfl (by kernel_rfl) rfl rfl (fun w' e' => y_loadn (b := b13) (o := 0) (vs := [.slice afe1 nfe1 cfe1, .slice afx1 nfx1 cfx1, .slice afy1 nfy1 cfy1]) T10.agg_60_3 rfl rfl ((hB46.ext0 e').cells (o := 0) rfl)) ?_
      refine m_y (v := .int .i64 i2) 4 rfl (by kernel_rfl) rfl rfl (fun w' e' => y_move rfl) ?_
      refine m_y (v := .int .i64 i3) 5 rfl (by kernel_rfl) rfl rfl (fun w' e' => y_move rfl) ?_
      refine m_k 1 [3, 6, 7, 8, 9, 10, 11] rfl (by kernel_rfl) rfl rfl (fun w66 e67 => ?_)
      have hB68 := hB57.ext0 e67
      have hB69 := hB58.ext0 e67
      have hS70 := hS59.ext0 e67
      have hS71 := hS60.ext0 e67
      have hS72 := hS61.ext0 e67
      have hS73 := hS62.ext0 e67
      have hS74 := hS63.ext0 e67
      have E75 := E64.fresh e67 (fun _ h _ => h.elim)
      have R76 := R65.trans (Ext0.any e67)
      refine k_call T10.fn_23 (c_l_toSheet _ hS70 qlsp0 qksp0 hS71 qlls0 qkls0 (by omega) (by omega)) rfl ?_
      rintro _ w77 ⟨⟨a79, c80, z81, a82, c83, z84, rfl, hO85, hl86, hc87, hO88, hl89, hc90, dj91⟩, e78⟩
      have hB92 := hB68.ext0 e78
      have hB93 := hB69.ext0 e78
      have hS94 := hS70.ext0 e78
      have hS95 := hS71.ext0 e78
      have hS96 := hS72.ext0 e78
      have hS97 := hS73.ext0 e78
      have hS98 := hS74.ext0 e78
      have E99 := E75.fresh e78 (fun _ h _ => h.elim)
      have R100 := R76.trans (Ext0.any e78)
      refine ⟨fun _ => R100, ?_⟩
      have d101 : ∀ k, inA a79 k → w66.heap.size ≤ k := fun kx hk => (hO85.blk kx hk).1
      have dj102 : inA a79 b1 → False := fun h => Nat.not_lt.2 (d101 _ h) hB68.lt
      have dj103 : inA a79 b13 → False := fun h => Nat.not_lt.2 (d101 _ h) hB69.lt
      have fr104 : ∀ k, inA a79 k → k < w.heap.size → False := fun kx h1 h2 => Nat.not_lt.2 (Nat.le_trans E75.size (d101 kx h1)) h2
      have hO105 := hO85.base E75.size
      have d106 : ∀ k, inA a82 k → w66.heap.size ≤ k := fun kx hk => (hO88.blk kx hk).1
      have dj107 : inA a82 b1 → False := fun h => Nat.not_lt.2 (d106 _ h) hB68.lt
      have dj108 : inA a82 b13 → False := fun h => Nat.not_lt.2 (d106 _ h) hB69.lt
      have fr109 : ∀ k, inA a82 k → k < w.heap.size → False := fun kx h1 h2 => Nat.not_lt.2 (Nat.le_trans E75.size (d106 kx h1)) h2
      have hO110 := hO88.base E75.size
      refine m_k 3 [6, 7, 8, 9, 10, 11] rfl (by kernel_rfl) rfl rfl (fun w111 e112 => ?_)
      have hB113 := hB92.ext0 e112
      have hB114 := hB93.ext0 e112
      have hS115 := hS94.ext0 e112
      have hS116 := hS95.ext0 e112
      have hS117 := hS96.ext0 e112
      have hS118 := hS97.ext0 e112
      have hS119 := hS98.ext0 e112
      have hO120 := hO105.ext0 e112
      have hO121 := hO110.ext0 e112
      have E122 := E99.fresh e112 (fun _ h _ => h.elim)
      have R123 := R100.trans (Ext0.any e112)
      refine k_call T10.fn_43 (c_l_toField _ hS117 qlfe1 qkfe1 hS118 qlfx1 qkfx1 hS119 qlfy1 qkfy1 (by omega) (by omega) (by omega)) rfl ?_
      rintro _ w124 ⟨⟨a126, c127, z128, a129, c130, z131, a132, c133, z134, rfl, hO135, hl136, hc137, hO138, hl139, hc140, hO141, hl142, hc143, dj144, dj145, dj146⟩, e125⟩
      have hB147 := hB113.ext0 e125
      have hB148 := hB114.ext0 e125
      have hS149 := hS115.ext0 e125
      have hS150 := hS116.ext0 e125
      have hS151 := hS117.ext0 e125
      have hS152 := hS118.ext0 e125
      have hS153 := hS119.ext0 e125
      have hO154 := hO120.ext0 e125
      have hO155 := hO121.ext0 e125
      have E156 := E122.fresh e125 (fun _ h _ => h.elim)
      have R157 := R123.trans (Ext0.any e125)
      refine ⟨fun _ => R157, ?_⟩
      have d158 : ∀ k, inA a126 k → w111.heap.size ≤ k := fun kx hk => (hO135.blk kx hk).1
      have dj159 : inA a126 b1 → False := fun h => Nat.not_lt.2 (d158 _ h) hB113.lt
      have dj160 : inA a126 b13 → False := fun h => Nat.not_lt.2 (d158 _ h) hB114.lt
      have dj161 : ∀ k, inA a79 k → inA a126 k → False := fun kx h1 h2 => Nat.not_lt.2 (d158 kx h2) (hO120.blk kx h1).2
      have dj162 : ∀ k, inA a82 k → inA a126 k → False := fun kx h1 h2 => Nat.not_lt.2 (d158 kx h2) (hO121.blk kx h1).2
      have fr163 : ∀ k, inA a126 k → k < w.heap.size → False := fun kx h1 h2 => Nat.not_lt.2 (Nat.le_trans E122.size (d158 kx h1)) h2
      have hO164 := hO135.base E122.size
      have d165 : ∀ k, inA a129 k → w111.heap.size ≤ k := fun kx hk => (hO138.blk kx hk).1
      have dj166 : inA a129 b1 → False := fun h => Nat.not_lt.2 (d165 _ h) hB113.lt
      have dj167 : inA a129 b13 → False := fun h => Nat.not_lt.2 (d165 _ h) hB114.lt
      have dj168 : ∀ k, inA a79 k → inA a129 k → False := fun kx h1 h2 => Nat.not_lt.2 (d165 kx h2) (hO120.blk kx h1).2
      have dj169 : ∀ k, inA a82 k → inA a129 k → False := fun kx h1 h2 => Nat.not_lt.2 (d165 kx h2) (hO121.blk kx h1).2
      have fr170 : ∀ k, inA a129 k → k < w.heap.size → False := fun kx h1 h2 => Nat.not_lt.2 (Nat.le_trans E122.size (d165 kx h1)) h2
      have hO171 := hO138.base E122.size
      have d172 : ∀ k, inA a132 k → w111.heap.size ≤ k := fun kx hk => (hO141.blk kx hk).1
      have dj173 : inA a132 b1 → False := fun h => Nat.not_lt.2 (d172 _ h) hB113.lt
      have dj174 : inA a132 b13 → False := fun h => Nat.not_lt.2 (d172 _ h) hB114.lt
      have dj175 : ∀ k, inA a79 k → inA a132 k → False := fun kx h1 h2 => Nat.not_lt.2 (d172 kx h2) (hO120.blk kx h1).2
      have dj176 : ∀ k, inA a82 k → inA a132 k → False := fun kx h1 h2 => Nat.not_lt.2 (d172 kx h2) (hO121.blk kx h1).2
      have fr177 : ∀ k, inA a132 k → k < w.heap.size → False := fun kx h1 h2 => Nat.not_lt.2 (Nat.le_trans E122.size (d172 kx h1)) h2
      have hO178 := hO141.base E122.size
      refine m_k 6 [7, 8, 9, 10, 11] rfl (by kernel_rfl) rfl rfl (fun w179 e180 => ?_)
      have hB181 := hB147.ext0 e180
      have hB182 := hB148.ext0 e180
      have hS183 := hS149.ext0 e180
      have hS184 := hS150.ext0 e180
      have hS185 := hS151.ext0 e180
      have hS186 := hS152.ext0 e180
      have hS187 := hS153.ext0 e180
      have hO188 := hO154.ext0 e180
      have hO189 := hO155.ext0 e180
      have hO190 := hO164.ext0 e180
      have hO191 := hO171.ext0 e180
      have hO192 := hO178.ext0 e180
      have E193 := E156.fresh e180 (fun _ h _ => h.elim)
      have R194 := R157.trans (Ext0.any e180)
      refine k_call T10.fn_42 (c_s_ValueAt _ hO188.sl hl86 hc87 hO189.sl hl89 hc90 (by omega) (by omega) hO190.sl hl136 hc137 hO191.sl hl139 hc140 hO192.sl hl142 hc143 (by omega) (by omega) (by omega)) rfl ?_
      rintro vhx197 w195 ⟨hx197, e196⟩
      have hB198 := hB181.ext0 e196
      have hB199 := hB182.ext0 e196
      have hS200 := hS183.ext0 e196
      have hS201 := hS184.ext0 e196
      have hS202 := hS185.ext0 e196
      have hS203 := hS186.ext0 e196
      have hS204 := hS187.ext0 e196
      have hO205 := hO188.ext0 e196
      have hO206 := hO189.ext0 e196
      have hO207 := hO190.ext0 e196
      have hO208 := hO191.ext0 e196
      have hO209 := hO192.ext0 e196
      have E210 := E193.fresh e196 (fun _ h _ => h.elim)
      have R211 := R194.trans (Ext0.any e196)
      refine ⟨fun _ => R211, ?_⟩
      by_cases c212 : valB wd0 hi0 wr0 Xsp0 Xls0 Xfe1 Xfx1 Xfy1 i2 i3 = true
      · have hb213 := valB_b c212
        obtain ⟨r214, rfl, hr215⟩ := (hx197.resolve_right (fun hz => by rw [c212] at hz; cases hz.1)).2
        clear hx197
        refine m_y (v := .tuple #[.float .f32 r214, .bool true]) 7 rfl (by kernel_rfl) rfl rfl (fun w' e' => y_move rfl) ?_
        refine m_y (v := .float .f32 r214) 8 rfl (by kernel_rfl) rfl rfl (fun w' e' => y_extract rfl rfl) ?_
        refine m_y (v := .bool true) 9 rfl (by kernel_rfl) rfl rfl (fun w' e' => y_extract rfl rfl) ?_
        refine m_y (v := .float .f32 r214) 10 rfl (by kernel_rfl) rfl rfl (fun w' e' => y_assign rfl) ?_
        refine m_y (v := .bool true) 11 rfl (by kernel_rfl) rfl rfl (fun w' e' => y_assign rfl) ?_
        refine m_done (by kernel_rfl) (fun w216 e217 => ?_)
        have hB218 := hB198.ext0 e217
        have hB219 := hB199.ext0 e217
        have hS220 := hS200.ext0 e217
        have hS221 := hS201.ext0 e217
        have hS222 := hS202.ext0 e217
        have hS223 := hS203.ext0 e217
        have hS224 := hS204.ext0 e217
        have hO225 := hO205.ext0 e217
        have hO226 := hO206.ext0 e217
        have hO227 := hO207.ext0 e217
        have hO228 := hO208.ext0 e217
        have hO229 := hO209.ext0 e217
        have E230 := E210.fresh e217 (fun _ h _ => h.elim)
        have R231 := R211.trans (Ext0.any e217)
        refine W_seq ?_
        refine W_region (by kernel_rfl) ?_
        refine s_y (v := .agg #[.int .i64 wd0, .int .i64 hi0, .bool wr0, .slice asp0 nsp0 csp0, .slice als0 nls0 cls0]) rfl (y_loadn (b := b1) (o := 0) (vs := [.int .i64 wd0, .int .i64 hi0, .bool wr0, .slice asp0 nsp0 csp0, .slice als0 nls0 cls0]) T10.agg_36_5 rfl rfl (hB218.cells (o := 0) rfl)) ?_
        refine s_k rfl (k_call T10.fn_23 (c_l_toSheet _ hS220 qlsp0 qksp0 hS221 qlls0 qkls0 (by omega) (by omega)) rfl ?_)
        rintro _ w232 ⟨⟨a234, c235, z236, a237, c238, z239, rfl, hO240, hl241, hc242, hO243, hl244, hc245, dj246⟩, e233⟩
        have hB247 := hB218.ext0 e233
        have hB248 := hB219.ext0 e233
        have hS249 := hS220.ext0 e233
        have hS250 := hS221.ext0 e233
        have hS251 := hS222.ext0 e233
        have hS252 := hS223.ext0 e233
        have hS253 := hS224.ext0 e233
        have hO254 := hO225.ext0 e233
        have hO255 := hO226.ext0 e233
        have hO256 := hO227.ext0 e233
        have hO257 := hO228.ext0 e233
        have hO258 := hO229.ext0 e233
        have E259 := E230.fresh e233 (fun _ h _ => h.elim)
        have d260 : ∀ k, inA a234 k → w216.heap.size ≤ k := fun kx hk => (hO240.blk kx hk).1
        have dj261 : inA a234 b1 → False := fun h => Nat.not_lt.2 (d260 _ h) hB218.lt
        have dj262 : inA a234 b13 → False := fun h => Nat.not_lt.2 (d260 _ h) hB219.lt
        have dj263 : ∀ k, inA a79 k → inA a234 k → False := fun kx h1 h2 => Nat.not_lt.2 (d260 kx h2) (hO225.blk kx h1).2
        have dj264 : ∀ k, inA a82 k → inA a234 k → False := fun kx h1 h2 => Nat.not_lt.2 (d260 kx h2) (hO226.blk kx h1).2
        have dj265 : ∀ k, inA a126 k → inA a234 k → False := fun kx h1 h2 => Nat.not_lt.2 (d260 kx h2) (hO227.blk kx h1).2
        have dj266 : ∀ k, inA a129 k → inA a234 k → False := fun kx h1 h2 => Nat.not_lt.2 (d260 kx h2) (hO228.blk kx h1).2
        have dj267 : ∀ k, inA a132 k → inA a234 k → False := fun kx h1 h2 => Nat.not_lt.2 (d260 kx h2) (hO229.blk kx h1).2
        have fr268 : ∀ k, inA a234 k → k < w.heap.size → False := fun kx h1 h2 => Nat.not_lt.2 (Nat.le_trans E230.size (d260 kx h1)) h2
        have hO269 := hO240.base E230.size
        have d270 : ∀ k, inA a237 k → w216.heap.size ≤ k := fun kx hk => (hO243.blk kx hk).1
        have dj271 : inA a237 b1 → False := fun h => Nat.not_lt.2 (d270 _ h) hB218.lt
        have dj272 : inA a237 b13 → False := fun h => Nat.not_lt.2 (d270 _ h) hB219.lt
        have dj273 : ∀ k, inA a79 k → inA a237 k → False := fun kx h1 h2 => Nat.not_lt.2 (d270 kx h2) (hO225.blk kx h1).2
        have dj274 : ∀ k, inA a82 k → inA a237 k → False := fun kx h1 h2 => Nat.not_lt.2 (d270 kx h2) (hO226.blk kx h1).2
        have dj275 : ∀ k, inA a126 k → inA a237 k → False := fun kx h1 h2 => Nat.not_lt.2 (d270 kx h2) (hO227.blk kx h1).2
        have dj276 : ∀ k, inA a129 k → inA a237 k → False := fun kx h1 h2 => Nat.not_lt.2 (d270 kx h2) (hO228.blk kx h1).2
        have dj277 : ∀ k, inA a132 k → inA a237 k → False := fun kx h1 h2 => Nat.not_lt.2 (d270 kx h2) (hO229.blk kx h1).2
        have fr278 : ∀ k, inA a237 k → k < w.heap.size → False := fun kx h1 h2 => Nat.not_lt.2 (Nat.le_trans E230.size (d270 kx h1)) h2
        have hO279 := hO243.base E230.size
        refine s_k rfl (k_alloc (z := (.agg #[.int .i64 0, .int .i64 0, .bool false, .slice none 0 0, .slice none 0 0])) (cs := [.int .i64 0, .int .i64 0, .bool false, .slice none 0 0, .slice none 0 0]) T10.zero_26 rfl (fun b280 w281 q283 e282 hB284 => ?_))
        have hB285 := hB247.ext0 e282
        have hB286 := hB248.ext0 e282
        have hS287 := hS249.ext0 e282
        have hS288 := hS250.ext0 e282
        have hS289 := hS251.ext0 e282
        have hS290 := hS252.ext0 e282
        have hS291 := hS253.ext0 e282
        have hO292 := hO254.ext0 e282
        have hO293 := hO255.ext0 e282
        have hO294 := hO256.ext0 e282
        have hO295 := hO257.ext0 e282
        have hO296 := hO258.ext0 e282
        have hO297 := hO269.ext0 e282
        have hO298 := hO279.ext0 e282
        have E299 := E259.fresh e282 (fun _ h _ => h.elim)
        have dj300 : NeB b1 b280 := fun h => Nat.ne_of_lt hB247.lt (h.trans q283)
        have dj301 : NeB b13 b280 := fun h => Nat.ne_of_lt hB248.lt (h.trans q283)
        have dj302 : inA a79 b280 → False := fun h => Nat.ne_of_lt (hO254.blk _ h).2 q283
        have dj303 : inA a82 b280 → False := fun h => Nat.ne_of_lt (hO255.blk _ h).2 q283
        have dj304 : inA a126 b280 → False := fun h => Nat.ne_of_lt (hO256.blk _ h).2 q283
        have dj305 : inA a129 b280 → False := fun h => Nat.ne_of_lt (hO257.blk _ h).2 q283
        have dj306 : inA a132 b280 → False := fun h => Nat.ne_of_lt (hO258.blk _ h).2 q283
        have dj307 : inA a234 b280 → False := fun h => Nat.ne_of_lt (hO269.blk _ h).2 q283
        have dj308 : inA a237 b280 → False := fun h => Nat.ne_of_lt (hO279.blk _ h).2 q283
        have fr309 : NotLt b280 w.heap.size := fun h => Nat.not_lt.2 (Nat.le_trans E259.size (Nat.le_of_eq q283.symm)) h
        clear q283
        refine s_k0 rfl (k_store (v := .agg #[.int .i64 wd0, .int .i64 hi0, .bool wr0, .slice a234 nsp0 c235, .slice a237 nls0 c238]) (n := 5) (cs' := [.int .i64 wd0, .int .i64 hi0, .bool wr0, .slice a234 nsp0 c235, .slice a237 nls0 c238]) T10.sz_26_5 rfl rfl rfl hB284 (by simp [Value.cells, Value.oneCell']) (Nat.le_of_ble_eq_true rfl) rfl (fun w310 e311 z312 hB313 => ?_))
        clear z312
        have hB314 := hB285.ext e311 dj300
        have hB315 := hB286.ext e311 dj301
        have hS316 := hS287.extL lo_asp0 e311 (fun kx (hs : kx = b280) hl => fr309 (hs ▸ hl))
        have hS317 := hS288.extL lo_als0 e311 (fun kx (hs : kx = b280) hl => fr309 (hs ▸ hl))
        have hS318 := hS289.extL lo_afe1 e311 (fun kx (hs : kx = b280) hl => fr309 (hs ▸ hl))
        have hS319 := hS290.extL lo_afx1 e311 (fun kx (hs : kx = b280) hl => fr309 (hs ▸ hl))
        have hS320 := hS291.extL lo_afy1 e311 (fun kx (hs : kx = b280) hl => fr309 (hs ▸ hl))
        have hO321 := hO292.ext e311 (fun kx hk (hs : kx = b280) => dj302 (hs ▸ hk))
        have hO322 := hO293.ext e311 (fun kx hk (hs : kx = b280) => dj303 (hs ▸ hk))
        have hO323 := hO294.ext e311 (fun kx hk (hs : kx = b280) => dj304 (hs ▸ hk))
        have hO324 := hO295.ext e311 (fun kx hk (hs : kx = b280) => dj305 (hs ▸ hk))
        have hO325 := hO296.ext e311 (fun kx hk (hs : kx = b280) => dj306 (hs ▸ hk))
        have hO326 := hO297.ext e311 (fun kx hk (hs : kx = b280) => dj307 (hs ▸ hk))
        have hO327 := hO298.ext e311 (fun kx hk (hs : kx = b280) => dj308 (hs ▸ hk))
        have E328 := E299.fresh e311 (fun kx (hs : kx = b280) hl => (fr309 (hs ▸ hl)).elim)
        refine s_nil ?_
        refine W_seq ?_
        refine W_region (by kernel_rfl) ?_
        refine s_y (v := .agg #[.slice afe1 nfe1 cfe1, .slice afx1 nfx1 cfx1, .slice afy1 nfy1 cfy1]) rfl (y_loadn (b := b13) (o := 0) (vs := [.slice afe1 nfe1 cfe1, .slice afx1 nfx1 cfx1, .slice afy1 nfy1 cfy1]) T10.agg_60_3 rfl rfl (hB315.cells (o := 0) rfl)) ?_
        refine s_k rfl (k_call T10.fn_43 (c_l_toField _ hS318 qlfe1 qkfe1 hS319 qlfx1 qkfx1 hS320 qlfy1 qkfy1 (by omega) (by omega) (by omega)) rfl ?_)
        rintro _ w329 ⟨⟨a331, c332, z333, a334, c335, z336, a337, c338, z339, rfl, hO340, hl341, hc342, hO343, hl344, hc345, hO346, hl347, hc348, dj349, dj350, dj351⟩, e330⟩
        have hB352 := hB314.ext0 e330
        have hB353 := hB315.ext0 e330
        have hB354 := hB313.ext0 e330
        have hS355 := hS316.ext0 e330
        have hS356 := hS317.ext0 e330
        have hS357 := hS318.ext0 e330
        have hS358 := hS319.ext0 e330
        have hS359 := hS320.ext0 e330
        have hO360 := hO321.ext0 e330
        have hO361 := hO322.ext0 e330
        have hO362 := hO323.ext0 e330
        have hO363 := hO324.ext0 e330
        have hO364 := hO325.ext0 e330
        have hO365 := hO326.ext0 e330
        have hO366 := hO327.ext0 e330
        have E367 := E328.fresh e330 (fun _ h _ => h.elim)
        have d368 : ∀ k, inA a331 k → w310.heap.size ≤ k := fun kx hk => (hO340.blk kx hk).1
        have dj369 : inA a331 b1 → False := fun h => Nat.not_lt.2 (d368 _ h) hB314.lt
        have dj370 : inA a331 b13 → False := fun h => Nat.not_lt.2 (d368 _ h) hB315.lt
        have dj371 : inA a331 b280 → False := fun h => Nat.not_lt.2 (d368 _ h) hB313.lt
        have dj372 : ∀ k, inA a79 k → inA a331 k → False := fun kx h1 h2 => Nat.not_lt.2 (d368 kx h2) (hO321.blk kx h1).2
        have dj373 : ∀ k, inA a82 k → inA a331 k → False := fun kx h1 h2 => Nat.not_lt.2 (d368 kx h2) (hO322.blk kx h1).2
        have dj374 : ∀ k, inA a126 k → inA a331 k → False := fun kx h1 h2 => Nat.not_lt.2 (d368 kx h2) (hO323.blk kx h1).2
        have dj375 : ∀ k, inA a129 k → inA a331 k → False := fun kx h1 h2 => Nat.not_lt.2 (d368 kx h2) (hO324.blk kx h1).2
        have dj376 : ∀ k, inA a132 k → inA a331 k → False := fun kx h1 h2 => Nat.not_lt.2 (d368 kx h2) (hO325.blk kx h1).2
        have dj377 : ∀ k, inA a234 k → inA a331 k → False := fun kx h1 h2 => Nat.not_lt.2 (d368 kx h2) (hO326.blk kx h1).2
        have dj378 : ∀ k, inA a237 k → inA a331 k → False := fun kx h1 h2 => Nat.not_lt.2 (d368 kx h2) (hO327.blk kx h1).2
        have fr379 : ∀ k, inA a331 k → k < w.heap.size → False := fun kx h1 h2 => Nat.not_lt.2 (Nat.le_trans E328.size (d368 kx h1)) h2
        have hO380 := hO340.base E328.size
        have d381 : ∀ k, inA a334 k → w310.heap.size ≤ k := fun kx hk => (hO343.blk kx hk).1
        have dj382 : inA a334 b1 → False := fun h => Nat.not_lt.2 (d381 _ h) hB314.lt
        have dj383 : inA a334 b13 → False := fun h => Nat.not_lt.2 (d381 _ h) hB315.lt
        have dj384 : inA a334 b280 → False := fun h => Nat.not_lt.2 (d381 _ h) hB313.lt
        have dj385 : ∀ k, inA a79 k → inA a334 k → False := fun kx h1 h2 => Nat.not_lt.2 (d381 kx h2) (hO321.blk kx h1).2
        have dj386 : ∀ k, inA a82 k → inA a334 k → False := fun kx h1 h2 => Nat.not_lt.2 (d381 kx h2) (hO322.blk kx h1).2
        have dj387 : ∀ k, inA a126 k → inA a334 k → False := fun kx h1 h2 => Nat.not_lt.2 (d381 kx h2) (hO323.blk kx h1).2
        have dj388 : ∀ k, inA a129 k → inA a334 k → False := fun kx h1 h2 => Nat.not_lt.2 (d381 kx h2) (hO324.blk kx h1).2
        have dj389 : ∀ k, inA a132 k → inA a334 k → False := fun kx h1 h2 => Nat.not_lt.2 (d381 kx h2) (hO325.blk kx h1).2
        have dj390 : ∀ k, inA a234 k → inA a334 k → False := fun kx h1 h2 => Nat.not_lt.2 (d381 kx h2) (hO326.blk kx h1).2
        have dj391 : ∀ k, inA a237 k → inA a334 k → False := fun kx h1 h2 => Nat.not_lt.2 (d381 kx h2) (hO327.blk kx h1).2
        have fr392 : ∀ k, inA a334 k → k < w.heap.size → False := fun kx h1 h2 => Nat.not_lt.2 (Nat.le_trans E328.size (d381 kx h1)) h2
        have hO393 := hO343.base E328.size
        have d394 : ∀ k, inA a337 k → w310.heap.size ≤ k := fun kx hk => (hO346.blk kx hk).1
        have dj395 : inA a337 b1 → False := fun h => Nat.not_lt.2 (d394 _ h) hB314.lt
        have dj396 : inA a337 b13 → False := fun h => Nat.not_lt.2 (d394 _ h) hB315.lt
        have dj397 : inA a337 b280 → False := fun h => Nat.not_lt.2 (d394 _ h) hB313.lt
        have dj398 : ∀ k, inA a79 k → inA a337 k → False := fun kx h1 h2 => Nat.not_lt.2 (d394 kx h2) (hO321.blk kx h1).2
        have dj399 : ∀ k, inA a82 k → inA a337 k → False := fun kx h1 h2 => Nat.not_lt.2 (d394 kx h2) (hO322.blk kx h1).2
        have dj400 : ∀ k, inA a126 k → inA a337 k → False := fun kx h1 h2 => Nat.not_lt.2 (d394 kx h2) (hO323.blk kx h1).2
        have dj401 : ∀ k, inA a129 k → inA a337 k → False := fun kx h1 h2 => Nat.not_lt.2 (d394 kx h2) (hO324.blk kx h1).2
        have dj402 : ∀ k, inA a132 k → inA a337 k → False := fun kx h1 h2 => Nat.not_lt.2 (d394 kx h2) (hO325.blk kx h1).2
        have dj403 : ∀ k, inA a234 k → inA a337 k → False := fun kx h1 h2 => Nat.not_lt.2 (d394 kx h2) (hO326.blk kx h1).2
        have dj404 : ∀ k, inA a237 k → inA a337 k → False := fun kx h1 h2 => Nat.not_lt.2 (d394 kx h2) (hO327.blk kx h1).2
        have fr405 : ∀ k, inA a337 k → k < w.heap.size → False := fun kx h1 h2 => Nat.not_lt.2 (Nat.le_trans E328.size (d394 kx h1)) h2
        have hO406 := hO346.base E328.size
        refine s_k rfl (k_alloc (z := (.agg #[.slice none 0 0, .slice none 0 0, .slice none 0 0])) (cs := [.slice none 0 0, .slice none 0 0, .slice none 0 0]) T10.zero_65 rfl (fun b407 w408 q410 e409 hB411 => ?_))
        have hB412 := hB352.ext0 e409
        have hB413 := hB353.ext0 e409
        have hB414 := hB354.ext0 e409
        have hS415 := hS355.ext0 e409
        have hS416 := hS356.ext0 e409
        have hS417 := hS357.ext0 e409
        have hS418 := hS358.ext0 e409
        have hS419 := hS359.ext0 e409
        have hO420 := hO360.ext0 e409
        have hO421 := hO361.ext0 e409
        have hO422 := hO362.ext0 e409
        have hO423 := hO363.ext0 e409
        have hO424 := hO364.ext0 e409
        have hO425 := hO365.ext0 e409
        have hO426 := hO366.ext0 e409
        have hO427 := hO380.ext0 e409
        have hO428 := hO393.ext0 e409
        have hO429 := hO406.ext0 e409
        have E430 := E367.fresh e409 (fun _ h _ => h.elim)
        have dj431 : NeB b1 b407 := fun h => Nat.ne_of_lt hB352.lt (h.trans q410)
        have dj432 : NeB b13 b407 := fun h => Nat.ne_of_lt hB353.lt (h.trans q410)
        have dj433 : NeB b280 b407 := fun h => Nat.ne_of_lt hB354.lt (h.trans q410)
        have dj434 : inA a79 b407 → False := fun h => Nat.ne_of_lt (hO360.blk _ h).2 q410
        have dj435 : inA a82 b407 → False := fun h => Nat.ne_of_lt (hO361.blk _ h).2 q410
        have dj436 : inA a126 b407 → False := fun h => Nat.ne_of_lt (hO362.blk _ h).2 q410
        have dj437 : inA a129 b407 → False := fun h => Nat.ne_of_lt (hO363.blk _ h).2 q410
        have dj438 : inA a132 b407 → False := fun h => Nat.ne_of_lt (hO364.blk _ h).2 q410
        have dj439 : inA a234 b407 → False := fun h => Nat.ne_of_lt (hO365.blk _ h).2 q410
        have dj440 : inA a237 b407 → False := fun h => Nat.ne_of_lt (hO366.blk _ h).2 q410
        have dj441 : inA a331 b407 → False := fun h => Nat.ne_of_lt (hO380.blk _ h).2 q410
        have dj442 : inA a334 b407 → False := fun h => Nat.ne_of_lt (hO393.blk _ h).2 q410
        have dj443 : inA a337 b407 → False := fun h => Nat.ne_of_lt (hO406.blk _ h).2 q410
        have fr444 : NotLt b407 w.heap.size := fun h => Nat.not_lt.2 (Nat.le_trans E367.size (Nat.le_of_eq q410.symm)) h
        clear q410
        refine s_k0 rfl (k_store (v := .agg #[.slice a331 nfe1 c332, .slice a334 nfx1 c335, .slice a337 nfy1 c338]) (n := 3) (cs' := [.slice a331 nfe1 c332, .slice a334 nfx1 c335, .slice a337 nfy1 c338]) T10.sz_65_3 rfl rfl rfl hB411 (by simp [Value.cells, Value.oneCell']) (Nat.le_of_ble_eq_true rfl) rfl (fun w445 e446 z447 hB448 => ?_))
        clear z447
        have hB449 := hB412.ext e446 dj431
        have hB450 := hB413.ext e446 dj432
        have hB451 := hB414.ext e446 dj433
        have hS452 := hS415.extL lo_asp0 e446 (fun kx (hs : kx = b407) hl => fr444 (hs ▸ hl))
        have hS453 := hS416.extL lo_als0 e446 (fun kx (hs : kx = b407) hl => fr444 (hs ▸ hl))
        have hS454 := hS417.extL lo_afe1 e446 (fun kx (hs : kx = b407) hl => fr444 (hs ▸ hl))
        have hS455 := hS418.extL lo_afx1 e446 (fun kx (hs : kx = b407) hl => fr444 (hs ▸ hl))
        have hS456 := hS419.extL lo_afy1 e446 (fun kx (hs : kx = b407) hl => fr444 (hs ▸ hl))
        have hO457 := hO420.ext e446 (fun kx hk (hs : kx = b407) => dj434 (hs ▸ hk))
        have hO458 := hO421.ext e446 (fun kx hk (hs : kx = b407) => dj435 (hs ▸ hk))
        have hO459 := hO422.ext e446 (fun kx hk (hs : kx = b407) => dj436 (hs ▸ hk))
        have hO460 := hO423.ext e446 (fun kx hk (hs : kx = b407) => dj437 (hs ▸ hk))
        have hO461 := hO424.ext e446 (fun kx hk (hs : kx = b407) => dj438 (hs ▸ hk))
        have hO462 := hO425.ext e446 (fun kx hk (hs : kx = b407) => dj439 (hs ▸ hk))
        have hO463 := hO426.ext e446 (fun kx hk (hs : kx = b407) => dj440 (hs ▸ hk))
        have hO464 := hO427.ext e446 (fun kx hk (hs : kx = b407) => dj441 (hs ▸ hk))
        have hO465 := hO428.ext e446 (fun kx hk (hs : kx = b407) => dj442 (hs ▸ hk))
        have hO466 := hO429.ext e446 (fun kx hk (hs : kx = b407) => dj443 (hs ▸ hk))
        have E467 := E430.fresh e446 (fun kx (hs : kx = b407) hl => (fr444 (hs ▸ hl)).elim)
        refine s_nil ?_
        refine W_seq ?_
        refine W_region (by kernel_rfl) ?_
        refine s_y (v := .agg #[.int .i64 wd0, .int .i64 hi0, .bool wr0, .slice a234 nsp0 c235, .slice a237 nls0 c238]) rfl (y_loadn (b := b280) (o := 0) (vs := [.int .i64 wd0, .int .i64 hi0, .bool wr0, .slice a234 nsp0 c235, .slice a237 nls0 c238]) T10.agg_26_5 rfl rfl (hB451.cells (o := 0) rfl)) ?_
        refine s_y (v := .agg #[.slice a331 nfe1 c332, .slice a334 nfx1 c335, .slice a337 nfy1 c338]) rfl (y_loadn (b := b407) (o := 0) (vs := [.slice a331 nfe1 c332, .slice a334 nfx1 c335, .slice a337 nfy1 c338]) T10.agg_65_3 rfl rfl (hB448.cells (o := 0) rfl)) ?_
        refine s_y (v := .int .i64 i2) rfl (y_move rfl) ?_
        refine s_y (v := .int .i64 i3) rfl (y_move rfl) ?_
        refine s_k rfl (k_call T10.fn_44 (c_i_ValueAt _ hO462.sl hl241 hc242 hO463.sl hl244 hc245 (by omega) (by omega) hO464.sl hl341 hc342 hO465.sl hl344 hc345 hO466.sl hl347 hc348 (by omega) (by omega) (by omega)) rfl ?_)
        rintro vhx470 w468 ⟨hx470, e469⟩
        have hB471 := hB449.ext0 e469
        have hB472 := hB450.ext0 e469
        have hB473 := hB451.ext0 e469
        have hB474 := hB448.ext0 e469
        have hS475 := hS452.ext0 e469
        have hS476 := hS453.ext0 e469
        have hS477 := hS454.ext0 e469
        have hS478 := hS455.ext0 e469
        have hS479 := hS456.ext0 e469
        have hO480 := hO457.ext0 e469
        have hO481 := hO458.ext0 e469
        have hO482 := hO459.ext0 e469
        have hO483 := hO460.ext0 e469
        have hO484 := hO461.ext0 e469
        have hO485 := hO462.ext0 e469
        have hO486 := hO463.ext0 e469
        have hO487 := hO464.ext0 e469
        have hO488 := hO465.ext0 e469
        have hO489 := hO466.ext0 e469
        have E490 := E467.fresh e469 (fun _ h _ => h.elim)
        obtain ⟨r491, rfl, hr492⟩ := (hx470.resolve_right (fun hz => by rw [c212] at hz; cases hz.1)).2
        clear hx470
        refine s_y (v := .tuple #[.float .f32 r491, .bool true]) rfl (y_move rfl) ?_
        refine s_y (v := .float .f32 r491) rfl (y_extract rfl rfl) ?_
        refine s_y (v := .bool true) rfl (y_extract rfl rfl) ?_
        refine s_y (v := .float .f32 r491) rfl (y_assign rfl) ?_
        refine s_y (v := .bool true) rfl (y_assign rfl) ?_
        refine s_nil ?_
        refine W_seq ?_
        refine W_seq ?_
        refine W_region (by kernel_rfl) ?_
        refine s_y (v := .float .f32 r491) rfl (y_move rfl) ?_
        refine s_n rfl (n_wide T10.und_62 T10.flt_68_f64 rfl) ?_
        rintro _ w495 e496 ⟨r493, rfl, hr494⟩
        have hB497 := hB471.ext0 e496
        have hB498 := hB472.ext0 e496
        have hB499 := hB473.ext0 e496
        have hB500 := hB474.ext0 e496
        have hS501 := hS475.ext0 e496
        have hS502 := hS476.ext0 e496
        have hS503 := hS477.ext0 e496
        have hS504 := hS478.ext0 e496
        have hS505 := hS479.ext0 e496
        have hO506 := hO480.ext0 e496
        have hO507 := hO481.ext0 e496
        have hO508 := hO482.ext0 e496
        have hO509 := hO483.ext0 e496
        have hO510 := hO484.ext0 e496
        have hO511 := hO485.ext0 e496
        have hO512 := hO486.ext0 e496
        have hO513 := hO487.ext0 e496
        have hO514 := hO488.ext0 e496
        have hO515 := hO489.ext0 e496
        have E516 := E490.fresh e496 (fun _ h _ => h.elim)
        have hc517 := wideC hr494 hr492
        refine s_y (v := .float .f32 r214) rfl (y_move rfl) ?_
        refine s_n rfl (n_wide T10.und_62 T10.flt_68_f64 rfl) ?_
        rintro _ w520 e521 ⟨r518, rfl, hr519⟩
        have hB522 := hB497.ext0 e521
        have hB523 := hB498.ext0 e521
        have hB524 := hB499.ext0 e521
        have hB525 := hB500.ext0 e521
        have hS526 := hS501.ext0 e521
        have hS527 := hS502.ext0 e521
        have hS528 := hS503.ext0 e521
        have hS529 := hS504.ext0 e521
        have hS530 := hS505.ext0 e521
        have hO531 := hO506.ext0 e521
        have hO532 := hO507.ext0 e521
        have hO533 := hO508.ext0 e521
        have hO534 := hO509.ext0 e521
        have hO535 := hO510.ext0 e521
        have hO536 := hO511.ext0 e521
        have hO537 := hO512.ext0 e521
        have hO538 := hO513.ext0 e521
        have hO539 := hO514.ext0 e521
        have hO540 := hO515.ext0 e521
        have E541 := E516.fresh e521 (fun _ h _ => h.elim)
        have hc542 := wideC hr519 hr215
        refine s_k rfl (k_call T10.fn_45 (c_l_sameFloat _ _ _ hc517 hc542 _) rfl ?_)
        rintro _ w543 ⟨rfl, e544⟩
        have hB545 := hB522.ext0 e544
        have hB546 := hB523.ext0 e544
        have hB547 := hB524.ext0 e544
        have hB548 := hB525.ext0 e544
        have hS549 := hS526.ext0 e544
        have hS550 := hS527.ext0 e544
        have hS551 := hS528.ext0 e544
        have hS552 := hS529.ext0 e544
        have hS553 := hS530.ext0 e544
        have hO554 := hO531.ext0 e544
        have hO555 := hO532.ext0 e544
        have hO556 := hO533.ext0 e544
        have hO557 := hO534.ext0 e544
        have hO558 := hO535.ext0 e544
        have hO559 := hO536.ext0 e544
        have hO560 := hO537.ext0 e544
        have hO561 := hO538.ext0 e544
        have hO562 := hO539.ext0 e544
        have hO563 := hO540.ext0 e544
        have E564 := E541.fresh e544 (fun _ h _ => h.elim)
        refine s_y (v := .bool false) rfl (y_not rfl rfl) ?_
        refine s_y (v := .bool false) rfl (y_move rfl) ?_
        refine s_y (v := .bool true) rfl (y_move rfl) ?_
        refine s_y (v := .bool true) rfl (y_move rfl) ?_
        refine s_y (v := .bool false) rfl (y_bneq T10.bool_4 rfl rfl rfl) ?_
        refine s_y (v := .bool false) rfl (y_pick_f rfl rfl) ?_
        refine s_nil ?_
        refine W_if_f (by decide) rfl ?_
        refine W_skip ?_
        refine W_seq ?_
        refine W_seq ?_
        refine W_draw (no) T10.mx (by kernel_rfl) (fun w565 e566 => ?_)
        have hB567 := hB545.ext0 e566
        have hB568 := hB546.ext0 e566
        have hB569 := hB547.ext0 e566
        have hB570 := hB548.ext0 e566
        have hS571 := hS549.ext0 e566
        have hS572 := hS550.ext0 e566
        have hS573 := hS551.ext0 e566
        have hS574 := hS552.ext0 e566
        have hS575 := hS553.ext0 e566
        have hO576 := hO554.ext0 e566
        have hO577 := hO555.ext0 e566
        have hO578 := hO556.ext0 e566
        have hO579 := hO557.ext0 e566
        have hO580 := hO558.ext0 e566
        have hO581 := hO559.ext0 e566
        have hO582 := hO560.ext0 e566
        have hO583 := hO561.ext0 e566
        have hO584 := hO562.ext0 e566
        have hO585 := hO563.ext0 e566
        have E586 := E564.fresh e566 (fun _ h _ => h.elim)
        have R587 := (Ext.refl (no) w543).trans (Ext0.any e566)
        refine m_y (v := .agg #[.int .i64 wd0, .int .i64 hi0, .bool wr0, .slice a234 nsp0 c235, .slice a237 nls0 c238]) 0 rfl (by kernel_rfl) rfl rfl (fun w' e' => y_loadn (b := b280) (o := 0) (vs := [.int .i64 wd0, .int .i64 hi0, .bool wr0, .slice a234 nsp0 c235, .slice a237 nls0 c238]) T10.agg_26_5 rfl rfl ((hB547.ext0 e').cells (o := 0) rfl)) ?_
        refine m_y (v := .agg #[.int .i64 wd0, .int .i64 hi0, .bool wr0, .slice asp0 nsp0 csp0, .slice als0 nls0 cls0]) 1 rfl (by kernel_rfl) rfl rfl (fun w' e' => y_loadn (b := b1) (o := 0) (vs := [.int .i64 wd0, .int .i64 hi0, .bool wr0, .slice asp0 nsp0 csp0, .slice als0 nls0 cls0]) T10.agg_36_5 rfl rfl ((hB545.ext0 e').cells (o := 0) rfl)) ?_
        refine m_k 2 [3, 4] rfl (by kernel_rfl) rfl rfl (fun w588 e589 => ?_)
        have hB590 := hB567.ext0 e589
        have hB591 := hB568.ext0 e589
        have hB592 := hB569.ext0 e589
        have hB593 := hB570.ext0 e589
        have hS594 := hS571.ext0 e589
        have hS595 := hS572.ext0 e589
        have hS596 := hS573.ext0 e589
        have hS597 := hS574.ext0 e589
        have hS598 := hS575.ext0 e589
        have hO599 := hO576.ext0 e589
        have hO600 := hO577.ext0 e589
        have hO601 := hO578.ext0 e589
        have hO602 := hO579.ext0 e589
        have hO603 := hO580.ext0 e589
        have hO604 := hO581.ext0 e589
        have hO605 := hO582.ext0 e589
        have hO606 := hO583.ext0 e589
        have hO607 := hO584.ext0 e589
        have hO608 := hO585.ext0 e589
        have E609 := E586.fresh e589 (fun _ h _ => h.elim)
        have R610 := R587.trans (Ext0.any e589)
        refine k_call T10.fn_23 (c_l_toSheet _ hS594 qlsp0 qksp0 hS595 qlls0 qkls0 (by omega) (by omega)) rfl ?_
        rintro _ w611 ⟨⟨a613, c614, z615, a616, c617, z618, rfl, hO619, hl620, hc621, hO622, hl623, hc624, dj625⟩, e612⟩
        have hB626 := hB590.ext0 e612
        have hB627 := hB591.ext0 e612
        have hB628 := hB592.ext0 e612
        have hB629 := hB593.ext0 e612
        have hS630 := hS594.ext0 e612
        have hS631 := hS595.ext0 e612
        have hS632 := hS596.ext0 e612
        have hS633 := hS597.ext0 e612
        have hS634 := hS598.ext0 e612
        have hO635 := hO599.ext0 e612
        have hO636 := hO600.ext0 e612
        have hO637 := hO601.ext0 e612
        have hO638 := hO602.ext0 e612
        have hO639 := hO603.ext0 e612
        have hO640 := hO604.ext0 e612
        have hO641 := hO605.ext0 e612
        have hO642 := hO606.ext0 e612
        have hO643 := hO607.ext0 e612
        have hO644 := hO608.ext0 e612
        have E645 := E609.fresh e612 (fun _ h _ => h.elim)
        have R646 := R610.trans (Ext0.any e612)
        refine ⟨fun _ => R646, ?_⟩
        have d647 : ∀ k, inA a613 k → w588.heap.size ≤ k := fun kx hk => (hO619.blk kx hk).1
        have dj648 : inA a613 b1 → False := fun h => Nat.not_lt.2 (d647 _ h) hB590.lt
        have dj649 : inA a613 b13 → False := fun h => Nat.not_lt.2 (d647 _ h) hB591.lt
        have dj650 : inA a613 b280 → False := fun h => Nat.not_lt.2 (d647 _ h) hB592.lt
        have dj651 : inA a613 b407 → False := fun h => Nat.not_lt.2 (d647 _ h) hB593.lt
        have dj652 : ∀ k, inA a79 k → inA a613 k → False := fun kx h1 h2 => Nat.not_lt.2 (d647 kx h2) (hO599.blk kx h1).2
        have dj653 : ∀ k, inA a82 k → inA a613 k → False := fun kx h1 h2 => Nat.not_lt.2 (d647 kx h2) (hO600.blk kx h1).2
        have dj654 : ∀ k, inA a126 k → inA a613 k → False := fun kx h1 h2 => Nat.not_lt.2 (d647 kx h2) (hO601.blk kx h1).2
        have dj655 : ∀ k, inA a129 k → inA a613 k → False := fun kx h1 h2 => Nat.not_lt.2 (d647 kx h2) (hO602.blk kx h1).2
        have dj656 : ∀ k, inA a132 k → inA a613 k → False := fun kx h1 h2 => Nat.not_lt.2 (d647 kx h2) (hO603.blk kx h1).2
        have dj657 : ∀ k, inA a234 k → inA a613 k → False := fun kx h1 h2 => Nat.not_lt.2 (d647 kx h2) (hO604.blk kx h1).2
        have dj658 : ∀ k, inA a237 k → inA a613 k → False := fun kx h1 h2 => Nat.not_lt.2 (d647 kx h2) (hO605.blk kx h1).2
        have dj659 : ∀ k, inA a331 k → inA a613 k → False := fun kx h1 h2 => Nat.not_lt.2 (d647 kx h2) (hO606.blk kx h1).2
        have dj660 : ∀ k, inA a334 k → inA a613 k → False := fun kx h1 h2 => Nat.not_lt.2 (d647 kx h2) (hO607.blk kx h1).2
        have dj661 : ∀ k, inA a337 k → inA a613 k → False := fun kx h1 h2 => Nat.not_lt.2 (d647 kx h2) (hO608.blk kx h1).2
        have fr662 : ∀ k, inA a613 k → k < w.heap.size → False := fun kx h1 h2 => Nat.not_lt.2 (Nat.le_trans E609.size (d647 kx h1)) h2
        have hO663 := hO619.base E609.size
        have d664 : ∀ k, inA a616 k → w588.heap.size ≤ k := fun kx hk => (hO622.blk kx hk).1
        have dj665 : inA a616 b1 → False := fun h => Nat.not_lt.2 (d664 _ h) hB590.lt
        have dj666 : inA a616 b13 → False := fun h => Nat.not_lt.2 (d664 _ h) hB591.lt
        have dj667 : inA a616 b280 → False := fun h => Nat.not_lt.2 (d664 _ h) hB592.lt
        have dj668 : inA a616 b407 → False := fun h => Nat.not_lt.2 (d664 _ h) hB593.lt
        have dj669 : ∀ k, inA a79 k → inA a616 k → False := fun kx h1 h2 => Nat.not_lt.2 (d664 kx h2) (hO599.blk kx h1).2
        have dj670 : ∀ k, inA a82 k → inA a616 k → False := fun kx h1 h2 => Nat.not_lt.2 (d664 kx h2) (hO600.blk kx h1).2
        have dj671 : ∀ k, inA a126 k → inA a616 k → False := fun kx h1 h2 => Nat.not_lt.2 (d664 kx h2) (hO601.blk kx h1).2
        have dj672 : ∀ k, inA a129 k → inA a616 k → False := fun kx h1 h2 => Nat.not_lt.2 (d664 kx h2) (hO602.blk kx h1).2
        have dj673 : ∀ k, inA a132 k → inA a616 k → False := fun kx h1 h2 => Nat.not_lt.2 (d664 kx h2) (hO603.blk kx h1).2
        have dj674 : ∀ k, inA a234 k → inA a616 k → False := fun kx h1 h2 => Nat.not_lt.2 (d664 kx h2) (hO604.blk kx h1).2
        have dj675 : ∀ k, inA a237 k → inA a616 k → False := fun kx h1 h2 => Nat.not_lt.2 (d664 kx h2) (hO605.blk kx h1).2
        have dj676 : ∀ k, inA a331 k → inA a616 k → False := fun kx h1 h2 => Nat.not_lt.2 (d664 kx h2) (hO606.blk kx h1).2
        have dj677 : ∀ k, inA a334 k → inA a616 k → False := fun kx h1 h2 => Nat.not_lt.2 (d664 kx h2) (hO607.blk kx h1).2
        have dj678 : ∀ k, inA a337 k → inA a616 k → False := fun kx h1 h2 => Nat.not_lt.2 (d664 kx h2) (hO608.blk kx h1).2
        have fr679 : ∀ k, inA a616 k → k < w.heap.size → False := fun kx h1 h2 => Nat.not_lt.2 (Nat.le_trans E609.size (d664 kx h1)) h2
        have hO680 := hO622.base E609.size
        refine m_k 3 [4] rfl (by kernel_rfl) rfl rfl (fun w681 e682 => ?_)
        have hB683 := hB626.ext0 e682
        have hB684 := hB627.ext0 e682
        have hB685 := hB628.ext0 e682
        have hB686 := hB629.ext0 e682
        have hS687 := hS630.ext0 e682
        have hS688 := hS631.ext0 e682
        have hS689 := hS632.ext0 e682
        have hS690 := hS633.ext0 e682
        have hS691 := hS634.ext0 e682
        have hO692 := hO635.ext0 e682
        have hO693 := hO636.ext0 e682
        have hO694 := hO637.ext0 e682
        have hO695 := hO638.ext0 e682
        have hO696 := hO639.ext0 e682
        have hO697 := hO640.ext0 e682
        have hO698 := hO641.ext0 e682
        have hO699 := hO642.ext0 e682
        have hO700 := hO643.ext0 e682
        have hO701 := hO644.ext0 e682
        have hO702 := hO663.ext0 e682
        have hO703 := hO680.ext0 e682
        have E704 := E645.fresh e682 (fun _ h _ => h.elim)
        have R705 := R646.trans (Ext0.any e682)
        refine k_call T10.fn_25 (c_l_eqSheet _ hO697.sl hl241 hc242 hO702.sl hl620 hc621 (by omega) hO698.sl hl244 hc245 hO703.sl hl623 hc624 (by omega)) rfl ?_
        rintro _ w706 ⟨rfl, e707⟩
        have hB708 := hB683.ext0 e707
        have hB709 := hB684.ext0 e707
        have hB710 := hB685.ext0 e707
        have hB711 := hB686.ext0 e707
        have hS712 := hS687.ext0 e707
        have hS713 := hS688.ext0 e707
        have hS714 := hS689.ext0 e707
        have hS715 := hS690.ext0 e707
        have hS716 := hS691.ext0 e707
        have hO717 := hO692.ext0 e707
        have hO718 := hO693.ext0 e707
        have hO719 := hO694.ext0 e707
        have hO720 := hO695.ext0 e707
        have hO721 := hO696.ext0 e707
        have hO722 := hO697.ext0 e707
        have hO723 := hO698.ext0 e707
        have hO724 := hO699.ext0 e707
        have hO725 := hO700.ext0 e707
        have hO726 := hO701.ext0 e707
        have hO727 := hO702.ext0 e707
        have hO728 := hO703.ext0 e707
        have E729 := E704.fresh e707 (fun _ h _ => h.elim)
        have R730 := R705.trans (Ext0.any e707)
        refine ⟨fun _ => R730, ?_⟩
        refine m_y (v := .bool false) 4 rfl (by kernel_rfl) rfl rfl (fun w' e' => y_not rfl rfl) ?_
        refine m_done (by kernel_rfl) (fun w731 e732 => ?_)
        have hB733 := hB708.ext0 e732
        have hB734 := hB709.ext0 e732
        have hB735 := hB710.ext0 e732
        have hB736 := hB711.ext0 e732
        have hS737 := hS712.ext0 e732
        have hS738 := hS713.ext0 e732
        have hS739 := hS714.ext0 e732
        have hS740 := hS715.ext0 e732
        have hS741 := hS716.ext0 e732
        have hO742 := hO717.ext0 e732
        have hO743 := hO718.ext0 e732
        have hO744 := hO719.ext0 e732
        have hO745 := hO720.ext0 e732
        have hO746 := hO721.ext0 e732
        have hO747 := hO722.ext0 e732
        have hO748 := hO723.ext0 e732
        have hO749 := hO724.ext0 e732
        have hO750 := hO725.ext0 e732
        have hO751 := hO726.ext0 e732
        have hO752 := hO727.ext0 e732
        have hO753 := hO728.ext0 e732
        have E754 := E729.fresh e732 (fun _ h _ => h.elim)
        have R755 := R730.trans (Ext0.any e732)
        refine W_if_f (by decide) rfl ?_
        refine W_skip ?_
        refine W_seq ?_
        refine W_seq ?_
        refine W_draw (no) T10.mx (by kernel_rfl) (fun w756 e757 => ?_)
        have hB758 := hB733.ext0 e757
        have hB759 := hB734.ext0 e757
        have hB760 := hB735.ext0 e757
        have hB761 := hB736.ext0 e757
        have hS762 := hS737.ext0 e757
        have hS763 := hS738.ext0 e757
        have hS764 := hS739.ext0 e757
        have hS765 := hS740.ext0 e757
        have hS766 := hS741.ext0 e757
        have hO767 := hO742.ext0 e757
        have hO768 := hO743.ext0 e757
        have hO769 := hO744.ext0 e757
        have hO770 := hO745.ext0 e757
        have hO771 := hO746.ext0 e757
        have hO772 := hO747.ext0 e757
        have hO773 := hO748.ext0 e757
        have hO774 := hO749.ext0 e757
        have hO775 := hO750.ext0 e757
        have hO776 := hO751.ext0 e757
        have hO777 := hO752.ext0 e757
        have hO778 := hO753.ext0 e757
        have E779 := E754.fresh e757 (fun _ h _ => h.elim)
        have R780 := (Ext.refl (no) w731).trans (Ext0.any e757)
        refine m_y (v := .agg #[.slice a331 nfe1 c332, .slice a334 nfx1 c335, .slice a337 nfy1 c338]) 0 rfl (by kernel_rfl) rfl rfl (fun w' e' => y_loadn (b := b407) (o := 0) (vs := [.slice a331 nfe1 c332, .slice a334 nfx1 c335, .slice a337 nfy1 c338]) T10.agg_65_3 rfl rfl ((hB736.ext0 e').cells (o := 0) rfl)) ?_
        refine m_y (v := .agg #[.slice afe1 nfe1 cfe1, .slice afx1 nfx1 cfx1, .slice afy1 nfy1 cfy1]) 1 rfl (by kernel_rfl) rfl rfl (fun w' e' => y_loadn (b := b13) (o := 0) (vs := [.slice afe1 nfe1 cfe1, .slice afx1 nfx1 cfx1, .slice afy1 nfy1 cfy1]) T10.agg_60_3 rfl rfl ((hB734.ext0 e').cells (o := 0) rfl)) ?_
        refine m_k 2 [3, 4] rfl (by kernel_rfl) rfl rfl (fun w781 e782 => ?_)
        have hB783 := hB758.ext0 e782
        have hB784 := hB759.ext0 e782
        have hB785 := hB760.ext0 e782
        have hB786 := hB761.ext0 e782
        have hS787 := hS762.ext0 e782
        have hS788 := hS763.ext0 e782
        have hS789 := hS764.ext0 e782
        have hS790 := hS765.ext0 e782
        have hS791 := hS766.ext0 e782
        have hO792 := hO767.ext0 e782
        have hO793 := hO768.ext0 e782
        have hO794 := hO769.ext0 e782
        have hO795 := hO770.ext0 e782
        have hO796 := hO771.ext0 e782
        have hO797 := hO772.ext0 e782
        have hO798 := hO773.ext0 e782
        have hO799 := hO774.ext0 e782
        have hO800 := hO775.ext0 e782
        have hO801 := hO776.ext0 e782
        have hO802 := hO777.ext0 e782
        have hO803 := hO778.ext0 e782
        have E804 := E779.fresh e782 (fun _ h _ => h.elim)
        have R805 := R780.trans (Ext0.any e782)
        refine k_call T10.fn_43 (c_l_toField _ hS789 qlfe1 qkfe1 hS790 qlfx1 qkfx1 hS791 qlfy1 qkfy1 (by omega) (by omega) (by omega)) rfl ?_
        rintro _ w806 ⟨⟨a808, c809, z810, a811, c812, z813, a814, c815, z816, rfl, hO817, hl818, hc819, hO820, hl821, hc822, hO823, hl824, hc825, dj826, dj827, dj828⟩, e807⟩
        have hB829 := hB783.ext0 e807
        have hB830 := hB784.ext0 e807
        have hB831 := hB785.ext0 e807
        have hB832 := hB786.ext0 e807
        have hS833 := hS787.ext0 e807
        have hS834 := hS788.ext0 e807
        have hS835 := hS789.ext0 e807
        have hS836 := hS790.ext0 e807
        have hS837 := hS791.ext0 e807
        have hO838 := hO792.ext0 e807
        have hO839 := hO793.ext0 e807
        have hO840 := hO794.ext0 e807
        have hO841 := hO795.ext0 e807
        have hO842 := hO796.ext0 e807
        have hO843 := hO797.ext0 e807
        have hO844 := hO798.ext0 e807
        have hO845 := hO799.ext0 e807
        have hO846 := hO800.ext0 e807
        have hO847 := hO801.ext0 e807
        have hO848 := hO802.ext0 e807
        have hO849 := hO803.ext0 e807
        have E850 := E804.fresh e807 (fun _ h _ => h.elim)
        have R851 := R805.trans (Ext0.any e807)
        refine ⟨fun _ => R851, ?_⟩
        have d852 : ∀ k, inA a808 k → w781.heap.size ≤ k := fun kx hk => (hO817.blk kx hk).1
        have dj853 : inA a808 b1 → False := fun h => Nat.not_lt.2 (d852 _ h) hB783.lt
        have dj854 : inA a808 b13 → False := fun h => Nat.not_lt.2 (d852 _ h) hB784.lt
        have dj855 : inA a808 b280 → False := fun h => Nat.not_lt.2 (d852 _ h) hB785.lt
        have dj856 : inA a808 b407 → False := fun h => Nat.not_lt.2 (d852 _ h) hB786.lt
        have dj857 : ∀ k, inA a79 k → inA a808 k → False := fun kx h1 h2 => Nat.not_lt.2 (d852 kx h2) (hO792.blk kx h1).2
        have dj858 : ∀ k, inA a82 k → inA a808 k → False := fun kx h1 h2 => Nat.not_lt.2 (d852 kx h2) (hO793.blk kx h1).2
        have dj859 : ∀ k, inA a126 k → inA a808 k → False := fun kx h1 h2 => Nat.not_lt.2 (d852 kx h2) (hO794.blk kx h1).2
        have dj860 : ∀ k, inA a129 k → inA a808 k → False := fun kx h1 h2 => Nat.not_lt.2 (d852 kx h2) (hO795.blk kx h1).2
        have dj861 : ∀ k, inA a132 k → inA a808 k → False := fun kx h1 h2 => Nat.not_lt.2 (d852 kx h2) (hO796.blk kx h1).2
        have dj862 : ∀ k, inA a234 k → inA a808 k → False := fun kx h1 h2 => Nat.not_lt.2 (d852 kx h2) (hO797.blk kx h1).2
        have dj863 : ∀ k, inA a237 k → inA a808 k → False := fun kx h1 h2 => Nat.not_lt.2 (d852 kx h2) (hO798.blk kx h1).2
        have dj864 : ∀ k, inA a331 k → inA a808 k → False := fun kx h1 h2 => Nat.not_lt.2 (d852 kx h2) (hO799.blk kx h1).2
        have dj865 : ∀ k, inA a334 k → inA a808 k → False := fun kx h1 h2 => Nat.not_lt.2 (d852 kx h2) (hO800.blk kx h1).2
        have dj866 : ∀ k, inA a337 k → inA a808 k → False := fun kx h1 h2 => Nat.not_lt.2 (d852 kx h2) (hO801.blk kx h1).2
        have dj867 : ∀ k, inA a613 k → inA a808 k → False := fun kx h1 h2 => Nat.not_lt.2 (d852 kx h2) (hO802.blk kx h1).2
        have dj868 : ∀ k, inA a616 k → inA a808 k → False := fun kx h1 h2 => Nat.not_lt.2 (d852 kx h2) (hO803.blk kx h1).2
        have fr869 : ∀ k, inA a808 k → k < w.heap.size → False := fun kx h1 h2 => Nat.not_lt.2 (Nat.le_trans E804.size (d852 kx h1)) h2
        have hO870 := hO817.base E804.size
        have d871 : ∀ k, inA a811 k → w781.heap.size ≤ k := fun kx hk => (hO820.blk kx hk).1
        have dj872 : inA a811 b1 → False := fun h => Nat.not_lt.2 (d871 _ h) hB783.lt
        have dj873 : inA a811 b13 → False := fun h => Nat.not_lt.2 (d871 _ h) hB784.lt
        have dj874 : inA a811 b280 → False := fun h => Nat.not_lt.2 (d871 _ h) hB785.lt
        have dj875 : inA a811 b407 → False := fun h => Nat.not_lt.2 (d871 _ h) hB786.lt
        have dj876 : ∀ k, inA a79 k → inA a811 k → False := fun kx h1 h2 => Nat.not_lt.2 (d871 kx h2) (hO792.blk kx h1).2
        have dj877 : ∀ k, inA a82 k → inA a811 k → False := fun kx h1 h2 => Nat.not_lt.2 (d871 kx h2) (hO793.blk kx h1).2
        have dj878 : ∀ k, inA a126 k → inA a811 k → False := fun kx h1 h2 => Nat.not_lt.2 (d871 kx h2) (hO794.blk kx h1).2
        have dj879 : ∀ k, inA a129 k → inA a811 k → False := fun kx h1 h2 => Nat.not_lt.2 (d871 kx h2) (hO795.blk kx h1).2
        have dj880 : ∀ k, inA a132 k → inA a811 k → False := fun kx h1 h2 => Nat.not_lt.2 (d871 kx h2) (hO796.blk kx h1).2
        have dj881 : ∀ k, inA a234 k → inA a811 k → False := fun kx h1 h2 => Nat.not_lt.2 (d871 kx h2) (hO797.blk kx h1).2
        have dj882 : ∀ k, inA a237 k → inA a811 k → False := fun kx h1 h2 => Nat.not_lt.2 (d871 kx h2) (hO798.blk kx h1).2
        have dj883 : ∀ k, inA a331 k → inA a811 k → False := fun kx h1 h2 => Nat.not_lt.2 (d871 kx h2) (hO799.blk kx h1).2
        have dj884 : ∀ k, inA a334 k → inA a811 k → False := fun kx h1 h2 => Nat.not_lt.2 (d871 kx h2) (hO800.blk kx h1).2
        have dj885 : ∀ k, inA a337 k → inA a811 k → False := fun kx h1 h2 => Nat.not_lt.2 (d871 kx h2) (hO801.blk kx h1).2
        have dj886 : ∀ k, inA a613 k → inA a811 k → False := fun kx h1 h2 => Nat.not_lt.2 (d871 kx h2) (hO802.blk kx h1).2
        have dj887 : ∀ k, inA a616 k → inA a811 k → False := fun kx h1 h2 => Nat.not_lt.2 (d871 kx h2) (hO803.blk kx h1).2
        have fr888 : ∀ k, inA a811 k → k < w.heap.size → False := fun kx h1 h2 => Nat.not_lt.2 (Nat.le_trans E804.size (d871 kx h1)) h2
        have hO889 := hO820.base E804.size
        have d890 : ∀ k, inA a814 k → w781.heap.size ≤ k := fun kx hk => (hO823.blk kx hk).1
        have dj891 : inA a814 b1 → False := fun h => Nat.not_lt.2 (d890 _ h) hB783.lt
        have dj892 : inA a814 b13 → False := fun h => Nat.not_lt.2 (d890 _ h) hB784.lt
        have dj893 : inA a814 b280 → False := fun h => Nat.not_lt.2 (d890 _ h) hB785.lt
        have dj894 : inA a814 b407 → False := fun h => Nat.not_lt.2 (d890 _ h) hB786.lt
        have dj895 : ∀ k, inA a79 k → inA a814 k → False := fun kx h1 h2 => Nat.not_lt.2 (d890 kx h2) (hO792.blk kx h1).2
        have dj896 : ∀ k, inA a82 k → inA a814 k → False := fun kx h1 h2 => Nat.not_lt.2 (d890 kx h2) (hO793.blk kx h1).2
        have dj897 : ∀ k, inA a126 k → inA a814 k → False := fun kx h1 h2 => Nat.not_lt.2 (d890 kx h2) (hO794.blk kx h1).2
        have dj898 : ∀ k, inA a129 k → inA a814 k → False := fun kx h1 h2 => Nat.not_lt.2 (d890 kx h2) (hO795.blk kx h1).2
        have dj899 : ∀ k, inA a132 k → inA a814 k → False := fun kx h1 h2 => Nat.not_lt.2 (d890 kx h2) (hO796.blk kx h1).2
        have dj900 : ∀ k, inA a234 k → inA a814 k → False := fun kx h1 h2 => Nat.not_lt.2 (d890 kx h2) (hO797.blk kx h1).2
        have dj901 : ∀ k, inA a237 k → inA a814 k → False := fun kx h1 h2 => Nat.not_lt.2 (d890 kx h2) (hO798.blk kx h1).2
        have dj902 : ∀ k, inA a331 k → inA a814 k → False := fun kx h1 h2 => Nat.not_lt.2 (d890 kx h2) (hO799.blk kx h1).2
        have dj903 : ∀ k, inA a334 k → inA a814 k → False := fun kx h1 h2 => Nat.not_lt.2 (d890 kx h2) (hO800.blk kx h1).2
        have dj904 : ∀ k, inA a337 k → inA a814 k → False := fun kx h1 h2 => Nat.not_lt.2 (d890 kx h2) (hO801.blk kx h1).2
        have dj905 : ∀ k, inA a613 k → inA a814 k → False := fun kx h1 h2 => Nat.not_lt.2 (d890 kx h2) (hO802.blk kx h1).2
        have dj906 : ∀ k, inA a616 k → inA a814 k → False := fun kx h1 h2 => Nat.not_lt.2 (d890 kx h2) (hO803.blk kx h1).2
        have fr907 : ∀ k, inA a814 k → k < w.heap.size → False := fun kx h1 h2 => Nat.not_lt.2 (Nat.le_trans E804.size (d890 kx h1)) h2
        have hO908 := hO823.base E804.size
        refine m_k 3 [4] rfl (by kernel_rfl) rfl rfl (fun w909 e910 => ?_)
        have hB911 := hB829.ext0 e910
        have hB912 := hB830.ext0 e910
        have hB913 := hB831.ext0 e910
        have hB914 := hB832.ext0 e910
        have hS915 := hS833.ext0 e910
        have hS916 := hS834.ext0 e910
        have hS917 := hS835.ext0 e910
        have hS918 := hS836.ext0 e910
        have hS919 := hS837.ext0 e910
        have hO920 := hO838.ext0 e910
        have hO921 := hO839.ext0 e910
        have hO922 := hO840.ext0 e910
        have hO923 := hO841.ext0 e910
        have hO924 := hO842.ext0 e910
        have hO925 := hO843.ext0 e910
        have hO926 := hO844.ext0 e910
        have hO927 := hO845.ext0 e910
        have hO928 := hO846.ext0 e910
        have hO929 := hO847.ext0 e910
        have hO930 := hO848.ext0 e910
        have hO931 := hO849.ext0 e910
        have hO932 := hO870.ext0 e910
        have hO933 := hO889.ext0 e910
        have hO934 := hO908.ext0 e910
        have E935 := E850.fresh e910 (fun _ h _ => h.elim)
        have R936 := R851.trans (Ext0.any e910)
        refine k_call T10.fn_46 (c_l_eqField _ hO927.sl hl341 hc342 hO932.sl hl818 hc819 (by omega) hO928.sl hl344 hc345 hO933.sl hl821 hc822 (by omega) hO929.sl hl347 hc348 hO934.sl hl824 hc825 (by omega)) rfl ?_
        rintro _ w937 ⟨rfl, e938⟩
        have hB939 := hB911.ext0 e938
        have hB940 := hB912.ext0 e938
        have hB941 := hB913.ext0 e938
        have hB942 := hB914.ext0 e938
        have hS943 := hS915.ext0 e938
        have hS944 := hS916.ext0 e938
        have hS945 := hS917.ext0 e938
        have hS946 := hS918.ext0 e938
        have hS947 := hS919.ext0 e938
        have hO948 := hO920.ext0 e938
        have hO949 := hO921.ext0 e938
        have hO950 := hO922.ext0 e938
        have hO951 := hO923.ext0 e938
        have hO952 := hO924.ext0 e938
        have hO953 := hO925.ext0 e938
        have hO954 := hO926.ext0 e938
        have hO955 := hO927.ext0 e938
        have hO956 := hO928.ext0 e938
        have hO957 := hO929.ext0 e938
        have hO958 := hO930.ext0 e938
        have hO959 := hO931.ext0 e938
        have hO960 := hO932.ext0 e938
        have hO961 := hO933.ext0 e938
        have hO962 := hO934.ext0 e938
        have E963 := E935.fresh e938 (fun _ h _ => h.elim)
        have R964 := R936.trans (Ext0.any e938)
        refine ⟨fun _ => R964, ?_⟩
        refine m_y (v := .bool false) 4 rfl (by kernel_rfl) rfl rfl (fun w' e' => y_not rfl rfl) ?_
        refine m_done (by kernel_rfl) (fun w965 e966 => ?_)
        have hB967 := hB939.ext0 e966
        have hB968 := hB940.ext0 e966
        have hB969 := hB941.ext0 e966
        have hB970 := hB942.ext0 e966
        have hS971 := hS943.ext0 e966
        have hS972 := hS944.ext0 e966
        have hS973 := hS945.ext0 e966
        have hS974 := hS946.ext0 e966
        have hS975 := hS947.ext0 e966
        have hO976 := hO948.ext0 e966
        have hO977 := hO949.ext0 e966
        have hO978 := hO950.ext0 e966
        have hO979 := hO951.ext0 e966
        have hO980 := hO952.ext0 e966
        have hO981 := hO953.ext0 e966
        have hO982 := hO954.ext0 e966
        have hO983 := hO955.ext0 e966
        have hO984 := hO956.ext0 e966
        have hO985 := hO957.ext0 e966
        have hO986 := hO958.ext0 e966
        have hO987 := hO959.ext0 e966
        have hO988 := hO960.ext0 e966
        have hO989 := hO961.ext0 e966
        have hO990 := hO962.ext0 e966
        have E991 := E963.fresh e966 (fun _ h _ => h.elim)
        have R992 := R964.trans (Ext0.any e966)
        refine W_if_f (by decide) rfl ?_
        refine W_skip ?_
        refine W_seq ?_
        refine W_region (by kernel_rfl) ?_
        refine s_y (v := .bool true) rfl (y_assign rfl) ?_
        refine s_nil ?_
        refine W_ret ?_
        refine ret1 rfl rfl rfl ⟨_, rfl, ?_⟩
        exact ⟨rfl, E991⟩
      · obtain ⟨_, rfl⟩ := hx197.resolve_left (fun hz => c212 hz.1)
        clear hx197
        refine m_y (v := .tuple #[.float .f32 0, .bool false]) 7 rfl (by kernel_rfl) rfl rfl (fun w' e' => y_move rfl) ?_
        refine m_y (v := .float .f32 0) 8 rfl (by kernel_rfl) rfl rfl (fun w' e' => y_extract rfl rfl) ?_
        refine m_y (v := .bool false) 9 rfl (by kernel_rfl) rfl rfl (fun w' e' => y_extract rfl rfl) ?_
        refine m_y (v := .float .f32 0) 10 rfl (by kernel_rfl) rfl rfl (fun w' e' => y_assign rfl) ?_
        refine m_y (v := .bool false) 11 rfl (by kernel_rfl) rfl rfl (fun w' e' => y_assign rfl) ?_
        refine m_done (by kernel_rfl) (fun w995 e996 => ?_)
        have hB997 := hB198.ext0 e996
        have hB998 := hB199.ext0 e996
        have hS999 := hS200.ext0 e996
        have hS1000 := hS201.ext0 e996
        have hS1001 := hS202.ext0 e996
        have hS1002 := hS203.ext0 e996
        have hS1003 := hS204.ext0 e996
        have hO1004 := hO205.ext0 e996
        have hO1005 := hO206.ext0 e996
        have hO1006 := hO207.ext0 e996
        have hO1007 := hO208.ext0 e996
        have hO1008 := hO209.ext0 e996
        have E1009 := E210.fresh e996 (fun _ h _ => h.elim)
        have R1010 := R211.trans (Ext0.any e996)
        refine W_seq ?_
        refine W_region (by kernel_rfl) ?_
        refine s_y (v := .agg #[.int .i64 wd0, .int .i64 hi0, .bool wr0, .slice asp0 nsp0 csp0, .slice als0 nls0 cls0]) rfl (y_loadn (b := b1) (o := 0) (vs := [.int .i64 wd0, .int .i64 hi0, .bool wr0, .slice asp0 nsp0 csp0, .slice als0 nls0 cls0]) T10.agg_36_5 rfl rfl (hB997.cells (o := 0) rfl)) ?_
        refine s_k rfl (k_call T10.fn_23 (c_l_toSheet _ hS999 qlsp0 qksp0 hS1000 qlls0 qkls0 (by omega) (by omega)) rfl ?_)
        rintro _ w1011 ⟨⟨a1013, c1014, z1015, a1016, c1017, z1018, rfl, hO1019, hl1020, hc1021, hO1022, hl1023, hc1024, dj1025⟩, e1012⟩
        have hB1026 := hB997.ext0 e1012
        have hB1027 := hB998.ext0 e1012
        have hS1028 := hS999.ext0 e1012
        have hS1029 := hS1000.ext0 e1012
        have hS1030 := hS1001.ext0 e1012
        have hS1031 := hS1002.ext0 e1012
        have hS1032 := hS1003.ext0 e1012
        have hO1033 := hO1004.ext0 e1012
        have hO1034 := hO1005.ext0 e1012
        have hO1035 := hO1006.ext0 e1012
        have hO1036 := hO1007.ext0 e1012
        have hO1037 := hO1008.ext0 e1012
        have E1038 := E1009.fresh e1012 (fun _ h _ => h.elim)
        have d1039 : ∀ k, inA a1013 k → w995.heap.size ≤ k := fun kx hk => (hO1019.blk kx hk).1
        have dj1040 : inA a1013 b1 → False := fun h => Nat.not_lt.2 (d1039 _ h) hB997.lt
        have dj1041 : inA a1013 b13 → False := fun h => Nat.not_lt.2 (d1039 _ h) hB998.lt
        have dj1042 : ∀ k, inA a79 k → inA a1013 k → False := fun kx h1 h2 => Nat.not_lt.2 (d1039 kx h2) (hO1004.blk kx h1).2
        have dj1043 : ∀ k, inA a82 k → inA a1013 k → False := fun kx h1 h2 => Nat.not_lt.2 (d1039 kx h2) (hO1005.blk kx h1).2
        have dj1044 : ∀ k, inA a126 k → inA a1013 k → False := fun kx h1 h2 => Nat.not_lt.2 (d1039 kx h2) (hO1006.blk kx h1).2
        have dj1045 : ∀ k, inA a129 k → inA a1013 k → False := fun kx h1 h2 => Nat.not_lt.2 (d1039 kx h2) (hO1007.blk kx h1).2
        have dj1046 : ∀ k, inA a132 k → inA a1013 k → False := fun kx h1 h2 => Nat.not_lt.2 (d1039 kx h2) (hO1008.blk kx h1).2
        have fr1047 : ∀ k, inA a1013 k → k < w.heap.size → False := fun kx h1 h2 => Nat.not_lt.2 (Nat.le_trans E1009.size (d1039 kx h1)) h2
        have hO1048 := hO1019.base E1009.size
        have d1049 : ∀ k, inA a1016 k → w995.heap.size ≤ k := fun kx hk => (hO1022.blk kx hk).1
        have dj1050 : inA a1016 b1 → False := fun h => Nat.not_lt.2 (d1049 _ h) hB997.lt
        have dj1051 : inA a1016 b13 → False := fun h => Nat.not_lt.2 (d1049 _ h) hB998.lt
        have dj1052 : ∀ k, inA a79 k → inA a1016 k → False := fun kx h1 h2 => Nat.not_lt.2 (d1049 kx h2) (hO1004.blk kx h1).2
        have dj1053 : ∀ k, inA a82 k → inA a1016 k → False := fun kx h1 h2 => Nat.not_lt.2 (d1049 kx h2) (hO1005.blk kx h1).2
        have dj1054 : ∀ k, inA a126 k → inA a1016 k → False := fun kx h1 h2 => Nat.not_lt.2 (d1049 kx h2) (hO1006.blk kx h1).2
        have dj1055 : ∀ k, inA a129 k → inA a1016 k → False := fun kx h1 h2 => Nat.not_lt.2 (d1049 kx h2) (hO1007.blk kx h1).2
        have dj1056 : ∀ k, inA a132 k → inA a1016 k → False := fun kx h1 h2 => Nat.not_lt.2 (d1049 kx h2) (hO1008.blk kx h1).2
        have fr1057 : ∀ k, inA a1016 k → k < w.heap.size → False := fun kx h1 h2 => Nat.not_lt.2 (Nat.le_trans E1009.size (d1049 kx h1)) h2
        have hO1058 := hO1022.base E1009.size
        refine s_k rfl (k_alloc (z := (.agg #[.int .i64 0, .int .i64 0, .bool false, .slice none 0 0, .slice none 0 0])) (cs := [.int .i64 0, .int .i64 0, .bool false, .slice none 0 0, .slice none 0 0]) T10.zero_26 rfl (fun b1059 w1060 q1062 e1061 hB1063 => ?_))
        have hB1064 := hB1026.ext0 e1061
        have hB1065 := hB1027.ext0 e1061
        have hS1066 := hS1028.ext0 e1061
        have hS1067 := hS1029.ext0 e1061
        have hS1068 := hS1030.ext0 e1061
        have hS1069 := hS1031.ext0 e1061
        have hS1070 := hS1032.ext0 e1061
        have hO1071 := hO1033.ext0 e1061
        have hO1072 := hO1034.ext0 e1061
        have hO1073 := hO1035.ext0 e1061
        have hO1074 := hO1036.ext0 e1061
        have hO1075 := hO1037.ext0 e1061
        have hO1076 := hO1048.ext0 e1061
        have hO1077 := hO1058.ext0 e1061
        have E1078 := E1038.fresh e1061 (fun _ h _ => h.elim)
        have dj1079 : NeB b1 b1059 := fun h => Nat.ne_of_lt hB1026.lt (h.trans q1062)
        have dj1080 : NeB b13 b1059 := fun h => Nat.ne_of_lt hB1027.lt (h.trans q1062)
        have dj1081 : inA a79 b1059 → False := fun h => Nat.ne_of_lt (hO1033.blk _ h).2 q1062
        have dj1082 : inA a82 b1059 → False := fun h => Nat.ne_of_lt (hO1034.blk _ h).2 q1062
        have dj1083 : inA a126 b1059 → False := fun h => Nat.ne_of_lt (hO1035.blk _ h).2 q1062
        have dj1084 : inA a129 b1059 → False := fun h => Nat.ne_of_lt (hO1036.blk _ h).2 q1062
        have dj1085 : inA a132 b1059 → False := fun h => Nat.ne_of_lt (hO1037.blk _ h).2 q1062
        have dj1086 : inA a1013 b1059 → False := fun h => Nat.ne_of_lt (hO1048.blk _ h).2 q1062
        have dj1087 : inA a1016 b1059 → False := fun h => Nat.ne_of_lt (hO1058.blk _ h).2 q1062
        have fr1088 : NotLt b1059 w.heap.size := fun h => Nat.not_lt.2 (Nat.le_trans E1038.size (Nat.le_of_eq q1062.symm)) h
        clear q1062
        refine s_k0 rfl (k_store (v := .agg #[.int .i64 wd0, .int .i64 hi0, .bool wr0, .slice a1013 nsp0 c1014, .slice a1016 nls0 c1017]) (n := 5) (cs' := [.int .i64 wd0, .int .i64 hi0, .bool wr0, .slice a1013 nsp0 c1014, .slice a1016 nls0 c1017]) T10.sz_26_5 rfl rfl rfl hB1063 (by simp [Value.cells, Value.oneCell']) (Nat.le_of_ble_eq_true rfl) rfl (fun w1089 e1090 z1091 hB1092 => ?_))
        clear z1091
        have hB1093 := hB1064.ext e1090 dj1079
        have hB1094 := hB1065.ext e1090 dj1080
        have hS1095 := hS1066.extL lo_asp0 e1090 (fun kx (hs : kx = b1059) hl => fr1088 (hs ▸ hl))
        have hS1096 := hS1067.extL lo_als0 e1090 (fun kx (hs : kx = b1059) hl => fr1088 (hs ▸ hl))
        have hS1097 := hS1068.extL lo_afe1 e1090 (fun kx (hs : kx = b1059) hl => fr1088 (hs ▸ hl))
        have hS1098 := hS1069.extL lo_afx1 e1090 (fun kx (hs : kx = b1059) hl => fr1088 (hs ▸ hl))
        have hS1099 := hS1070.extL lo_afy1 e1090 (fun kx (hs : kx = b1059) hl => fr1088 (hs ▸ hl))
        have hO1100 := hO1071.ext e1090 (fun kx hk (hs : kx = b1059) => dj1081 (hs ▸ hk))
        have hO1101 := hO1072.ext e1090 (fun kx hk (hs : kx = b1059) => dj1082 (hs ▸ hk))
        have hO1102 := hO1073.ext e1090 (fun kx hk (hs : kx = b1059) => dj1083 (hs ▸ hk))
        have hO1103 := hO1074.ext e1090 (fun kx hk (hs : kx = b1059) => dj1084 (hs ▸ hk))
        have hO1104 := hO1075.ext e1090 (fun kx hk (hs : kx = b1059) => dj1085 (hs ▸ hk))
        have hO1105 := hO1076.ext e1090 (fun kx hk (hs : kx = b1059) => dj1086 (hs ▸ hk))
        have hO1106 := hO1077.ext e1090 (fun kx hk (hs : kx = b1059) => dj1087 (hs ▸ hk))
        have E1107 := E1078.fresh e1090 (fun kx (hs : kx = b1059) hl => (fr1088 (hs ▸ hl)).elim)
        refine s_nil ?_
        refine W_seq ?_
        refine W_region (by kernel_rfl) ?_
        refine s_y (v := .agg #[.slice afe1 nfe1 cfe1, .slice afx1 nfx1 cfx1, .slice afy1 nfy1 cfy1]) rfl (y_loadn (b := b13) (o := 0) (vs := [.slice afe1 nfe1 cfe1, .slice afx1 nfx1 cfx1, .slice afy1 nfy1 cfy1]) T10.agg_60_3 rfl rfl (hB1094.cells (o := 0) rfl)) ?_
        refine s_k rfl (k_call T10.fn_43 (c_l_toField _ hS1097 qlfe1 qkfe1 hS1098 qlfx1 qkfx1 hS1099 qlfy1 qkfy1 (by omega) (by omega) (by omega)) rfl ?_)
        rintro _ w1108 ⟨⟨a1110, c1111, z1112, a1113, c1114, z1115, a1116, c1117, z1118, rfl, hO1119, hl1120, hc1121, hO1122, hl1123, hc1124, hO1125, hl1126, hc1127, dj1128, dj1129, dj1130⟩, e1109⟩
        have hB1131 := hB1093.ext0 e1109
        have hB1132 := hB1094.ext0 e1109
        have hB1133 := hB1092.ext0 e1109
        have hS1134 := hS1095.ext0 e1109
        have hS1135 := hS1096.ext0 e1109
        have hS1136 := hS1097.ext0 e1109
        have hS1137 := hS1098.ext0 e1109
        have hS1138 := hS1099.ext0 e1109
        have hO1139 := hO1100.ext0 e1109
        have hO1140 := hO1101.ext0 e1109
        have hO1141 := hO1102.ext0 e1109
        have hO1142 := hO1103.ext0 e1109
        have hO1143 := hO1104.ext0 e1109
        have hO1144 := hO1105.ext0 e1109
        have hO1145 := hO1106.ext0 e1109
        have E1146 := E1107.fresh e1109 (fun _ h _ => h.elim)
        have d1147 : ∀ k, inA a1110 k → w1089.heap.size ≤ k := fun kx hk => (hO1119.blk kx hk).1
        have dj1148 : inA a1110 b1 → False := fun h => Nat.not_lt.2 (d1147 _ h) hB1093.lt
        have dj1149 : inA a1110 b13 → False := fun h => Nat.not_lt.2 (d1147 _ h) hB1094.lt
        have dj1150 : inA a1110 b1059 → False := fun h => Nat.not_lt.2 (d1147 _ h) hB1092.lt
        have dj1151 : ∀ k, inA a79 k → inA a1110 k → False := fun kx h1 h2 => Nat.not_lt.2 (d1147 kx h2) (hO1100.blk kx h1).2
        have dj1152 : ∀ k, inA a82 k → inA a1110 k → False := fun kx h1 h2 => Nat.not_lt.2 (d1147 kx h2) (hO1101.blk kx h1).2
        have dj1153 : ∀ k, inA a126 k → inA a1110 k → False := fun kx h1 h2 => Nat.not_lt.2 (d1147 kx h2) (hO1102.blk kx h1).2
        have dj1154 : ∀ k, inA a129 k → inA a1110 k → False := fun kx h1 h2 => Nat.not_lt.2 (d1147 kx h2) (hO1103.blk kx h1).2
        have dj1155 : ∀ k, inA a132 k → inA a1110 k → False := fun kx h1 h2 => Nat.not_lt.2 (d1147 kx h2) (hO1104.blk kx h1).2
        have dj1156 : ∀ k, inA a1013 k → inA a1110 k → False := fun kx h1 h2 => Nat.not_lt.2 (d1147 kx h2) (hO1105.blk kx h1).2
        have dj1157 : ∀ k, inA a1016 k → inA a1110 k → False := fun kx h1 h2 => Nat.not_lt.2 (d1147 kx h2) (hO1106.blk kx h1).2
        have fr1158 : ∀ k, inA a1110 k → k < w.heap.size → False := fun kx h1 h2 => Nat.not_lt.2 (Nat.le_trans E1107.size (d1147 kx h1)) h2
        have hO1159 := hO1119.base E1107.size
        have d1160 : ∀ k, inA a1113 k → w1089.heap.size ≤ k := fun kx hk => (hO1122.blk kx hk).1
        have dj1161 : inA a1113 b1 → False := fun h => Nat.not_lt.2 (d1160 _ h) hB1093.lt
        have dj1162 : inA a1113 b13 → False := fun h => Nat.not_lt.2 (d1160 _ h) hB1094.lt
        have dj1163 : inA a1113 b1059 → False := fun h => Nat.not_lt.2 (d1160 _ h) hB1092.lt
        have dj1164 : ∀ k, inA a79 k → inA a1113 k → False := fun kx h1 h2 => Nat.not_lt.2 (d1160 kx h2) (hO1100.blk kx h1).2
        have dj1165 : ∀ k, inA a82 k → inA a1113 k → False := fun kx h1 h2 => Nat.not_lt.2 (d1160 kx h2) (hO1101.blk kx h1).2
        have dj1166 : ∀ k, inA a126 k → inA a1113 k → False := fun kx h1 h2 => Nat.not_lt.2 (d1160 kx h2) (hO1102.blk kx h1).2
        have dj1167 : ∀ k, inA a129 k → inA a1113 k → False := fun kx h1 h2 => Nat.not_lt.2 (d1160 kx h2) (hO1103.blk kx h1).2
        have dj1168 : ∀ k, inA a132 k → inA a1113 k → False := fun kx h1 h2 => Nat.not_lt.2 (d1160 kx h2) (hO1104.blk kx h1).2
        have dj1169 : ∀ k, inA a1013 k → inA a1113 k → False := fun kx h1 h2 => Nat.not_lt.2 (d1160 kx h2) (hO1105.blk kx h1).2
        have dj1170 : ∀ k, inA a1016 k → inA a1113 k → False := fun kx h1 h2 => Nat.not_lt.2 (d1160 kx h2) (hO1106.blk kx h1).2
        have fr1171 : ∀ k, inA a1113 k → k < w.heap.size → False := fun kx h1 h2 => Nat.not_lt.2 (Nat.le_trans E1107.size (d1160 kx h1)) h2
        have hO1172 := hO1122.base E1107.size
        have d1173 : ∀ k, inA a1116 k → w1089.heap.size ≤ k := fun kx hk => (hO1125.blk kx hk).1
        have dj1174 : inA a1116 b1 → False := fun h => Nat.not_lt.2 (d1173 _ h) hB1093.lt
        have dj1175 : inA a1116 b13 → False := fun h => Nat.not_lt.2 (d1173 _ h) hB1094.lt
        have dj1176 : inA a1116 b1059 → False := fun h => Nat.not_lt.2 (d1173 _ h) hB1092.lt
        have dj1177 : ∀ k, inA a79 k → inA a1116 k → False := fun kx h1 h2 => Nat.not_lt.2 (d1173 kx h2) (hO1100.blk kx h1).2
        have dj1178 : ∀ k, inA a82 k → inA a1116 k → False := fun kx h1 h2 => Nat.not_lt.2 (d1173 kx h2) (hO1101.blk kx h1).2
        have dj1179 : ∀ k, inA a126 k → inA a1116 k → False := fun kx h1 h2 => Nat.not_lt.2 (d1173 kx h2) (hO1102.blk kx h1).2
        have dj1180 : ∀ k, inA a129 k → inA a1116 k → False := fun kx h1 h2 => Nat.not_lt.2 (d1173 kx h2) (hO1103.blk kx h1).2
        have dj1181 : ∀ k, inA a132 k → inA a1116 k → False := fun kx h1 h2 => Nat.not_lt.2 (d1173 kx h2) (hO1104.blk kx h1).2
        have dj1182 : ∀ k, inA a1013 k → inA a1116 k → False := fun kx h1 h2 => Nat.not_lt.2 (d1173 kx h2) (hO1105.blk kx h1).2
        have dj1183 : ∀ k, inA a1016 k → inA a1116 k → False := fun kx h1 h2 => Nat.not_lt.2 (d1173 kx h2) (hO1106.blk kx h1).2
        have fr1184 : ∀ k, inA a1116 k → k < w.heap.size → False := fun kx h1 h2 => Nat.not_lt.2 (Nat.le_trans E1107.size (d1173 kx h1)) h2
        have hO1185 := hO1125.base E1107.size
        refine s_k rfl (k_alloc (z := (.agg #[.slice none 0 0, .slice none 0 0, .slice none 0 0])) (cs := [.slice none 0 0, .slice none 0 0, .slice none 0 0]) T10.zero_65 rfl (fun b1186 w1187 q1189 e1188 hB1190 => ?_))
        have hB1191 := hB1131.ext0 e1188
        have hB1192 := hB1132.ext0 e1188
        have hB1193 := hB1133.ext0 e1188
        have hS1194 := hS1134.ext0 e1188
        have hS1195 := hS1135.ext0 e1188
        have hS1196 := hS1136.ext0 e1188
        have hS1197 := hS1137.ext0 e1188
        have hS1198 := hS1138.ext0 e1188
        have hO1199 := hO1139.ext0 e1188
        have hO1200 := hO1140.ext0 e1188
        have hO1201 := hO1141.ext0 e1188
        have hO1202 := hO1142.ext0 e1188
        have hO1203 := hO1143.ext0 e1188
        have hO1204 := hO1144.ext0 e1188
        have hO1205 := hO1145.ext0 e1188
        have hO1206 := hO1159.ext0 e1188
        have hO1207 := hO1172.ext0 e1188
        have hO1208 := hO1185.ext0 e1188
        have E1209 := E1146.fresh e1188 (fun _ h _ => h.elim)
        have dj1210 : NeB b1 b1186 := fun h => Nat.ne_of_lt hB1131.lt (h.trans q1189)
        have dj1211 : NeB b13 b1186 := fun h => Nat.ne_of_lt hB1132.lt (h.trans q1189)
        have dj1212 : NeB b1059 b1186 := fun h => Nat.ne_of_lt hB1133.lt (h.trans q1189)
        have dj1213 : inA a79 b1186 → False := fun h => Nat.ne_of_lt (hO1139.blk _ h).2 q1189
        have dj1214 : inA a82 b1186 → False := fun h => Nat.ne_of_lt (hO1140.blk _ h).2 q1189
        have dj1215 : inA a126 b1186 → False := fun h => Nat.ne_of_lt (hO1141.blk _ h).2 q1189
        have dj1216 : inA a129 b1186 → False := fun h => Nat.ne_of_lt (hO1142.blk _ h).2 q1189
        have dj1217 : inA a132 b1186 → False := fun h => Nat.ne_of_lt (hO1143.blk _ h).2 q1189
        have dj1218 : inA a1013 b1186 → False := fun h => Nat.ne_of_lt (hO1144.blk _ h).2 q1189
        have dj1219 : inA a1016 b1186 → False := fun h => Nat.ne_of_lt (hO1145.blk _ h).2 q1189
        have dj1220 : inA a1110 b1186 → False := fun h => Nat.ne_of_lt (hO1159.blk _ h).2 q1189
        have dj1221 : inA a1113 b1186 → False := fun h => Nat.ne_of_lt (hO1172.blk _ h).2 q1189
        have dj1222 : inA a1116 b1186 → False := fun h => Nat.ne_of_lt (hO1185.blk _ h).2 q1189
        have fr1223 : NotLt b1186 w.heap.size := fun h => Nat.not_lt.2 (Nat.le_trans E1146.size (Nat.le_of_eq q1189.symm)) h
        clear q1189
        refine s_k0 rfl (k_store (v := .agg #[.slice a1110 nfe1 c1111, .slice a1113 nfx1 c1114, .slice a1116 nfy1 c1117]) (n := 3) (cs' := [.slice a1110 nfe1 c1111, .slice a1113 nfx1 c1114, .slice a1116 nfy1 c1117]) T10.sz_65_3 rfl rfl rfl hB1190 (by simp [Value.cells, Value.oneCell']) (Nat.le_of_ble_eq_true rfl) rfl (fun w1224 e1225 z1226 hB1227 => ?_))
        clear z1226
        have hB1228 := hB1191.ext e1225 dj1210
        have hB1229 := hB1192.ext e1225 dj1211
        have hB1230 := hB1193.ext e1225 dj1212
        have hS1231 := hS1194.extL lo_asp0 e1225 (fun kx (hs : kx = b1186) hl => fr1223 (hs ▸ hl))
        have hS1232 := hS1195.extL lo_als0 e1225 (fun kx (hs : kx = b1186) hl => fr1223 (hs ▸ hl))
        have hS1233 := hS1196.extL lo_afe1 e1225 (fun kx (hs : kx = b1186) hl => fr1223 (hs ▸ hl))
        have hS1234 := hS1197.extL lo_afx1 e1225 (fun kx (hs : kx = b1186) hl => fr1223 (hs ▸ hl))
        have hS1235 := hS1198.extL lo_afy1 e1225 (fun kx (hs : kx = b1186) hl => fr1223 (hs ▸ hl))
        have hO1236 := hO1199.ext e1225 (fun kx hk (hs : kx = b1186) => dj1213 (hs ▸ hk))
        have hO1237 := hO1200.ext e1225 (fun kx hk (hs : kx = b1186) => dj1214 (hs ▸ hk))
        have hO1238 := hO1201.ext e1225 (fun kx hk (hs : kx = b1186) => dj1215 (hs ▸ hk))
        have hO1239 := hO1202.ext e1225 (fun kx hk (hs : kx = b1186) => dj1216 (hs ▸ hk))
        have hO1240 := hO1203.ext e1225 (fun kx hk (hs : kx = b1186) => dj1217 (hs ▸ hk))
        have hO1241 := hO1204.ext e1225 (fun kx hk (hs : kx = b1186) => dj1218 (hs ▸ hk))
        have hO1242 := hO1205.ext e1225 (fun kx hk (hs : kx = b1186) => dj1219 (hs ▸ hk))
        have hO1243 := hO1206.ext e1225 (fun kx hk (hs : kx = b1186) => dj1220 (hs ▸ hk))
        have hO1244 := hO1207.ext e1225 (fun kx hk (hs : kx = b1186) => dj1221 (hs ▸ hk))
        have hO1245 := hO1208.ext e1225 (fun kx hk (hs : kx = b1186) => dj1222 (hs ▸ hk))
        have E1246 := E1209.fresh e1225 (fun kx (hs : kx = b1186) hl => (fr1223 (hs ▸ hl)).elim)
        refine s_nil ?_
        refine W_seq ?_
        refine W_region (by kernel_rfl) ?_
        refine s_y (v := .agg #[.int .i64 wd0, .int .i64 hi0, .bool wr0, .slice a1013 nsp0 c1014, .slice a1016 nls0 c1017]) rfl (y_loadn (b := b1059) (o := 0) (vs := [.int .i64 wd0, .int .i64 hi0, .bool wr0, .slice a1013 nsp0 c1014, .slice a1016 nls0 c1017]) T10.agg_26_5 rfl rfl (hB1230.cells (o := 0) rfl)) ?_
        refine s_y (v := .agg #[.slice a1110 nfe1 c1111, .slice a1113 nfx1 c1114, .slice a1116 nfy1 c1117]) rfl (y_loadn (b := b1186) (o := 0) (vs := [.slice a1110 nfe1 c1111, .slice a1113 nfx1 c1114, .slice a1116 nfy1 c1117]) T10.agg_65_3 rfl rfl (hB1227.cells (o := 0) rfl)) ?_
        refine s_y (v := .int .i64 i2) rfl (y_move rfl) ?_
        refine s_y (v := .int .i64 i3) rfl (y_move rfl) ?_
        refine s_k rfl (k_call T10.fn_44 (c_i_ValueAt _ hO1241.sl hl1020 hc1021 hO1242.sl hl1023 hc1024 (by omega) (by omega) hO1243.sl hl1120 hc1121 hO1244.sl hl1123 hc1124 hO1245.sl hl1126 hc1127 (by omega) (by omega) (by omega)) rfl ?_)
        rintro vhx1249 w1247 ⟨hx1249, e1248⟩
        have hB1250 := hB1228.ext0 e1248
        have hB1251 := hB1229.ext0 e1248
        have hB1252 := hB1230.ext0 e1248
        have hB1253 := hB1227.ext0 e1248
        have hS1254 := hS1231.ext0 e1248
        have hS1255 := hS1232.ext0 e1248
        have hS1256 := hS1233.ext0 e1248
        have hS1257 := hS1234.ext0 e1248
        have hS1258 := hS1235.ext0 e1248
        have hO1259 := hO1236.ext0 e1248
        have hO1260 := hO1237.ext0 e1248
        have hO1261 := hO1238.ext0 e1248
        have hO1262 := hO1239.ext0 e1248
        have hO1263 := hO1240.ext0 e1248
        have hO1264 := hO1241.ext0 e1248
        have hO1265 := hO1242.ext0 e1248
        have hO1266 := hO1243.ext0 e1248
        have hO1267 := hO1244.ext0 e1248
        have hO1268 := hO1245.ext0 e1248
        have E1269 := E1246.fresh e1248 (fun _ h _ => h.elim)
        obtain ⟨_, rfl⟩ := hx1249.resolve_left (fun hz => c212 hz.1)
        clear hx1249
        refine s_y (v := .tuple #[.float .f32 0, .bool false]) rfl (y_move rfl) ?_
        refine s_y (v := .float .f32 0) rfl (y_extract rfl rfl) ?_
        refine s_y (v := .bool false) rfl (y_extract rfl rfl) ?_
        refine s_y (v := .float .f32 0) rfl (y_assign rfl) ?_
        refine s_y (v := .bool false) rfl (y_assign rfl) ?_
        refine s_nil ?_
        refine W_seq ?_
        refine W_seq ?_
        refine W_region (by kernel_rfl) ?_
        refine s_y (v := .float .f32 0) rfl (y_move rfl) ?_
        refine s_n rfl (n_wide T10.und_62 T10.flt_68_f64 rfl) ?_
        rintro _ w1274 e1275 ⟨r1272, rfl, hr1273⟩
        have hB1276 := hB1250.ext0 e1275
        have hB1277 := hB1251.ext0 e1275
        have hB1278 := hB1252.ext0 e1275
        have hB1279 := hB1253.ext0 e1275
        have hS1280 := hS1254.ext0 e1275
        have hS1281 := hS1255.ext0 e1275
        have hS1282 := hS1256.ext0 e1275
        have hS1283 := hS1257.ext0 e1275
        have hS1284 := hS1258.ext0 e1275
        have hO1285 := hO1259.ext0 e1275
        have hO1286 := hO1260.ext0 e1275
        have hO1287 := hO1261.ext0 e1275
        have hO1288 := hO1262.ext0 e1275
        have hO1289 := hO1263.ext0 e1275
        have hO1290 := hO1264.ext0 e1275
        have hO1291 := hO1265.ext0 e1275
        have hO1292 := hO1266.ext0 e1275
        have hO1293 := hO1267.ext0 e1275
        have hO1294 := hO1268.ext0 e1275
        have E1295 := E1269.fresh e1275 (fun _ h _ => h.elim)
        have hc1296 := wideC hr1273 (show can .f32 0 = 0 by kernel_rfl)
        refine s_y (v := .float .f32 0) rfl (y_move rfl) ?_
        refine s_n rfl (n_wide T10.und_62 T10.flt_68_f64 rfl) ?_
        rintro _ w1299 e1300 ⟨r1297, rfl, hr1298⟩
        have hB1301 := hB1276.ext0 e1300
        have hB1302 := hB1277.ext0 e1300
        have hB1303 := hB1278.ext0 e1300
        have hB1304 := hB1279.ext0 e1300
        have hS1305 := hS1280.ext0 e1300
        have hS1306 := hS1281.ext0 e1300
        have hS1307 := hS1282.ext0 e1300
        have hS1308 := hS1283.ext0 e1300
        have hS1309 := hS1284.ext0 e1300
        have hO1310 := hO1285.ext0 e1300
        have hO1311 := hO1286.ext0 e1300
        have hO1312 := hO1287.ext0 e1300
        have hO1313 := hO1288.ext0 e1300
        have hO1314 := hO1289.ext0 e1300
        have hO1315 := hO1290.ext0 e1300
        have hO1316 := hO1291.ext0 e1300
        have hO1317 := hO1292.ext0 e1300
        have hO1318 := hO1293.ext0 e1300
        have hO1319 := hO1294.ext0 e1300
        have E1320 := E1295.fresh e1300 (fun _ h _ => h.elim)
        have hc1321 := wideC hr1298 (show can .f32 0 = 0 by kernel_rfl)
        refine s_k rfl (k_call T10.fn_45 (c_l_sameFloat _ _ _ hc1296 hc1321 _) rfl ?_)
        rintro _ w1322 ⟨rfl, e1323⟩
        have hB1324 := hB1301.ext0 e1323
        have hB1325 := hB1302.ext0 e1323
        have hB1326 := hB1303.ext0 e1323
        have hB1327 := hB1304.ext0 e1323
        have hS1328 := hS1305.ext0 e1323
        have hS1329 := hS1306.ext0 e1323
        have hS1330 := hS1307.ext0 e1323
        have hS1331 := hS1308.ext0 e1323
        have hS1332 := hS1309.ext0 e1323
        have hO1333 := hO1310.ext0 e1323
        have hO1334 := hO1311.ext0 e1323
        have hO1335 := hO1312.ext0 e1323
        have hO1336 := hO1313.ext0 e1323
        have hO1337 := hO1314.ext0 e1323
        have hO1338 := hO1315.ext0 e1323
        have hO1339 := hO1316.ext0 e1323
        have hO1340 := hO1317.ext0 e1323
        have hO1341 := hO1318.ext0 e1323
        have hO1342 := hO1319.ext0 e1323
        have E1343 := E1320.fresh e1323 (fun _ h _ => h.elim)
        refine s_y (v := .bool false) rfl (y_not rfl rfl) ?_
        refine s_y (v := .bool false) rfl (y_move rfl) ?_
        refine s_y (v := .bool false) rfl (y_move rfl) ?_
        refine s_y (v := .bool false) rfl (y_move rfl) ?_
        refine s_y (v := .bool false) rfl (y_bneq T10.bool_4 rfl rfl rfl) ?_
        refine s_y (v := .bool false) rfl (y_pick_f rfl rfl) ?_
        refine s_nil ?_
        refine W_if_f (by decide) rfl ?_
        refine W_skip ?_
        refine W_seq ?_
        refine W_seq ?_
        refine W_draw (no) T10.mx (by kernel_rfl) (fun w1344 e1345 => ?_)
        have hB1346 := hB1324.ext0 e1345
        have hB1347 := hB1325.ext0 e1345
        have hB1348 := hB1326.ext0 e1345
        have hB1349 := hB1327.ext0 e1345
        have hS1350 := hS1328.ext0 e1345
        have hS1351 := hS1329.ext0 e1345
        have hS1352 := hS1330.ext0 e1345
        have hS1353 := hS1331.ext0 e1345
        have hS1354 := hS1332.ext0 e1345
        have hO1355 := hO1333.ext0 e1345
        have hO1356 := hO1334.ext0 e1345
        have hO1357 := hO1335.ext0 e1345
        have hO1358 := hO1336.ext0 e1345
        have hO1359 := hO1337.ext0 e1345
        have hO1360 := hO1338.ext0 e1345
        have hO1361 := hO1339.ext0 e1345
        have hO1362 := hO1340.ext0 e1345
        have hO1363 := hO1341.ext0 e1345
        have hO1364 := hO1342.ext0 e1345
        have E1365 := E1343.fresh e1345 (fun _ h _ => h.elim)
        have R1366 := (Ext.refl (no) w1322).trans (Ext0.any e1345)
        refine m_y (v := .agg #[.int .i64 wd0, .int .i64 hi0, .bool wr0, .slice a1013 nsp0 c1014, .slice a1016 nls0 c1017]) 0 rfl (by kernel_rfl) rfl rfl (fun w' e' => y_loadn (b := b1059) (o := 0) (vs := [.int .i64 wd0, .int .i64 hi0, .bool wr0, .slice a1013 nsp0 c1014, .slice a1016 nls0 c1017]) T10.agg_26_5 rfl rfl ((hB1326.ext0 e').cells (o := 0) rfl)) ?_
        refine m_y (v := .agg #[.int .i64 wd0, .int .i64 hi0, .bool wr0, .slice asp0 nsp0 csp0, .slice als0 nls0 cls0]) 1 rfl (by kernel_rfl) rfl rfl (fun w' e' => y_loadn (b := b1) (o := 0) (vs := [.int .i64 wd0, .int .i64 hi0, .bool wr0, .slice asp0 nsp0 csp0, .slice als0 nls0 cls0]) T10.agg_36_5 rfl rfl ((hB1324.ext0 e').cells (o := 0) rfl)) ?_
        refine m_k 2 [3, 4] rfl (by kernel_rfl) rfl rfl (fun w1367 e1368 => ?_)
        have hB1369 := hB1346.ext0 e1368
        have hB1370 := hB1347.ext0 e1368
        have hB1371 := hB1348.ext0 e1368
        have hB1372 := hB1349.ext0 e1368
        have hS1373 := hS1350.ext0 e1368
        have hS1374 := hS1351.ext0 e1368
        have hS1375 := hS1352.ext0 e1368
        have hS1376 := hS1353.ext0 e1368
        have hS1377 := hS1354.ext0 e1368
        have hO1378 := hO1355.ext0 e1368
        have hO1379 := hO1356.ext0 e1368
        have hO1380 := hO1357.ext0 e1368
        have hO1381 := hO1358.ext0 e1368
        have hO1382 := hO1359.ext0 e1368
        have hO1383 := hO1360.ext0 e1368
        have hO1384 := hO1361.ext0 e1368
        have hO1385 := hO1362.ext0 e1368
        have hO1386 := hO1363.ext0 e1368
        have hO1387 := hO1364.ext0 e1368
        have E1388 := E1365.fresh e1368 (fun _ h _ => h.elim)
        have R1389 := R1366.trans (Ext0.any e1368)
        refine k_call T10.fn_23 (c_l_toSheet _ hS1373 qlsp0 qksp0 hS1374 qlls0 qkls0 (by omega) (by omega)) rfl ?_
        rintro _ w1390 ⟨⟨a1392, c1393, z1394, a1395, c1396, z1397, rfl, hO1398, hl1399, hc1400, hO1401, hl1402, hc1403, dj1404⟩, e1391⟩
        have hB1405 := hB1369.ext0 e1391
        have hB1406 := hB1370.ext0 e1391
        have hB1407 := hB1371.ext0 e1391
        have hB1408 := hB1372.ext0 e1391
        have hS1409 := hS1373.ext0 e1391
        have hS1410 := hS1374.ext0 e1391
        have hS1411 := hS1375.ext0 e1391
        have hS1412 := hS1376.ext0 e1391
        have hS1413 := hS1377.ext0 e1391
        have hO1414 := hO1378.ext0 e1391
        have hO1415 := hO1379.ext0 e1391
        have hO1416 := hO1380.ext0 e1391
        have hO1417 := hO1381.ext0 e1391
        have hO1418 := hO1382.ext0 e1391
        have hO1419 := hO1383.ext0 e1391
        have hO1420 := hO1384.ext0 e1391
        have hO1421 := hO1385.ext0 e1391
        have hO1422 := hO1386.ext0 e1391
        have hO1423 := hO1387.ext0 e1391
        have E1424 := E1388.fresh e1391 (fun _ h _ => h.elim)
        have R1425 := R1389.trans (Ext0.any e1391)
        refine ⟨fun _ => R1425, ?_⟩
        have d1426 : ∀ k, inA a1392 k → w1367.heap.size ≤ k := fun kx hk => (hO1398.blk kx hk).1
        have dj1427 : inA a1392 b1 → False := fun h => Nat.not_lt.2 (d1426 _ h) hB1369.lt
        have dj1428 : inA a1392 b13 → False := fun h => Nat.not_lt.2 (d1426 _ h) hB1370.lt
        have dj1429 : inA a1392 b1059 → False := fun h => Nat.not_lt.2 (d1426 _ h) hB1371.lt
        have dj1430 : inA a1392 b1186 → False := fun h => Nat.not_lt.2 (d1426 _ h) hB1372.lt
        have dj1431 : ∀ k, inA a79 k → inA a1392 k → False := fun kx h1 h2 => Nat.not_lt.2 (d1426 kx h2) (hO1378.blk kx h1).2
        have dj1432 : ∀ k, inA a82 k → inA a1392 k → False := fun kx h1 h2 => Nat.not_lt.2 (d1426 kx h2) (hO1379.blk kx h1).2
        have dj1433 : ∀ k, inA a126 k → inA a1392 k → False := fun kx h1 h2 => Nat.not_lt.2 (d1426 kx h2) (hO1380.blk kx h1).2
        have dj1434 : ∀ k, inA a129 k → inA a1392 k → False := fun kx h1 h2 => Nat.not_lt.2 (d1426 kx h2) (hO1381.blk kx h1).2
        have dj1435 : ∀ k, inA a132 k → inA a1392 k → False := fun kx h1 h2 => Nat.not_lt.2 (d1426 kx h2) (hO1382.blk kx h1).2
        have dj1436 : ∀ k, inA a1013 k → inA a1392 k → False := fun kx h1 h2 => Nat.not_lt.2 (d1426 kx h2) (hO1383.blk kx h1).2
        have dj1437 : ∀ k, inA a1016 k → inA a1392 k → False := fun kx h1 h2 => Nat.not_lt.2 (d1426 kx h2) (hO1384.blk kx h1).2
        have dj1438 : ∀ k, inA a1110 k → inA a1392 k → False := fun kx h1 h2 => Nat.not_lt.2 (d1426 kx h2) (hO1385.blk kx h1).2
        have dj1439 : ∀ k, inA a1113 k → inA a1392 k → False := fun kx h1 h2 => Nat.not_lt.2 (d1426 kx h2) (hO1386.blk kx h1).2
        have dj1440 : ∀ k, inA a1116 k → inA a1392 k → False := fun kx h1 h2 => Nat.not_lt.2 (d1426 kx h2) (hO1387.blk kx h1).2
        have fr1441 : ∀ k, inA a1392 k → k < w.heap.size → False := fun kx h1 h2 => Nat.not_lt.2 (Nat.le_trans E1388.size (d1426 kx h1)) h2
        have hO1442 := hO1398.base E1388.size
        have d1443 : ∀ k, inA a1395 k → w1367.heap.size ≤ k := fun kx hk => (hO1401.blk kx hk).1
        have dj1444 : inA a1395 b1 → False := fun h => Nat.not_lt.2 (d1443 _ h) hB1369.lt
        have dj1445 : inA a1395 b13 → False := fun h => Nat.not_lt.2 (d1443 _ h) hB1370.lt
        have dj1446 : inA a1395 b1059 → False := fun h => Nat.not_lt.2 (d1443 _ h) hB1371.lt
        have dj1447 : inA a1395 b1186 → False := fun h => Nat.not_lt.2 (d1443 _ h) hB1372.lt
        have dj1448 : ∀ k, inA a79 k → inA a1395 k → False := fun kx h1 h2 => Nat.not_lt.2 (d1443 kx h2) (hO1378.blk kx h1).2
        have dj1449 : ∀ k, inA a82 k → inA a1395 k → False := fun kx h1 h2 => Nat.not_lt.2 (d1443 kx h2) (hO1379.blk kx h1).2
        have dj1450 : ∀ k, inA a126 k → inA a1395 k → False := fun kx h1 h2 => Nat.not_lt.2 (d1443 kx h2) (hO1380.blk kx h1).2
        have dj1451 : ∀ k, inA a129 k → inA a1395 k → False := fun kx h1 h2 => Nat.not_lt.2 (d1443 kx h2) (hO1381.blk kx h1).2
        have dj1452 : ∀ k, inA a132 k → inA a1395 k → False := fun kx h1 h2 => Nat.not_lt.2 (d1443 kx h2) (hO1382.blk kx h1).2
        have dj1453 : ∀ k, inA a1013 k → inA a1395 k → False := fun kx h1 h2 => Nat.not_lt.2 (d1443 kx h2) (hO1383.blk kx h1).2
        have dj1454 : ∀ k, inA a1016 k → inA a1395 k → False := fun kx h1 h2 => Nat.not_lt.2 (d1443 kx h2) (hO1384.blk kx h1).2
        have dj1455 : ∀ k, inA a1110 k → inA a1395 k → False := fun kx h1 h2 => Nat.not_lt.2 (d1443 kx h2) (hO1385.blk kx h1).2
        have dj1456 : ∀ k, inA a1113 k → inA a1395 k → False := fun kx h1 h2 => Nat.not_lt.2 (d1443 kx h2) (hO1386.blk kx h1).2
        have dj1457 : ∀ k, inA a1116 k → inA a1395 k → False := fun kx h1 h2 => Nat.not_lt.2 (d1443 kx h2) (hO1387.blk kx h1).2
        have fr1458 : ∀ k, inA a1395 k → k < w.heap.size → False := fun kx h1 h2 => Nat.not_lt.2 (Nat.le_trans E1388.size (d1443 kx h1)) h2
        have hO1459 := hO1401.base E1388.size
        refine m_k 3 [4] rfl (by kernel_rfl) rfl rfl (fun w1460 e1461 => ?_)
        have hB1462 := hB1405.ext0 e1461
        have hB1463 := hB1406.ext0 e1461
        have hB1464 := hB1407.ext0 e1461
        have hB1465 := hB1408.ext0 e1461
        have hS1466 := hS1409.ext0 e1461
        have hS1467 := hS1410.ext0 e1461
        have hS1468 := hS1411.ext0 e1461
        have hS1469 := hS1412.ext0 e1461
        have hS1470 := hS1413.ext0 e1461
        have hO1471 := hO1414.ext0 e1461
        have hO1472 := hO1415.ext0 e1461
        have hO1473 := hO1416.ext0 e1461
        have hO1474 := hO1417.ext0 e1461
        have hO1475 := hO1418.ext0 e1461
        have hO1476 := hO1419.ext0 e1461
        have hO1477 := hO1420.ext0 e1461
        have hO1478 := hO1421.ext0 e1461
        have hO1479 := hO1422.ext0 e1461
        have hO1480 := hO1423.ext0 e1461
        have hO1481 := hO1442.ext0 e1461
        have hO1482 := hO1459.ext0 e1461
        have E1483 := E1424.fresh e1461 (fun _ h _ => h.elim)
        have R1484 := R1425.trans (Ext0.any e1461)
        refine k_call T10.fn_25 (c_l_eqSheet _ hO1476.sl hl1020 hc1021 hO1481.sl hl1399 hc1400 (by omega) hO1477.sl hl1023 hc1024 hO1482.sl hl1402 hc1403 (by omega)) rfl ?_
        rintro _ w1485 ⟨rfl, e1486⟩
        have hB1487 := hB1462.ext0 e1486
        have hB1488 := hB1463.ext0 e1486
        have hB1489 := hB1464.ext0 e1486
        have hB1490 := hB1465.ext0 e1486
        have hS1491 := hS1466.ext0 e1486
        have hS1492 := hS1467.ext0 e1486
        have hS1493 := hS1468.ext0 e1486
        have hS1494 := hS1469.ext0 e1486
        have hS1495 := hS1470.ext0 e1486
        have hO1496 := hO1471.ext0 e1486
        have hO1497 := hO1472.ext0 e1486
        have hO1498 := hO1473.ext0 e1486
        have hO1499 := hO1474.ext0 e1486
        have hO1500 := hO1475.ext0 e1486
        have hO1501 := hO1476.ext0 e1486
        have hO1502 := hO1477.ext0 e1486
        have hO1503 := hO1478.ext0 e1486
        have hO1504 := hO1479.ext0 e1486
        have hO1505 := hO1480.ext0 e1486
        have hO1506 := hO1481.ext0 e1486
        have hO1507 := hO1482.ext0 e1486
        have E1508 := E1483.fresh e1486 (fun _ h _ => h.elim)
        have R1509 := R1484.trans (Ext0.any e1486)
        refine ⟨fun _ => R1509, ?_⟩
        refine m_y (v := .bool false) 4 rfl (by kernel_rfl) rfl rfl (fun w' e' => y_not rfl rfl) ?_
        refine m_done (by kernel_rfl) (fun w1510 e1511 => ?_)
        have hB1512 := hB1487.ext0 e1511
        have hB1513 := hB1488.ext0 e1511
        have hB1514 := hB1489.ext0 e1511
        have hB1515 := hB1490.ext0 e1511
        have hS1516 := hS1491.ext0 e1511
        have hS1517 := hS1492.ext0 e1511
        have hS1518 := hS1493.ext0 e1511
        have hS1519 := hS1494.ext0 e1511
        have hS1520 := hS1495.ext0 e1511
        have hO1521 := hO1496.ext0 e1511
        have hO1522 := hO1497.ext0 e1511
        have hO1523 := hO1498.ext0 e1511
        have hO1524 := hO1499.ext0 e1511
        have hO1525 := hO1500.ext0 e1511
        have hO1526 := hO1501.ext0 e1511
        have hO1527 := hO1502.ext0 e1511
        have hO1528 := hO1503.ext0 e1511
        have hO1529 := hO1504.ext0 e1511
        have hO1530 := hO1505.ext0 e1511
        have hO1531 := hO1506.ext0 e1511
        have hO1532 := hO1507.ext0 e1511
        have E1533 := E1508.fresh e1511 (fun _ h _ => h.elim)
        have R1534 := R1509.trans (Ext0.any e1511)
        refine W_if_f (by decide) rfl ?_
        refine W_skip ?_
        refine W_seq ?_
        refine W_seq ?_
        refine W_draw (no) T10.mx (by kernel_rfl) (fun w1535 e1536 => ?_)
        have hB1537 := hB1512.ext0 e1536
        have hB1538 := hB1513.ext0 e1536
        have hB1539 := hB1514.ext0 e1536
        have hB1540 := hB1515.ext0 e1536
        have hS1541 := hS1516.ext0 e1536
        have hS1542 := hS1517.ext0 e1536
        have hS1543 := hS1518.ext0 e1536
        have hS1544 := hS1519.ext0 e1536
        have hS1545 := hS1520.ext0 e1536
        have hO1546 := hO1521.ext0 e1536
        have hO1547 := hO1522.ext0 e1536
        have hO1548 := hO1523.ext0 e1536
        have hO1549 := hO1524.ext0 e1536
        have hO1550 := hO1525.ext0 e1536
        have hO1551 := hO1526.ext0 e1536
        have hO1552 := hO1527.ext0 e1536
        have hO1553 := hO1528.ext0 e1536
        have hO1554 := hO1529.ext0 e1536
        have hO1555 := hO1530.ext0 e1536
        have hO1556 := hO1531.ext0 e1536
        have hO1557 := hO1532.ext0 e1536
        have E1558 := E1533.fresh e1536 (fun _ h _ => h.elim)
        have R1559 := (Ext.refl (no) w1510).trans (Ext0.any e1536)
        refine m_y (v := .agg #[.slice a1110 nfe1 c1111, .slice a1113 nfx1 c1114, .slice a1116 nfy1 c1117]) 0 rfl (by kernel_rfl) rfl rfl (fun w' e' => y_loadn (b := b1186) (o := 0) (vs := [.slice a1110 nfe1 c1111, .slice a1113 nfx1 c1114, .slice a1116 nfy1 c1117]) T10.agg_65_3 rfl rfl ((hB1515.ext0 e').cells (o := 0) rfl)) ?_
        refine m_y (v := .agg #[.slice afe1 nfe1 cfe1, .slice afx1 nfx1 cfx1, .slice afy1 nfy1 cfy1]) 1 rfl (by kernel_rfl) rfl rfl (fun w' e' => y_loadn (b := b13) (o := 0) (vs := [.slice afe1 nfe1 cfe1, .slice afx1 nfx1 cfx1, .slice afy1 nfy1 cfy1]) T10.agg_60_3 rfl rfl ((hB1513.ext0 e').cells (o := 0) rfl)) ?_
        refine m_k 2 [3, 4] rfl (by kernel_rfl) rfl rfl (fun w1560 e1561 => ?_)
        have hB1562 := hB1537.ext0 e1561
        have hB1563 := hB1538.ext0 e1561
        have hB1564 := hB1539.ext0 e1561
        have hB1565 := hB1540.ext0 e1561
        have hS1566 := hS1541.ext0 e1561
        have hS1567 := hS1542.ext0 e1561
        have hS1568 := hS1543.ext0 e1561
        have hS1569 := hS1544.ext0 e1561
        have hS1570 := hS1545.ext0 e1561
        have hO1571 := hO1546.ext0 e1561
        have hO1572 := hO1547.ext0 e1561
        have hO1573 := hO1548.ext0 e1561
        have hO1574 := hO1549.ext0 e1561
        have hO1575 := hO1550.ext0 e1561
        have hO1576 := hO1551.ext0 e1561
        have hO1577 := hO1552.ext0 e1561
        have hO1578 := hO1553.ext0 e1561
        have hO1579 := hO1554.ext0 e1561
        have hO1580 := hO1555.ext0 e1561
        have hO1581 := hO1556.ext0 e1561
        have hO1582 := hO1557.ext0 e1561
        have E1583 := E1558.fresh e1561 (fun _ h _ => h.elim)
        have R1584 := R1559.trans (Ext0.any e1561)
        refine k_call T10.fn_43 (c_l_toField _ hS1568 qlfe1 qkfe1 hS1569 qlfx1 qkfx1 hS1570 qlfy1 qkfy1 (by omega) (by omega) (by omega)) rfl ?_
        rintro _ w1585 ⟨⟨a1587, c1588, z1589, a1590, c1591, z1592, a1593, c1594, z1595, rfl, hO1596, hl1597, hc1598, hO1599, hl1600, hc1601, hO1602, hl1603, hc1604, dj1605, dj1606, dj1607⟩, e1586⟩
        have hB1608 := hB1562.ext0 e1586
        have hB1609 := hB1563.ext0 e1586
        have hB1610 := hB1564.ext0 e1586
        have hB1611 := hB1565.ext0 e1586
        have hS1612 := hS1566.ext0 e1586
        have hS1613 := hS1567.ext0 e1586
        have hS1614 := hS1568.ext0 e1586
        have hS1615 := hS1569.ext0 e1586
        have hS1616 := hS1570.ext0 e1586
        have hO1617 := hO1571.ext0 e1586
        have hO1618 := hO1572.ext0 e1586
        have hO1619 := hO1573.ext0 e1586
        have hO1620 := hO1574.ext0 e1586
        have hO1621 := hO1575.ext0 e1586
        have hO1622 := hO1576.ext0 e1586
        have hO1623 := hO1577.ext0 e1586
        have hO1624 := hO1578.ext0 e1586
        have hO1625 := hO1579.ext0 e1586
        have hO1626 := hO1580.ext0 e1586
        have hO1627 := hO1581.ext0 e1586
        have hO1628 := hO1582.ext0 e1586
        have E1629 := E1583.fresh e1586 (fun _ h _ => h.elim)
        have R1630 := R1584.trans (Ext0.any e1586)
        refine ⟨fun _ => R1630, ?_⟩
        have d1631 : ∀ k, inA a1587 k → w1560.heap.size ≤ k := fun kx hk => (hO1596.blk kx hk).1
        have dj1632 : inA a1587 b1 → False := fun h => Nat.not_lt.2 (d1631 _ h) hB1562.lt
        have dj1633 : inA a1587 b13 → False := fun h => Nat.not_lt.2 (d1631 _ h) hB1563.lt
        have dj1634 : inA a1587 b1059 → False := fun h => Nat.not_lt.2 (d1631 _ h) hB1564.lt
        have dj1635 : inA a1587 b1186 → False := fun h => Nat.not_lt.2 (d1631 _ h) hB1565.lt
        have dj1636 : ∀ k, inA a79 k → inA a1587 k → False := fun kx h1 h2 => Nat.not_lt.2 (d1631 kx h2) (hO1571.blk kx h1).2
        have dj1637 : ∀ k, inA a82 k → inA a1587 k → False := fun kx h1 h2 => Nat.not_lt.2 (d1631 kx h2) (hO1572.blk kx h1).2
        have dj1638 : ∀ k, inA a126 k → inA a1587 k → False := fun kx h1 h2 => Nat.not_lt.2 (d1631 kx h2) (hO1573.blk kx h1).2
        have dj1639 : ∀ k, inA a129 k → inA a1587 k → False := fun kx h1 h2 => Nat.not_lt.2 (d1631 kx h2) (hO1574.blk kx h1).2
        have dj1640 : ∀ k, inA a132 k → inA a1587 k → False := fun kx h1 h2 => Nat.not_lt.2 (d1631 kx h2) (hO1575.blk kx h1).2
        have dj1641 : ∀ k, inA a1013 k → inA a1587 k → False := fun kx h1 h2 => Nat.not_lt.2 (d1631 kx h2) (hO1576.blk kx h1).2
        have dj1642 : ∀ k, inA a1016 k → inA a1587 k → False := fun kx h1 h2 => Nat.not_lt.2 (d1631 kx h2) (hO1577.blk kx h1).2
        have dj1643 : ∀ k, inA a1110 k → inA a1587 k → False := fun kx h1 h2 => Nat.not_lt.2 (d1631 kx h2) (hO1578.blk kx h1).2
        have dj1644 : ∀ k, inA a1113 k → inA a1587 k → False := fun kx h1 h2 => Nat.not_lt.2 (d1631 kx h2) (hO1579.blk kx h1).2
        have dj1645 : ∀ k, inA a1116 k → inA a1587 k → False := fun kx h1 h2 => Nat.not_lt.2 (d1631 kx h2) (hO1580.blk kx h1).2
        have dj1646 : ∀ k, inA a1392 k → inA a1587 k → False := fun kx h1 h2 => Nat.not_lt.2 (d1631 kx h2) (hO1581.blk kx h1).2
        have dj1647 : ∀ k, inA a1395 k → inA a1587 k → False := fun kx h1 h2 => Nat.not_lt.2 (d1631 kx h2) (hO1582.blk kx h1).2
        have fr1648 : ∀ k, inA a1587 k → k < w.heap.size → False := fun kx h1 h2 => Nat.not_lt.2 (Nat.le_trans E1583.size (d1631 kx h1)) h2
        have hO1649 := hO1596.base E1583.size
        have d1650 : ∀ k, inA a1590 k → w1560.heap.size ≤ k := fun kx hk => (hO1599.blk kx hk).1
        have dj1651 : inA a1590 b1 → False := fun h => Nat.not_lt.2 (d1650 _ h) hB1562.lt
        have dj1652 : inA a1590 b13 → False := fun h => Nat.not_lt.2 (d1650 _ h) hB1563.lt
        have dj1653 : inA a1590 b1059 → False := fun h => Nat.not_lt.2 (d1650 _ h) hB1564.lt
        have dj1654 : inA a1590 b1186 → False := fun h => Nat.not_lt.2 (d1650 _ h) hB1565.lt
        have dj1655 : ∀ k, inA a79 k → inA a1590 k → False := fun kx h1 h2 => Nat.not_lt.2 (d1650 kx h2) (hO1571.blk kx h1).2
        have dj1656 : ∀ k, inA a82 k → inA a1590 k → False := fun kx h1 h2 => Nat.not_lt.2 (d1650 kx h2) (hO1572.blk kx h1).2
        have dj1657 : ∀ k, inA a126 k → inA a1590 k → False := fun kx h1 h2 => Nat.not_lt.2 (d1650 kx h2) (hO1573.blk kx h1).2
        have dj1658 : ∀ k, inA a129 k → inA a1590 k → False := fun kx h1 h2 => Nat.not_lt.2 (d1650 kx h2) (hO1574.blk kx h1).2
        have dj1659 : ∀ k, inA a132 k → inA a1590 k → False := fun kx h1 h2 => Nat.not_lt.2 (d1650 kx h2) (hO1575.blk kx h1).2
        have dj1660 : ∀ k, inA a1013 k → inA a1590 k → False := fun kx h1 h2 => Nat.not_lt.2 (d1650 kx h2) (hO1576.blk kx h1).2
        have dj1661 : ∀ k, inA a1016 k → inA a1590 k → False := fun kx h1 h2 => Nat.not_lt.2 (d1650 kx h2) (hO1577.blk kx h1).2
        have dj1662 : ∀ k, inA a1110 k → inA a1590 k → False := fun kx h1 h2 => Nat.not_lt.2 (d1650 kx h2) (hO1578.blk kx h1).2
        have dj1663 : ∀ k, inA a1113 k → inA a1590 k → False := fun kx h1 h2 => Nat.not_lt.2 (d1650 kx h2) (hO1579.blk kx h1).2
        have dj1664 : ∀ k, inA a1116 k → inA a1590 k → False := fun kx h1 h2 => Nat.not_lt.2 (d1650 kx h2) (hO1580.blk kx h1).2
        have dj1665 : ∀ k, inA a1392 k → inA a1590 k → False := fun kx h1 h2 => Nat.not_lt.2 (d1650 kx h2) (hO1581.blk kx h1).2
        have dj1666 : ∀ k, inA a1395 k → inA a1590 k → False := fun kx h1 h2 => Nat.not_lt.2 (d1650 kx h2) (hO1582.blk kx h1).2
        have fr1667 : ∀ k, inA a1590 k → k < w.heap.size → False := fun kx h1 h2 => Nat.not_lt.2 (Nat.le_trans E1583.size (d1650 kx h1)) h2
        have hO1668 := hO1599.base E1583.size
        have d1669 : ∀ k, inA a1593 k → w1560.heap.size ≤ k := fun kx hk => (hO1602.blk kx hk).1
        have dj1670 : inA a1593 b1 → False := fun h => Nat.not_lt.2 (d1669 _ h) hB1562.lt
        have dj1671 : inA a1593 b13 → False := fun h => Nat.not_lt.2 (d1669 _ h) hB1563.lt
        have dj1672 : inA a1593 b1059 → False := fun h => Nat.not_lt.2 (d1669 _ h) hB1564.lt
        have dj1673 : inA a1593 b1186 → False := fun h => Nat.not_lt.2 (d1669 _ h) hB1565.lt
        have dj1674 : ∀ k, inA a79 k → inA a1593 k → False := fun kx h1 h2 => Nat.not_lt.2 (d1669 kx h2) (hO1571.blk kx h1).2
        have dj1675 : ∀ k, inA a82 k → inA a1593 k → False := fun kx h1 h2 => Nat.not_lt.2 (d1669 kx h2) (hO1572.blk kx h1).2
        have dj1676 : ∀ k, inA a126 k → inA a1593 k → False := fun kx h1 h2 => Nat.not_lt.2 (d1669 kx h2) (hO1573.blk kx h1).2
        have dj1677 : ∀ k, inA a129 k → inA a1593 k → False := fun kx h1 h2 => Nat.not_lt.2 (d1669 kx h2) (hO1574.blk kx h1).2
        have dj1678 : ∀ k, inA a132 k → inA a1593 k → False := fun kx h1 h2 => Nat.not_lt.2 (d1669 kx h2) (hO1575.blk kx h1).2
        have dj1679 : ∀ k, inA a1013 k → inA a1593 k → False := fun kx h1 h2 => Nat.not_lt.2 (d1669 kx h2) (hO1576.blk kx h1).2
        have dj1680 : ∀ k, inA a1016 k → inA a1593 k → False := fun kx h1 h2 => Nat.not_lt.2 (d1669 kx h2) (hO1577.blk kx h1).2
        have dj1681 : ∀ k, inA a1110 k → inA a1593 k → False := fun kx h1 h2 => Nat.not_lt.2 (d1669 kx h2) (hO1578.blk kx h1).2
        have dj1682 : ∀ k, inA a1113 k → inA a1593 k → False := fun kx h1 h2 => Nat.not_lt.2 (d1669 kx h2) (hO1579.blk kx h1).2
        have dj1683 : ∀ k, inA a1116 k → inA a1593 k → False := fun kx h1 h2 => Nat.not_lt.2 (d1669 kx h2) (hO1580.blk kx h1).2
        have dj1684 : ∀ k, inA a1392 k → inA a1593 k → False := fun kx h1 h2 => Nat.not_lt.2 (d1669 kx h2) (hO1581.blk kx h1).2
        have dj1685 : ∀ k, inA a1395 k → inA a1593 k → False := fun kx h1 h2 => Nat.not_lt.2 (d1669 kx h2) (hO1582.blk kx h1).2
        have fr1686 : ∀ k, inA a1593 k → k < w.heap.size → False := fun kx h1 h2 => Nat.not_lt.2 (Nat.le_trans E1583.size (d1669 kx h1)) h2
        have hO1687 := hO1602.base E1583.size
        refine m_k 3 [4] rfl (by kernel_rfl) rfl rfl (fun w1688 e1689 => ?_)
        have hB1690 := hB1608.ext0 e1689
        have hB1691 := hB1609.ext0 e1689
        have hB1692 := hB1610.ext0 e1689
        have hB1693 := hB1611.ext0 e1689
        have hS1694 := hS1612.ext0 e1689
        have hS1695 := hS1613.ext0 e1689
        have hS1696 := hS1614.ext0 e1689
        have hS1697 := hS1615.ext0 e1689
        have hS1698 := hS1616.ext0 e1689
        have hO1699 := hO1617.ext0 e1689
        have hO1700 := hO1618.ext0 e1689
        have hO1701 := hO1619.ext0 e1689
        have hO1702 := hO1620.ext0 e1689
        have hO1703 := hO1621.ext0 e1689
        have hO1704 := hO1622.ext0 e1689
        have hO1705 := hO1623.ext0 e1689
        have hO1706 := hO1624.ext0 e1689
        have hO1707 := hO1625.ext0 e1689
        have hO1708 := hO1626.ext0 e1689
        have hO1709 := hO1627.ext0 e1689
        have hO1710 := hO1628.ext0 e1689
        have hO1711 := hO1649.ext0 e1689
        have hO1712 := hO1668.ext0 e1689
        have hO1713 := hO1687.ext0 e1689
        have E1714 := E1629.fresh e1689 (fun _ h _ => h.elim)
        have R1715 := R1630.trans (Ext0.any e1689)
        refine k_call T10.fn_46 (c_l_eqField _ hO1706.sl hl1120 hc1121 hO1711.sl hl1597 hc1598 (by omega) hO1707.sl hl1123 hc1124 hO1712.sl hl1600 hc1601 (by omega) hO1708.sl hl1126 hc1127 hO1713.sl hl1603 hc1604 (by omega)) rfl ?_
        rintro _ w1716 ⟨rfl, e1717⟩
        have hB1718 := hB1690.ext0 e1717
        have hB1719 := hB1691.ext0 e1717
        have hB1720 := hB1692.ext0 e1717
        have hB1721 := hB1693.ext0 e1717
        have hS1722 := hS1694.ext0 e1717
        have hS1723 := hS1695.ext0 e1717
        have hS1724 := hS1696.ext0 e1717
        have hS1725 := hS1697.ext0 e1717
        have hS1726 := hS1698.ext0 e1717
        have hO1727 := hO1699.ext0 e1717
        have hO1728 := hO1700.ext0 e1717
        have hO1729 := hO1701.ext0 e1717
        have hO1730 := hO1702.ext0 e1717
        have hO1731 := hO1703.ext0 e1717
        have hO1732 := hO1704.ext0 e1717
        have hO1733 := hO1705.ext0 e1717
        have hO1734 := hO1706.ext0 e1717
        have hO1735 := hO1707.ext0 e1717
        have hO1736 := hO1708.ext0 e1717
        have hO1737 := hO1709.ext0 e1717
        have hO1738 := hO1710.ext0 e1717
        have hO1739 := hO1711.ext0 e1717
        have hO1740 := hO1712.ext0 e1717
        have hO1741 := hO1713.ext0 e1717
        have E1742 := E1714.fresh e1717 (fun _ h _ => h.elim)
        have R1743 := R1715.trans (Ext0.any e1717)
        refine ⟨fun _ => R1743, ?_⟩
        refine m_y (v := .bool false) 4 rfl (by kernel_rfl) rfl rfl (fun w' e' => y_not rfl rfl) ?_
        refine m_done (by kernel_rfl) (fun w1744 e1745 => ?_)
        have hB1746 := hB1718.ext0 e1745
        have hB1747 := hB1719.ext0 e1745
        have hB1748 := hB1720.ext0 e1745
        have hB1749 := hB1721.ext0 e1745
        have hS1750 := hS1722.ext0 e1745
        have hS1751 := hS1723.ext0 e1745
        have hS1752 := hS1724.ext0 e1745
        have hS1753 := hS1725.ext0 e1745
        have hS1754 := hS1726.ext0 e1745
        have hO1755 := hO1727.ext0 e1745
        have hO1756 := hO1728.ext0 e1745
        have hO1757 := hO1729.ext0 e1745
        have hO1758 := hO1730.ext0 e1745
        have hO1759 := hO1731.ext0 e1745
        have hO1760 := hO1732.ext0 e1745
        have hO1761 := hO1733.ext0 e1745
        have hO1762 := hO1734.ext0 e1745
        have hO1763 := hO1735.ext0 e1745
        have hO1764 := hO1736.ext0 e1745
        have hO1765 := hO1737.ext0 e1745
        have hO1766 := hO1738.ext0 e1745
        have hO1767 := hO1739.ext0 e1745
        have hO1768 := hO1740.ext0 e1745
        have hO1769 := hO1741.ext0 e1745
        have E1770 := E1742.fresh e1745 (fun _ h _ => h.elim)
        have R1771 := R1743.trans (Ext0.any e1745)
        refine W_if_f (by decide) rfl ?_
        refine W_skip ?_
        refine W_seq ?_
        refine W_region (by kernel_rfl) ?_
        refine s_y (v := .bool true) rfl (y_assign rfl) ?_
        refine s_nil ?_
        refine W_ret ?_
        refine ret1 rfl rfl rfl ⟨_, rfl, ?_⟩
        exact ⟨rfl, E1770⟩
    · obtain rfl : v43 = .int .i64 (-1) := hv44.trans (congrArg _ (if_neg c53))
      refine s_y (v := .int .i64 (-1)) rfl (y_assign rfl) ?_
      refine s_nil ?_
      refine W_seq ?_
      refine W_seq ?_
      refine W_region (by kernel_rfl) ?_
      refine s_y (v := .int .i64 (-1)) rfl (y_move rfl) ?_
      have hk1772 : (-1 : Int) < 0 := (by decide)
      refine s_y (v := .bool true) rfl (y_lss rfl rfl (decide_eq_true hk1772)) ?_
      refine s_nil ?_
      refine W_if_t (by decide) rfl ?_
      refine W_seq ?_
      refine W_region (by kernel_rfl) ?_
      refine s_y (v := .bool true) rfl (y_assign rfl) ?_
      refine s_nil ?_
      refine W_ret ?_
      refine ret1 rfl rfl rfl ⟨_, rfl, ?_⟩
      exact ⟨rfl, E52⟩
  · obtain rfl : v29 = .int .i64 (-1) := hv30.trans (congrArg _ (if_neg c39))
    refine s_y (v := .int .i64 (-1)) rfl (y_assign rfl) ?_
    refine s_nil ?_
    refine W_seq ?_
    refine W_seq ?_
    refine W_region (by kernel_rfl) ?_
    refine s_y (v := .int .i64 (-1)) rfl (y_move rfl) ?_
    have hk1773 : (-1 : Int) < 0 := (by decide)
    refine s_y (v := .bool true) rfl (y_lss rfl rfl (decide_eq_true hk1773)) ?_
    refine s_nil ?_
    refine W_if_t (by decide) rfl ?_
    refine W_seq ?_
    refine W_region (by kernel_rfl) ?_
    refine s_y (v := .bool true) rfl (y_assign rfl) ?_
    refine s_nil ?_
    refine W_ret ?_
    refine ret1 rfl rfl rfl ⟨_, rfl, ?_⟩
    exact ⟨rfl, E38⟩
end Go.Proofs.Ytcggpjocghigcaa
