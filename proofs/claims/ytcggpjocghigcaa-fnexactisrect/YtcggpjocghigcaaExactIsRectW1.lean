/- Walks: what the functions under FnExactIsRect do (part 2). Printed by a program of this claim's author. -/
import Derived.Test.YtcggpjocghigcaaExactIsRectW0
set_option linter.unusedSimpArgs false
set_option linter.unusedVariables false
open Go.Wv
namespace Go.Proofs.Ytcggpjocghigcaa
open Go.Proofs
namespace T5
theorem mx : Try.prog.follows .mixedOrders = true := by kernel_rfl
theorem agg_26_5 : aggB Try.prog 26 5 = true := by kernel_rfl
theorem agg_36_5 : aggB Try.prog 36 5 = true := by kernel_rfl
theorem agg_44_4 : aggB Try.prog 44 4 = true := by kernel_rfl
theorem bool_4 : Try.prog.underlying 4 = some .bool := by kernel_rfl
theorem fn_21 : fnB Try.prog 21 = true := by kernel_rfl
theorem fn_23 : fnB Try.prog 23 = true := by kernel_rfl
theorem fn_25 : fnB Try.prog 25 = true := by kernel_rfl
theorem fn_26 : fnB Try.prog 26 = true := by kernel_rfl
theorem fn_27 : fnB Try.prog 27 = true := by kernel_rfl
theorem fn_28 : fnB Try.prog 28 = true := by kernel_rfl
theorem sz_26_5 : szB Try.prog 26 5 = true := by kernel_rfl
theorem zero_26 : zeroB Try.prog 26 (.agg #[.int .i64 0, .int .i64 0, .bool false, .slice none 0 0, .slice none 0 0]) := by unfold zeroB; kernel_rfl
end T5
set_option maxRecDepth 100000 in
set_option maxHeartbeats 4000000 in
theorem c_FnExactIsRect {wd0 hi0 : Int} {wr0 : Bool} {asp0 : Option Addr} {nsp0 csp0 : Nat} {xsp0 Xsp0 : List Nat} {als0 : Option Addr} {nls0 cls0 : Nat} {xls0 Xls0 : List Nat} {rx1 ry1 rw1 rh1 : Int} (w : World) (qssp0 : Sl w asp0 (flts xsp0)) (qlsp0 : xsp0.length = nsp0) (qksp0 : cn xsp0 = Xsp0) (qsls0 : Sl w als0 (flts xls0)) (qlls0 : xls0.length = nls0) (qkls0 : cn xls0 = Xls0) (g1 : nsp0 ≤ 9223372036854775807) (g2 : nls0 ≤ 9223372036854775807) :
    Calls Try.prog 5 #[.agg #[.int .i64 wd0, .int .i64 hi0, .bool wr0, .slice asp0 nsp0 csp0, .slice als0 nls0 cls0], .agg #[.int .i64 rx1, .int .i64 ry1, .int .i64 rw1, .int .i64 rh1]] w (Rt fun v w' => v = .bool true ∧ Ext no w w') := by
  have E0 : Ext no w w := Ext.refl _ _
  have hlP0 : Xsp0.length = nsp0 := (cn_lenX qksp0).trans qlsp0
  have hlL0 : Xls0.length = nls0 := (cn_lenX qkls0).trans qlls0
  have lo_asp0 := Sl.low qssp0
  have lo_als0 := Sl.low qsls0
  refine calls_W (n := 33) Try.func5 rfl rfl (Nat.le_of_ble_eq_true rfl) ?_
  refine W_seq ?_
  refine W_region (by kernel_rfl) ?_
  refine s_k rfl (k_box (v := .agg #[.int .i64 wd0, .int .i64 hi0, .bool wr0, .slice asp0 nsp0 csp0, .slice als0 nls0 cls0]) (cs := [.int .i64 wd0, .int .i64 hi0, .bool wr0, .slice asp0 nsp0 csp0, .slice als0 nls0 cls0]) rfl rfl (fun b1 w2 q4 e3 hB5 => ?_))
  have hS6 := qssp0.ext0 e3
  have hS7 := qsls0.ext0 e3
  have E8 := E0.fresh e3 (fun _ h _ => h.elim)
  have fr9 : NotLt b1 w.heap.size := fun h => Nat.not_lt.2 (Nat.le_trans E0.size (Nat.le_of_eq q4.symm)) h
  clear q4
  refine s_k rfl (k_box (v := .agg #[.int .i64 rx1, .int .i64 ry1, .int .i64 rw1, .int .i64 rh1]) (cs := [.int .i64 rx1, .int .i64 ry1, .int .i64 rw1, .int .i64 rh1]) rfl rfl (fun b10 w11 q13 e12 hB14 => ?_))
  have hB15 := hB5.ext0 e12
  have hS16 := hS6.ext0 e12
  have hS17 := hS7.ext0 e12
  have E18 := E8.fresh e12 (fun _ h _ => h.elim)
  have dj19 : NeB b1 b10 := fun h => Nat.ne_of_lt hB5.lt (h.trans q13)
  have fr20 : NotLt b10 w.heap.size := fun h => Nat.not_lt.2 (Nat.le_trans E8.size (Nat.le_of_eq q13.symm)) h
  clear q13
  refine s_y (v := .bool false) rfl (y_assign rfl) ?_
  refine s_nil ?_
  refine W_seq ?_
  refine W_region (by kernel_rfl) ?_
  refine s_y (v := .int .i64 1048576) rfl (y_assign rfl) ?_
  refine s_nil ?_
  refine W_seq ?_
  refine W_region (by kernel_rfl) ?_
  refine s_y (v := .agg #[.int .i64 wd0, .int .i64 hi0, .bool wr0, .slice asp0 nsp0 csp0, .slice als0 nls0 cls0]) rfl (y_loadn (b := b1) (o := 0) (vs := [.int .i64 wd0, .int .i64 hi0, .bool wr0, .slice asp0 nsp0 csp0, .slice als0 nls0 cls0]) T5.agg_36_5 rfl rfl (hB15.cells (o := 0) rfl)) ?_
  refine s_y (v := .int .i64 1048576) rfl (y_move rfl) ?_
  refine s_k rfl (k_call T5.fn_21 (c_l_szSheet _ (by omega) (by omega) (by omega) (by omega)) rfl ?_)
  rintro v23 w21 ⟨hv24, e22⟩
  have hB25 := hB15.ext0 e22
  have hB26 := hB14.ext0 e22
  have hS27 := hS16.ext0 e22
  have hS28 := hS17.ext0 e22
  have E29 := E18.fresh e22 (fun _ h _ => h.elim)
  by_cases c30 : ((nsp0 : Nat) : Int) + ((nls0 : Nat) : Int) ≤ 1048576
  · obtain rfl : v23 = .int .i64 (1048576 - ((nsp0 : Nat) : Int) - ((nls0 : Nat) : Int)) := hv24.trans (congrArg _ (if_pos c30))
    have hk31 : ¬ (1048576 - ((nsp0 : Nat) : Int) - ((nls0 : Nat) : Int)) < 0 := by omega
    refine s_y (v := .int .i64 (1048576 - ((nsp0 : Nat) : Int) - ((nls0 : Nat) : Int))) rfl (y_assign rfl) ?_
    refine s_nil ?_
    refine W_seq ?_
    refine W_seq ?_
    refine W_region (by kernel_rfl) ?_
    refine s_y (v := .int .i64 (1048576 - ((nsp0 : Nat) : Int) - ((nls0 : Nat) : Int))) rfl (y_move rfl) ?_
    refine s_y (v := .bool false) rfl (y_lss rfl rfl (decide_eq_false hk31)) ?_
    refine s_nil ?_
    refine W_if_f (by decide) rfl ?_
    refine W_skip ?_
    refine W_seq ?_
    refine W_draw (no) T5.mx (by kernel_rfl) (fun w32 e33 => ?_)
    have hB34 := hB25.ext0 e33
    have hB35 := hB26.ext0 e33
    have hS36 := hS27.ext0 e33
    have hS37 := hS28.ext0 e33
    have E38 := E29.fresh e33 (fun _ h _ => h.elim)
    have R39 := (Ext.refl (no) w21).trans (Ext0.any e33)
    refine m_y (v := .agg #[.int .i64 wd0, .int .i64 hi0, .bool wr0, .slice asp0 nsp0 csp0, .slice als0 nls0 cls0]) 0 rfl (by kernel_rfl) rfl rfl (fun w' e' => y_loadn (b := b1) (o := 0) (vs := [.int .i64 wd0, .int .i64 hi0, .bool wr0, .slice asp0 nsp0 csp0, .slice als0 nls0 cls0]) T5.agg_36_5 rfl rfl ((hB25.ext0 e').cells (o := 0) rfl)) ?_
    refine m_y (v := .agg #[.int .i64 rx1, .int .i64 ry1, .int .i64 rw1, .int .i64 rh1]) 2 rfl (by kernel_rfl) rfl rfl (fun w' e' => y_loadn (b := b10) (o := 0) (vs := [.int .i64 rx1, .int .i64 ry1, .int .i64 rw1, .int .i64 rh1]) T5.agg_44_4 rfl rfl ((hB26.ext0 e').cells (o := 0) rfl)) ?_
    refine m_k 1 [3, 4, 5] rfl (by kernel_rfl) rfl rfl (fun w40 e41 => ?_)
    have hB42 := hB34.ext0 e41
    have hB43 := hB35.ext0 e41
    have hS44 := hS36.ext0 e41
    have hS45 := hS37.ext0 e41
    have E46 := E38.fresh e41 (fun _ h _ => h.elim)
    have R47 := R39.trans (Ext0.any e41)
    refine k_call T5.fn_23 (c_l_toSheet _ hS44 qlsp0 qksp0 hS45 qlls0 qkls0 (by omega) (by omega)) rfl ?_
    rintro _ w48 ⟨⟨a50, c51, z52, a53, c54, z55, rfl, hO56, hl57, hc58, hO59, hl60, hc61, dj62⟩, e49⟩
    have hB63 := hB42.ext0 e49
    have hB64 := hB43.ext0 e49
    have hS65 := hS44.ext0 e49
    have hS66 := hS45.ext0 e49
    have E67 := E46.fresh e49 (fun _ h _ => h.elim)
    have R68 := R47.trans (Ext0.any e49)
    refine ⟨fun _ => R68, ?_⟩
    have d69 : ∀ k, inA a50 k → w40.heap.size ≤ k := fun kx hk => (hO56.blk kx hk).1
    have dj70 : inA a50 b1 → False := fun h => Nat.not_lt.2 (d69 _ h) hB42.lt
    have dj71 : inA a50 b10 → False := fun h => Nat.not_lt.2 (d69 _ h) hB43.lt
    have fr72 : ∀ k, inA a50 k → k < w.heap.size → False := fun kx h1 h2 => Nat.not_lt.2 (Nat.le_trans E46.size (d69 kx h1)) h2
    have hO73 := hO56.base E46.size
    have d74 : ∀ k, inA a53 k → w40.heap.size ≤ k := fun kx hk => (hO59.blk kx hk).1
    have dj75 : inA a53 b1 → False := fun h => Nat.not_lt.2 (d74 _ h) hB42.lt
    have dj76 : inA a53 b10 → False := fun h => Nat.not_lt.2 (d74 _ h) hB43.lt
    have fr77 : ∀ k, inA a53 k → k < w.heap.size → False := fun kx h1 h2 => Nat.not_lt.2 (Nat.le_trans E46.size (d74 kx h1)) h2
    have hO78 := hO59.base E46.size
    refine m_k 3 [4, 5] rfl (by kernel_rfl) rfl rfl (fun w79 e80 => ?_)
    have hB81 := hB63.ext0 e80
    have hB82 := hB64.ext0 e80
    have hS83 := hS65.ext0 e80
    have hS84 := hS66.ext0 e80
    have hO85 := hO73.ext0 e80
    have hO86 := hO78.ext0 e80
    have E87 := E67.fresh e80 (fun _ h _ => h.elim)
    have R88 := R68.trans (Ext0.any e80)
    refine k_call T5.fn_27 (c_l_toRect _) rfl ?_
    rintro _ w89 ⟨rfl, e90⟩
    have hB91 := hB81.ext0 e90
    have hB92 := hB82.ext0 e90
    have hS93 := hS83.ext0 e90
    have hS94 := hS84.ext0 e90
    have hO95 := hO85.ext0 e90
    have hO96 := hO86.ext0 e90
    have E97 := E87.fresh e90 (fun _ h _ => h.elim)
    have R98 := R88.trans (Ext0.any e90)
    refine ⟨fun _ => R98, ?_⟩
    refine m_k 4 [5] rfl (by kernel_rfl) rfl rfl (fun w99 e100 => ?_)
    have hB101 := hB91.ext0 e100
    have hB102 := hB92.ext0 e100
    have hS103 := hS93.ext0 e100
    have hS104 := hS94.ext0 e100
    have hO105 := hO95.ext0 e100
    have hO106 := hO96.ext0 e100
    have E107 := E97.fresh e100 (fun _ h _ => h.elim)
    have R108 := R98.trans (Ext0.any e100)
    refine k_call T5.fn_26 (c_s_IsRect _ hO105.sl hl57 hc58 hO106.sl hl60 hc61 (by omega) (by omega)) rfl ?_
    rintro v111 w109 ⟨hv112, e110⟩
    have hB113 := hB101.ext0 e110
    have hB114 := hB102.ext0 e110
    have hS115 := hS103.ext0 e110
    have hS116 := hS104.ext0 e110
    have hO117 := hO105.ext0 e110
    have hO118 := hO106.ext0 e110
    have E119 := E107.fresh e110 (fun _ h _ => h.elim)
    have R120 := R108.trans (Ext0.any e110)
    refine ⟨fun _ => R120, ?_⟩
    by_cases c121 : isRectB wd0 hi0 Xsp0 Xls0 rx1 ry1 rw1 rh1 = true
    · obtain rfl : v111 = .bool true := hv112.trans (congrArg Value.bool c121)
      refine m_y (v := .bool true) 5 rfl (by kernel_rfl) rfl rfl (fun w' e' => y_assign rfl) ?_
      refine m_done (by kernel_rfl) (fun w122 e123 => ?_)
      have hB124 := hB113.ext0 e123
      have hB125 := hB114.ext0 e123
      have hS126 := hS115.ext0 e123
      have hS127 := hS116.ext0 e123
      have hO128 := hO117.ext0 e123
      have hO129 := hO118.ext0 e123
      have E130 := E119.fresh e123 (fun _ h _ => h.elim)
      have R131 := R120.trans (Ext0.any e123)
      refine W_seq ?_
      refine W_region (by kernel_rfl) ?_
      refine s_y (v := .agg #[.int .i64 wd0, .int .i64 hi0, .bool wr0, .slice asp0 nsp0 csp0, .slice als0 nls0 cls0]) rfl (y_loadn (b := b1) (o := 0) (vs := [.int .i64 wd0, .int .i64 hi0, .bool wr0, .slice asp0 nsp0 csp0, .slice als0 nls0 cls0]) T5.agg_36_5 rfl rfl (hB124.cells (o := 0) rfl)) ?_
      refine s_k rfl (k_call T5.fn_23 (c_l_toSheet _ hS126 qlsp0 qksp0 hS127 qlls0 qkls0 (by omega) (by omega)) rfl ?_)
      rintro _ w132 ⟨⟨a134, c135, z136, a137, c138, z139, rfl, hO140, hl141, hc142, hO143, hl144, hc145, dj146⟩, e133⟩
      have hB147 := hB124.ext0 e133
      have hB148 := hB125.ext0 e133
      have hS149 := hS126.ext0 e133
      have hS150 := hS127.ext0 e133
      have hO151 := hO128.ext0 e133
      have hO152 := hO129.ext0 e133
      have E153 := E130.fresh e133 (fun _ h _ => h.elim)
      have d154 : ∀ k, inA a134 k → w122.heap.size ≤ k := fun kx hk => (hO140.blk kx hk).1
      have dj155 : inA a134 b1 → False := fun h => Nat.not_lt.2 (d154 _ h) hB124.lt
      have dj156 : inA a134 b10 → False := fun h => Nat.not_lt.2 (d154 _ h) hB125.lt
      have dj157 : ∀ k, inA a50 k → inA a134 k → False := fun kx h1 h2 => Nat.not_lt.2 (d154 kx h2) (hO128.blk kx h1).2
      have dj158 : ∀ k, inA a53 k → inA a134 k → False := fun kx h1 h2 => Nat.not_lt.2 (d154 kx h2) (hO129.blk kx h1).2
      have fr159 : ∀ k, inA a134 k → k < w.heap.size → False := fun kx h1 h2 => Nat.not_lt.2 (Nat.le_trans E130.size (d154 kx h1)) h2
      have hO160 := hO140.base E130.size
      have d161 : ∀ k, inA a137 k → w122.heap.size ≤ k := fun kx hk => (hO143.blk kx hk).1
      have dj162 : inA a137 b1 → False := fun h => Nat.not_lt.2 (d161 _ h) hB124.lt
      have dj163 : inA a137 b10 → False := fun h => Nat.not_lt.2 (d161 _ h) hB125.lt
      have dj164 : ∀ k, inA a50 k → inA a137 k → False := fun kx h1 h2 => Nat.not_lt.2 (d161 kx h2) (hO128.blk kx h1).2
      have dj165 : ∀ k, inA a53 k → inA a137 k → False := fun kx h1 h2 => Nat.not_lt.2 (d161 kx h2) (hO129.blk kx h1).2
      have fr166 : ∀ k, inA a137 k → k < w.heap.size → False := fun kx h1 h2 => Nat.not_lt.2 (Nat.le_trans E130.size (d161 kx h1)) h2
      have hO167 := hO143.base E130.size
      refine s_k rfl (k_alloc (z := (.agg #[.int .i64 0, .int .i64 0, .bool false, .slice none 0 0, .slice none 0 0])) (cs := [.int .i64 0, .int .i64 0, .bool false, .slice none 0 0, .slice none 0 0]) T5.zero_26 rfl (fun b168 w169 q171 e170 hB172 => ?_))
      have hB173 := hB147.ext0 e170
      have hB174 := hB148.ext0 e170
      have hS175 := hS149.ext0 e170
      have hS176 := hS150.ext0 e170
      have hO177 := hO151.ext0 e170
      have hO178 := hO152.ext0 e170
      have hO179 := hO160.ext0 e170
      have hO180 := hO167.ext0 e170
      have E181 := E153.fresh e170 (fun _ h _ => h.elim)
      have dj182 : NeB b1 b168 := fun h => Nat.ne_of_lt hB147.lt (h.trans q171)
      have dj183 : NeB b10 b168 := fun h => Nat.ne_of_lt hB148.lt (h.trans q171)
      have dj184 : inA a50 b168 → False := fun h => Nat.ne_of_lt (hO151.blk _ h).2 q171
      have dj185 : inA a53 b168 → False := fun h => Nat.ne_of_lt (hO152.blk _ h).2 q171
      have dj186 : inA a134 b168 → False := fun h => Nat.ne_of_lt (hO160.blk _ h).2 q171
      have dj187 : inA a137 b168 → False := fun h => Nat.ne_of_lt (hO167.blk _ h).2 q171
      have fr188 : NotLt b168 w.heap.size := fun h => Nat.not_lt.2 (Nat.le_trans E153.size (Nat.le_of_eq q171.symm)) h
      clear q171
      refine s_k0 rfl (k_store (v := .agg #[.int .i64 wd0, .int .i64 hi0, .bool wr0, .slice a134 nsp0 c135, .slice a137 nls0 c138]) (n := 5) (cs' := [.int .i64 wd0, .int .i64 hi0, .bool wr0, .slice a134 nsp0 c135, .slice a137 nls0 c138]) T5.sz_26_5 rfl rfl rfl hB172 (by simp [Value.cells, Value.oneCell']) (Nat.le_of_ble_eq_true rfl) rfl (fun w189 e190 z191 hB192 => ?_))
      clear z191
      have hB193 := hB173.ext e190 dj182
      have hB194 := hB174.ext e190 dj183
      have hS195 := hS175.extL lo_asp0 e190 (fun kx (hs : kx = b168) hl => fr188 (hs ▸ hl))
      have hS196 := hS176.extL lo_als0 e190 (fun kx (hs : kx = b168) hl => fr188 (hs ▸ hl))
      have hO197 := hO177.ext e190 (fun kx hk (hs : kx = b168) => dj184 (hs ▸ hk))
      have hO198 := hO178.ext e190 (fun kx hk (hs : kx = b168) => dj185 (hs ▸ hk))
      have hO199 := hO179.ext e190 (fun kx hk (hs : kx = b168) => dj186 (hs ▸ hk))
      have hO200 := hO180.ext e190 (fun kx hk (hs : kx = b168) => dj187 (hs ▸ hk))
      have E201 := E181.fresh e190 (fun kx (hs : kx = b168) hl => (fr188 (hs ▸ hl)).elim)
      refine s_nil ?_
      refine W_seq ?_
      refine W_draw (no) T5.mx (by kernel_rfl) (fun w202 e203 => ?_)
      have hB204 := hB193.ext0 e203
      have hB205 := hB194.ext0 e203
      have hB206 := hB192.ext0 e203
      have hS207 := hS195.ext0 e203
      have hS208 := hS196.ext0 e203
      have hO209 := hO197.ext0 e203
      have hO210 := hO198.ext0 e203
      have hO211 := hO199.ext0 e203
      have hO212 := hO200.ext0 e203
      have E213 := E201.fresh e203 (fun _ h _ => h.elim)
      have R214 := (Ext.refl (no) w189).trans (Ext0.any e203)
      refine m_y (v := .agg #[.int .i64 wd0, .int .i64 hi0, .bool wr0, .slice a134 nsp0 c135, .slice a137 nls0 c138]) 0 rfl (by kernel_rfl) rfl rfl (fun w' e' => y_loadn (b := b168) (o := 0) (vs := [.int .i64 wd0, .int .i64 hi0, .bool wr0, .slice a134 nsp0 c135, .slice a137 nls0 c138]) T5.agg_26_5 rfl rfl ((hB192.ext0 e').cells (o := 0) rfl)) ?_
      refine m_y (v := .agg #[.int .i64 rx1, .int .i64 ry1, .int .i64 rw1, .int .i64 rh1]) 1 rfl (by kernel_rfl) rfl rfl (fun w' e' => y_loadn (b := b10) (o := 0) (vs := [.int .i64 rx1, .int .i64 ry1, .int .i64 rw1, .int .i64 rh1]) T5.agg_44_4 rfl rfl ((hB194.ext0 e').cells (o := 0) rfl)) ?_
      refine m_k 2 [3, 4] rfl (by kernel_rfl) rfl rfl (fun w215 e216 => ?_)
      have hB217 := hB204.ext0 e216
      have hB218 := hB205.ext0 e216
      have hB219 := hB206.ext0 e216
      have hS220 := hS207.ext0 e216
      have hS221 := hS208.ext0 e216
      have hO222 := hO209.ext0 e216
      have hO223 := hO210.ext0 e216
      have hO224 := hO211.ext0 e216
      have hO225 := hO212.ext0 e216
      have E226 := E213.fresh e216 (fun _ h _ => h.elim)
      have R227 := R214.trans (Ext0.any e216)
      refine k_call T5.fn_27 (c_l_toRect _) rfl ?_
      rintro _ w228 ⟨rfl, e229⟩
      have hB230 := hB217.ext0 e229
      have hB231 := hB218.ext0 e229
      have hB232 := hB219.ext0 e229
      have hS233 := hS220.ext0 e229
      have hS234 := hS221.ext0 e229
      have hO235 := hO222.ext0 e229
      have hO236 := hO223.ext0 e229
      have hO237 := hO224.ext0 e229
      have hO238 := hO225.ext0 e229
      have E239 := E226.fresh e229 (fun _ h _ => h.elim)
      have R240 := R227.trans (Ext0.any e229)
      refine ⟨fun _ => R240, ?_⟩
      refine m_k 3 [4] rfl (by kernel_rfl) rfl rfl (fun w241 e242 => ?_)
      have hB243 := hB230.ext0 e242
      have hB244 := hB231.ext0 e242
      have hB245 := hB232.ext0 e242
      have hS246 := hS233.ext0 e242
      have hS247 := hS234.ext0 e242
      have hO248 := hO235.ext0 e242
      have hO249 := hO236.ext0 e242
      have hO250 := hO237.ext0 e242
      have hO251 := hO238.ext0 e242
      have E252 := E239.fresh e242 (fun _ h _ => h.elim)
      have R253 := R240.trans (Ext0.any e242)
      refine k_call T5.fn_28 (c_i_IsRect _ hO250.sl hl141 hc142 hO251.sl hl144 hc145 (by omega) (by omega)) rfl ?_
      rintro v256 w254 ⟨hv257, e255⟩
      have hB258 := hB243.ext0 e255
      have hB259 := hB244.ext0 e255
      have hB260 := hB245.ext0 e255
      have hS261 := hS246.ext0 e255
      have hS262 := hS247.ext0 e255
      have hO263 := hO248.ext0 e255
      have hO264 := hO249.ext0 e255
      have hO265 := hO250.ext0 e255
      have hO266 := hO251.ext0 e255
      have E267 := E252.fresh e255 (fun _ h _ => h.elim)
      have R268 := R253.trans (Ext0.any e255)
      refine ⟨fun _ => R268, ?_⟩
      obtain rfl : v256 = .bool true := hv257.trans (congrArg Value.bool c121)
      refine m_y (v := .bool true) 4 rfl (by kernel_rfl) rfl rfl (fun w' e' => y_assign rfl) ?_
      refine m_done (by kernel_rfl) (fun w269 e270 => ?_)
      have hB271 := hB258.ext0 e270
      have hB272 := hB259.ext0 e270
      have hB273 := hB260.ext0 e270
      have hS274 := hS261.ext0 e270
      have hS275 := hS262.ext0 e270
      have hO276 := hO263.ext0 e270
      have hO277 := hO264.ext0 e270
      have hO278 := hO265.ext0 e270
      have hO279 := hO266.ext0 e270
      have E280 := E267.fresh e270 (fun _ h _ => h.elim)
      have R281 := R268.trans (Ext0.any e270)
      refine W_seq ?_
      refine W_seq ?_
      refine W_region (by kernel_rfl) ?_
      refine s_y (v := .bool true) rfl (y_move rfl) ?_
      refine s_y (v := .bool true) rfl (y_move rfl) ?_
      refine s_y (v := .bool false) rfl (y_bneq T5.bool_4 rfl rfl rfl) ?_
      refine s_nil ?_
      refine W_if_f (by decide) rfl ?_
      refine W_skip ?_
      refine W_seq ?_
      refine W_seq ?_
      refine W_draw (no) T5.mx (by kernel_rfl) (fun w282 e283 => ?_)
      have hB284 := hB271.ext0 e283
      have hB285 := hB272.ext0 e283
      have hB286 := hB273.ext0 e283
      have hS287 := hS274.ext0 e283
      have hS288 := hS275.ext0 e283
      have hO289 := hO276.ext0 e283
      have hO290 := hO277.ext0 e283
      have hO291 := hO278.ext0 e283
      have hO292 := hO279.ext0 e283
      have E293 := E280.fresh e283 (fun _ h _ => h.elim)
      have R294 := (Ext.refl (no) w269).trans (Ext0.any e283)
      refine m_y (v := .agg #[.int .i64 wd0, .int .i64 hi0, .bool wr0, .slice a134 nsp0 c135, .slice a137 nls0 c138]) 0 rfl (by kernel_rfl) rfl rfl (fun w' e' => y_loadn (b := b168) (o := 0) (vs := [.int .i64 wd0, .int .i64 hi0, .bool wr0, .slice a134 nsp0 c135, .slice a137 nls0 c138]) T5.agg_26_5 rfl rfl ((hB273.ext0 e').cells (o := 0) rfl)) ?_
      refine m_y (v := .agg #[.int .i64 wd0, .int .i64 hi0, .bool wr0, .slice asp0 nsp0 csp0, .slice als0 nls0 cls0]) 1 rfl (by kernel_rfl) rfl rfl (fun w' e' => y_loadn (b := b1) (o := 0) (vs := [.int .i64 wd0, .int .i64 hi0, .bool wr0, .slice asp0 nsp0 csp0, .slice als0 nls0 cls0]) T5.agg_36_5 rfl rfl ((hB271.ext0 e').cells (o := 0) rfl)) ?_
      refine m_k 2 [3, 4] rfl (by kernel_rfl) rfl rfl (fun w295 e296 => ?_)
      have hB297 := hB284.ext0 e296
      have hB298 := hB285.ext0 e296
      have hB299 := hB286.ext0 e296
      have hS300 := hS287.ext0 e296
      have hS301 := hS288.ext0 e296
      have hO302 := hO289.ext0 e296
      have hO303 := hO290.ext0 e296
      have hO304 := hO291.ext0 e296
      have hO305 := hO292.ext0 e296
      have E306 := E293.fresh e296 (fun _ h _ => h.elim)
      have R307 := R294.trans (Ext0.any e296)
      refine k_call T5.fn_23 (c_l_toSheet _ hS300 qlsp0 qksp0 hS301 qlls0 qkls0 (by omega) (by omega)) rfl ?_
      rintro _ w308 ⟨⟨a310, c311, z312, a313, c314, z315, rfl, hO316, hl317, hc318, hO319, hl320, hc321, dj322⟩, e309⟩
      have hB323 := hB297.ext0 e309
      have hB324 := hB298.ext0 e309
      have hB325 := hB299.ext0 e309
      have hS326 := hS300.ext0 e309
      have hS327 := hS301.ext0 e309
      have hO328 := hO302.ext0 e309
      have hO329 := hO303.ext0 e309
      have hO330 := hO304.ext0 e309
      have hO331 := hO305.ext0 e309
      have E332 := E306.fresh e309 (fun _ h _ => h.elim)
      have R333 := R307.trans (Ext0.any e309)
      refine ⟨fun _ => R333, ?_⟩
      have d334 : ∀ k, inA a310 k → w295.heap.size ≤ k := fun kx hk => (hO316.blk kx hk).1
      have dj335 : inA a310 b1 → False := fun h => Nat.not_lt.2 (d334 _ h) hB297.lt
      have dj336 : inA a310 b10 → False := fun h => Nat.not_lt.2 (d334 _ h) hB298.lt
      have dj337 : inA a310 b168 → False := fun h => Nat.not_lt.2 (d334 _ h) hB299.lt
      have dj338 : ∀ k, inA a50 k → inA a310 k → False := fun kx h1 h2 => Nat.not_lt.2 (d334 kx h2) (hO302.blk kx h1).2
      have dj339 : ∀ k, inA a53 k → inA a310 k → False := fun kx h1 h2 => Nat.not_lt.2 (d334 kx h2) (hO303.blk kx h1).2
      have dj340 : ∀ k, inA a134 k → inA a310 k → False := fun kx h1 h2 => Nat.not_lt.2 (d334 kx h2) (hO304.blk kx h1).2
      have dj341 : ∀ k, inA a137 k → inA a310 k → False := fun kx h1 h2 => Nat.not_lt.2 (d334 kx h2) (hO305.blk kx h1).2
      have fr342 : ∀ k, inA a310 k → k < w.heap.size → False := fun kx h1 h2 => Nat.not_lt.2 (Nat.le_trans E306.size (d334 kx h1)) h2
      have hO343 := hO316.base E306.size
      have d344 : ∀ k, inA a313 k → w295.heap.size ≤ k := fun kx hk => (hO319.blk kx hk).1
      have dj345 : inA a313 b1 → False := fun h => Nat.not_lt.2 (d344 _ h) hB297.lt
      have dj346 : inA a313 b10 → False := fun h => Nat.not_lt.2 (d344 _ h) hB298.lt
      have dj347 : inA a313 b168 → False := fun h => Nat.not_lt.2 (d344 _ h) hB299.lt
      have dj348 : ∀ k, inA a50 k → inA a313 k → False := fun kx h1 h2 => Nat.not_lt.2 (d344 kx h2) (hO302.blk kx h1).2
      have dj349 : ∀ k, inA a53 k → inA a313 k → False := fun kx h1 h2 => Nat.not_lt.2 (d344 kx h2) (hO303.blk kx h1).2
      have dj350 : ∀ k, inA a134 k → inA a313 k → False := fun kx h1 h2 => Nat.not_lt.2 (d344 kx h2) (hO304.blk kx h1).2
      have dj351 : ∀ k, inA a137 k → inA a313 k → False := fun kx h1 h2 => Nat.not_lt.2 (d344 kx h2) (hO305.blk kx h1).2
      have fr352 : ∀ k, inA a313 k → k < w.heap.size → False := fun kx h1 h2 => Nat.not_lt.2 (Nat.le_trans E306.size (d344 kx h1)) h2
      have hO353 := hO319.base E306.size
      refine m_k 3 [4] rfl (by kernel_rfl) rfl rfl (fun w354 e355 => ?_)
      have hB356 := hB323.ext0 e355
      have hB357 := hB324.ext0 e355
      have hB358 := hB325.ext0 e355
      have hS359 := hS326.ext0 e355
      have hS360 := hS327.ext0 e355
      have hO361 := hO328.ext0 e355
      have hO362 := hO329.ext0 e355
      have hO363 := hO330.ext0 e355
      have hO364 := hO331.ext0 e355
      have hO365 := hO343.ext0 e355
      have hO366 := hO353.ext0 e355
      have E367 := E332.fresh e355 (fun _ h _ => h.elim)
      have R368 := R333.trans (Ext0.any e355)
      refine k_call T5.fn_25 (c_l_eqSheet _ hO363.sl hl141 hc142 hO365.sl hl317 hc318 (by omega) hO364.sl hl144 hc145 hO366.sl hl320 hc321 (by omega)) rfl ?_
      rintro _ w369 ⟨rfl, e370⟩
      have hB371 := hB356.ext0 e370
      have hB372 := hB357.ext0 e370
      have hB373 := hB358.ext0 e370
      have hS374 := hS359.ext0 e370
      have hS375 := hS360.ext0 e370
      have hO376 := hO361.ext0 e370
      have hO377 := hO362.ext0 e370
      have hO378 := hO363.ext0 e370
      have hO379 := hO364.ext0 e370
      have hO380 := hO365.ext0 e370
      have hO381 := hO366.ext0 e370
      have E382 := E367.fresh e370 (fun _ h _ => h.elim)
      have R383 := R368.trans (Ext0.any e370)
      refine ⟨fun _ => R383, ?_⟩
      refine m_y (v := .bool false) 4 rfl (by kernel_rfl) rfl rfl (fun w' e' => y_not rfl rfl) ?_
      refine m_done (by kernel_rfl) (fun w384 e385 => ?_)
      have hB386 := hB371.ext0 e385
      have hB387 := hB372.ext0 e385
      have hB388 := hB373.ext0 e385
      have hS389 := hS374.ext0 e385
      have hS390 := hS375.ext0 e385
      have hO391 := hO376.ext0 e385
      have hO392 := hO377.ext0 e385
      have hO393 := hO378.ext0 e385
      have hO394 := hO379.ext0 e385
      have hO395 := hO380.ext0 e385
      have hO396 := hO381.ext0 e385
      have E397 := E382.fresh e385 (fun _ h _ => h.elim)
      have R398 := R383.trans (Ext0.any e385)
      refine W_if_f (by decide) rfl ?_
      refine W_skip ?_
      refine W_seq ?_
      refine W_region (by kernel_rfl) ?_
      refine s_y (v := .bool true) rfl (y_assign rfl) ?_
      refine s_nil ?_
      refine W_ret ?_
      refine ret1 rfl rfl rfl ⟨_, rfl, ?_⟩
      exact ⟨rfl, E397⟩
    · obtain rfl : v111 = .bool false := hv112.trans (congrArg Value.bool (Bool.eq_false_iff.2 c121))
      refine m_y (v := .bool false) 5 rfl (by kernel_rfl) rfl rfl (fun w' e' => y_assign rfl) ?_
      refine m_done (by kernel_rfl) (fun w399 e400 => ?_)
      have hB401 := hB113.ext0 e400
      have hB402 := hB114.ext0 e400
      have hS403 := hS115.ext0 e400
      have hS404 := hS116.ext0 e400
      have hO405 := hO117.ext0 e400
      have hO406 := hO118.ext0 e400
      have E407 := E119.fresh e400 (fun _ h _ => h.elim)
      have R408 := R120.trans (Ext0.any e400)
      refine W_seq ?_
      refine W_region (by kernel_rfl) ?_
      refine s_y (v := .agg #[.int .i64 wd0, .int .i64 hi0, .bool wr0, .slice asp0 nsp0 csp0, .slice als0 nls0 cls0]) rfl (y_loadn (b := b1) (o := 0) (vs := [.int .i64 wd0, .int .i64 hi0, .bool wr0, .slice asp0 nsp0 csp0, .slice als0 nls0 cls0]) T5.agg_36_5 rfl rfl (hB401.cells (o := 0) rfl)) ?_
      refine s_k rfl (k_call T5.fn_23 (c_l_toSheet _ hS403 qlsp0 qksp0 hS404 qlls0 qkls0 (by omega) (by omega)) rfl ?_)
      rintro _ w409 ⟨⟨a411, c412, z413, a414, c415, z416, rfl, hO417, hl418, hc419, hO420, hl421, hc422, dj423⟩, e410⟩
      have hB424 := hB401.ext0 e410
      have hB425 := hB402.ext0 e410
      have hS426 := hS403.ext0 e410
      have hS427 := hS404.ext0 e410
      have hO428 := hO405.ext0 e410
      have hO429 := hO406.ext0 e410
      have E430 := E407.fresh e410 (fun _ h _ => h.elim)
      have d431 : ∀ k, inA a411 k → w399.heap.size ≤ k := fun kx hk => (hO417.blk kx hk).1
      have dj432 : inA a411 b1 → False := fun h => Nat.not_lt.2 (d431 _ h) hB401.lt
      have dj433 : inA a411 b10 → False := fun h => Nat.not_lt.2 (d431 _ h) hB402.lt
      have dj434 : ∀ k, inA a50 k → inA a411 k → False := fun kx h1 h2 => Nat.not_lt.2 (d431 kx h2) (hO405.blk kx h1).2
      have dj435 : ∀ k, inA a53 k → inA a411 k → False := fun kx h1 h2 => Nat.not_lt.2 (d431 kx h2) (hO406.blk kx h1).2
      have fr436 : ∀ k, inA a411 k → k < w.heap.size → False := fun kx h1 h2 => Nat.not_lt.2 (Nat.le_trans E407.size (d431 kx h1)) h2
      have hO437 := hO417.base E407.size
      have d438 : ∀ k, inA a414 k → w399.heap.size ≤ k := fun kx hk => (hO420.blk kx hk).1
      have dj439 : inA a414 b1 → False := fun h => Nat.not_lt.2 (d438 _ h) hB401.lt
      have dj440 : inA a414 b10 → False := fun h => Nat.not_lt.2 (d438 _ h) hB402.lt
      have dj441 : ∀ k, inA a50 k → inA a414 k → False := fun kx h1 h2 => Nat.not_lt.2 (d438 kx h2) (hO405.blk kx h1).2
      have dj442 : ∀ k, inA a53 k → inA a414 k → False := fun kx h1 h2 => Nat.not_lt.2 (d438 kx h2) (hO406.blk kx h1).2
      have fr443 : ∀ k, inA a414 k → k < w.heap.size → False := fun kx h1 h2 => Nat.not_lt.2 (Nat.le_trans E407.size (d438 kx h1)) h2
      have hO444 := hO420.base E407.size
      refine s_k rfl (k_alloc (z := (.agg #[.int .i64 0, .int .i64 0, .bool false, .slice none 0 0, .slice none 0 0])) (cs := [.int .i64 0, .int .i64 0, .bool false, .slice none 0 0, .slice none 0 0]) T5.zero_26 rfl (fun b445 w446 q448 e447 hB449 => ?_))
      have hB450 := hB424.ext0 e447
      have hB451 := hB425.ext0 e447
      have hS452 := hS426.ext0 e447
      have hS453 := hS427.ext0 e447
      have hO454 := hO428.ext0 e447
      have hO455 := hO429.ext0 e447
      have hO456 := hO437.ext0 e447
      have hO457 := hO444.ext0 e447
      have E458 := E430.fresh e447 (fun _ h _ => h.elim)
      have dj459 : NeB b1 b445 := fun h => Nat.ne_of_lt hB424.lt (h.trans q448)
      have dj460 : NeB b10 b445 := fun h => Nat.ne_of_lt hB425.lt (h.trans q448)
      have dj461 : inA a50 b445 → False := fun h => Nat.ne_of_lt (hO428.blk _ h).2 q448
      have dj462 : inA a53 b445 → False := fun h => Nat.ne_of_lt (hO429.blk _ h).2 q448
      have dj463 : inA a411 b445 → False := fun h => Nat.ne_of_lt (hO437.blk _ h).2 q448
      have dj464 : inA a414 b445 → False := fun h => Nat.ne_of_lt (hO444.blk _ h).2 q448
      have fr465 : NotLt b445 w.heap.size := fun h => Nat.not_lt.2 (Nat.le_trans E430.size (Nat.le_of_eq q448.symm)) h
      clear q448
      refine s_k0 rfl (k_store (v := .agg #[.int .i64 wd0, .int .i64 hi0, .bool wr0, .slice a411 nsp0 c412, .slice a414 nls0 c415]) (n := 5) (cs' := [.int .i64 wd0, .int .i64 hi0, .bool wr0, .slice a411 nsp0 c412, .slice a414 nls0 c415]) T5.sz_26_5 rfl rfl rfl hB449 (by simp [Value.cells, Value.oneCell']) (Nat.le_of_ble_eq_true rfl) rfl (fun w466 e467 z468 hB469 => ?_))
      clear z468
      have hB470 := hB450.ext e467 dj459
      have hB471 := hB451.ext e467 dj460
      have hS472 := hS452.extL lo_asp0 e467 (fun kx (hs : kx = b445) hl => fr465 (hs ▸ hl))
      have hS473 := hS453.extL lo_als0 e467 (fun kx (hs : kx = b445) hl => fr465 (hs ▸ hl))
      have hO474 := hO454.ext e467 (fun kx hk (hs : kx = b445) => dj461 (hs ▸ hk))
      have hO475 := hO455.ext e467 (fun kx hk (hs : kx = b445) => dj462 (hs ▸ hk))
      have hO476 := hO456.ext e467 (fun kx hk (hs : kx = b445) => dj463 (hs ▸ hk))
      have hO477 := hO457.ext e467 (fun kx hk (hs : kx = b445) => dj464 (hs ▸ hk))
      have E478 := E458.fresh e467 (fun kx (hs : kx = b445) hl => (fr465 (hs ▸ hl)).elim)
      refine s_nil ?_
      refine W_seq ?_
      refine W_draw (no) T5.mx (by kernel_rfl) (fun w479 e480 => ?_)
      have hB481 := hB470.ext0 e480
      have hB482 := hB471.ext0 e480
      have hB483 := hB469.ext0 e480
      have hS484 := hS472.ext0 e480
      have hS485 := hS473.ext0 e480
      have hO486 := hO474.ext0 e480
      have hO487 := hO475.ext0 e480
      have hO488 := hO476.ext0 e480
      have hO489 := hO477.ext0 e480
      have E490 := E478.fresh e480 (fun _ h _ => h.elim)
      have R491 := (Ext.refl (no) w466).trans (Ext0.any e480)
      refine m_y (v := .agg #[.int .i64 wd0, .int .i64 hi0, .bool wr0, .slice a411 nsp0 c412, .slice a414 nls0 c415]) 0 rfl (by kernel_rfl) rfl rfl (fun w' e' => y_loadn (b := b445) (o := 0) (vs := [.int .i64 wd0, .int .i64 hi0, .bool wr0, .slice a411 nsp0 c412, .slice a414 nls0 c415]) T5.agg_26_5 rfl rfl ((hB469.ext0 e').cells (o := 0) rfl)) ?_
      refine m_y (v := .agg #[.int .i64 rx1, .int .i64 ry1, .int .i64 rw1, .int .i64 rh1]) 1 rfl (by kernel_rfl) rfl rfl (fun w' e' => y_loadn (b := b10) (o := 0) (vs := [.int .i64 rx1, .int .i64 ry1, .int .i64 rw1, .int .i64 rh1]) T5.agg_44_4 rfl rfl ((hB471.ext0 e').cells (o := 0) rfl)) ?_
      refine m_k 2 [3, 4] rfl (by kernel_rfl) rfl rfl (fun w492 e493 => ?_)
      have hB494 := hB481.ext0 e493
      have hB495 := hB482.ext0 e493
      have hB496 := hB483.ext0 e493
      have hS497 := hS484.ext0 e493
      have hS498 := hS485.ext0 e493
      have hO499 := hO486.ext0 e493
      have hO500 := hO487.ext0 e493
      have hO501 := hO488.ext0 e493
      have hO502 := hO489.ext0 e493
      have E503 := E490.fresh e493 (fun _ h _ => h.elim)
      have R504 := R491.trans (Ext0.any e493)
      refine k_call T5.fn_27 (c_l_toRect _) rfl ?_
      rintro _ w505 ⟨rfl, e506⟩
      have hB507 := hB494.ext0 e506
      have hB508 := hB495.ext0 e506
      have hB509 := hB496.ext0 e506
      have hS510 := hS497.ext0 e506
      have hS511 := hS498.ext0 e506
      have hO512 := hO499.ext0 e506
      have hO513 := hO500.ext0 e506
      have hO514 := hO501.ext0 e506
      have hO515 := hO502.ext0 e506
      have E516 := E503.fresh e506 (fun _ h _ => h.elim)
      have R517 := R504.trans (Ext0.any e506)
      refine ⟨fun _ => R517, ?_⟩
      refine m_k 3 [4] rfl (by kernel_rfl) rfl rfl (fun w518 e519 => ?_)
      have hB520 := hB507.ext0 e519
      have hB521 := hB508.ext0 e519
      have hB522 := hB509.ext0 e519
      have hS523 := hS510.ext0 e519
      have hS524 := hS511.ext0 e519
      have hO525 := hO512.ext0 e519
      have hO526 := hO513.ext0 e519
      have hO527 := hO514.ext0 e519
      have hO528 := hO515.ext0 e519
      have E529 := E516.fresh e519 (fun _ h _ => h.elim)
      have R530 := R517.trans (Ext0.any e519)
      refine k_call T5.fn_28 (c_i_IsRect _ hO527.sl hl418 hc419 hO528.sl hl421 hc422 (by omega) (by omega)) rfl ?_
      rintro v533 w531 ⟨hv534, e532⟩
      have hB535 := hB520.ext0 e532
      have hB536 := hB521.ext0 e532
      have hB537 := hB522.ext0 e532
      have hS538 := hS523.ext0 e532
      have hS539 := hS524.ext0 e532
      have hO540 := hO525.ext0 e532
      have hO541 := hO526.ext0 e532
      have hO542 := hO527.ext0 e532
      have hO543 := hO528.ext0 e532
      have E544 := E529.fresh e532 (fun _ h _ => h.elim)
      have R545 := R530.trans (Ext0.any e532)
      refine ⟨fun _ => R545, ?_⟩
      obtain rfl : v533 = .bool false := hv534.trans (congrArg Value.bool (Bool.eq_false_iff.2 c121))
      refine m_y (v := .bool false) 4 rfl (by kernel_rfl) rfl rfl (fun w' e' => y_assign rfl) ?_
      refine m_done (by kernel_rfl) (fun w546 e547 => ?_)
      have hB548 := hB535.ext0 e547
      have hB549 := hB536.ext0 e547
      have hB550 := hB537.ext0 e547
      have hS551 := hS538.ext0 e547
      have hS552 := hS539.ext0 e547
      have hO553 := hO540.ext0 e547
      have hO554 := hO541.ext0 e547
      have hO555 := hO542.ext0 e547
      have hO556 := hO543.ext0 e547
      have E557 := E544.fresh e547 (fun _ h _ => h.elim)
      have R558 := R545.trans (Ext0.any e547)
      refine W_seq ?_
      refine W_seq ?_
      refine W_region (by kernel_rfl) ?_
      refine s_y (v := .bool false) rfl (y_move rfl) ?_
      refine s_y (v := .bool false) rfl (y_move rfl) ?_
      refine s_y (v := .bool false) rfl (y_bneq T5.bool_4 rfl rfl rfl) ?_
      refine s_nil ?_
      refine W_if_f (by decide) rfl ?_
      refine W_skip ?_
      refine W_seq ?_
      refine W_seq ?_
      refine W_draw (no) T5.mx (by kernel_rfl) (fun w559 e560 => ?_)
      have hB561 := hB548.ext0 e560
      have hB562 := hB549.ext0 e560
      have hB563 := hB550.ext0 e560
      have hS564 := hS551.ext0 e560
      have hS565 := hS552.ext0 e560
      have hO566 := hO553.ext0 e560
      have hO567 := hO554.ext0 e560
      have hO568 := hO555.ext0 e560
      have hO569 := hO556.ext0 e560
      have E570 := E557.fresh e560 (fun _ h _ => h.elim)
      have R571 := (Ext.refl (no) w546).trans (Ext0.any e560)
      refine m_y (v := .agg #[.int .i64 wd0, .int .i64 hi0, .bool wr0, .slice a411 nsp0 c412, .slice a414 nls0 c415]) 0 rfl (by kernel_rfl) rfl rfl (fun w' e' => y_loadn (b := b445) (o := 0) (vs := [.int .i64 wd0, .int .i64 hi0, .bool wr0, .slice a411 nsp0 c412, .slice a414 nls0 c415]) T5.agg_26_5 rfl rfl ((hB550.ext0 e').cells (o := 0) rfl)) ?_
      refine m_y (v := .agg #[.int .i64 wd0, .int .i64 hi0, .bool wr0, .slice asp0 nsp0 csp0, .slice als0 nls0 cls0]) 1 rfl (by kernel_rfl) rfl rfl (fun w' e' => y_loadn (b := b1) (o := 0) (vs := [.int .i64 wd0, .int .i64 hi0, .bool wr0, .slice asp0 nsp0 csp0, .slice als0 nls0 cls0]) T5.agg_36_5 rfl rfl ((hB548.ext0 e').cells (o := 0) rfl)) ?_
      refine m_k 2 [3, 4] rfl (by kernel_rfl) rfl rfl (fun w572 e573 => ?_)
      have hB574 := hB561.ext0 e573
      have hB575 := hB562.ext0 e573
      have hB576 := hB563.ext0 e573
      have hS577 := hS564.ext0 e573
      have hS578 := hS565.ext0 e573
      have hO579 := hO566.ext0 e573
      have hO580 := hO567.ext0 e573
      have hO581 := hO568.ext0 e573
      have hO582 := hO569.ext0 e573
      have E583 := E570.fresh e573 (fun _ h _ => h.elim)
      have R584 := R571.trans (Ext0.any e573)
      refine k_call T5.fn_23 (c_l_toSheet _ hS577 qlsp0 qksp0 hS578 qlls0 qkls0 (by omega) (by omega)) rfl ?_
      rintro _ w585 ⟨⟨a587, c588, z589, a590, c591, z592, rfl, hO593, hl594, hc595, hO596, hl597, hc598, dj599⟩, e586⟩
      have hB600 := hB574.ext0 e586
      have hB601 := hB575.ext0 e586
      have hB602 := hB576.ext0 e586
      have hS603 := hS577.ext0 e586
      have hS604 := hS578.ext0 e586
      have hO605 := hO579.ext0 e586
      have hO606 := hO580.ext0 e586
      have hO607 := hO581.ext0 e586
      have hO608 := hO582.ext0 e586
      have E609 := E583.fresh e586 (fun _ h _ => h.elim)
      have R610 := R584.trans (Ext0.any e586)
      refine ⟨fun _ => R610, ?_⟩
      have d611 : ∀ k, inA a587 k → w572.heap.size ≤ k := fun kx hk => (hO593.blk kx hk).1
      have dj612 : inA a587 b1 → False := fun h => Nat.not_lt.2 (d611 _ h) hB574.lt
      have dj613 : inA a587 b10 → False := fun h => Nat.not_lt.2 (d611 _ h) hB575.lt
      have dj614 : inA a587 b445 → False := fun h => Nat.not_lt.2 (d611 _ h) hB576.lt
      have dj615 : ∀ k, inA a50 k → inA a587 k → False := fun kx h1 h2 => Nat.not_lt.2 (d611 kx h2) (hO579.blk kx h1).2
      have dj616 : ∀ k, inA a53 k → inA a587 k → False := fun kx h1 h2 => Nat.not_lt.2 (d611 kx h2) (hO580.blk kx h1).2
      have dj617 : ∀ k, inA a411 k → inA a587 k → False := fun kx h1 h2 => Nat.not_lt.2 (d611 kx h2) (hO581.blk kx h1).2
      have dj618 : ∀ k, inA a414 k → inA a587 k → False := fun kx h1 h2 => Nat.not_lt.2 (d611 kx h2) (hO582.blk kx h1).2
      have fr619 : ∀ k, inA a587 k → k < w.heap.size → False := fun kx h1 h2 => Nat.not_lt.2 (Nat.le_trans E583.size (d611 kx h1)) h2
      have hO620 := hO593.base E583.size
      have d621 : ∀ k, inA a590 k → w572.heap.size ≤ k := fun kx hk => (hO596.blk kx hk).1
      have dj622 : inA a590 b1 → False := fun h => Nat.not_lt.2 (d621 _ h) hB574.lt
      have dj623 : inA a590 b10 → False := fun h => Nat.not_lt.2 (d621 _ h) hB575.lt
      have dj624 : inA a590 b445 → False := fun h => Nat.not_lt.2 (d621 _ h) hB576.lt
      have dj625 : ∀ k, inA a50 k → inA a590 k → False := fun kx h1 h2 => Nat.not_lt.2 (d621 kx h2) (hO579.blk kx h1).2
      have dj626 : ∀ k, inA a53 k → inA a590 k → False := fun kx h1 h2 => Nat.not_lt.2 (d621 kx h2) (hO580.blk kx h1).2
      have dj627 : ∀ k, inA a411 k → inA a590 k → False := fun kx h1 h2 => Nat.not_lt.2 (d621 kx h2) (hO581.blk kx h1).2
      have dj628 : ∀ k, inA a414 k → inA a590 k → False := fun kx h1 h2 => Nat.not_lt.2 (d621 kx h2) (hO582.blk kx h1).2
      have fr629 : ∀ k, inA a590 k → k < w.heap.size → False := fun kx h1 h2 => Nat.not_lt.2 (Nat.le_trans E583.size (d621 kx h1)) h2
      have hO630 := hO596.base E583.size
      refine m_k 3 [4] rfl (by kernel_rfl) rfl rfl (fun w631 e632 => ?_)
      have hB633 := hB600.ext0 e632
      have hB634 := hB601.ext0 e632
      have hB635 := hB602.ext0 e632
      have hS636 := hS603.ext0 e632
      have hS637 := hS604.ext0 e632
      have hO638 := hO605.ext0 e632
      have hO639 := hO606.ext0 e632
      have hO640 := hO607.ext0 e632
      have hO641 := hO608.ext0 e632
      have hO642 := hO620.ext0 e632
      have hO643 := hO630.ext0 e632
      have E644 := E609.fresh e632 (fun _ h _ => h.elim)
      have R645 := R610.trans (Ext0.any e632)
      refine k_call T5.fn_25 (c_l_eqSheet _ hO640.sl hl418 hc419 hO642.sl hl594 hc595 (by omega) hO641.sl hl421 hc422 hO643.sl hl597 hc598 (by omega)) rfl ?_
      rintro _ w646 ⟨rfl, e647⟩
      have hB648 := hB633.ext0 e647
      have hB649 := hB634.ext0 e647
      have hB650 := hB635.ext0 e647
      have hS651 := hS636.ext0 e647
      have hS652 := hS637.ext0 e647
      have hO653 := hO638.ext0 e647
      have hO654 := hO639.ext0 e647
      have hO655 := hO640.ext0 e647
      have hO656 := hO641.ext0 e647
      have hO657 := hO642.ext0 e647
      have hO658 := hO643.ext0 e647
      have E659 := E644.fresh e647 (fun _ h _ => h.elim)
      have R660 := R645.trans (Ext0.any e647)
      refine ⟨fun _ => R660, ?_⟩
      refine m_y (v := .bool false) 4 rfl (by kernel_rfl) rfl rfl (fun w' e' => y_not rfl rfl) ?_
      refine m_done (by kernel_rfl) (fun w661 e662 => ?_)
      have hB663 := hB648.ext0 e662
      have hB664 := hB649.ext0 e662
      have hB665 := hB650.ext0 e662
      have hS666 := hS651.ext0 e662
      have hS667 := hS652.ext0 e662
      have hO668 := hO653.ext0 e662
      have hO669 := hO654.ext0 e662
      have hO670 := hO655.ext0 e662
      have hO671 := hO656.ext0 e662
      have hO672 := hO657.ext0 e662
      have hO673 := hO658.ext0 e662
      have E674 := E659.fresh e662 (fun _ h _ => h.elim)
      have R675 := R660.trans (Ext0.any e662)
      refine W_if_f (by decide) rfl ?_
      refine W_skip ?_
      refine W_seq ?_
      refine W_region (by kernel_rfl) ?_
      refine s_y (v := .bool true) rfl (y_assign rfl) ?_
      refine s_nil ?_
      refine W_ret ?_
      refine ret1 rfl rfl rfl ⟨_, rfl, ?_⟩
      exact ⟨rfl, E674⟩
  · obtain rfl : v23 = .int .i64 (-1) := hv24.trans (congrArg _ (if_neg c30))
    refine s_y (v := .int .i64 (-1)) rfl (y_assign rfl) ?_
    refine s_nil ?_
    refine W_seq ?_
    refine W_seq ?_
    refine W_region (by kernel_rfl) ?_
    refine s_y (v := .int .i64 (-1)) rfl (y_move rfl) ?_
    have hk676 : (-1 : Int) < 0 := (by decide)
    refine s_y (v := .bool true) rfl (y_lss rfl rfl (decide_eq_true hk676)) ?_
    refine s_nil ?_
    refine W_if_t (by decide) rfl ?_
    refine W_seq ?_
    refine W_region (by kernel_rfl) ?_
    refine s_y (v := .bool true) rfl (y_assign rfl) ?_
    refine s_nil ?_
    refine W_ret ?_
    refine ret1 rfl rfl rfl ⟨_, rfl, ?_⟩
    exact ⟨rfl, E29⟩
end Go.Proofs.Ytcggpjocghigcaa
