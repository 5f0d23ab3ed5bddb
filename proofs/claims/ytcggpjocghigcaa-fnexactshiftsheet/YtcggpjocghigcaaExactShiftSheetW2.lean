/- Walks: what the functions under FnExactShiftSheet do (part 3). Printed by a program of this claim's author. -/
import Derived.Test.YtcggpjocghigcaaExactShiftSheetW1
set_option linter.unusedSimpArgs false
set_option linter.unusedVariables false
open Go.Wv
namespace Go.Proofs.Ytcggpjocghigcaa
open Go.Proofs
namespace T12
theorem mx : Try.prog.follows .mixedOrders = true := by kernel_rfl
theorem agg_26_5 : aggB Try.prog 26 5 = true := by kernel_rfl
theorem agg_36_5 : aggB Try.prog 36 5 = true := by kernel_rfl
theorem bool_4 : Try.prog.underlying 4 = some .bool := by kernel_rfl
theorem fn_21 : fnB Try.prog 21 = true := by kernel_rfl
theorem fn_23 : fnB Try.prog 23 = true := by kernel_rfl
theorem fn_25 : fnB Try.prog 25 = true := by kernel_rfl
theorem fn_37 : fnB Try.prog 37 = true := by kernel_rfl
theorem fn_38 : fnB Try.prog 38 = true := by kernel_rfl
theorem fn_50 : fnB Try.prog 50 = true := by kernel_rfl
theorem fn_51 : fnB Try.prog 51 = true := by kernel_rfl
theorem sz_26_5 : szB Try.prog 26 5 = true := by kernel_rfl
theorem zero_26 : zeroB Try.prog 26 (.agg #[.int .i64 0, .int .i64 0, .bool false, .slice none 0 0, .slice none 0 0]) := by unfold zeroB; kernel_rfl
end T12
set_option maxRecDepth 100000 in
set_option maxHeartbeats 4000000 in
theorem c_FnExactShiftSheet {wd0 hi0 : Int} {wr0 : Bool} {asp0 : Option Addr} {nsp0 csp0 : Nat} {xsp0 Xsp0 : List Nat} {als0 : Option Addr} {nls0 cls0 : Nat} {xls0 Xls0 : List Nat} {i1 i2 : Int} (w : World) (qssp0 : Sl w asp0 (flts xsp0)) (qlsp0 : xsp0.length = nsp0) (qksp0 : cn xsp0 = Xsp0) (qsls0 : Sl w als0 (flts xls0)) (qlls0 : xls0.length = nls0) (qkls0 : cn xls0 = Xls0) (g1 : nsp0 ≤ 9223372036854775807) (g2 : nls0 ≤ 9223372036854775807) :
    Calls Try.prog 12 #[.agg #[.int .i64 wd0, .int .i64 hi0, .bool wr0, .slice asp0 nsp0 csp0, .slice als0 nls0 cls0], .int .i64 i1, .int .i64 i2] w (Rt fun v w' => v = .bool true ∧ Ext no w w') := by
  have E0 : Ext no w w := Ext.refl _ _
  have hlP0 : Xsp0.length = nsp0 := (cn_lenX qksp0).trans qlsp0
  have hlL0 : Xls0.length = nls0 := (cn_lenX qkls0).trans qlls0
  have lo_asp0 := Sl.low qssp0
  have lo_als0 := Sl.low qsls0
  refine calls_W (n := 106) Try.func12 rfl rfl (Nat.le_of_ble_eq_true rfl) ?_
  refine W_seq ?_
  refine W_region (by kernel_rfl) ?_
  refine s_k rfl (k_box (v := .agg #[.int .i64 wd0, .int .i64 hi0, .bool wr0, .slice asp0 nsp0 csp0, .slice als0 nls0 cls0]) (cs := [.int .i64 wd0, .int .i64 hi0, .bool wr0, .slice asp0 nsp0 csp0, .slice als0 nls0 cls0]) rfl rfl (fun b1 w2 q4 e3 hB5 => ?_))
  have hS6 := qssp0.ext0 e3
  have hS7 := qsls0.ext0 e3
  have E8 := E0.fresh e3 (fun _ h _ => h.elim)
  have fr9 : NotLt b1 w.heap.size := fun h => Nat.not_lt.2 (Nat.le_trans E0.size (Nat.le_of_eq q4.symm)) h
  clear q4
  refine s_y (v := .bool false) rfl (y_assign rfl) ?_
  refine s_nil ?_
  refine W_seq ?_
  refine W_region (by kernel_rfl) ?_
  refine s_y (v := .int .i64 1048576) rfl (y_assign rfl) ?_
  refine s_nil ?_
  refine W_seq ?_
  refine W_region (by kernel_rfl) ?_
  refine s_y (v := .agg #[.int .i64 wd0, .int .i64 hi0, .bool wr0, .slice asp0 nsp0 csp0, .slice als0 nls0 cls0]) rfl (y_loadn (b := b1) (o := 0) (vs := [.int .i64 wd0, .int .i64 hi0, .bool wr0, .slice asp0 nsp0 csp0, .slice als0 nls0 cls0]) T12.agg_36_5 rfl rfl (hB5.cells (o := 0) rfl)) ?_
  refine s_y (v := .int .i64 1048576) rfl (y_move rfl) ?_
  refine s_k rfl (k_call T12.fn_21 (c_l_szSheet _ (by omega) (by omega) (by omega) (by omega)) rfl ?_)
  rintro v12 w10 ⟨hv13, e11⟩
  have hB14 := hB5.ext0 e11
  have hS15 := hS6.ext0 e11
  have hS16 := hS7.ext0 e11
  have E17 := E8.fresh e11 (fun _ h _ => h.elim)
  by_cases c18 : ((nsp0 : Nat) : Int) + ((nls0 : Nat) : Int) ≤ 1048576
  · obtain rfl : v12 = .int .i64 (1048576 - ((nsp0 : Nat) : Int) - ((nls0 : Nat) : Int)) := hv13.trans (congrArg _ (if_pos c18))
    have hk19 : ¬ (1048576 - ((nsp0 : Nat) : Int) - ((nls0 : Nat) : Int)) < 0 := by omega
    refine s_y (v := .int .i64 (1048576 - ((nsp0 : Nat) : Int) - ((nls0 : Nat) : Int))) rfl (y_assign rfl) ?_
    refine s_nil ?_
    refine W_seq ?_
    refine W_seq ?_
    refine W_region (by kernel_rfl) ?_
    refine s_y (v := .int .i64 (1048576 - ((nsp0 : Nat) : Int) - ((nls0 : Nat) : Int))) rfl (y_move rfl) ?_
    refine s_y (v := .bool false) rfl (y_lss rfl rfl (decide_eq_false hk19)) ?_
    refine s_nil ?_
    refine W_if_f (by decide) rfl ?_
    refine W_skip ?_
    refine W_seq ?_
    refine W_region (by kernel_rfl) ?_
    refine s_y (v := .agg #[.int .i64 wd0, .int .i64 hi0, .bool wr0, .slice asp0 nsp0 csp0, .slice als0 nls0 cls0]) rfl (y_loadn (b := b1) (o := 0) (vs := [.int .i64 wd0, .int .i64 hi0, .bool wr0, .slice asp0 nsp0 csp0, .slice als0 nls0 cls0]) T12.agg_36_5 rfl rfl (hB14.cells (o := 0) rfl)) ?_
    refine s_k rfl (k_call T12.fn_23 (c_l_toSheet _ hS15 qlsp0 qksp0 hS16 qlls0 qkls0 (by omega) (by omega)) rfl ?_)
    rintro _ w20 ⟨⟨a22, c23, z24, a25, c26, z27, rfl, hO28, hl29, hc30, hO31, hl32, hc33, dj34⟩, e21⟩
    have hB35 := hB14.ext0 e21
    have hS36 := hS15.ext0 e21
    have hS37 := hS16.ext0 e21
    have E38 := E17.fresh e21 (fun _ h _ => h.elim)
    have d39 : ∀ k, inA a22 k → w10.heap.size ≤ k := fun kx hk => (hO28.blk kx hk).1
    have dj40 : inA a22 b1 → False := fun h => Nat.not_lt.2 (d39 _ h) hB14.lt
    have fr41 : ∀ k, inA a22 k → k < w.heap.size → False := fun kx h1 h2 => Nat.not_lt.2 (Nat.le_trans E17.size (d39 kx h1)) h2
    have hO42 := hO28.base E17.size
    have d43 : ∀ k, inA a25 k → w10.heap.size ≤ k := fun kx hk => (hO31.blk kx hk).1
    have dj44 : inA a25 b1 → False := fun h => Nat.not_lt.2 (d43 _ h) hB14.lt
    have fr45 : ∀ k, inA a25 k → k < w.heap.size → False := fun kx h1 h2 => Nat.not_lt.2 (Nat.le_trans E17.size (d43 kx h1)) h2
    have hO46 := hO31.base E17.size
    refine s_y (v := .int .i64 i1) rfl (y_move rfl) ?_
    refine s_y (v := .int .i64 i2) rfl (y_move rfl) ?_
    refine s_k rfl (k_call T12.fn_50 (c_s_ShiftSheet _ hO42.sl hl29 hc30 hO46.sl hl32 hc33 (by omega) (by omega)) rfl ?_)
    rintro vhx49 w47 ⟨hx49, e48⟩
    have hB51 := hB35.ext0 e48
    have hS52 := hS36.ext0 e48
    have hS53 := hS37.ext0 e48
    have hO54 := hO42.ext0 e48
    have hO55 := hO46.ext0 e48
    have E56 := E38.fresh e48 (fun _ h _ => h.elim)
    by_cases c57 : shB wd0 hi0 wr0 Xsp0 Xls0 i1 i2 = true
    · have hb58 := shB_b c57
      obtain ⟨a59, c60, z61, a62, c63, z64, rfl, hO65, hl66, hc67, hO68, hl69, hc70, dj71⟩ := (hx49.resolve_right (fun hz => by rw [c57] at hz; cases hz.1)).2
      clear hx49
      have d72 : ∀ k, inA a59 k → w20.heap.size ≤ k := fun kx hk => (hO65.blk kx hk).1
      have dj73 : inA a59 b1 → False := fun h => Nat.not_lt.2 (d72 _ h) hB35.lt
      have dj74 : ∀ k, inA a22 k → inA a59 k → False := fun kx h1 h2 => Nat.not_lt.2 (d72 kx h2) (hO42.blk kx h1).2
      have dj75 : ∀ k, inA a25 k → inA a59 k → False := fun kx h1 h2 => Nat.not_lt.2 (d72 kx h2) (hO46.blk kx h1).2
      have fr76 : ∀ k, inA a59 k → k < w.heap.size → False := fun kx h1 h2 => Nat.not_lt.2 (Nat.le_trans E38.size (d72 kx h1)) h2
      have hO77 := hO65.base E38.size
      have d78 : ∀ k, inA a62 k → w20.heap.size ≤ k := fun kx hk => (hO68.blk kx hk).1
      have dj79 : inA a62 b1 → False := fun h => Nat.not_lt.2 (d78 _ h) hB35.lt
      have dj80 : ∀ k, inA a22 k → inA a62 k → False := fun kx h1 h2 => Nat.not_lt.2 (d78 kx h2) (hO42.blk kx h1).2
      have dj81 : ∀ k, inA a25 k → inA a62 k → False := fun kx h1 h2 => Nat.not_lt.2 (d78 kx h2) (hO46.blk kx h1).2
      have fr82 : ∀ k, inA a62 k → k < w.heap.size → False := fun kx h1 h2 => Nat.not_lt.2 (Nat.le_trans E38.size (d78 kx h1)) h2
      have hO83 := hO68.base E38.size
      refine s_y (v := .tuple #[.agg #[.int .i64 wd0, .int .i64 hi0, .bool wr0, .slice a59 ((wd0 * hi0).toNat) c60, .slice a62 ((wd0 * hi0).toNat) c63], .bool true]) rfl (y_move rfl) ?_
      refine s_y (v := .agg #[.int .i64 wd0, .int .i64 hi0, .bool wr0, .slice a59 ((wd0 * hi0).toNat) c60, .slice a62 ((wd0 * hi0).toNat) c63]) rfl (y_extract rfl rfl) ?_
      refine s_y (v := .bool true) rfl (y_extract rfl rfl) ?_
      refine s_k rfl (k_alloc (z := (.agg #[.int .i64 0, .int .i64 0, .bool false, .slice none 0 0, .slice none 0 0])) (cs := [.int .i64 0, .int .i64 0, .bool false, .slice none 0 0, .slice none 0 0]) T12.zero_26 rfl (fun b84 w85 q87 e86 hB88 => ?_))
      have hB89 := hB51.ext0 e86
      have hS90 := hS52.ext0 e86
      have hS91 := hS53.ext0 e86
      have hO92 := hO54.ext0 e86
      have hO93 := hO55.ext0 e86
      have hO94 := hO77.ext0 e86
      have hO95 := hO83.ext0 e86
      have E96 := E56.fresh e86 (fun _ h _ => h.elim)
      have dj97 : NeB b1 b84 := fun h => Nat.ne_of_lt hB51.lt (h.trans q87)
      have dj98 : inA a22 b84 → False := fun h => Nat.ne_of_lt (hO54.blk _ h).2 q87
      have dj99 : inA a25 b84 → False := fun h => Nat.ne_of_lt (hO55.blk _ h).2 q87
      have dj100 : inA a59 b84 → False := fun h => Nat.ne_of_lt (hO77.blk _ h).2 q87
      have dj101 : inA a62 b84 → False := fun h => Nat.ne_of_lt (hO83.blk _ h).2 q87
      have fr102 : NotLt b84 w.heap.size := fun h => Nat.not_lt.2 (Nat.le_trans E56.size (Nat.le_of_eq q87.symm)) h
      clear q87
      refine s_k0 rfl (k_store (v := .agg #[.int .i64 wd0, .int .i64 hi0, .bool wr0, .slice a59 ((wd0 * hi0).toNat) c60, .slice a62 ((wd0 * hi0).toNat) c63]) (n := 5) (cs' := [.int .i64 wd0, .int .i64 hi0, .bool wr0, .slice a59 ((wd0 * hi0).toNat) c60, .slice a62 ((wd0 * hi0).toNat) c63]) T12.sz_26_5 rfl rfl rfl hB88 (by simp [Value.cells, Value.oneCell']) (Nat.le_of_ble_eq_true rfl) rfl (fun w103 e104 z105 hB106 => ?_))
      clear z105
      have hB107 := hB89.ext e104 dj97
      have hS108 := hS90.extL lo_asp0 e104 (fun kx (hs : kx = b84) hl => fr102 (hs ▸ hl))
      have hS109 := hS91.extL lo_als0 e104 (fun kx (hs : kx = b84) hl => fr102 (hs ▸ hl))
      have hO110 := hO92.ext e104 (fun kx hk (hs : kx = b84) => dj98 (hs ▸ hk))
      have hO111 := hO93.ext e104 (fun kx hk (hs : kx = b84) => dj99 (hs ▸ hk))
      have hO112 := hO94.ext e104 (fun kx hk (hs : kx = b84) => dj100 (hs ▸ hk))
      have hO113 := hO95.ext e104 (fun kx hk (hs : kx = b84) => dj101 (hs ▸ hk))
      have E114 := E96.fresh e104 (fun kx (hs : kx = b84) hl => (fr102 (hs ▸ hl)).elim)
      refine s_y (v := .bool true) rfl (y_assign rfl) ?_
      refine s_nil ?_
      refine W_seq ?_
      refine W_region (by kernel_rfl) ?_
      refine s_y (v := .agg #[.int .i64 wd0, .int .i64 hi0, .bool wr0, .slice asp0 nsp0 csp0, .slice als0 nls0 cls0]) rfl (y_loadn (b := b1) (o := 0) (vs := [.int .i64 wd0, .int .i64 hi0, .bool wr0, .slice asp0 nsp0 csp0, .slice als0 nls0 cls0]) T12.agg_36_5 rfl rfl (hB107.cells (o := 0) rfl)) ?_
      refine s_k rfl (k_call T12.fn_23 (c_l_toSheet _ hS108 qlsp0 qksp0 hS109 qlls0 qkls0 (by omega) (by omega)) rfl ?_)
      rintro _ w115 ⟨⟨a117, c118, z119, a120, c121, z122, rfl, hO123, hl124, hc125, hO126, hl127, hc128, dj129⟩, e116⟩
      have hB130 := hB107.ext0 e116
      have hB131 := hB106.ext0 e116
      have hS132 := hS108.ext0 e116
      have hS133 := hS109.ext0 e116
      have hO134 := hO110.ext0 e116
      have hO135 := hO111.ext0 e116
      have hO136 := hO112.ext0 e116
      have hO137 := hO113.ext0 e116
      have E138 := E114.fresh e116 (fun _ h _ => h.elim)
      have d139 : ∀ k, inA a117 k → w103.heap.size ≤ k := fun kx hk => (hO123.blk kx hk).1
      have dj140 : inA a117 b1 → False := fun h => Nat.not_lt.2 (d139 _ h) hB107.lt
      have dj141 : inA a117 b84 → False := fun h => Nat.not_lt.2 (d139 _ h) hB106.lt
      have dj142 : ∀ k, inA a22 k → inA a117 k → False := fun kx h1 h2 => Nat.not_lt.2 (d139 kx h2) (hO110.blk kx h1).2
      have dj143 : ∀ k, inA a25 k → inA a117 k → False := fun kx h1 h2 => Nat.not_lt.2 (d139 kx h2) (hO111.blk kx h1).2
      have dj144 : ∀ k, inA a59 k → inA a117 k → False := fun kx h1 h2 => Nat.not_lt.2 (d139 kx h2) (hO112.blk kx h1).2
      have dj145 : ∀ k, inA a62 k → inA a117 k → False := fun kx h1 h2 => Nat.not_lt.2 (d139 kx h2) (hO113.blk kx h1).2
      have fr146 : ∀ k, inA a117 k → k < w.heap.size → False := fun kx h1 h2 => Nat.not_lt.2 (Nat.le_trans E114.size (d139 kx h1)) h2
      have hO147 := hO123.base E114.size
      have d148 : ∀ k, inA a120 k → w103.heap.size ≤ k := fun kx hk => (hO126.blk kx hk).1
      have dj149 : inA a120 b1 → False := fun h => Nat.not_lt.2 (d148 _ h) hB107.lt
      have dj150 : inA a120 b84 → False := fun h => Nat.not_lt.2 (d148 _ h) hB106.lt
      have dj151 : ∀ k, inA a22 k → inA a120 k → False := fun kx h1 h2 => Nat.not_lt.2 (d148 kx h2) (hO110.blk kx h1).2
      have dj152 : ∀ k, inA a25 k → inA a120 k → False := fun kx h1 h2 => Nat.not_lt.2 (d148 kx h2) (hO111.blk kx h1).2
      have dj153 : ∀ k, inA a59 k → inA a120 k → False := fun kx h1 h2 => Nat.not_lt.2 (d148 kx h2) (hO112.blk kx h1).2
      have dj154 : ∀ k, inA a62 k → inA a120 k → False := fun kx h1 h2 => Nat.not_lt.2 (d148 kx h2) (hO113.blk kx h1).2
      have fr155 : ∀ k, inA a120 k → k < w.heap.size → False := fun kx h1 h2 => Nat.not_lt.2 (Nat.le_trans E114.size (d148 kx h1)) h2
      have hO156 := hO126.base E114.size
      refine s_k rfl (k_alloc (z := (.agg #[.int .i64 0, .int .i64 0, .bool false, .slice none 0 0, .slice none 0 0])) (cs := [.int .i64 0, .int .i64 0, .bool false, .slice none 0 0, .slice none 0 0]) T12.zero_26 rfl (fun b157 w158 q160 e159 hB161 => ?_))
      have hB162 := hB130.ext0 e159
      have hB163 := hB131.ext0 e159
      have hS164 := hS132.ext0 e159
      have hS165 := hS133.ext0 e159
      have hO166 := hO134.ext0 e159
      have hO167 := hO135.ext0 e159
      have hO168 := hO136.ext0 e159
      have hO169 := hO137.ext0 e159
      have hO170 := hO147.ext0 e159
      have hO171 := hO156.ext0 e159
      have E172 := E138.fresh e159 (fun _ h _ => h.elim)
      have dj173 : NeB b1 b157 := fun h => Nat.ne_of_lt hB130.lt (h.trans q160)
      have dj174 : NeB b84 b157 := fun h => Nat.ne_of_lt hB131.lt (h.trans q160)
      have dj175 : inA a22 b157 → False := fun h => Nat.ne_of_lt (hO134.blk _ h).2 q160
      have dj176 : inA a25 b157 → False := fun h => Nat.ne_of_lt (hO135.blk _ h).2 q160
      have dj177 : inA a59 b157 → False := fun h => Nat.ne_of_lt (hO136.blk _ h).2 q160
      have dj178 : inA a62 b157 → False := fun h => Nat.ne_of_lt (hO137.blk _ h).2 q160
      have dj179 : inA a117 b157 → False := fun h => Nat.ne_of_lt (hO147.blk _ h).2 q160
      have dj180 : inA a120 b157 → False := fun h => Nat.ne_of_lt (hO156.blk _ h).2 q160
      have fr181 : NotLt b157 w.heap.size := fun h => Nat.not_lt.2 (Nat.le_trans E138.size (Nat.le_of_eq q160.symm)) h
      clear q160
      refine s_k0 rfl (k_store (v := .agg #[.int .i64 wd0, .int .i64 hi0, .bool wr0, .slice a117 nsp0 c118, .slice a120 nls0 c121]) (n := 5) (cs' := [.int .i64 wd0, .int .i64 hi0, .bool wr0, .slice a117 nsp0 c118, .slice a120 nls0 c121]) T12.sz_26_5 rfl rfl rfl hB161 (by simp [Value.cells, Value.oneCell']) (Nat.le_of_ble_eq_true rfl) rfl (fun w182 e183 z184 hB185 => ?_))
      clear z184
      have hB186 := hB162.ext e183 dj173
      have hB187 := hB163.ext e183 dj174
      have hS188 := hS164.extL lo_asp0 e183 (fun kx (hs : kx = b157) hl => fr181 (hs ▸ hl))
      have hS189 := hS165.extL lo_als0 e183 (fun kx (hs : kx = b157) hl => fr181 (hs ▸ hl))
      have hO190 := hO166.ext e183 (fun kx hk (hs : kx = b157) => dj175 (hs ▸ hk))
      have hO191 := hO167.ext e183 (fun kx hk (hs : kx = b157) => dj176 (hs ▸ hk))
      have hO192 := hO168.ext e183 (fun kx hk (hs : kx = b157) => dj177 (hs ▸ hk))
      have hO193 := hO169.ext e183 (fun kx hk (hs : kx = b157) => dj178 (hs ▸ hk))
      have hO194 := hO170.ext e183 (fun kx hk (hs : kx = b157) => dj179 (hs ▸ hk))
      have hO195 := hO171.ext e183 (fun kx hk (hs : kx = b157) => dj180 (hs ▸ hk))
      have E196 := E172.fresh e183 (fun kx (hs : kx = b157) hl => (fr181 (hs ▸ hl)).elim)
      refine s_nil ?_
      refine W_seq ?_
      refine W_region (by kernel_rfl) ?_
      refine s_y (v := .agg #[.int .i64 wd0, .int .i64 hi0, .bool wr0, .slice a117 nsp0 c118, .slice a120 nls0 c121]) rfl (y_loadn (b := b157) (o := 0) (vs := [.int .i64 wd0, .int .i64 hi0, .bool wr0, .slice a117 nsp0 c118, .slice a120 nls0 c121]) T12.agg_26_5 rfl rfl (hB185.cells (o := 0) rfl)) ?_
      refine s_y (v := .int .i64 i1) rfl (y_move rfl) ?_
      refine s_y (v := .int .i64 i2) rfl (y_move rfl) ?_
      refine s_k rfl (k_call T12.fn_51 (c_i_ShiftSheet _ hO194.sl hl124 hc125 hO195.sl hl127 hc128 (by omega) (by omega)) rfl ?_)
      rintro vhx199 w197 ⟨hx199, e198⟩
      have hB201 := hB186.ext0 e198
      have hB202 := hB187.ext0 e198
      have hB203 := hB185.ext0 e198
      have hS204 := hS188.ext0 e198
      have hS205 := hS189.ext0 e198
      have hO206 := hO190.ext0 e198
      have hO207 := hO191.ext0 e198
      have hO208 := hO192.ext0 e198
      have hO209 := hO193.ext0 e198
      have hO210 := hO194.ext0 e198
      have hO211 := hO195.ext0 e198
      have E212 := E196.fresh e198 (fun _ h _ => h.elim)
      obtain ⟨a213, c214, z215, a216, c217, z218, rfl, hO219, hl220, hc221, hO222, hl223, hc224, dj225⟩ := (hx199.resolve_right (fun hz => by rw [c57] at hz; cases hz.1)).2
      clear hx199
      have d226 : ∀ k, inA a213 k → w182.heap.size ≤ k := fun kx hk => (hO219.blk kx hk).1
      have dj227 : inA a213 b1 → False := fun h => Nat.not_lt.2 (d226 _ h) hB186.lt
      have dj228 : inA a213 b84 → False := fun h => Nat.not_lt.2 (d226 _ h) hB187.lt
      have dj229 : inA a213 b157 → False := fun h => Nat.not_lt.2 (d226 _ h) hB185.lt
      have dj230 : ∀ k, inA a22 k → inA a213 k → False := fun kx h1 h2 => Nat.not_lt.2 (d226 kx h2) (hO190.blk kx h1).2
      have dj231 : ∀ k, inA a25 k → inA a213 k → False := fun kx h1 h2 => Nat.not_lt.2 (d226 kx h2) (hO191.blk kx h1).2
      have dj232 : ∀ k, inA a59 k → inA a213 k → False := fun kx h1 h2 => Nat.not_lt.2 (d226 kx h2) (hO192.blk kx h1).2
      have dj233 : ∀ k, inA a62 k → inA a213 k → False := fun kx h1 h2 => Nat.not_lt.2 (d226 kx h2) (hO193.blk kx h1).2
      have dj234 : ∀ k, inA a117 k → inA a213 k → False := fun kx h1 h2 => Nat.not_lt.2 (d226 kx h2) (hO194.blk kx h1).2
      have dj235 : ∀ k, inA a120 k → inA a213 k → False := fun kx h1 h2 => Nat.not_lt.2 (d226 kx h2) (hO195.blk kx h1).2
      have fr236 : ∀ k, inA a213 k → k < w.heap.size → False := fun kx h1 h2 => Nat.not_lt.2 (Nat.le_trans E196.size (d226 kx h1)) h2
      have hO237 := hO219.base E196.size
      have d238 : ∀ k, inA a216 k → w182.heap.size ≤ k := fun kx hk => (hO222.blk kx hk).1
      have dj239 : inA a216 b1 → False := fun h => Nat.not_lt.2 (d238 _ h) hB186.lt
      have dj240 : inA a216 b84 → False := fun h => Nat.not_lt.2 (d238 _ h) hB187.lt
      have dj241 : inA a216 b157 → False := fun h => Nat.not_lt.2 (d238 _ h) hB185.lt
      have dj242 : ∀ k, inA a22 k → inA a216 k → False := fun kx h1 h2 => Nat.not_lt.2 (d238 kx h2) (hO190.blk kx h1).2
      have dj243 : ∀ k, inA a25 k → inA a216 k → False := fun kx h1 h2 => Nat.not_lt.2 (d238 kx h2) (hO191.blk kx h1).2
      have dj244 : ∀ k, inA a59 k → inA a216 k → False := fun kx h1 h2 => Nat.not_lt.2 (d238 kx h2) (hO192.blk kx h1).2
      have dj245 : ∀ k, inA a62 k → inA a216 k → False := fun kx h1 h2 => Nat.not_lt.2 (d238 kx h2) (hO193.blk kx h1).2
      have dj246 : ∀ k, inA a117 k → inA a216 k → False := fun kx h1 h2 => Nat.not_lt.2 (d238 kx h2) (hO194.blk kx h1).2
      have dj247 : ∀ k, inA a120 k → inA a216 k → False := fun kx h1 h2 => Nat.not_lt.2 (d238 kx h2) (hO195.blk kx h1).2
      have fr248 : ∀ k, inA a216 k → k < w.heap.size → False := fun kx h1 h2 => Nat.not_lt.2 (Nat.le_trans E196.size (d238 kx h1)) h2
      have hO249 := hO222.base E196.size
      refine s_y (v := .tuple #[.agg #[.int .i64 wd0, .int .i64 hi0, .bool wr0, .slice a213 ((wd0 * hi0).toNat) c214, .slice a216 ((wd0 * hi0).toNat) c217], .bool true]) rfl (y_move rfl) ?_
      refine s_y (v := .agg #[.int .i64 wd0, .int .i64 hi0, .bool wr0, .slice a213 ((wd0 * hi0).toNat) c214, .slice a216 ((wd0 * hi0).toNat) c217]) rfl (y_extract rfl rfl) ?_
      refine s_y (v := .bool true) rfl (y_extract rfl rfl) ?_
      refine s_k rfl (k_alloc (z := (.agg #[.int .i64 0, .int .i64 0, .bool false, .slice none 0 0, .slice none 0 0])) (cs := [.int .i64 0, .int .i64 0, .bool false, .slice none 0 0, .slice none 0 0]) T12.zero_26 rfl (fun b250 w251 q253 e252 hB254 => ?_))
      have hB255 := hB201.ext0 e252
      have hB256 := hB202.ext0 e252
      have hB257 := hB203.ext0 e252
      have hS258 := hS204.ext0 e252
      have hS259 := hS205.ext0 e252
      have hO260 := hO206.ext0 e252
      have hO261 := hO207.ext0 e252
      have hO262 := hO208.ext0 e252
      have hO263 := hO209.ext0 e252
      have hO264 := hO210.ext0 e252
      have hO265 := hO211.ext0 e252
      have hO266 := hO237.ext0 e252
      have hO267 := hO249.ext0 e252
      have E268 := E212.fresh e252 (fun _ h _ => h.elim)
      have dj269 : NeB b1 b250 := fun h => Nat.ne_of_lt hB201.lt (h.trans q253)
      have dj270 : NeB b84 b250 := fun h => Nat.ne_of_lt hB202.lt (h.trans q253)
      have dj271 : NeB b157 b250 := fun h => Nat.ne_of_lt hB203.lt (h.trans q253)
      have dj272 : inA a22 b250 → False := fun h => Nat.ne_of_lt (hO206.blk _ h).2 q253
      have dj273 : inA a25 b250 → False := fun h => Nat.ne_of_lt (hO207.blk _ h).2 q253
      have dj274 : inA a59 b250 → False := fun h => Nat.ne_of_lt (hO208.blk _ h).2 q253
      have dj275 : inA a62 b250 → False := fun h => Nat.ne_of_lt (hO209.blk _ h).2 q253
      have dj276 : inA a117 b250 → False := fun h => Nat.ne_of_lt (hO210.blk _ h).2 q253
      have dj277 : inA a120 b250 → False := fun h => Nat.ne_of_lt (hO211.blk _ h).2 q253
      have dj278 : inA a213 b250 → False := fun h => Nat.ne_of_lt (hO237.blk _ h).2 q253
      have dj279 : inA a216 b250 → False := fun h => Nat.ne_of_lt (hO249.blk _ h).2 q253
      have fr280 : NotLt b250 w.heap.size := fun h => Nat.not_lt.2 (Nat.le_trans E212.size (Nat.le_of_eq q253.symm)) h
      clear q253
      refine s_k0 rfl (k_store (v := .agg #[.int .i64 wd0, .int .i64 hi0, .bool wr0, .slice a213 ((wd0 * hi0).toNat) c214, .slice a216 ((wd0 * hi0).toNat) c217]) (n := 5) (cs' := [.int .i64 wd0, .int .i64 hi0, .bool wr0, .slice a213 ((wd0 * hi0).toNat) c214, .slice a216 ((wd0 * hi0).toNat) c217]) T12.sz_26_5 rfl rfl rfl hB254 (by simp [Value.cells, Value.oneCell']) (Nat.le_of_ble_eq_true rfl) rfl (fun w281 e282 z283 hB284 => ?_))
      clear z283
      have hB285 := hB255.ext e282 dj269
      have hB286 := hB256.ext e282 dj270
      have hB287 := hB257.ext e282 dj271
      have hS288 := hS258.extL lo_asp0 e282 (fun kx (hs : kx = b250) hl => fr280 (hs ▸ hl))
      have hS289 := hS259.extL lo_als0 e282 (fun kx (hs : kx = b250) hl => fr280 (hs ▸ hl))
      have hO290 := hO260.ext e282 (fun kx hk (hs : kx = b250) => dj272 (hs ▸ hk))
      have hO291 := hO261.ext e282 (fun kx hk (hs : kx = b250) => dj273 (hs ▸ hk))
      have hO292 := hO262.ext e282 (fun kx hk (hs : kx = b250) => dj274 (hs ▸ hk))
      have hO293 := hO263.ext e282 (fun kx hk (hs : kx = b250) => dj275 (hs ▸ hk))
      have hO294 := hO264.ext e282 (fun kx hk (hs : kx = b250) => dj276 (hs ▸ hk))
      have hO295 := hO265.ext e282 (fun kx hk (hs : kx = b250) => dj277 (hs ▸ hk))
      have hO296 := hO266.ext e282 (fun kx hk (hs : kx = b250) => dj278 (hs ▸ hk))
      have hO297 := hO267.ext e282 (fun kx hk (hs : kx = b250) => dj279 (hs ▸ hk))
      have E298 := E268.fresh e282 (fun kx (hs : kx = b250) hl => (fr280 (hs ▸ hl)).elim)
      refine s_y (v := .bool true) rfl (y_assign rfl) ?_
      refine s_nil ?_
      refine W_seq ?_
      refine W_seq ?_
      refine W_region (by kernel_rfl) ?_
      refine s_y (v := .agg #[.int .i64 wd0, .int .i64 hi0, .bool wr0, .slice a213 ((wd0 * hi0).toNat) c214, .slice a216 ((wd0 * hi0).toNat) c217]) rfl (y_loadn (b := b250) (o := 0) (vs := [.int .i64 wd0, .int .i64 hi0, .bool wr0, .slice a213 ((wd0 * hi0).toNat) c214, .slice a216 ((wd0 * hi0).toNat) c217]) T12.agg_26_5 rfl rfl (hB284.cells (o := 0) rfl)) ?_
      refine s_y (v := .agg #[.int .i64 wd0, .int .i64 hi0, .bool wr0, .slice a59 ((wd0 * hi0).toNat) c60, .slice a62 ((wd0 * hi0).toNat) c63]) rfl (y_loadn (b := b84) (o := 0) (vs := [.int .i64 wd0, .int .i64 hi0, .bool wr0, .slice a59 ((wd0 * hi0).toNat) c60, .slice a62 ((wd0 * hi0).toNat) c63]) T12.agg_26_5 rfl rfl (hB286.cells (o := 0) rfl)) ?_
      refine s_k rfl (k_call T12.fn_25 (c_l_eqSheet _ hO296.sl hl220 hc221 hO292.sl hl66 hc67 (by omega) hO297.sl hl223 hc224 hO293.sl hl69 hc70 (by omega)) rfl ?_)
      rintro _ w299 ⟨rfl, e300⟩
      have hB301 := hB285.ext0 e300
      have hB302 := hB286.ext0 e300
      have hB303 := hB287.ext0 e300
      have hB304 := hB284.ext0 e300
      have hS305 := hS288.ext0 e300
      have hS306 := hS289.ext0 e300
      have hO307 := hO290.ext0 e300
      have hO308 := hO291.ext0 e300
      have hO309 := hO292.ext0 e300
      have hO310 := hO293.ext0 e300
      have hO311 := hO294.ext0 e300
      have hO312 := hO295.ext0 e300
      have hO313 := hO296.ext0 e300
      have hO314 := hO297.ext0 e300
      have E315 := E298.fresh e300 (fun _ h _ => h.elim)
      refine s_y (v := .bool false) rfl (y_not rfl rfl) ?_
      refine s_y (v := .bool false) rfl (y_move rfl) ?_
      refine s_y (v := .bool true) rfl (y_move rfl) ?_
      refine s_y (v := .bool true) rfl (y_move rfl) ?_
      refine s_y (v := .bool false) rfl (y_bneq T12.bool_4 rfl rfl rfl) ?_
      refine s_y (v := .bool false) rfl (y_pick_f rfl rfl) ?_
      refine s_nil ?_
      refine W_if_f (by decide) rfl ?_
      refine W_skip ?_
      refine W_seq ?_
      refine W_seq ?_
      refine W_draw (no) T12.mx (by kernel_rfl) (fun w316 e317 => ?_)
      have hB318 := hB301.ext0 e317
      have hB319 := hB302.ext0 e317
      have hB320 := hB303.ext0 e317
      have hB321 := hB304.ext0 e317
      have hS322 := hS305.ext0 e317
      have hS323 := hS306.ext0 e317
      have hO324 := hO307.ext0 e317
      have hO325 := hO308.ext0 e317
      have hO326 := hO309.ext0 e317
      have hO327 := hO310.ext0 e317
      have hO328 := hO311.ext0 e317
      have hO329 := hO312.ext0 e317
      have hO330 := hO313.ext0 e317
      have hO331 := hO314.ext0 e317
      have E332 := E315.fresh e317 (fun _ h _ => h.elim)
      have R333 := (Ext.refl (no) w299).trans (Ext0.any e317)
      refine m_y (v := .agg #[.int .i64 wd0, .int .i64 hi0, .bool wr0, .slice a117 nsp0 c118, .slice a120 nls0 c121]) 0 rfl (by kernel_rfl) rfl rfl (fun w' e' => y_loadn (b := b157) (o := 0) (vs := [.int .i64 wd0, .int .i64 hi0, .bool wr0, .slice a117 nsp0 c118, .slice a120 nls0 c121]) T12.agg_26_5 rfl rfl ((hB303.ext0 e').cells (o := 0) rfl)) ?_
      refine m_y (v := .agg #[.int .i64 wd0, .int .i64 hi0, .bool wr0, .slice asp0 nsp0 csp0, .slice als0 nls0 cls0]) 1 rfl (by kernel_rfl) rfl rfl (fun w' e' => y_loadn (b := b1) (o := 0) (vs := [.int .i64 wd0, .int .i64 hi0, .bool wr0, .slice asp0 nsp0 csp0, .slice als0 nls0 cls0]) T12.agg_36_5 rfl rfl ((hB301.ext0 e').cells (o := 0) rfl)) ?_
      refine m_k 2 [3, 4] rfl (by kernel_rfl) rfl rfl (fun w334 e335 => ?_)
      have hB336 := hB318.ext0 e335
      have hB337 := hB319.ext0 e335
      have hB338 := hB320.ext0 e335
      have hB339 := hB321.ext0 e335
      have hS340 := hS322.ext0 e335
      have hS341 := hS323.ext0 e335
      have hO342 := hO324.ext0 e335
      have hO343 := hO325.ext0 e335
      have hO344 := hO326.ext0 e335
      have hO345 := hO327.ext0 e335
      have hO346 := hO328.ext0 e335
      have hO347 := hO329.ext0 e335
      have hO348 := hO330.ext0 e335
      have hO349 := hO331.ext0 e335
      have E350 := E332.fresh e335 (fun _ h _ => h.elim)
      have R351 := R333.trans (Ext0.any e335)
      refine k_call T12.fn_23 (c_l_toSheet _ hS340 qlsp0 qksp0 hS341 qlls0 qkls0 (by omega) (by omega)) rfl ?_
      rintro _ w352 ⟨⟨a354, c355, z356, a357, c358, z359, rfl, hO360, hl361, hc362, hO363, hl364, hc365, dj366⟩, e353⟩
      have hB367 := hB336.ext0 e353
      have hB368 := hB337.ext0 e353
      have hB369 := hB338.ext0 e353
      have hB370 := hB339.ext0 e353
      have hS371 := hS340.ext0 e353
      have hS372 := hS341.ext0 e353
      have hO373 := hO342.ext0 e353
      have hO374 := hO343.ext0 e353
      have hO375 := hO344.ext0 e353
      have hO376 := hO345.ext0 e353
      have hO377 := hO346.ext0 e353
      have hO378 := hO347.ext0 e353
      have hO379 := hO348.ext0 e353
      have hO380 := hO349.ext0 e353
      have E381 := E350.fresh e353 (fun _ h _ => h.elim)
      have R382 := R351.trans (Ext0.any e353)
      refine ⟨fun _ => R382, ?_⟩
      have d383 : ∀ k, inA a354 k → w334.heap.size ≤ k := fun kx hk => (hO360.blk kx hk).1
      have dj384 : inA a354 b1 → False := fun h => Nat.not_lt.2 (d383 _ h) hB336.lt
      have dj385 : inA a354 b84 → False := fun h => Nat.not_lt.2 (d383 _ h) hB337.lt
      have dj386 : inA a354 b157 → False := fun h => Nat.not_lt.2 (d383 _ h) hB338.lt
      have dj387 : inA a354 b250 → False := fun h => Nat.not_lt.2 (d383 _ h) hB339.lt
      have dj388 : ∀ k, inA a22 k → inA a354 k → False := fun kx h1 h2 => Nat.not_lt.2 (d383 kx h2) (hO342.blk kx h1).2
      have dj389 : ∀ k, inA a25 k → inA a354 k → False := fun kx h1 h2 => Nat.not_lt.2 (d383 kx h2) (hO343.blk kx h1).2
      have dj390 : ∀ k, inA a59 k → inA a354 k → False := fun kx h1 h2 => Nat.not_lt.2 (d383 kx h2) (hO344.blk kx h1).2
      have dj391 : ∀ k, inA a62 k → inA a354 k → False := fun kx h1 h2 => Nat.not_lt.2 (d383 kx h2) (hO345.blk kx h1).2
      have dj392 : ∀ k, inA a117 k → inA a354 k → False := fun kx h1 h2 => Nat.not_lt.2 (d383 kx h2) (hO346.blk kx h1).2
      have dj393 : ∀ k, inA a120 k → inA a354 k → False := fun kx h1 h2 => Nat.not_lt.2 (d383 kx h2) (hO347.blk kx h1).2
      have dj394 : ∀ k, inA a213 k → inA a354 k → False := fun kx h1 h2 => Nat.not_lt.2 (d383 kx h2) (hO348.blk kx h1).2
      have dj395 : ∀ k, inA a216 k → inA a354 k → False := fun kx h1 h2 => Nat.not_lt.2 (d383 kx h2) (hO349.blk kx h1).2
      have fr396 : ∀ k, inA a354 k → k < w.heap.size → False := fun kx h1 h2 => Nat.not_lt.2 (Nat.le_trans E350.size (d383 kx h1)) h2
      have hO397 := hO360.base E350.size
      have d398 : ∀ k, inA a357 k → w334.heap.size ≤ k := fun kx hk => (hO363.blk kx hk).1
      have dj399 : inA a357 b1 → False := fun h => Nat.not_lt.2 (d398 _ h) hB336.lt
      have dj400 : inA a357 b84 → False := fun h => Nat.not_lt.2 (d398 _ h) hB337.lt
      have dj401 : inA a357 b157 → False := fun h => Nat.not_lt.2 (d398 _ h) hB338.lt
      have dj402 : inA a357 b250 → False := fun h => Nat.not_lt.2 (d398 _ h) hB339.lt
      have dj403 : ∀ k, inA a22 k → inA a357 k → False := fun kx h1 h2 => Nat.not_lt.2 (d398 kx h2) (hO342.blk kx h1).2
      have dj404 : ∀ k, inA a25 k → inA a357 k → False := fun kx h1 h2 => Nat.not_lt.2 (d398 kx h2) (hO343.blk kx h1).2
      have dj405 : ∀ k, inA a59 k → inA a357 k → False := fun kx h1 h2 => Nat.not_lt.2 (d398 kx h2) (hO344.blk kx h1).2
      have dj406 : ∀ k, inA a62 k → inA a357 k → False := fun kx h1 h2 => Nat.not_lt.2 (d398 kx h2) (hO345.blk kx h1).2
      have dj407 : ∀ k, inA a117 k → inA a357 k → False := fun kx h1 h2 => Nat.not_lt.2 (d398 kx h2) (hO346.blk kx h1).2
      have dj408 : ∀ k, inA a120 k → inA a357 k → False := fun kx h1 h2 => Nat.not_lt.2 (d398 kx h2) (hO347.blk kx h1).2
      have dj409 : ∀ k, inA a213 k → inA a357 k → False := fun kx h1 h2 => Nat.not_lt.2 (d398 kx h2) (hO348.blk kx h1).2
      have dj410 : ∀ k, inA a216 k → inA a357 k → False := fun kx h1 h2 => Nat.not_lt.2 (d398 kx h2) (hO349.blk kx h1).2
      have fr411 : ∀ k, inA a357 k → k < w.heap.size → False := fun kx h1 h2 => Nat.not_lt.2 (Nat.le_trans E350.size (d398 kx h1)) h2
      have hO412 := hO363.base E350.size
      refine m_k 3 [4] rfl (by kernel_rfl) rfl rfl (fun w413 e414 => ?_)
      have hB415 := hB367.ext0 e414
      have hB416 := hB368.ext0 e414
      have hB417 := hB369.ext0 e414
      have hB418 := hB370.ext0 e414
      have hS419 := hS371.ext0 e414
      have hS420 := hS372.ext0 e414
      have hO421 := hO373.ext0 e414
      have hO422 := hO374.ext0 e414
      have hO423 := hO375.ext0 e414
      have hO424 := hO376.ext0 e414
      have hO425 := hO377.ext0 e414
      have hO426 := hO378.ext0 e414
      have hO427 := hO379.ext0 e414
      have hO428 := hO380.ext0 e414
      have hO429 := hO397.ext0 e414
      have hO430 := hO412.ext0 e414
      have E431 := E381.fresh e414 (fun _ h _ => h.elim)
      have R432 := R382.trans (Ext0.any e414)
      refine k_call T12.fn_25 (c_l_eqSheet _ hO425.sl hl124 hc125 hO429.sl hl361 hc362 (by omega) hO426.sl hl127 hc128 hO430.sl hl364 hc365 (by omega)) rfl ?_
      rintro _ w433 ⟨rfl, e434⟩
      have hB435 := hB415.ext0 e434
      have hB436 := hB416.ext0 e434
      have hB437 := hB417.ext0 e434
      have hB438 := hB418.ext0 e434
      have hS439 := hS419.ext0 e434
      have hS440 := hS420.ext0 e434
      have hO441 := hO421.ext0 e434
      have hO442 := hO422.ext0 e434
      have hO443 := hO423.ext0 e434
      have hO444 := hO424.ext0 e434
      have hO445 := hO425.ext0 e434
      have hO446 := hO426.ext0 e434
      have hO447 := hO427.ext0 e434
      have hO448 := hO428.ext0 e434
      have hO449 := hO429.ext0 e434
      have hO450 := hO430.ext0 e434
      have E451 := E431.fresh e434 (fun _ h _ => h.elim)
      have R452 := R432.trans (Ext0.any e434)
      refine ⟨fun _ => R452, ?_⟩
      refine m_y (v := .bool false) 4 rfl (by kernel_rfl) rfl rfl (fun w' e' => y_not rfl rfl) ?_
      refine m_done (by kernel_rfl) (fun w453 e454 => ?_)
      have hB455 := hB435.ext0 e454
      have hB456 := hB436.ext0 e454
      have hB457 := hB437.ext0 e454
      have hB458 := hB438.ext0 e454
      have hS459 := hS439.ext0 e454
      have hS460 := hS440.ext0 e454
      have hO461 := hO441.ext0 e454
      have hO462 := hO442.ext0 e454
      have hO463 := hO443.ext0 e454
      have hO464 := hO444.ext0 e454
      have hO465 := hO445.ext0 e454
      have hO466 := hO446.ext0 e454
      have hO467 := hO447.ext0 e454
      have hO468 := hO448.ext0 e454
      have hO469 := hO449.ext0 e454
      have hO470 := hO450.ext0 e454
      have E471 := E451.fresh e454 (fun _ h _ => h.elim)
      have R472 := R452.trans (Ext0.any e454)
      refine W_if_f (by decide) rfl ?_
      refine W_skip ?_
      refine W_seq ?_
      refine W_region (by kernel_rfl) ?_
      refine s_y (v := .int .i64 1) rfl (y_assign rfl) ?_
      refine s_nil ?_
      refine W_seq ?_
      refine W_region (by kernel_rfl) ?_
      refine s_y (v := .agg #[.int .i64 wd0, .int .i64 hi0, .bool wr0, .slice a117 nsp0 c118, .slice a120 nls0 c121]) rfl (y_loadn (b := b157) (o := 0) (vs := [.int .i64 wd0, .int .i64 hi0, .bool wr0, .slice a117 nsp0 c118, .slice a120 nls0 c121]) T12.agg_26_5 rfl rfl (hB457.cells (o := 0) rfl)) ?_
      refine s_y (v := .int .i64 1) rfl (y_move rfl) ?_
      refine s_k rfl (k_call T12.fn_37 (c_l_markSheet _ hO465 hl124 hc125 hO466 hl127 hc128 dj129 (by omega) (by omega) (by omega) (by omega)) rfl ?_)
      rintro _ w473 ⟨rfl, hO475, hO476, e474⟩
      have hB477 := hB455.ext e474 (fun hor => Or.elim hor (fun hk => dj140 hk) (fun hk => dj149 hk))
      have hB478 := hB456.ext e474 (fun hor => Or.elim hor (fun hk => dj141 hk) (fun hk => dj150 hk))
      have hB479 := hB457.ext e474 (fun hor => Or.elim hor (fun hk => dj179 hk) (fun hk => dj180 hk))
      have hB480 := hB458.ext e474 (fun hor => Or.elim hor (fun hk => dj276 hk) (fun hk => dj277 hk))
      have hS481 := hS459.extL lo_asp0 e474 (fun kx hs hl => (fun hor => Or.elim hor (fun hs => fr146 kx hs hl) (fun hs => fr155 kx hs hl)) hs)
      have hS482 := hS460.extL lo_als0 e474 (fun kx hs hl => (fun hor => Or.elim hor (fun hs => fr146 kx hs hl) (fun hs => fr155 kx hs hl)) hs)
      have hO483 := hO461.ext e474 (fun kx hk hs => (fun hor => Or.elim hor (fun hs => (fun kx h1 h2 => dj142 kx h2 h1) kx hs hk) (fun hs => (fun kx h1 h2 => dj151 kx h2 h1) kx hs hk)) hs)
      have hO484 := hO462.ext e474 (fun kx hk hs => (fun hor => Or.elim hor (fun hs => (fun kx h1 h2 => dj143 kx h2 h1) kx hs hk) (fun hs => (fun kx h1 h2 => dj152 kx h2 h1) kx hs hk)) hs)
      have hO485 := hO463.ext e474 (fun kx hk hs => (fun hor => Or.elim hor (fun hs => (fun kx h1 h2 => dj144 kx h2 h1) kx hs hk) (fun hs => (fun kx h1 h2 => dj153 kx h2 h1) kx hs hk)) hs)
      have hO486 := hO464.ext e474 (fun kx hk hs => (fun hor => Or.elim hor (fun hs => (fun kx h1 h2 => dj145 kx h2 h1) kx hs hk) (fun hs => (fun kx h1 h2 => dj154 kx h2 h1) kx hs hk)) hs)
      have hO487 := hO467.ext e474 (fun kx hk hs => (fun hor => Or.elim hor (fun hs => dj234 kx hs hk) (fun hs => dj235 kx hs hk)) hs)
      have hO488 := hO468.ext e474 (fun kx hk hs => (fun hor => Or.elim hor (fun hs => dj246 kx hs hk) (fun hs => dj247 kx hs hk)) hs)
      have hO489 := hO469.ext e474 (fun kx hk hs => (fun hor => Or.elim hor (fun hs => dj392 kx hs hk) (fun hs => dj393 kx hs hk)) hs)
      have hO490 := hO470.ext e474 (fun kx hk hs => (fun hor => Or.elim hor (fun hs => dj407 kx hs hk) (fun hs => dj408 kx hs hk)) hs)
      have E491 := E471.fresh e474 (fun kx hs hl => (fun hor => Or.elim hor (fun hs => (fr146 kx hs hl).elim) (fun hs => (fr155 kx hs hl).elim)) hs)
      refine s_y (v := .int .i64 (1 + ((nsp0 : Nat) : Int) + ((nls0 : Nat) : Int))) rfl (y_assign rfl) ?_
      refine s_nil ?_
      refine W_seq ?_
      refine W_seq ?_
      refine W_region (by kernel_rfl) ?_
      refine s_y (v := .int .i64 (1 + ((nsp0 : Nat) : Int) + ((nls0 : Nat) : Int))) rfl (y_move rfl) ?_
      by_cases c492 : (1 + ((nsp0 : Nat) : Int) + ((nls0 : Nat) : Int)) < 0
      · refine s_y (v := .bool true) rfl (y_lss rfl rfl (decide_eq_true c492)) ?_
        refine s_y (v := .bool true) rfl (y_move rfl) ?_
        refine s_skip rfl ?_
        refine s_skip rfl ?_
        refine s_skip rfl ?_
        refine s_skip rfl ?_
        refine s_y (v := .bool true) rfl (y_pick_t rfl rfl) ?_
        refine s_y (v := .bool true) rfl (y_move rfl) ?_
        refine s_skip rfl ?_
        refine s_skip rfl ?_
        refine s_skip rfl ?_
        refine s_y (v := .bool true) rfl (y_pick_t rfl rfl) ?_
        refine s_nil ?_
        refine W_if_t (by decide) rfl ?_
        refine W_seq ?_
        refine W_region (by kernel_rfl) ?_
        refine s_y (v := .bool false) rfl (y_assign rfl) ?_
        refine s_nil ?_
        refine W_ret ?_
        refine ret1 rfl rfl rfl ⟨_, rfl, ?_⟩
        exfalso; omega
      · refine s_y (v := .bool false) rfl (y_lss rfl rfl (decide_eq_false c492)) ?_
        refine s_y (v := .bool false) rfl (y_move rfl) ?_
        refine s_y (v := .agg #[.int .i64 wd0, .int .i64 hi0, .bool wr0, .slice a213 ((wd0 * hi0).toNat) c214, .slice a216 ((wd0 * hi0).toNat) c217]) rfl (y_loadn (b := b250) (o := 0) (vs := [.int .i64 wd0, .int .i64 hi0, .bool wr0, .slice a213 ((wd0 * hi0).toNat) c214, .slice a216 ((wd0 * hi0).toNat) c217]) T12.agg_26_5 rfl rfl (hB480.cells (o := 0) rfl)) ?_
        refine s_y (v := .agg #[.int .i64 wd0, .int .i64 hi0, .bool wr0, .slice a59 ((wd0 * hi0).toNat) c60, .slice a62 ((wd0 * hi0).toNat) c63]) rfl (y_loadn (b := b84) (o := 0) (vs := [.int .i64 wd0, .int .i64 hi0, .bool wr0, .slice a59 ((wd0 * hi0).toNat) c60, .slice a62 ((wd0 * hi0).toNat) c63]) T12.agg_26_5 rfl rfl (hB478.cells (o := 0) rfl)) ?_
        refine s_k rfl (k_call T12.fn_25 (c_l_eqSheet _ hO487.sl hl220 hc221 hO485.sl hl66 hc67 (by omega) hO488.sl hl223 hc224 hO486.sl hl69 hc70 (by omega)) rfl ?_)
        rintro _ w493 ⟨rfl, e494⟩
        have hB495 := hB477.ext0 e494
        have hB496 := hB478.ext0 e494
        have hB497 := hB479.ext0 e494
        have hB498 := hB480.ext0 e494
        have hS499 := hS481.ext0 e494
        have hS500 := hS482.ext0 e494
        have hO501 := hO483.ext0 e494
        have hO502 := hO484.ext0 e494
        have hO503 := hO485.ext0 e494
        have hO504 := hO486.ext0 e494
        have hO505 := hO475.ext0 e494
        have hO506 := hO476.ext0 e494
        have hO507 := hO487.ext0 e494
        have hO508 := hO488.ext0 e494
        have hO509 := hO489.ext0 e494
        have hO510 := hO490.ext0 e494
        have E511 := E491.fresh e494 (fun _ h _ => h.elim)
        refine s_y (v := .bool false) rfl (y_not rfl rfl) ?_
        refine s_y (v := .bool false) rfl (y_pick_f rfl rfl) ?_
        refine s_y (v := .bool false) rfl (y_move rfl) ?_
        refine s_y (v := .bool true) rfl (y_move rfl) ?_
        refine s_y (v := .bool true) rfl (y_move rfl) ?_
        refine s_y (v := .bool false) rfl (y_bneq T12.bool_4 rfl rfl rfl) ?_
        refine s_y (v := .bool false) rfl (y_pick_f rfl rfl) ?_
        refine s_nil ?_
        refine W_if_f (by decide) rfl ?_
        refine W_skip ?_
        refine W_seq ?_
        refine W_region (by kernel_rfl) ?_
        refine s_y (v := .int .i64 1) rfl (y_assign rfl) ?_
        refine s_nil ?_
        refine W_seq ?_
        refine W_region (by kernel_rfl) ?_
        refine s_y (v := .agg #[.int .i64 wd0, .int .i64 hi0, .bool wr0, .slice a213 ((wd0 * hi0).toNat) c214, .slice a216 ((wd0 * hi0).toNat) c217]) rfl (y_loadn (b := b250) (o := 0) (vs := [.int .i64 wd0, .int .i64 hi0, .bool wr0, .slice a213 ((wd0 * hi0).toNat) c214, .slice a216 ((wd0 * hi0).toNat) c217]) T12.agg_26_5 rfl rfl (hB498.cells (o := 0) rfl)) ?_
        refine s_y (v := .int .i64 1) rfl (y_move rfl) ?_
        refine s_k rfl (k_call T12.fn_37 (c_l_markSheet _ hO507 hl220 hc221 hO508 hl223 hc224 dj225 (by omega) (by omega) (by omega) (by omega)) rfl ?_)
        rintro _ w512 ⟨rfl, hO514, hO515, e513⟩
        have hB516 := hB495.ext e513 (fun hor => Or.elim hor (fun hk => dj227 hk) (fun hk => dj239 hk))
        have hB517 := hB496.ext e513 (fun hor => Or.elim hor (fun hk => dj228 hk) (fun hk => dj240 hk))
        have hB518 := hB497.ext e513 (fun hor => Or.elim hor (fun hk => dj229 hk) (fun hk => dj241 hk))
        have hB519 := hB498.ext e513 (fun hor => Or.elim hor (fun hk => dj278 hk) (fun hk => dj279 hk))
        have hS520 := hS499.extL lo_asp0 e513 (fun kx hs hl => (fun hor => Or.elim hor (fun hs => fr236 kx hs hl) (fun hs => fr248 kx hs hl)) hs)
        have hS521 := hS500.extL lo_als0 e513 (fun kx hs hl => (fun hor => Or.elim hor (fun hs => fr236 kx hs hl) (fun hs => fr248 kx hs hl)) hs)
        have hO522 := hO501.ext e513 (fun kx hk hs => (fun hor => Or.elim hor (fun hs => (fun kx h1 h2 => dj230 kx h2 h1) kx hs hk) (fun hs => (fun kx h1 h2 => dj242 kx h2 h1) kx hs hk)) hs)
        have hO523 := hO502.ext e513 (fun kx hk hs => (fun hor => Or.elim hor (fun hs => (fun kx h1 h2 => dj231 kx h2 h1) kx hs hk) (fun hs => (fun kx h1 h2 => dj243 kx h2 h1) kx hs hk)) hs)
        have hO524 := hO503.ext e513 (fun kx hk hs => (fun hor => Or.elim hor (fun hs => (fun kx h1 h2 => dj232 kx h2 h1) kx hs hk) (fun hs => (fun kx h1 h2 => dj244 kx h2 h1) kx hs hk)) hs)
        have hO525 := hO504.ext e513 (fun kx hk hs => (fun hor => Or.elim hor (fun hs => (fun kx h1 h2 => dj233 kx h2 h1) kx hs hk) (fun hs => (fun kx h1 h2 => dj245 kx h2 h1) kx hs hk)) hs)
        have hO526 := hO505.ext e513 (fun kx hk hs => (fun hor => Or.elim hor (fun hs => (fun kx h1 h2 => dj234 kx h2 h1) kx hs hk) (fun hs => (fun kx h1 h2 => dj246 kx h2 h1) kx hs hk)) hs)
        have hO527 := hO506.ext e513 (fun kx hk hs => (fun hor => Or.elim hor (fun hs => (fun kx h1 h2 => dj235 kx h2 h1) kx hs hk) (fun hs => (fun kx h1 h2 => dj247 kx h2 h1) kx hs hk)) hs)
        have hO528 := hO509.ext e513 (fun kx hk hs => (fun hor => Or.elim hor (fun hs => dj394 kx hs hk) (fun hs => dj395 kx hs hk)) hs)
        have hO529 := hO510.ext e513 (fun kx hk hs => (fun hor => Or.elim hor (fun hs => dj409 kx hs hk) (fun hs => dj410 kx hs hk)) hs)
        have E530 := E511.fresh e513 (fun kx hs hl => (fun hor => Or.elim hor (fun hs => (fr236 kx hs hl).elim) (fun hs => (fr248 kx hs hl).elim)) hs)
        refine s_y (v := .int .i64 (1 + (((wd0 * hi0).toNat : Nat) : Int) + (((wd0 * hi0).toNat : Nat) : Int))) rfl (y_assign rfl) ?_
        refine s_nil ?_
        refine W_seq ?_
        refine W_region (by kernel_rfl) ?_
        refine s_y (v := .int .i64 1) rfl (y_assign rfl) ?_
        refine s_nil ?_
        refine W_seq ?_
        refine W_region (by kernel_rfl) ?_
        refine s_y (v := .agg #[.int .i64 wd0, .int .i64 hi0, .bool wr0, .slice a213 ((wd0 * hi0).toNat) c214, .slice a216 ((wd0 * hi0).toNat) c217]) rfl (y_loadn (b := b250) (o := 0) (vs := [.int .i64 wd0, .int .i64 hi0, .bool wr0, .slice a213 ((wd0 * hi0).toNat) c214, .slice a216 ((wd0 * hi0).toNat) c217]) T12.agg_26_5 rfl rfl (hB519.cells (o := 0) rfl)) ?_
        refine s_y (v := .int .i64 1) rfl (y_move rfl) ?_
        refine s_k rfl (k_call T12.fn_38 (c_l_heldSheet _ hO514.sl hO515.sl (by omega) (by omega) (by omega) (by omega)) rfl ?_)
        rintro _ w531 ⟨rfl, e532⟩
        have hB533 := hB516.ext0 e532
        have hB534 := hB517.ext0 e532
        have hB535 := hB518.ext0 e532
        have hB536 := hB519.ext0 e532
        have hS537 := hS520.ext0 e532
        have hS538 := hS521.ext0 e532
        have hO539 := hO522.ext0 e532
        have hO540 := hO523.ext0 e532
        have hO541 := hO524.ext0 e532
        have hO542 := hO525.ext0 e532
        have hO543 := hO526.ext0 e532
        have hO544 := hO527.ext0 e532
        have hO545 := hO514.ext0 e532
        have hO546 := hO515.ext0 e532
        have hO547 := hO528.ext0 e532
        have hO548 := hO529.ext0 e532
        have E549 := E530.fresh e532 (fun _ h _ => h.elim)
        refine s_y (v := .int .i64 (1 + (((wd0 * hi0).toNat : Nat) : Int) + (((wd0 * hi0).toNat : Nat) : Int))) rfl (y_assign rfl) ?_
        refine s_nil ?_
        refine W_seq ?_
        refine W_seq ?_
        refine W_region (by kernel_rfl) ?_
        refine s_y (v := .int .i64 (1 + (((wd0 * hi0).toNat : Nat) : Int) + (((wd0 * hi0).toNat : Nat) : Int))) rfl (y_move rfl) ?_
        by_cases c550 : (1 + (((wd0 * hi0).toNat : Nat) : Int) + (((wd0 * hi0).toNat : Nat) : Int)) < 0
        · refine s_y (v := .bool true) rfl (y_lss rfl rfl (decide_eq_true c550)) ?_
          refine s_nil ?_
          refine W_if_t (by decide) rfl ?_
          refine W_seq ?_
          refine W_region (by kernel_rfl) ?_
          refine s_y (v := .bool false) rfl (y_assign rfl) ?_
          refine s_nil ?_
          refine W_ret ?_
          refine ret1 rfl rfl rfl ⟨_, rfl, ?_⟩
          exfalso; omega
        · refine s_y (v := .bool false) rfl (y_lss rfl rfl (decide_eq_false c550)) ?_
          refine s_nil ?_
          refine W_if_f (by decide) rfl ?_
          refine W_skip ?_
          refine W_seq ?_
          refine W_seq ?_
          refine W_region (by kernel_rfl) ?_
          refine s_y (v := .int .i64 (1 + (((wd0 * hi0).toNat : Nat) : Int) + (((wd0 * hi0).toNat : Nat) : Int))) rfl (y_move rfl) ?_
          refine s_y (v := .int .i64 (1 + (((wd0 * hi0).toNat : Nat) : Int) + (((wd0 * hi0).toNat : Nat) : Int))) rfl (y_move rfl) ?_
          refine s_y (v := .bool false) rfl (y_neq rfl rfl (decide_eq_false (fun hq => hq rfl))) ?_
          refine s_nil ?_
          refine W_if_f (by decide) rfl ?_
          refine W_skip ?_
          refine W_seq ?_
          refine W_region (by kernel_rfl) ?_
          refine s_y (v := .agg #[.int .i64 wd0, .int .i64 hi0, .bool wr0, .slice asp0 nsp0 csp0, .slice als0 nls0 cls0]) rfl (y_loadn (b := b1) (o := 0) (vs := [.int .i64 wd0, .int .i64 hi0, .bool wr0, .slice asp0 nsp0 csp0, .slice als0 nls0 cls0]) T12.agg_36_5 rfl rfl (hB533.cells (o := 0) rfl)) ?_
          refine s_k rfl (k_call T12.fn_23 (c_l_toSheet _ hS537 qlsp0 qksp0 hS538 qlls0 qkls0 (by omega) (by omega)) rfl ?_)
          rintro _ w551 ⟨⟨a553, c554, z555, a556, c557, z558, rfl, hO559, hl560, hc561, hO562, hl563, hc564, dj565⟩, e552⟩
          have hB566 := hB533.ext0 e552
          have hB567 := hB534.ext0 e552
          have hB568 := hB535.ext0 e552
          have hB569 := hB536.ext0 e552
          have hS570 := hS537.ext0 e552
          have hS571 := hS538.ext0 e552
          have hO572 := hO539.ext0 e552
          have hO573 := hO540.ext0 e552
          have hO574 := hO541.ext0 e552
          have hO575 := hO542.ext0 e552
          have hO576 := hO543.ext0 e552
          have hO577 := hO544.ext0 e552
          have hO578 := hO545.ext0 e552
          have hO579 := hO546.ext0 e552
          have hO580 := hO547.ext0 e552
          have hO581 := hO548.ext0 e552
          have E582 := E549.fresh e552 (fun _ h _ => h.elim)
          have d583 : ∀ k, inA a553 k → w531.heap.size ≤ k := fun kx hk => (hO559.blk kx hk).1
          have dj584 : inA a553 b1 → False := fun h => Nat.not_lt.2 (d583 _ h) hB533.lt
          have dj585 : inA a553 b84 → False := fun h => Nat.not_lt.2 (d583 _ h) hB534.lt
          have dj586 : inA a553 b157 → False := fun h => Nat.not_lt.2 (d583 _ h) hB535.lt
          have dj587 : inA a553 b250 → False := fun h => Nat.not_lt.2 (d583 _ h) hB536.lt
          have dj588 : ∀ k, inA a22 k → inA a553 k → False := fun kx h1 h2 => Nat.not_lt.2 (d583 kx h2) (hO539.blk kx h1).2
          have dj589 : ∀ k, inA a25 k → inA a553 k → False := fun kx h1 h2 => Nat.not_lt.2 (d583 kx h2) (hO540.blk kx h1).2
          have dj590 : ∀ k, inA a59 k → inA a553 k → False := fun kx h1 h2 => Nat.not_lt.2 (d583 kx h2) (hO541.blk kx h1).2
          have dj591 : ∀ k, inA a62 k → inA a553 k → False := fun kx h1 h2 => Nat.not_lt.2 (d583 kx h2) (hO542.blk kx h1).2
          have dj592 : ∀ k, inA a117 k → inA a553 k → False := fun kx h1 h2 => Nat.not_lt.2 (d583 kx h2) (hO543.blk kx h1).2
          have dj593 : ∀ k, inA a120 k → inA a553 k → False := fun kx h1 h2 => Nat.not_lt.2 (d583 kx h2) (hO544.blk kx h1).2
          have dj594 : ∀ k, inA a213 k → inA a553 k → False := fun kx h1 h2 => Nat.not_lt.2 (d583 kx h2) (hO545.blk kx h1).2
          have dj595 : ∀ k, inA a216 k → inA a553 k → False := fun kx h1 h2 => Nat.not_lt.2 (d583 kx h2) (hO546.blk kx h1).2
          have dj596 : ∀ k, inA a354 k → inA a553 k → False := fun kx h1 h2 => Nat.not_lt.2 (d583 kx h2) (hO547.blk kx h1).2
          have dj597 : ∀ k, inA a357 k → inA a553 k → False := fun kx h1 h2 => Nat.not_lt.2 (d583 kx h2) (hO548.blk kx h1).2
          have fr598 : ∀ k, inA a553 k → k < w.heap.size → False := fun kx h1 h2 => Nat.not_lt.2 (Nat.le_trans E549.size (d583 kx h1)) h2
          have hO599 := hO559.base E549.size
          have d600 : ∀ k, inA a556 k → w531.heap.size ≤ k := fun kx hk => (hO562.blk kx hk).1
          have dj601 : inA a556 b1 → False := fun h => Nat.not_lt.2 (d600 _ h) hB533.lt
          have dj602 : inA a556 b84 → False := fun h => Nat.not_lt.2 (d600 _ h) hB534.lt
          have dj603 : inA a556 b157 → False := fun h => Nat.not_lt.2 (d600 _ h) hB535.lt
          have dj604 : inA a556 b250 → False := fun h => Nat.not_lt.2 (d600 _ h) hB536.lt
          have dj605 : ∀ k, inA a22 k → inA a556 k → False := fun kx h1 h2 => Nat.not_lt.2 (d600 kx h2) (hO539.blk kx h1).2
          have dj606 : ∀ k, inA a25 k → inA a556 k → False := fun kx h1 h2 => Nat.not_lt.2 (d600 kx h2) (hO540.blk kx h1).2
          have dj607 : ∀ k, inA a59 k → inA a556 k → False := fun kx h1 h2 => Nat.not_lt.2 (d600 kx h2) (hO541.blk kx h1).2
          have dj608 : ∀ k, inA a62 k → inA a556 k → False := fun kx h1 h2 => Nat.not_lt.2 (d600 kx h2) (hO542.blk kx h1).2
          have dj609 : ∀ k, inA a117 k → inA a556 k → False := fun kx h1 h2 => Nat.not_lt.2 (d600 kx h2) (hO543.blk kx h1).2
          have dj610 : ∀ k, inA a120 k → inA a556 k → False := fun kx h1 h2 => Nat.not_lt.2 (d600 kx h2) (hO544.blk kx h1).2
          have dj611 : ∀ k, inA a213 k → inA a556 k → False := fun kx h1 h2 => Nat.not_lt.2 (d600 kx h2) (hO545.blk kx h1).2
          have dj612 : ∀ k, inA a216 k → inA a556 k → False := fun kx h1 h2 => Nat.not_lt.2 (d600 kx h2) (hO546.blk kx h1).2
          have dj613 : ∀ k, inA a354 k → inA a556 k → False := fun kx h1 h2 => Nat.not_lt.2 (d600 kx h2) (hO547.blk kx h1).2
          have dj614 : ∀ k, inA a357 k → inA a556 k → False := fun kx h1 h2 => Nat.not_lt.2 (d600 kx h2) (hO548.blk kx h1).2
          have fr615 : ∀ k, inA a556 k → k < w.heap.size → False := fun kx h1 h2 => Nat.not_lt.2 (Nat.le_trans E549.size (d600 kx h1)) h2
          have hO616 := hO562.base E549.size
          refine s_y (v := .int .i64 i1) rfl (y_move rfl) ?_
          refine s_y (v := .int .i64 i2) rfl (y_move rfl) ?_
          refine s_k rfl (k_call T12.fn_51 (c_i_ShiftSheet _ hO599.sl hl560 hc561 hO616.sl hl563 hc564 (by omega) (by omega)) rfl ?_)
          rintro vhx619 w617 ⟨hx619, e618⟩
          have hB621 := hB566.ext0 e618
          have hB622 := hB567.ext0 e618
          have hB623 := hB568.ext0 e618
          have hB624 := hB569.ext0 e618
          have hS625 := hS570.ext0 e618
          have hS626 := hS571.ext0 e618
          have hO627 := hO572.ext0 e618
          have hO628 := hO573.ext0 e618
          have hO629 := hO574.ext0 e618
          have hO630 := hO575.ext0 e618
          have hO631 := hO576.ext0 e618
          have hO632 := hO577.ext0 e618
          have hO633 := hO578.ext0 e618
          have hO634 := hO579.ext0 e618
          have hO635 := hO580.ext0 e618
          have hO636 := hO581.ext0 e618
          have hO637 := hO599.ext0 e618
          have hO638 := hO616.ext0 e618
          have E639 := E582.fresh e618 (fun _ h _ => h.elim)
          obtain ⟨a640, c641, z642, a643, c644, z645, rfl, hO646, hl647, hc648, hO649, hl650, hc651, dj652⟩ := (hx619.resolve_right (fun hz => by rw [c57] at hz; cases hz.1)).2
          clear hx619
          have d653 : ∀ k, inA a640 k → w551.heap.size ≤ k := fun kx hk => (hO646.blk kx hk).1
          have dj654 : inA a640 b1 → False := fun h => Nat.not_lt.2 (d653 _ h) hB566.lt
          have dj655 : inA a640 b84 → False := fun h => Nat.not_lt.2 (d653 _ h) hB567.lt
          have dj656 : inA a640 b157 → False := fun h => Nat.not_lt.2 (d653 _ h) hB568.lt
          have dj657 : inA a640 b250 → False := fun h => Nat.not_lt.2 (d653 _ h) hB569.lt
          have dj658 : ∀ k, inA a22 k → inA a640 k → False := fun kx h1 h2 => Nat.not_lt.2 (d653 kx h2) (hO572.blk kx h1).2
          have dj659 : ∀ k, inA a25 k → inA a640 k → False := fun kx h1 h2 => Nat.not_lt.2 (d653 kx h2) (hO573.blk kx h1).2
          have dj660 : ∀ k, inA a59 k → inA a640 k → False := fun kx h1 h2 => Nat.not_lt.2 (d653 kx h2) (hO574.blk kx h1).2
          have dj661 : ∀ k, inA a62 k → inA a640 k → False := fun kx h1 h2 => Nat.not_lt.2 (d653 kx h2) (hO575.blk kx h1).2
          have dj662 : ∀ k, inA a117 k → inA a640 k → False := fun kx h1 h2 => Nat.not_lt.2 (d653 kx h2) (hO576.blk kx h1).2
          have dj663 : ∀ k, inA a120 k → inA a640 k → False := fun kx h1 h2 => Nat.not_lt.2 (d653 kx h2) (hO577.blk kx h1).2
          have dj664 : ∀ k, inA a213 k → inA a640 k → False := fun kx h1 h2 => Nat.not_lt.2 (d653 kx h2) (hO578.blk kx h1).2
          have dj665 : ∀ k, inA a216 k → inA a640 k → False := fun kx h1 h2 => Nat.not_lt.2 (d653 kx h2) (hO579.blk kx h1).2
          have dj666 : ∀ k, inA a354 k → inA a640 k → False := fun kx h1 h2 => Nat.not_lt.2 (d653 kx h2) (hO580.blk kx h1).2
          have dj667 : ∀ k, inA a357 k → inA a640 k → False := fun kx h1 h2 => Nat.not_lt.2 (d653 kx h2) (hO581.blk kx h1).2
          have dj668 : ∀ k, inA a553 k → inA a640 k → False := fun kx h1 h2 => Nat.not_lt.2 (d653 kx h2) (hO599.blk kx h1).2
          have dj669 : ∀ k, inA a556 k → inA a640 k → False := fun kx h1 h2 => Nat.not_lt.2 (d653 kx h2) (hO616.blk kx h1).2
          have fr670 : ∀ k, inA a640 k → k < w.heap.size → False := fun kx h1 h2 => Nat.not_lt.2 (Nat.le_trans E582.size (d653 kx h1)) h2
          have hO671 := hO646.base E582.size
          have d672 : ∀ k, inA a643 k → w551.heap.size ≤ k := fun kx hk => (hO649.blk kx hk).1
          have dj673 : inA a643 b1 → False := fun h => Nat.not_lt.2 (d672 _ h) hB566.lt
          have dj674 : inA a643 b84 → False := fun h => Nat.not_lt.2 (d672 _ h) hB567.lt
          have dj675 : inA a643 b157 → False := fun h => Nat.not_lt.2 (d672 _ h) hB568.lt
          have dj676 : inA a643 b250 → False := fun h => Nat.not_lt.2 (d672 _ h) hB569.lt
          have dj677 : ∀ k, inA a22 k → inA a643 k → False := fun kx h1 h2 => Nat.not_lt.2 (d672 kx h2) (hO572.blk kx h1).2
          have dj678 : ∀ k, inA a25 k → inA a643 k → False := fun kx h1 h2 => Nat.not_lt.2 (d672 kx h2) (hO573.blk kx h1).2
          have dj679 : ∀ k, inA a59 k → inA a643 k → False := fun kx h1 h2 => Nat.not_lt.2 (d672 kx h2) (hO574.blk kx h1).2
          have dj680 : ∀ k, inA a62 k → inA a643 k → False := fun kx h1 h2 => Nat.not_lt.2 (d672 kx h2) (hO575.blk kx h1).2
          have dj681 : ∀ k, inA a117 k → inA a643 k → False := fun kx h1 h2 => Nat.not_lt.2 (d672 kx h2) (hO576.blk kx h1).2
          have dj682 : ∀ k, inA a120 k → inA a643 k → False := fun kx h1 h2 => Nat.not_lt.2 (d672 kx h2) (hO577.blk kx h1).2
          have dj683 : ∀ k, inA a213 k → inA a643 k → False := fun kx h1 h2 => Nat.not_lt.2 (d672 kx h2) (hO578.blk kx h1).2
          have dj684 : ∀ k, inA a216 k → inA a643 k → False := fun kx h1 h2 => Nat.not_lt.2 (d672 kx h2) (hO579.blk kx h1).2
          have dj685 : ∀ k, inA a354 k → inA a643 k → False := fun kx h1 h2 => Nat.not_lt.2 (d672 kx h2) (hO580.blk kx h1).2
          have dj686 : ∀ k, inA a357 k → inA a643 k → False := fun kx h1 h2 => Nat.not_lt.2 (d672 kx h2) (hO581.blk kx h1).2
          have dj687 : ∀ k, inA a553 k → inA a643 k → False := fun kx h1 h2 => Nat.not_lt.2 (d672 kx h2) (hO599.blk kx h1).2
          have dj688 : ∀ k, inA a556 k → inA a643 k → False := fun kx h1 h2 => Nat.not_lt.2 (d672 kx h2) (hO616.blk kx h1).2
          have fr689 : ∀ k, inA a643 k → k < w.heap.size → False := fun kx h1 h2 => Nat.not_lt.2 (Nat.le_trans E582.size (d672 kx h1)) h2
          have hO690 := hO649.base E582.size
          refine s_y (v := .tuple #[.agg #[.int .i64 wd0, .int .i64 hi0, .bool wr0, .slice a640 ((wd0 * hi0).toNat) c641, .slice a643 ((wd0 * hi0).toNat) c644], .bool true]) rfl (y_move rfl) ?_
          refine s_y (v := .agg #[.int .i64 wd0, .int .i64 hi0, .bool wr0, .slice a640 ((wd0 * hi0).toNat) c641, .slice a643 ((wd0 * hi0).toNat) c644]) rfl (y_extract rfl rfl) ?_
          refine s_y (v := .bool true) rfl (y_extract rfl rfl) ?_
          refine s_k rfl (k_alloc (z := (.agg #[.int .i64 0, .int .i64 0, .bool false, .slice none 0 0, .slice none 0 0])) (cs := [.int .i64 0, .int .i64 0, .bool false, .slice none 0 0, .slice none 0 0]) T12.zero_26 rfl (fun b691 w692 q694 e693 hB695 => ?_))
          have hB696 := hB621.ext0 e693
          have hB697 := hB622.ext0 e693
          have hB698 := hB623.ext0 e693
          have hB699 := hB624.ext0 e693
          have hS700 := hS625.ext0 e693
          have hS701 := hS626.ext0 e693
          have hO702 := hO627.ext0 e693
          have hO703 := hO628.ext0 e693
          have hO704 := hO629.ext0 e693
          have hO705 := hO630.ext0 e693
          have hO706 := hO631.ext0 e693
          have hO707 := hO632.ext0 e693
          have hO708 := hO633.ext0 e693
          have hO709 := hO634.ext0 e693
          have hO710 := hO635.ext0 e693
          have hO711 := hO636.ext0 e693
          have hO712 := hO637.ext0 e693
          have hO713 := hO638.ext0 e693
          have hO714 := hO671.ext0 e693
          have hO715 := hO690.ext0 e693
          have E716 := E639.fresh e693 (fun _ h _ => h.elim)
          have dj717 : NeB b1 b691 := fun h => Nat.ne_of_lt hB621.lt (h.trans q694)
          have dj718 : NeB b84 b691 := fun h => Nat.ne_of_lt hB622.lt (h.trans q694)
          have dj719 : NeB b157 b691 := fun h => Nat.ne_of_lt hB623.lt (h.trans q694)
          have dj720 : NeB b250 b691 := fun h => Nat.ne_of_lt hB624.lt (h.trans q694)
          have dj721 : inA a22 b691 → False := fun h => Nat.ne_of_lt (hO627.blk _ h).2 q694
          have dj722 : inA a25 b691 → False := fun h => Nat.ne_of_lt (hO628.blk _ h).2 q694
          have dj723 : inA a59 b691 → False := fun h => Nat.ne_of_lt (hO629.blk _ h).2 q694
          have dj724 : inA a62 b691 → False := fun h => Nat.ne_of_lt (hO630.blk _ h).2 q694
          have dj725 : inA a117 b691 → False := fun h => Nat.ne_of_lt (hO631.blk _ h).2 q694
          have dj726 : inA a120 b691 → False := fun h => Nat.ne_of_lt (hO632.blk _ h).2 q694
          have dj727 : inA a213 b691 → False := fun h => Nat.ne_of_lt (hO633.blk _ h).2 q694
          have dj728 : inA a216 b691 → False := fun h => Nat.ne_of_lt (hO634.blk _ h).2 q694
          have dj729 : inA a354 b691 → False := fun h => Nat.ne_of_lt (hO635.blk _ h).2 q694
          have dj730 : inA a357 b691 → False := fun h => Nat.ne_of_lt (hO636.blk _ h).2 q694
          have dj731 : inA a553 b691 → False := fun h => Nat.ne_of_lt (hO637.blk _ h).2 q694
          have dj732 : inA a556 b691 → False := fun h => Nat.ne_of_lt (hO638.blk _ h).2 q694
          have dj733 : inA a640 b691 → False := fun h => Nat.ne_of_lt (hO671.blk _ h).2 q694
          have dj734 : inA a643 b691 → False := fun h => Nat.ne_of_lt (hO690.blk _ h).2 q694
          have fr735 : NotLt b691 w.heap.size := fun h => Nat.not_lt.2 (Nat.le_trans E639.size (Nat.le_of_eq q694.symm)) h
          clear q694
          refine s_k0 rfl (k_store (v := .agg #[.int .i64 wd0, .int .i64 hi0, .bool wr0, .slice a640 ((wd0 * hi0).toNat) c641, .slice a643 ((wd0 * hi0).toNat) c644]) (n := 5) (cs' := [.int .i64 wd0, .int .i64 hi0, .bool wr0, .slice a640 ((wd0 * hi0).toNat) c641, .slice a643 ((wd0 * hi0).toNat) c644]) T12.sz_26_5 rfl rfl rfl hB695 (by simp [Value.cells, Value.oneCell']) (Nat.le_of_ble_eq_true rfl) rfl (fun w736 e737 z738 hB739 => ?_))
          clear z738
          have hB740 := hB696.ext e737 dj717
          have hB741 := hB697.ext e737 dj718
          have hB742 := hB698.ext e737 dj719
          have hB743 := hB699.ext e737 dj720
          have hS744 := hS700.extL lo_asp0 e737 (fun kx (hs : kx = b691) hl => fr735 (hs ▸ hl))
          have hS745 := hS701.extL lo_als0 e737 (fun kx (hs : kx = b691) hl => fr735 (hs ▸ hl))
          have hO746 := hO702.ext e737 (fun kx hk (hs : kx = b691) => dj721 (hs ▸ hk))
          have hO747 := hO703.ext e737 (fun kx hk (hs : kx = b691) => dj722 (hs ▸ hk))
          have hO748 := hO704.ext e737 (fun kx hk (hs : kx = b691) => dj723 (hs ▸ hk))
          have hO749 := hO705.ext e737 (fun kx hk (hs : kx = b691) => dj724 (hs ▸ hk))
          have hO750 := hO706.ext e737 (fun kx hk (hs : kx = b691) => dj725 (hs ▸ hk))
          have hO751 := hO707.ext e737 (fun kx hk (hs : kx = b691) => dj726 (hs ▸ hk))
          have hO752 := hO708.ext e737 (fun kx hk (hs : kx = b691) => dj727 (hs ▸ hk))
          have hO753 := hO709.ext e737 (fun kx hk (hs : kx = b691) => dj728 (hs ▸ hk))
          have hO754 := hO710.ext e737 (fun kx hk (hs : kx = b691) => dj729 (hs ▸ hk))
          have hO755 := hO711.ext e737 (fun kx hk (hs : kx = b691) => dj730 (hs ▸ hk))
          have hO756 := hO712.ext e737 (fun kx hk (hs : kx = b691) => dj731 (hs ▸ hk))
          have hO757 := hO713.ext e737 (fun kx hk (hs : kx = b691) => dj732 (hs ▸ hk))
          have hO758 := hO714.ext e737 (fun kx hk (hs : kx = b691) => dj733 (hs ▸ hk))
          have hO759 := hO715.ext e737 (fun kx hk (hs : kx = b691) => dj734 (hs ▸ hk))
          have E760 := E716.fresh e737 (fun kx (hs : kx = b691) hl => (fr735 (hs ▸ hl)).elim)
          refine s_y (v := .bool true) rfl (y_assign rfl) ?_
          refine s_nil ?_
          refine W_seq ?_
          refine W_seq ?_
          refine W_region (by kernel_rfl) ?_
          refine s_y (v := .agg #[.int .i64 wd0, .int .i64 hi0, .bool wr0, .slice a640 ((wd0 * hi0).toNat) c641, .slice a643 ((wd0 * hi0).toNat) c644]) rfl (y_loadn (b := b691) (o := 0) (vs := [.int .i64 wd0, .int .i64 hi0, .bool wr0, .slice a640 ((wd0 * hi0).toNat) c641, .slice a643 ((wd0 * hi0).toNat) c644]) T12.agg_26_5 rfl rfl (hB739.cells (o := 0) rfl)) ?_
          refine s_y (v := .agg #[.int .i64 wd0, .int .i64 hi0, .bool wr0, .slice a59 ((wd0 * hi0).toNat) c60, .slice a62 ((wd0 * hi0).toNat) c63]) rfl (y_loadn (b := b84) (o := 0) (vs := [.int .i64 wd0, .int .i64 hi0, .bool wr0, .slice a59 ((wd0 * hi0).toNat) c60, .slice a62 ((wd0 * hi0).toNat) c63]) T12.agg_26_5 rfl rfl (hB741.cells (o := 0) rfl)) ?_
          refine s_k rfl (k_call T12.fn_25 (c_l_eqSheet _ hO758.sl hl647 hc648 hO748.sl hl66 hc67 (by omega) hO759.sl hl650 hc651 hO749.sl hl69 hc70 (by omega)) rfl ?_)
          rintro _ w761 ⟨rfl, e762⟩
          have hB763 := hB740.ext0 e762
          have hB764 := hB741.ext0 e762
          have hB765 := hB742.ext0 e762
          have hB766 := hB743.ext0 e762
          have hB767 := hB739.ext0 e762
          have hS768 := hS744.ext0 e762
          have hS769 := hS745.ext0 e762
          have hO770 := hO746.ext0 e762
          have hO771 := hO747.ext0 e762
          have hO772 := hO748.ext0 e762
          have hO773 := hO749.ext0 e762
          have hO774 := hO750.ext0 e762
          have hO775 := hO751.ext0 e762
          have hO776 := hO752.ext0 e762
          have hO777 := hO753.ext0 e762
          have hO778 := hO754.ext0 e762
          have hO779 := hO755.ext0 e762
          have hO780 := hO756.ext0 e762
          have hO781 := hO757.ext0 e762
          have hO782 := hO758.ext0 e762
          have hO783 := hO759.ext0 e762
          have E784 := E760.fresh e762 (fun _ h _ => h.elim)
          refine s_y (v := .bool false) rfl (y_not rfl rfl) ?_
          refine s_y (v := .bool false) rfl (y_move rfl) ?_
          refine s_y (v := .bool true) rfl (y_move rfl) ?_
          refine s_y (v := .bool true) rfl (y_move rfl) ?_
          refine s_y (v := .bool false) rfl (y_bneq T12.bool_4 rfl rfl rfl) ?_
          refine s_y (v := .bool false) rfl (y_pick_f rfl rfl) ?_
          refine s_nil ?_
          refine W_if_f (by decide) rfl ?_
          refine W_skip ?_
          refine W_seq ?_
          refine W_region (by kernel_rfl) ?_
          refine s_y (v := .int .i64 1) rfl (y_assign rfl) ?_
          refine s_nil ?_
          refine W_seq ?_
          refine W_region (by kernel_rfl) ?_
          refine s_y (v := .agg #[.int .i64 wd0, .int .i64 hi0, .bool wr0, .slice a213 ((wd0 * hi0).toNat) c214, .slice a216 ((wd0 * hi0).toNat) c217]) rfl (y_loadn (b := b250) (o := 0) (vs := [.int .i64 wd0, .int .i64 hi0, .bool wr0, .slice a213 ((wd0 * hi0).toNat) c214, .slice a216 ((wd0 * hi0).toNat) c217]) T12.agg_26_5 rfl rfl (hB766.cells (o := 0) rfl)) ?_
          refine s_y (v := .int .i64 1) rfl (y_move rfl) ?_
          refine s_k rfl (k_call T12.fn_38 (c_l_heldSheet _ hO776.sl hO777.sl (by omega) (by omega) (by omega) (by omega)) rfl ?_)
          rintro _ w785 ⟨rfl, e786⟩
          have hB787 := hB763.ext0 e786
          have hB788 := hB764.ext0 e786
          have hB789 := hB765.ext0 e786
          have hB790 := hB766.ext0 e786
          have hB791 := hB767.ext0 e786
          have hS792 := hS768.ext0 e786
          have hS793 := hS769.ext0 e786
          have hO794 := hO770.ext0 e786
          have hO795 := hO771.ext0 e786
          have hO796 := hO772.ext0 e786
          have hO797 := hO773.ext0 e786
          have hO798 := hO774.ext0 e786
          have hO799 := hO775.ext0 e786
          have hO800 := hO776.ext0 e786
          have hO801 := hO777.ext0 e786
          have hO802 := hO778.ext0 e786
          have hO803 := hO779.ext0 e786
          have hO804 := hO780.ext0 e786
          have hO805 := hO781.ext0 e786
          have hO806 := hO782.ext0 e786
          have hO807 := hO783.ext0 e786
          have E808 := E784.fresh e786 (fun _ h _ => h.elim)
          refine s_y (v := .int .i64 (1 + (((wd0 * hi0).toNat : Nat) : Int) + (((wd0 * hi0).toNat : Nat) : Int))) rfl (y_assign rfl) ?_
          refine s_nil ?_
          refine W_seq ?_
          refine W_seq ?_
          refine W_region (by kernel_rfl) ?_
          refine s_y (v := .int .i64 (1 + (((wd0 * hi0).toNat : Nat) : Int) + (((wd0 * hi0).toNat : Nat) : Int))) rfl (y_move rfl) ?_
          refine s_y (v := .bool false) rfl (y_lss rfl rfl (decide_eq_false c550)) ?_
          refine s_nil ?_
          refine W_if_f (by decide) rfl ?_
          refine W_skip ?_
          refine W_seq ?_
          refine W_seq ?_
          refine W_region (by kernel_rfl) ?_
          refine s_y (v := .int .i64 (1 + (((wd0 * hi0).toNat : Nat) : Int) + (((wd0 * hi0).toNat : Nat) : Int))) rfl (y_move rfl) ?_
          refine s_y (v := .int .i64 (1 + (((wd0 * hi0).toNat : Nat) : Int) + (((wd0 * hi0).toNat : Nat) : Int))) rfl (y_move rfl) ?_
          refine s_y (v := .bool false) rfl (y_neq rfl rfl (decide_eq_false (fun hq => hq rfl))) ?_
          refine s_nil ?_
          refine W_if_f (by decide) rfl ?_
          refine W_skip ?_
          refine W_seq ?_
          refine W_region (by kernel_rfl) ?_
          refine s_y (v := .bool true) rfl (y_assign rfl) ?_
          refine s_nil ?_
          refine W_ret ?_
          refine ret1 rfl rfl rfl ⟨_, rfl, ?_⟩
          exact ⟨rfl, E808⟩
    · obtain ⟨_, rfl⟩ := hx49.resolve_left (fun hz => c57 hz.1)
      clear hx49
      refine s_y (v := .tuple #[.agg #[.int .i64 0, .int .i64 0, .bool false, .slice none 0 0, .slice none 0 0], .bool false]) rfl (y_move rfl) ?_
      refine s_y (v := .agg #[.int .i64 0, .int .i64 0, .bool false, .slice none 0 0, .slice none 0 0]) rfl (y_extract rfl rfl) ?_
      refine s_y (v := .bool false) rfl (y_extract rfl rfl) ?_
      refine s_k rfl (k_alloc (z := (.agg #[.int .i64 0, .int .i64 0, .bool false, .slice none 0 0, .slice none 0 0])) (cs := [.int .i64 0, .int .i64 0, .bool false, .slice none 0 0, .slice none 0 0]) T12.zero_26 rfl (fun b822 w823 q825 e824 hB826 => ?_))
      have hB827 := hB51.ext0 e824
      have hS828 := hS52.ext0 e824
      have hS829 := hS53.ext0 e824
      have hO830 := hO54.ext0 e824
      have hO831 := hO55.ext0 e824
      have E832 := E56.fresh e824 (fun _ h _ => h.elim)
      have dj833 : NeB b1 b822 := fun h => Nat.ne_of_lt hB51.lt (h.trans q825)
      have dj834 : inA a22 b822 → False := fun h => Nat.ne_of_lt (hO54.blk _ h).2 q825
      have dj835 : inA a25 b822 → False := fun h => Nat.ne_of_lt (hO55.blk _ h).2 q825
      have fr836 : NotLt b822 w.heap.size := fun h => Nat.not_lt.2 (Nat.le_trans E56.size (Nat.le_of_eq q825.symm)) h
      clear q825
      refine s_k0 rfl (k_store (v := .agg #[.int .i64 0, .int .i64 0, .bool false, .slice none 0 0, .slice none 0 0]) (n := 5) (cs' := [.int .i64 0, .int .i64 0, .bool false, .slice none 0 0, .slice none 0 0]) T12.sz_26_5 rfl rfl rfl hB826 (by simp [Value.cells, Value.oneCell']) (Nat.le_of_ble_eq_true rfl) rfl (fun w837 e838 z839 hB840 => ?_))
      clear z839
      have hB841 := hB827.ext e838 dj833
      have hS842 := hS828.extL lo_asp0 e838 (fun kx (hs : kx = b822) hl => fr836 (hs ▸ hl))
      have hS843 := hS829.extL lo_als0 e838 (fun kx (hs : kx = b822) hl => fr836 (hs ▸ hl))
      have hO844 := hO830.ext e838 (fun kx hk (hs : kx = b822) => dj834 (hs ▸ hk))
      have hO845 := hO831.ext e838 (fun kx hk (hs : kx = b822) => dj835 (hs ▸ hk))
      have E846 := E832.fresh e838 (fun kx (hs : kx = b822) hl => (fr836 (hs ▸ hl)).elim)
      refine s_y (v := .bool false) rfl (y_assign rfl) ?_
      refine s_nil ?_
      refine W_seq ?_
      refine W_region (by kernel_rfl) ?_
      refine s_y (v := .agg #[.int .i64 wd0, .int .i64 hi0, .bool wr0, .slice asp0 nsp0 csp0, .slice als0 nls0 cls0]) rfl (y_loadn (b := b1) (o := 0) (vs := [.int .i64 wd0, .int .i64 hi0, .bool wr0, .slice asp0 nsp0 csp0, .slice als0 nls0 cls0]) T12.agg_36_5 rfl rfl (hB841.cells (o := 0) rfl)) ?_
      refine s_k rfl (k_call T12.fn_23 (c_l_toSheet _ hS842 qlsp0 qksp0 hS843 qlls0 qkls0 (by omega) (by omega)) rfl ?_)
      rintro _ w847 ⟨⟨a849, c850, z851, a852, c853, z854, rfl, hO855, hl856, hc857, hO858, hl859, hc860, dj861⟩, e848⟩
      have hB862 := hB841.ext0 e848
      have hB863 := hB840.ext0 e848
      have hS864 := hS842.ext0 e848
      have hS865 := hS843.ext0 e848
      have hO866 := hO844.ext0 e848
      have hO867 := hO845.ext0 e848
      have E868 := E846.fresh e848 (fun _ h _ => h.elim)
      have d869 : ∀ k, inA a849 k → w837.heap.size ≤ k := fun kx hk => (hO855.blk kx hk).1
      have dj870 : inA a849 b1 → False := fun h => Nat.not_lt.2 (d869 _ h) hB841.lt
      have dj871 : inA a849 b822 → False := fun h => Nat.not_lt.2 (d869 _ h) hB840.lt
      have dj872 : ∀ k, inA a22 k → inA a849 k → False := fun kx h1 h2 => Nat.not_lt.2 (d869 kx h2) (hO844.blk kx h1).2
      have dj873 : ∀ k, inA a25 k → inA a849 k → False := fun kx h1 h2 => Nat.not_lt.2 (d869 kx h2) (hO845.blk kx h1).2
      have fr874 : ∀ k, inA a849 k → k < w.heap.size → False := fun kx h1 h2 => Nat.not_lt.2 (Nat.le_trans E846.size (d869 kx h1)) h2
      have hO875 := hO855.base E846.size
      have d876 : ∀ k, inA a852 k → w837.heap.size ≤ k := fun kx hk => (hO858.blk kx hk).1
      have dj877 : inA a852 b1 → False := fun h => Nat.not_lt.2 (d876 _ h) hB841.lt
      have dj878 : inA a852 b822 → False := fun h => Nat.not_lt.2 (d876 _ h) hB840.lt
      have dj879 : ∀ k, inA a22 k → inA a852 k → False := fun kx h1 h2 => Nat.not_lt.2 (d876 kx h2) (hO844.blk kx h1).2
      have dj880 : ∀ k, inA a25 k → inA a852 k → False := fun kx h1 h2 => Nat.not_lt.2 (d876 kx h2) (hO845.blk kx h1).2
      have fr881 : ∀ k, inA a852 k → k < w.heap.size → False := fun kx h1 h2 => Nat.not_lt.2 (Nat.le_trans E846.size (d876 kx h1)) h2
      have hO882 := hO858.base E846.size
      refine s_k rfl (k_alloc (z := (.agg #[.int .i64 0, .int .i64 0, .bool false, .slice none 0 0, .slice none 0 0])) (cs := [.int .i64 0, .int .i64 0, .bool false, .slice none 0 0, .slice none 0 0]) T12.zero_26 rfl (fun b883 w884 q886 e885 hB887 => ?_))
      have hB888 := hB862.ext0 e885
      have hB889 := hB863.ext0 e885
      have hS890 := hS864.ext0 e885
      have hS891 := hS865.ext0 e885
      have hO892 := hO866.ext0 e885
      have hO893 := hO867.ext0 e885
      have hO894 := hO875.ext0 e885
      have hO895 := hO882.ext0 e885
      have E896 := E868.fresh e885 (fun _ h _ => h.elim)
      have dj897 : NeB b1 b883 := fun h => Nat.ne_of_lt hB862.lt (h.trans q886)
      have dj898 : NeB b822 b883 := fun h => Nat.ne_of_lt hB863.lt (h.trans q886)
      have dj899 : inA a22 b883 → False := fun h => Nat.ne_of_lt (hO866.blk _ h).2 q886
      have dj900 : inA a25 b883 → False := fun h => Nat.ne_of_lt (hO867.blk _ h).2 q886
      have dj901 : inA a849 b883 → False := fun h => Nat.ne_of_lt (hO875.blk _ h).2 q886
      have dj902 : inA a852 b883 → False := fun h => Nat.ne_of_lt (hO882.blk _ h).2 q886
      have fr903 : NotLt b883 w.heap.size := fun h => Nat.not_lt.2 (Nat.le_trans E868.size (Nat.le_of_eq q886.symm)) h
      clear q886
      refine s_k0 rfl (k_store (v := .agg #[.int .i64 wd0, .int .i64 hi0, .bool wr0, .slice a849 nsp0 c850, .slice a852 nls0 c853]) (n := 5) (cs' := [.int .i64 wd0, .int .i64 hi0, .bool wr0, .slice a849 nsp0 c850, .slice a852 nls0 c853]) T12.sz_26_5 rfl rfl rfl hB887 (by simp [Value.cells, Value.oneCell']) (Nat.le_of_ble_eq_true rfl) rfl (fun w904 e905 z906 hB907 => ?_))
      clear z906
      have hB908 := hB888.ext e905 dj897
      have hB909 := hB889.ext e905 dj898
      have hS910 := hS890.extL lo_asp0 e905 (fun kx (hs : kx = b883) hl => fr903 (hs ▸ hl))
      have hS911 := hS891.extL lo_als0 e905 (fun kx (hs : kx = b883) hl => fr903 (hs ▸ hl))
      have hO912 := hO892.ext e905 (fun kx hk (hs : kx = b883) => dj899 (hs ▸ hk))
      have hO913 := hO893.ext e905 (fun kx hk (hs : kx = b883) => dj900 (hs ▸ hk))
      have hO914 := hO894.ext e905 (fun kx hk (hs : kx = b883) => dj901 (hs ▸ hk))
      have hO915 := hO895.ext e905 (fun kx hk (hs : kx = b883) => dj902 (hs ▸ hk))
      have E916 := E896.fresh e905 (fun kx (hs : kx = b883) hl => (fr903 (hs ▸ hl)).elim)
      refine s_nil ?_
      refine W_seq ?_
      refine W_region (by kernel_rfl) ?_
      refine s_y (v := .agg #[.int .i64 wd0, .int .i64 hi0, .bool wr0, .slice a849 nsp0 c850, .slice a852 nls0 c853]) rfl (y_loadn (b := b883) (o := 0) (vs := [.int .i64 wd0, .int .i64 hi0, .bool wr0, .slice a849 nsp0 c850, .slice a852 nls0 c853]) T12.agg_26_5 rfl rfl (hB907.cells (o := 0) rfl)) ?_
      refine s_y (v := .int .i64 i1) rfl (y_move rfl) ?_
      refine s_y (v := .int .i64 i2) rfl (y_move rfl) ?_
      refine s_k rfl (k_call T12.fn_51 (c_i_ShiftSheet _ hO914.sl hl856 hc857 hO915.sl hl859 hc860 (by omega) (by omega)) rfl ?_)
      rintro vhx919 w917 ⟨hx919, e918⟩
      have hB921 := hB908.ext0 e918
      have hB922 := hB909.ext0 e918
      have hB923 := hB907.ext0 e918
      have hS924 := hS910.ext0 e918
      have hS925 := hS911.ext0 e918
      have hO926 := hO912.ext0 e918
      have hO927 := hO913.ext0 e918
      have hO928 := hO914.ext0 e918
      have hO929 := hO915.ext0 e918
      have E930 := E916.fresh e918 (fun _ h _ => h.elim)
      obtain ⟨_, rfl⟩ := hx919.resolve_left (fun hz => c57 hz.1)
      clear hx919
      refine s_y (v := .tuple #[.agg #[.int .i64 0, .int .i64 0, .bool false, .slice none 0 0, .slice none 0 0], .bool false]) rfl (y_move rfl) ?_
      refine s_y (v := .agg #[.int .i64 0, .int .i64 0, .bool false, .slice none 0 0, .slice none 0 0]) rfl (y_extract rfl rfl) ?_
      refine s_y (v := .bool false) rfl (y_extract rfl rfl) ?_
      refine s_k rfl (k_alloc (z := (.agg #[.int .i64 0, .int .i64 0, .bool false, .slice none 0 0, .slice none 0 0])) (cs := [.int .i64 0, .int .i64 0, .bool false, .slice none 0 0, .slice none 0 0]) T12.zero_26 rfl (fun b944 w945 q947 e946 hB948 => ?_))
      have hB949 := hB921.ext0 e946
      have hB950 := hB922.ext0 e946
      have hB951 := hB923.ext0 e946
      have hS952 := hS924.ext0 e946
      have hS953 := hS925.ext0 e946
      have hO954 := hO926.ext0 e946
      have hO955 := hO927.ext0 e946
      have hO956 := hO928.ext0 e946
      have hO957 := hO929.ext0 e946
      have E958 := E930.fresh e946 (fun _ h _ => h.elim)
      have dj959 : NeB b1 b944 := fun h => Nat.ne_of_lt hB921.lt (h.trans q947)
      have dj960 : NeB b822 b944 := fun h => Nat.ne_of_lt hB922.lt (h.trans q947)
      have dj961 : NeB b883 b944 := fun h => Nat.ne_of_lt hB923.lt (h.trans q947)
      have dj962 : inA a22 b944 → False := fun h => Nat.ne_of_lt (hO926.blk _ h).2 q947
      have dj963 : inA a25 b944 → False := fun h => Nat.ne_of_lt (hO927.blk _ h).2 q947
      have dj964 : inA a849 b944 → False := fun h => Nat.ne_of_lt (hO928.blk _ h).2 q947
      have dj965 : inA a852 b944 → False := fun h => Nat.ne_of_lt (hO929.blk _ h).2 q947
      have fr966 : NotLt b944 w.heap.size := fun h => Nat.not_lt.2 (Nat.le_trans E930.size (Nat.le_of_eq q947.symm)) h
      clear q947
      refine s_k0 rfl (k_store (v := .agg #[.int .i64 0, .int .i64 0, .bool false, .slice none 0 0, .slice none 0 0]) (n := 5) (cs' := [.int .i64 0, .int .i64 0, .bool false, .slice none 0 0, .slice none 0 0]) T12.sz_26_5 rfl rfl rfl hB948 (by simp [Value.cells, Value.oneCell']) (Nat.le_of_ble_eq_true rfl) rfl (fun w967 e968 z969 hB970 => ?_))
      clear z969
      have hB971 := hB949.ext e968 dj959
      have hB972 := hB950.ext e968 dj960
      have hB973 := hB951.ext e968 dj961
      have hS974 := hS952.extL lo_asp0 e968 (fun kx (hs : kx = b944) hl => fr966 (hs ▸ hl))
      have hS975 := hS953.extL lo_als0 e968 (fun kx (hs : kx = b944) hl => fr966 (hs ▸ hl))
      have hO976 := hO954.ext e968 (fun kx hk (hs : kx = b944) => dj962 (hs ▸ hk))
      have hO977 := hO955.ext e968 (fun kx hk (hs : kx = b944) => dj963 (hs ▸ hk))
      have hO978 := hO956.ext e968 (fun kx hk (hs : kx = b944) => dj964 (hs ▸ hk))
      have hO979 := hO957.ext e968 (fun kx hk (hs : kx = b944) => dj965 (hs ▸ hk))
      have E980 := E958.fresh e968 (fun kx (hs : kx = b944) hl => (fr966 (hs ▸ hl)).elim)
      refine s_y (v := .bool false) rfl (y_assign rfl) ?_
      refine s_nil ?_
      refine W_seq ?_
      refine W_seq ?_
      refine W_region (by kernel_rfl) ?_
      refine s_y (v := .agg #[.int .i64 0, .int .i64 0, .bool false, .slice none 0 0, .slice none 0 0]) rfl (y_loadn (b := b944) (o := 0) (vs := [.int .i64 0, .int .i64 0, .bool false, .slice none 0 0, .slice none 0 0]) T12.agg_26_5 rfl rfl (hB970.cells (o := 0) rfl)) ?_
      refine s_y (v := .agg #[.int .i64 0, .int .i64 0, .bool false, .slice none 0 0, .slice none 0 0]) rfl (y_loadn (b := b822) (o := 0) (vs := [.int .i64 0, .int .i64 0, .bool false, .slice none 0 0, .slice none 0 0]) T12.agg_26_5 rfl rfl (hB972.cells (o := 0) rfl)) ?_
      refine s_k rfl (k_call T12.fn_25 (c_l_eqSheet _ (Sl.fnil _ none) rfl rfl (Sl.fnil _ none) rfl rfl (by decide) (Sl.fnil _ none) rfl rfl (Sl.fnil _ none) rfl rfl (by decide)) rfl ?_)
      rintro _ w981 ⟨rfl, e982⟩
      have hB983 := hB971.ext0 e982
      have hB984 := hB972.ext0 e982
      have hB985 := hB973.ext0 e982
      have hB986 := hB970.ext0 e982
      have hS987 := hS974.ext0 e982
      have hS988 := hS975.ext0 e982
      have hO989 := hO976.ext0 e982
      have hO990 := hO977.ext0 e982
      have hO991 := hO978.ext0 e982
      have hO992 := hO979.ext0 e982
      have E993 := E980.fresh e982 (fun _ h _ => h.elim)
      refine s_y (v := .bool false) rfl (y_not rfl rfl) ?_
      refine s_y (v := .bool false) rfl (y_move rfl) ?_
      refine s_y (v := .bool false) rfl (y_move rfl) ?_
      refine s_y (v := .bool false) rfl (y_move rfl) ?_
      refine s_y (v := .bool false) rfl (y_bneq T12.bool_4 rfl rfl rfl) ?_
      refine s_y (v := .bool false) rfl (y_pick_f rfl rfl) ?_
      refine s_nil ?_
      refine W_if_f (by decide) rfl ?_
      refine W_skip ?_
      refine W_seq ?_
      refine W_seq ?_
      refine W_draw (no) T12.mx (by kernel_rfl) (fun w994 e995 => ?_)
      have hB996 := hB983.ext0 e995
      have hB997 := hB984.ext0 e995
      have hB998 := hB985.ext0 e995
      have hB999 := hB986.ext0 e995
      have hS1000 := hS987.ext0 e995
      have hS1001 := hS988.ext0 e995
      have hO1002 := hO989.ext0 e995
      have hO1003 := hO990.ext0 e995
      have hO1004 := hO991.ext0 e995
      have hO1005 := hO992.ext0 e995
      have E1006 := E993.fresh e995 (fun _ h _ => h.elim)
      have R1007 := (Ext.refl (no) w981).trans (Ext0.any e995)
      refine m_y (v := .agg #[.int .i64 wd0, .int .i64 hi0, .bool wr0, .slice a849 nsp0 c850, .slice a852 nls0 c853]) 0 rfl (by kernel_rfl) rfl rfl (fun w' e' => y_loadn (b := b883) (o := 0) (vs := [.int .i64 wd0, .int .i64 hi0, .bool wr0, .slice a849 nsp0 c850, .slice a852 nls0 c853]) T12.agg_26_5 rfl rfl ((hB985.ext0 e').cells (o := 0) rfl)) ?_
      refine m_y (v := .agg #[.int .i64 wd0, .int .i64 hi0, .bool wr0, .slice asp0 nsp0 csp0, .slice als0 nls0 cls0]) 1 rfl (by kernel_rfl) rfl rfl (fun w' e' => y_loadn (b := b1) (o := 0) (vs := [.int .i64 wd0, .int .i64 hi0, .bool wr0, .slice asp0 nsp0 csp0, .slice als0 nls0 cls0]) T12.agg_36_5 rfl rfl ((hB983.ext0 e').cells (o := 0) rfl)) ?_
      refine m_k 2 [3, 4] rfl (by kernel_rfl) rfl rfl (fun w1008 e1009 => ?_)
      have hB1010 := hB996.ext0 e1009
      have hB1011 := hB997.ext0 e1009
      have hB1012 := hB998.ext0 e1009
      have hB1013 := hB999.ext0 e1009
      have hS1014 := hS1000.ext0 e1009
      have hS1015 := hS1001.ext0 e1009
      have hO1016 := hO1002.ext0 e1009
      have hO1017 := hO1003.ext0 e1009
      have hO1018 := hO1004.ext0 e1009
      have hO1019 := hO1005.ext0 e1009
      have E1020 := E1006.fresh e1009 (fun _ h _ => h.elim)
      have R1021 := R1007.trans (Ext0.any e1009)
      refine k_call T12.fn_23 (c_l_toSheet _ hS1014 qlsp0 qksp0 hS1015 qlls0 qkls0 (by omega) (by omega)) rfl ?_
      rintro _ w1022 ⟨⟨a1024, c1025, z1026, a1027, c1028, z1029, rfl, hO1030, hl1031, hc1032, hO1033, hl1034, hc1035, dj1036⟩, e1023⟩
      have hB1037 := hB1010.ext0 e1023
      have hB1038 := hB1011.ext0 e1023
      have hB1039 := hB1012.ext0 e1023
      have hB1040 := hB1013.ext0 e1023
      have hS1041 := hS1014.ext0 e1023
      have hS1042 := hS1015.ext0 e1023
      have hO1043 := hO1016.ext0 e1023
      have hO1044 := hO1017.ext0 e1023
      have hO1045 := hO1018.ext0 e1023
      have hO1046 := hO1019.ext0 e1023
      have E1047 := E1020.fresh e1023 (fun _ h _ => h.elim)
      have R1048 := R1021.trans (Ext0.any e1023)
      refine ⟨fun _ => R1048, ?_⟩
      have d1049 : ∀ k, inA a1024 k → w1008.heap.size ≤ k := fun kx hk => (hO1030.blk kx hk).1
      have dj1050 : inA a1024 b1 → False := fun h => Nat.not_lt.2 (d1049 _ h) hB1010.lt
      have dj1051 : inA a1024 b822 → False := fun h => Nat.not_lt.2 (d1049 _ h) hB1011.lt
      have dj1052 : inA a1024 b883 → False := fun h => Nat.not_lt.2 (d1049 _ h) hB1012.lt
      have dj1053 : inA a1024 b944 → False := fun h => Nat.not_lt.2 (d1049 _ h) hB1013.lt
      have dj1054 : ∀ k, inA a22 k → inA a1024 k → False := fun kx h1 h2 => Nat.not_lt.2 (d1049 kx h2) (hO1016.blk kx h1).2
      have dj1055 : ∀ k, inA a25 k → inA a1024 k → False := fun kx h1 h2 => Nat.not_lt.2 (d1049 kx h2) (hO1017.blk kx h1).2
      have dj1056 : ∀ k, inA a849 k → inA a1024 k → False := fun kx h1 h2 => Nat.not_lt.2 (d1049 kx h2) (hO1018.blk kx h1).2
      have dj1057 : ∀ k, inA a852 k → inA a1024 k → False := fun kx h1 h2 => Nat.not_lt.2 (d1049 kx h2) (hO1019.blk kx h1).2
      have fr1058 : ∀ k, inA a1024 k → k < w.heap.size → False := fun kx h1 h2 => Nat.not_lt.2 (Nat.le_trans E1020.size (d1049 kx h1)) h2
      have hO1059 := hO1030.base E1020.size
      have d1060 : ∀ k, inA a1027 k → w1008.heap.size ≤ k := fun kx hk => (hO1033.blk kx hk).1
      have dj1061 : inA a1027 b1 → False := fun h => Nat.not_lt.2 (d1060 _ h) hB1010.lt
      have dj1062 : inA a1027 b822 → False := fun h => Nat.not_lt.2 (d1060 _ h) hB1011.lt
      have dj1063 : inA a1027 b883 → False := fun h => Nat.not_lt.2 (d1060 _ h) hB1012.lt
      have dj1064 : inA a1027 b944 → False := fun h => Nat.not_lt.2 (d1060 _ h) hB1013.lt
      have dj1065 : ∀ k, inA a22 k → inA a1027 k → False := fun kx h1 h2 => Nat.not_lt.2 (d1060 kx h2) (hO1016.blk kx h1).2
      have dj1066 : ∀ k, inA a25 k → inA a1027 k → False := fun kx h1 h2 => Nat.not_lt.2 (d1060 kx h2) (hO1017.blk kx h1).2
      have dj1067 : ∀ k, inA a849 k → inA a1027 k → False := fun kx h1 h2 => Nat.not_lt.2 (d1060 kx h2) (hO1018.blk kx h1).2
      have dj1068 : ∀ k, inA a852 k → inA a1027 k → False := fun kx h1 h2 => Nat.not_lt.2 (d1060 kx h2) (hO1019.blk kx h1).2
      have fr1069 : ∀ k, inA a1027 k → k < w.heap.size → False := fun kx h1 h2 => Nat.not_lt.2 (Nat.le_trans E1020.size (d1060 kx h1)) h2
      have hO1070 := hO1033.base E1020.size
      refine m_k 3 [4] rfl (by kernel_rfl) rfl rfl (fun w1071 e1072 => ?_)
      have hB1073 := hB1037.ext0 e1072
      have hB1074 := hB1038.ext0 e1072
      have hB1075 := hB1039.ext0 e1072
      have hB1076 := hB1040.ext0 e1072
      have hS1077 := hS1041.ext0 e1072
      have hS1078 := hS1042.ext0 e1072
      have hO1079 := hO1043.ext0 e1072
      have hO1080 := hO1044.ext0 e1072
      have hO1081 := hO1045.ext0 e1072
      have hO1082 := hO1046.ext0 e1072
      have hO1083 := hO1059.ext0 e1072
      have hO1084 := hO1070.ext0 e1072
      have E1085 := E1047.fresh e1072 (fun _ h _ => h.elim)
      have R1086 := R1048.trans (Ext0.any e1072)
      refine k_call T12.fn_25 (c_l_eqSheet _ hO1081.sl hl856 hc857 hO1083.sl hl1031 hc1032 (by omega) hO1082.sl hl859 hc860 hO1084.sl hl1034 hc1035 (by omega)) rfl ?_
      rintro _ w1087 ⟨rfl, e1088⟩
      have hB1089 := hB1073.ext0 e1088
      have hB1090 := hB1074.ext0 e1088
      have hB1091 := hB1075.ext0 e1088
      have hB1092 := hB1076.ext0 e1088
      have hS1093 := hS1077.ext0 e1088
      have hS1094 := hS1078.ext0 e1088
      have hO1095 := hO1079.ext0 e1088
      have hO1096 := hO1080.ext0 e1088
      have hO1097 := hO1081.ext0 e1088
      have hO1098 := hO1082.ext0 e1088
      have hO1099 := hO1083.ext0 e1088
      have hO1100 := hO1084.ext0 e1088
      have E1101 := E1085.fresh e1088 (fun _ h _ => h.elim)
      have R1102 := R1086.trans (Ext0.any e1088)
      refine ⟨fun _ => R1102, ?_⟩
      refine m_y (v := .bool false) 4 rfl (by kernel_rfl) rfl rfl (fun w' e' => y_not rfl rfl) ?_
      refine m_done (by kernel_rfl) (fun w1103 e1104 => ?_)
      have hB1105 := hB1089.ext0 e1104
      have hB1106 := hB1090.ext0 e1104
      have hB1107 := hB1091.ext0 e1104
      have hB1108 := hB1092.ext0 e1104
      have hS1109 := hS1093.ext0 e1104
      have hS1110 := hS1094.ext0 e1104
      have hO1111 := hO1095.ext0 e1104
      have hO1112 := hO1096.ext0 e1104
      have hO1113 := hO1097.ext0 e1104
      have hO1114 := hO1098.ext0 e1104
      have hO1115 := hO1099.ext0 e1104
      have hO1116 := hO1100.ext0 e1104
      have E1117 := E1101.fresh e1104 (fun _ h _ => h.elim)
      have R1118 := R1102.trans (Ext0.any e1104)
      refine W_if_f (by decide) rfl ?_
      refine W_skip ?_
      refine W_seq ?_
      refine W_region (by kernel_rfl) ?_
      refine s_y (v := .int .i64 1) rfl (y_assign rfl) ?_
      refine s_nil ?_
      refine W_seq ?_
      refine W_region (by kernel_rfl) ?_
      refine s_y (v := .agg #[.int .i64 wd0, .int .i64 hi0, .bool wr0, .slice a849 nsp0 c850, .slice a852 nls0 c853]) rfl (y_loadn (b := b883) (o := 0) (vs := [.int .i64 wd0, .int .i64 hi0, .bool wr0, .slice a849 nsp0 c850, .slice a852 nls0 c853]) T12.agg_26_5 rfl rfl (hB1107.cells (o := 0) rfl)) ?_
      refine s_y (v := .int .i64 1) rfl (y_move rfl) ?_
      refine s_k rfl (k_call T12.fn_37 (c_l_markSheet _ hO1113 hl856 hc857 hO1114 hl859 hc860 dj861 (by omega) (by omega) (by omega) (by omega)) rfl ?_)
      rintro _ w1119 ⟨rfl, hO1121, hO1122, e1120⟩
      have hB1123 := hB1105.ext e1120 (fun hor => Or.elim hor (fun hk => dj870 hk) (fun hk => dj877 hk))
      have hB1124 := hB1106.ext e1120 (fun hor => Or.elim hor (fun hk => dj871 hk) (fun hk => dj878 hk))
      have hB1125 := hB1107.ext e1120 (fun hor => Or.elim hor (fun hk => dj901 hk) (fun hk => dj902 hk))
      have hB1126 := hB1108.ext e1120 (fun hor => Or.elim hor (fun hk => dj964 hk) (fun hk => dj965 hk))
      have hS1127 := hS1109.extL lo_asp0 e1120 (fun kx hs hl => (fun hor => Or.elim hor (fun hs => fr874 kx hs hl) (fun hs => fr881 kx hs hl)) hs)
      have hS1128 := hS1110.extL lo_als0 e1120 (fun kx hs hl => (fun hor => Or.elim hor (fun hs => fr874 kx hs hl) (fun hs => fr881 kx hs hl)) hs)
      have hO1129 := hO1111.ext e1120 (fun kx hk hs => (fun hor => Or.elim hor (fun hs => (fun kx h1 h2 => dj872 kx h2 h1) kx hs hk) (fun hs => (fun kx h1 h2 => dj879 kx h2 h1) kx hs hk)) hs)
      have hO1130 := hO1112.ext e1120 (fun kx hk hs => (fun hor => Or.elim hor (fun hs => (fun kx h1 h2 => dj873 kx h2 h1) kx hs hk) (fun hs => (fun kx h1 h2 => dj880 kx h2 h1) kx hs hk)) hs)
      have hO1131 := hO1115.ext e1120 (fun kx hk hs => (fun hor => Or.elim hor (fun hs => dj1056 kx hs hk) (fun hs => dj1057 kx hs hk)) hs)
      have hO1132 := hO1116.ext e1120 (fun kx hk hs => (fun hor => Or.elim hor (fun hs => dj1067 kx hs hk) (fun hs => dj1068 kx hs hk)) hs)
      have E1133 := E1117.fresh e1120 (fun kx hs hl => (fun hor => Or.elim hor (fun hs => (fr874 kx hs hl).elim) (fun hs => (fr881 kx hs hl).elim)) hs)
      refine s_y (v := .int .i64 (1 + ((nsp0 : Nat) : Int) + ((nls0 : Nat) : Int))) rfl (y_assign rfl) ?_
      refine s_nil ?_
      refine W_seq ?_
      refine W_seq ?_
      refine W_region (by kernel_rfl) ?_
      refine s_y (v := .int .i64 (1 + ((nsp0 : Nat) : Int) + ((nls0 : Nat) : Int))) rfl (y_move rfl) ?_
      by_cases c1134 : (1 + ((nsp0 : Nat) : Int) + ((nls0 : Nat) : Int)) < 0
      · refine s_y (v := .bool true) rfl (y_lss rfl rfl (decide_eq_true c1134)) ?_
        refine s_y (v := .bool true) rfl (y_move rfl) ?_
        refine s_skip rfl ?_
        refine s_skip rfl ?_
        refine s_skip rfl ?_
        refine s_skip rfl ?_
        refine s_y (v := .bool true) rfl (y_pick_t rfl rfl) ?_
        refine s_y (v := .bool true) rfl (y_move rfl) ?_
        refine s_skip rfl ?_
        refine s_skip rfl ?_
        refine s_skip rfl ?_
        refine s_y (v := .bool true) rfl (y_pick_t rfl rfl) ?_
        refine s_nil ?_
        refine W_if_t (by decide) rfl ?_
        refine W_seq ?_
        refine W_region (by kernel_rfl) ?_
        refine s_y (v := .bool false) rfl (y_assign rfl) ?_
        refine s_nil ?_
        refine W_ret ?_
        refine ret1 rfl rfl rfl ⟨_, rfl, ?_⟩
        exfalso; omega
      · refine s_y (v := .bool false) rfl (y_lss rfl rfl (decide_eq_false c1134)) ?_
        refine s_y (v := .bool false) rfl (y_move rfl) ?_
        refine s_y (v := .agg #[.int .i64 0, .int .i64 0, .bool false, .slice none 0 0, .slice none 0 0]) rfl (y_loadn (b := b944) (o := 0) (vs := [.int .i64 0, .int .i64 0, .bool false, .slice none 0 0, .slice none 0 0]) T12.agg_26_5 rfl rfl (hB1126.cells (o := 0) rfl)) ?_
        refine s_y (v := .agg #[.int .i64 0, .int .i64 0, .bool false, .slice none 0 0, .slice none 0 0]) rfl (y_loadn (b := b822) (o := 0) (vs := [.int .i64 0, .int .i64 0, .bool false, .slice none 0 0, .slice none 0 0]) T12.agg_26_5 rfl rfl (hB1124.cells (o := 0) rfl)) ?_
        refine s_k rfl (k_call T12.fn_25 (c_l_eqSheet _ (Sl.fnil _ none) rfl rfl (Sl.fnil _ none) rfl rfl (by decide) (Sl.fnil _ none) rfl rfl (Sl.fnil _ none) rfl rfl (by decide)) rfl ?_)
        rintro _ w1135 ⟨rfl, e1136⟩
        have hB1137 := hB1123.ext0 e1136
        have hB1138 := hB1124.ext0 e1136
        have hB1139 := hB1125.ext0 e1136
        have hB1140 := hB1126.ext0 e1136
        have hS1141 := hS1127.ext0 e1136
        have hS1142 := hS1128.ext0 e1136
        have hO1143 := hO1129.ext0 e1136
        have hO1144 := hO1130.ext0 e1136
        have hO1145 := hO1121.ext0 e1136
        have hO1146 := hO1122.ext0 e1136
        have hO1147 := hO1131.ext0 e1136
        have hO1148 := hO1132.ext0 e1136
        have E1149 := E1133.fresh e1136 (fun _ h _ => h.elim)
        refine s_y (v := .bool false) rfl (y_not rfl rfl) ?_
        refine s_y (v := .bool false) rfl (y_pick_f rfl rfl) ?_
        refine s_y (v := .bool false) rfl (y_move rfl) ?_
        refine s_y (v := .bool false) rfl (y_move rfl) ?_
        refine s_y (v := .bool false) rfl (y_move rfl) ?_
        refine s_y (v := .bool false) rfl (y_bneq T12.bool_4 rfl rfl rfl) ?_
        refine s_y (v := .bool false) rfl (y_pick_f rfl rfl) ?_
        refine s_nil ?_
        refine W_if_f (by decide) rfl ?_
        refine W_skip ?_
        refine W_seq ?_
        refine W_region (by kernel_rfl) ?_
        refine s_y (v := .int .i64 1) rfl (y_assign rfl) ?_
        refine s_nil ?_
        refine W_seq ?_
        refine W_region (by kernel_rfl) ?_
        refine s_y (v := .agg #[.int .i64 0, .int .i64 0, .bool false, .slice none 0 0, .slice none 0 0]) rfl (y_loadn (b := b944) (o := 0) (vs := [.int .i64 0, .int .i64 0, .bool false, .slice none 0 0, .slice none 0 0]) T12.agg_26_5 rfl rfl (hB1140.cells (o := 0) rfl)) ?_
        refine s_y (v := .int .i64 1) rfl (y_move rfl) ?_
        refine s_k rfl (k_call T12.fn_37 (c_l_markSheet _ (Own.fnil _ 0 62) rfl rfl (Own.fnil _ 0 62) rfl rfl (fun kx hk hs => by simp [inA] at hk) (by omega) (by omega) (by omega) (by omega)) rfl ?_)
        rintro _ w1150 ⟨rfl, hO1152, hO1153, e1151⟩
        have hB1154 := hB1137.ext0 (e1151.mono (T := no) (fun kx hk => by simp [inA] at hk))
        have hB1155 := hB1138.ext0 (e1151.mono (T := no) (fun kx hk => by simp [inA] at hk))
        have hB1156 := hB1139.ext0 (e1151.mono (T := no) (fun kx hk => by simp [inA] at hk))
        have hB1157 := hB1140.ext0 (e1151.mono (T := no) (fun kx hk => by simp [inA] at hk))
        have hS1158 := hS1141.ext0 (e1151.mono (T := no) (fun kx hk => by simp [inA] at hk))
        have hS1159 := hS1142.ext0 (e1151.mono (T := no) (fun kx hk => by simp [inA] at hk))
        have hO1160 := hO1143.ext0 (e1151.mono (T := no) (fun kx hk => by simp [inA] at hk))
        have hO1161 := hO1144.ext0 (e1151.mono (T := no) (fun kx hk => by simp [inA] at hk))
        have hO1162 := hO1145.ext0 (e1151.mono (T := no) (fun kx hk => by simp [inA] at hk))
        have hO1163 := hO1146.ext0 (e1151.mono (T := no) (fun kx hk => by simp [inA] at hk))
        have hO1164 := hO1147.ext0 (e1151.mono (T := no) (fun kx hk => by simp [inA] at hk))
        have hO1165 := hO1148.ext0 (e1151.mono (T := no) (fun kx hk => by simp [inA] at hk))
        have E1166 := E1149.fresh (e1151.mono (T := no) (fun kx hk => by simp [inA] at hk)) (fun _ h _ => h.elim)
        refine s_y (v := .int .i64 (1 + ((0 : Nat) : Int) + ((0 : Nat) : Int))) rfl (y_assign rfl) ?_
        refine s_nil ?_
        refine W_seq ?_
        refine W_region (by kernel_rfl) ?_
        refine s_y (v := .int .i64 1) rfl (y_assign rfl) ?_
        refine s_nil ?_
        refine W_seq ?_
        refine W_region (by kernel_rfl) ?_
        refine s_y (v := .agg #[.int .i64 0, .int .i64 0, .bool false, .slice none 0 0, .slice none 0 0]) rfl (y_loadn (b := b944) (o := 0) (vs := [.int .i64 0, .int .i64 0, .bool false, .slice none 0 0, .slice none 0 0]) T12.agg_26_5 rfl rfl (hB1157.cells (o := 0) rfl)) ?_
        refine s_y (v := .int .i64 1) rfl (y_move rfl) ?_
        refine s_k rfl (k_call T12.fn_38 (c_l_heldSheet _ (Sl.fmarks0 _ none _) (Sl.fmarks0 _ none _) (by omega) (by omega) (by omega) (by omega)) rfl ?_)
        rintro _ w1167 ⟨rfl, e1168⟩
        have hB1169 := hB1154.ext0 e1168
        have hB1170 := hB1155.ext0 e1168
        have hB1171 := hB1156.ext0 e1168
        have hB1172 := hB1157.ext0 e1168
        have hS1173 := hS1158.ext0 e1168
        have hS1174 := hS1159.ext0 e1168
        have hO1175 := hO1160.ext0 e1168
        have hO1176 := hO1161.ext0 e1168
        have hO1177 := hO1162.ext0 e1168
        have hO1178 := hO1163.ext0 e1168
        have hO1179 := hO1164.ext0 e1168
        have hO1180 := hO1165.ext0 e1168
        have E1181 := E1166.fresh e1168 (fun _ h _ => h.elim)
        refine s_y (v := .int .i64 (1 + ((0 : Nat) : Int) + ((0 : Nat) : Int))) rfl (y_assign rfl) ?_
        refine s_nil ?_
        refine W_seq ?_
        refine W_seq ?_
        refine W_region (by kernel_rfl) ?_
        refine s_y (v := .int .i64 (1 + ((0 : Nat) : Int) + ((0 : Nat) : Int))) rfl (y_move rfl) ?_
        by_cases c1182 : (1 + ((0 : Nat) : Int) + ((0 : Nat) : Int)) < 0
        · refine s_y (v := .bool true) rfl (y_lss rfl rfl (decide_eq_true c1182)) ?_
          refine s_nil ?_
          refine W_if_t (by decide) rfl ?_
          refine W_seq ?_
          refine W_region (by kernel_rfl) ?_
          refine s_y (v := .bool false) rfl (y_assign rfl) ?_
          refine s_nil ?_
          refine W_ret ?_
          refine ret1 rfl rfl rfl ⟨_, rfl, ?_⟩
          exfalso; omega
        · refine s_y (v := .bool false) rfl (y_lss rfl rfl (decide_eq_false c1182)) ?_
          refine s_nil ?_
          refine W_if_f (by decide) rfl ?_
          refine W_skip ?_
          refine W_seq ?_
          refine W_seq ?_
          refine W_region (by kernel_rfl) ?_
          refine s_y (v := .int .i64 (1 + ((0 : Nat) : Int) + ((0 : Nat) : Int))) rfl (y_move rfl) ?_
          refine s_y (v := .int .i64 (1 + ((0 : Nat) : Int) + ((0 : Nat) : Int))) rfl (y_move rfl) ?_
          refine s_y (v := .bool false) rfl (y_neq rfl rfl (decide_eq_false (fun hq => hq rfl))) ?_
          refine s_nil ?_
          refine W_if_f (by decide) rfl ?_
          refine W_skip ?_
          refine W_seq ?_
          refine W_region (by kernel_rfl) ?_
          refine s_y (v := .agg #[.int .i64 wd0, .int .i64 hi0, .bool wr0, .slice asp0 nsp0 csp0, .slice als0 nls0 cls0]) rfl (y_loadn (b := b1) (o := 0) (vs := [.int .i64 wd0, .int .i64 hi0, .bool wr0, .slice asp0 nsp0 csp0, .slice als0 nls0 cls0]) T12.agg_36_5 rfl rfl (hB1169.cells (o := 0) rfl)) ?_
          refine s_k rfl (k_call T12.fn_23 (c_l_toSheet _ hS1173 qlsp0 qksp0 hS1174 qlls0 qkls0 (by omega) (by omega)) rfl ?_)
          rintro _ w1183 ⟨⟨a1185, c1186, z1187, a1188, c1189, z1190, rfl, hO1191, hl1192, hc1193, hO1194, hl1195, hc1196, dj1197⟩, e1184⟩
          have hB1198 := hB1169.ext0 e1184
          have hB1199 := hB1170.ext0 e1184
          have hB1200 := hB1171.ext0 e1184
          have hB1201 := hB1172.ext0 e1184
          have hS1202 := hS1173.ext0 e1184
          have hS1203 := hS1174.ext0 e1184
          have hO1204 := hO1175.ext0 e1184
          have hO1205 := hO1176.ext0 e1184
          have hO1206 := hO1177.ext0 e1184
          have hO1207 := hO1178.ext0 e1184
          have hO1208 := hO1179.ext0 e1184
          have hO1209 := hO1180.ext0 e1184
          have E1210 := E1181.fresh e1184 (fun _ h _ => h.elim)
          have d1211 : ∀ k, inA a1185 k → w1167.heap.size ≤ k := fun kx hk => (hO1191.blk kx hk).1
          have dj1212 : inA a1185 b1 → False := fun h => Nat.not_lt.2 (d1211 _ h) hB1169.lt
          have dj1213 : inA a1185 b822 → False := fun h => Nat.not_lt.2 (d1211 _ h) hB1170.lt
          have dj1214 : inA a1185 b883 → False := fun h => Nat.not_lt.2 (d1211 _ h) hB1171.lt
          have dj1215 : inA a1185 b944 → False := fun h => Nat.not_lt.2 (d1211 _ h) hB1172.lt
          have dj1216 : ∀ k, inA a22 k → inA a1185 k → False := fun kx h1 h2 => Nat.not_lt.2 (d1211 kx h2) (hO1175.blk kx h1).2
          have dj1217 : ∀ k, inA a25 k → inA a1185 k → False := fun kx h1 h2 => Nat.not_lt.2 (d1211 kx h2) (hO1176.blk kx h1).2
          have dj1218 : ∀ k, inA a849 k → inA a1185 k → False := fun kx h1 h2 => Nat.not_lt.2 (d1211 kx h2) (hO1177.blk kx h1).2
          have dj1219 : ∀ k, inA a852 k → inA a1185 k → False := fun kx h1 h2 => Nat.not_lt.2 (d1211 kx h2) (hO1178.blk kx h1).2
          have dj1220 : ∀ k, inA a1024 k → inA a1185 k → False := fun kx h1 h2 => Nat.not_lt.2 (d1211 kx h2) (hO1179.blk kx h1).2
          have dj1221 : ∀ k, inA a1027 k → inA a1185 k → False := fun kx h1 h2 => Nat.not_lt.2 (d1211 kx h2) (hO1180.blk kx h1).2
          have fr1222 : ∀ k, inA a1185 k → k < w.heap.size → False := fun kx h1 h2 => Nat.not_lt.2 (Nat.le_trans E1181.size (d1211 kx h1)) h2
          have hO1223 := hO1191.base E1181.size
          have d1224 : ∀ k, inA a1188 k → w1167.heap.size ≤ k := fun kx hk => (hO1194.blk kx hk).1
          have dj1225 : inA a1188 b1 → False := fun h => Nat.not_lt.2 (d1224 _ h) hB1169.lt
          have dj1226 : inA a1188 b822 → False := fun h => Nat.not_lt.2 (d1224 _ h) hB1170.lt
          have dj1227 : inA a1188 b883 → False := fun h => Nat.not_lt.2 (d1224 _ h) hB1171.lt
          have dj1228 : inA a1188 b944 → False := fun h => Nat.not_lt.2 (d1224 _ h) hB1172.lt
          have dj1229 : ∀ k, inA a22 k → inA a1188 k → False := fun kx h1 h2 => Nat.not_lt.2 (d1224 kx h2) (hO1175.blk kx h1).2
          have dj1230 : ∀ k, inA a25 k → inA a1188 k → False := fun kx h1 h2 => Nat.not_lt.2 (d1224 kx h2) (hO1176.blk kx h1).2
          have dj1231 : ∀ k, inA a849 k → inA a1188 k → False := fun kx h1 h2 => Nat.not_lt.2 (d1224 kx h2) (hO1177.blk kx h1).2
          have dj1232 : ∀ k, inA a852 k → inA a1188 k → False := fun kx h1 h2 => Nat.not_lt.2 (d1224 kx h2) (hO1178.blk kx h1).2
          have dj1233 : ∀ k, inA a1024 k → inA a1188 k → False := fun kx h1 h2 => Nat.not_lt.2 (d1224 kx h2) (hO1179.blk kx h1).2
          have dj1234 : ∀ k, inA a1027 k → inA a1188 k → False := fun kx h1 h2 => Nat.not_lt.2 (d1224 kx h2) (hO1180.blk kx h1).2
          have fr1235 : ∀ k, inA a1188 k → k < w.heap.size → False := fun kx h1 h2 => Nat.not_lt.2 (Nat.le_trans E1181.size (d1224 kx h1)) h2
          have hO1236 := hO1194.base E1181.size
          refine s_y (v := .int .i64 i1) rfl (y_move rfl) ?_
          refine s_y (v := .int .i64 i2) rfl (y_move rfl) ?_
          refine s_k rfl (k_call T12.fn_51 (c_i_ShiftSheet _ hO1223.sl hl1192 hc1193 hO1236.sl hl1195 hc1196 (by omega) (by omega)) rfl ?_)
          rintro vhx1239 w1237 ⟨hx1239, e1238⟩
          have hB1241 := hB1198.ext0 e1238
          have hB1242 := hB1199.ext0 e1238
          have hB1243 := hB1200.ext0 e1238
          have hB1244 := hB1201.ext0 e1238
          have hS1245 := hS1202.ext0 e1238
          have hS1246 := hS1203.ext0 e1238
          have hO1247 := hO1204.ext0 e1238
          have hO1248 := hO1205.ext0 e1238
          have hO1249 := hO1206.ext0 e1238
          have hO1250 := hO1207.ext0 e1238
          have hO1251 := hO1208.ext0 e1238
          have hO1252 := hO1209.ext0 e1238
          have hO1253 := hO1223.ext0 e1238
          have hO1254 := hO1236.ext0 e1238
          have E1255 := E1210.fresh e1238 (fun _ h _ => h.elim)
          obtain ⟨_, rfl⟩ := hx1239.resolve_left (fun hz => c57 hz.1)
          clear hx1239
          refine s_y (v := .tuple #[.agg #[.int .i64 0, .int .i64 0, .bool false, .slice none 0 0, .slice none 0 0], .bool false]) rfl (y_move rfl) ?_
          refine s_y (v := .agg #[.int .i64 0, .int .i64 0, .bool false, .slice none 0 0, .slice none 0 0]) rfl (y_extract rfl rfl) ?_
          refine s_y (v := .bool false) rfl (y_extract rfl rfl) ?_
          refine s_k rfl (k_alloc (z := (.agg #[.int .i64 0, .int .i64 0, .bool false, .slice none 0 0, .slice none 0 0])) (cs := [.int .i64 0, .int .i64 0, .bool false, .slice none 0 0, .slice none 0 0]) T12.zero_26 rfl (fun b1269 w1270 q1272 e1271 hB1273 => ?_))
          have hB1274 := hB1241.ext0 e1271
          have hB1275 := hB1242.ext0 e1271
          have hB1276 := hB1243.ext0 e1271
          have hB1277 := hB1244.ext0 e1271
          have hS1278 := hS1245.ext0 e1271
          have hS1279 := hS1246.ext0 e1271
          have hO1280 := hO1247.ext0 e1271
          have hO1281 := hO1248.ext0 e1271
          have hO1282 := hO1249.ext0 e1271
          have hO1283 := hO1250.ext0 e1271
          have hO1284 := hO1251.ext0 e1271
          have hO1285 := hO1252.ext0 e1271
          have hO1286 := hO1253.ext0 e1271
          have hO1287 := hO1254.ext0 e1271
          have E1288 := E1255.fresh e1271 (fun _ h _ => h.elim)
          have dj1289 : NeB b1 b1269 := fun h => Nat.ne_of_lt hB1241.lt (h.trans q1272)
          have dj1290 : NeB b822 b1269 := fun h => Nat.ne_of_lt hB1242.lt (h.trans q1272)
          have dj1291 : NeB b883 b1269 := fun h => Nat.ne_of_lt hB1243.lt (h.trans q1272)
          have dj1292 : NeB b944 b1269 := fun h => Nat.ne_of_lt hB1244.lt (h.trans q1272)
          have dj1293 : inA a22 b1269 → False := fun h => Nat.ne_of_lt (hO1247.blk _ h).2 q1272
          have dj1294 : inA a25 b1269 → False := fun h => Nat.ne_of_lt (hO1248.blk _ h).2 q1272
          have dj1295 : inA a849 b1269 → False := fun h => Nat.ne_of_lt (hO1249.blk _ h).2 q1272
          have dj1296 : inA a852 b1269 → False := fun h => Nat.ne_of_lt (hO1250.blk _ h).2 q1272
          have dj1297 : inA a1024 b1269 → False := fun h => Nat.ne_of_lt (hO1251.blk _ h).2 q1272
          have dj1298 : inA a1027 b1269 → False := fun h => Nat.ne_of_lt (hO1252.blk _ h).2 q1272
          have dj1299 : inA a1185 b1269 → False := fun h => Nat.ne_of_lt (hO1253.blk _ h).2 q1272
          have dj1300 : inA a1188 b1269 → False := fun h => Nat.ne_of_lt (hO1254.blk _ h).2 q1272
          have fr1301 : NotLt b1269 w.heap.size := fun h => Nat.not_lt.2 (Nat.le_trans E1255.size (Nat.le_of_eq q1272.symm)) h
          clear q1272
          refine s_k0 rfl (k_store (v := .agg #[.int .i64 0, .int .i64 0, .bool false, .slice none 0 0, .slice none 0 0]) (n := 5) (cs' := [.int .i64 0, .int .i64 0, .bool false, .slice none 0 0, .slice none 0 0]) T12.sz_26_5 rfl rfl rfl hB1273 (by simp [Value.cells, Value.oneCell']) (Nat.le_of_ble_eq_true rfl) rfl (fun w1302 e1303 z1304 hB1305 => ?_))
          clear z1304
          have hB1306 := hB1274.ext e1303 dj1289
          have hB1307 := hB1275.ext e1303 dj1290
          have hB1308 := hB1276.ext e1303 dj1291
          have hB1309 := hB1277.ext e1303 dj1292
          have hS1310 := hS1278.extL lo_asp0 e1303 (fun kx (hs : kx = b1269) hl => fr1301 (hs ▸ hl))
          have hS1311 := hS1279.extL lo_als0 e1303 (fun kx (hs : kx = b1269) hl => fr1301 (hs ▸ hl))
          have hO1312 := hO1280.ext e1303 (fun kx hk (hs : kx = b1269) => dj1293 (hs ▸ hk))
          have hO1313 := hO1281.ext e1303 (fun kx hk (hs : kx = b1269) => dj1294 (hs ▸ hk))
          have hO1314 := hO1282.ext e1303 (fun kx hk (hs : kx = b1269) => dj1295 (hs ▸ hk))
          have hO1315 := hO1283.ext e1303 (fun kx hk (hs : kx = b1269) => dj1296 (hs ▸ hk))
          have hO1316 := hO1284.ext e1303 (fun kx hk (hs : kx = b1269) => dj1297 (hs ▸ hk))
          have hO1317 := hO1285.ext e1303 (fun kx hk (hs : kx = b1269) => dj1298 (hs ▸ hk))
          have hO1318 := hO1286.ext e1303 (fun kx hk (hs : kx = b1269) => dj1299 (hs ▸ hk))
          have hO1319 := hO1287.ext e1303 (fun kx hk (hs : kx = b1269) => dj1300 (hs ▸ hk))
          have E1320 := E1288.fresh e1303 (fun kx (hs : kx = b1269) hl => (fr1301 (hs ▸ hl)).elim)
          refine s_y (v := .bool false) rfl (y_assign rfl) ?_
          refine s_nil ?_
          refine W_seq ?_
          refine W_seq ?_
          refine W_region (by kernel_rfl) ?_
          refine s_y (v := .agg #[.int .i64 0, .int .i64 0, .bool false, .slice none 0 0, .slice none 0 0]) rfl (y_loadn (b := b1269) (o := 0) (vs := [.int .i64 0, .int .i64 0, .bool false, .slice none 0 0, .slice none 0 0]) T12.agg_26_5 rfl rfl (hB1305.cells (o := 0) rfl)) ?_
          refine s_y (v := .agg #[.int .i64 0, .int .i64 0, .bool false, .slice none 0 0, .slice none 0 0]) rfl (y_loadn (b := b822) (o := 0) (vs := [.int .i64 0, .int .i64 0, .bool false, .slice none 0 0, .slice none 0 0]) T12.agg_26_5 rfl rfl (hB1307.cells (o := 0) rfl)) ?_
          refine s_k rfl (k_call T12.fn_25 (c_l_eqSheet _ (Sl.fnil _ none) rfl rfl (Sl.fnil _ none) rfl rfl (by decide) (Sl.fnil _ none) rfl rfl (Sl.fnil _ none) rfl rfl (by decide)) rfl ?_)
          rintro _ w1321 ⟨rfl, e1322⟩
          have hB1323 := hB1306.ext0 e1322
          have hB1324 := hB1307.ext0 e1322
          have hB1325 := hB1308.ext0 e1322
          have hB1326 := hB1309.ext0 e1322
          have hB1327 := hB1305.ext0 e1322
          have hS1328 := hS1310.ext0 e1322
          have hS1329 := hS1311.ext0 e1322
          have hO1330 := hO1312.ext0 e1322
          have hO1331 := hO1313.ext0 e1322
          have hO1332 := hO1314.ext0 e1322
          have hO1333 := hO1315.ext0 e1322
          have hO1334 := hO1316.ext0 e1322
          have hO1335 := hO1317.ext0 e1322
          have hO1336 := hO1318.ext0 e1322
          have hO1337 := hO1319.ext0 e1322
          have E1338 := E1320.fresh e1322 (fun _ h _ => h.elim)
          refine s_y (v := .bool false) rfl (y_not rfl rfl) ?_
          refine s_y (v := .bool false) rfl (y_move rfl) ?_
          refine s_y (v := .bool false) rfl (y_move rfl) ?_
          refine s_y (v := .bool false) rfl (y_move rfl) ?_
          refine s_y (v := .bool false) rfl (y_bneq T12.bool_4 rfl rfl rfl) ?_
          refine s_y (v := .bool false) rfl (y_pick_f rfl rfl) ?_
          refine s_nil ?_
          refine W_if_f (by decide) rfl ?_
          refine W_skip ?_
          refine W_seq ?_
          refine W_region (by kernel_rfl) ?_
          refine s_y (v := .int .i64 1) rfl (y_assign rfl) ?_
          refine s_nil ?_
          refine W_seq ?_
          refine W_region (by kernel_rfl) ?_
          refine s_y (v := .agg #[.int .i64 0, .int .i64 0, .bool false, .slice none 0 0, .slice none 0 0]) rfl (y_loadn (b := b944) (o := 0) (vs := [.int .i64 0, .int .i64 0, .bool false, .slice none 0 0, .slice none 0 0]) T12.agg_26_5 rfl rfl (hB1326.cells (o := 0) rfl)) ?_
          refine s_y (v := .int .i64 1) rfl (y_move rfl) ?_
          refine s_k rfl (k_call T12.fn_38 (c_l_heldSheet _ (Sl.fmarks0 _ none _) (Sl.fmarks0 _ none _) (by omega) (by omega) (by omega) (by omega)) rfl ?_)
          rintro _ w1339 ⟨rfl, e1340⟩
          have hB1341 := hB1323.ext0 e1340
          have hB1342 := hB1324.ext0 e1340
          have hB1343 := hB1325.ext0 e1340
          have hB1344 := hB1326.ext0 e1340
          have hB1345 := hB1327.ext0 e1340
          have hS1346 := hS1328.ext0 e1340
          have hS1347 := hS1329.ext0 e1340
          have hO1348 := hO1330.ext0 e1340
          have hO1349 := hO1331.ext0 e1340
          have hO1350 := hO1332.ext0 e1340
          have hO1351 := hO1333.ext0 e1340
          have hO1352 := hO1334.ext0 e1340
          have hO1353 := hO1335.ext0 e1340
          have hO1354 := hO1336.ext0 e1340
          have hO1355 := hO1337.ext0 e1340
          have E1356 := E1338.fresh e1340 (fun _ h _ => h.elim)
          refine s_y (v := .int .i64 (1 + ((0 : Nat) : Int) + ((0 : Nat) : Int))) rfl (y_assign rfl) ?_
          refine s_nil ?_
          refine W_seq ?_
          refine W_seq ?_
          refine W_region (by kernel_rfl) ?_
          refine s_y (v := .int .i64 (1 + ((0 : Nat) : Int) + ((0 : Nat) : Int))) rfl (y_move rfl) ?_
          refine s_y (v := .bool false) rfl (y_lss rfl rfl (decide_eq_false c1182)) ?_
          refine s_nil ?_
          refine W_if_f (by decide) rfl ?_
          refine W_skip ?_
          refine W_seq ?_
          refine W_seq ?_
          refine W_region (by kernel_rfl) ?_
          refine s_y (v := .int .i64 (1 + ((0 : Nat) : Int) + ((0 : Nat) : Int))) rfl (y_move rfl) ?_
          refine s_y (v := .int .i64 (1 + ((0 : Nat) : Int) + ((0 : Nat) : Int))) rfl (y_move rfl) ?_
          refine s_y (v := .bool false) rfl (y_neq rfl rfl (decide_eq_false (fun hq => hq rfl))) ?_
          refine s_nil ?_
          refine W_if_f (by decide) rfl ?_
          refine W_skip ?_
          refine W_seq ?_
          refine W_region (by kernel_rfl) ?_
          refine s_y (v := .bool true) rfl (y_assign rfl) ?_
          refine s_nil ?_
          refine W_ret ?_
          refine ret1 rfl rfl rfl ⟨_, rfl, ?_⟩
          exact ⟨rfl, E1356⟩
  · obtain rfl : v12 = .int .i64 (-1) := hv13.trans (congrArg _ (if_neg c18))
    refine s_y (v := .int .i64 (-1)) rfl (y_assign rfl) ?_
    refine s_nil ?_
    refine W_seq ?_
    refine W_seq ?_
    refine W_region (by kernel_rfl) ?_
    refine s_y (v := .int .i64 (-1)) rfl (y_move rfl) ?_
    have hk1357 : (-1 : Int) < 0 := (by decide)
    refine s_y (v := .bool true) rfl (y_lss rfl rfl (decide_eq_true hk1357)) ?_
    refine s_nil ?_
    refine W_if_t (by decide) rfl ?_
    refine W_seq ?_
    refine W_region (by kernel_rfl) ?_
    refine s_y (v := .bool true) rfl (y_assign rfl) ?_
    refine s_nil ?_
    refine W_ret ?_
    refine ret1 rfl rfl rfl ⟨_, rfl, ?_⟩
    exact ⟨rfl, E17⟩
end Go.Proofs.Ytcggpjocghigcaa
