/- Walks: what the functions under FnExactAreProbes do (part 2). Printed by a program of this claim's author. -/
import Derived.Test.YtcggpjocghigcaaExactAreProbesW0
set_option linter.unusedSimpArgs false
set_option linter.unusedVariables false
open Go.Wv
namespace Go.Proofs.Ytcggpjocghigcaa
open Go.Proofs
namespace T7
theorem mx : Try.prog.follows .mixedOrders = true := by kernel_rfl
theorem agg_26_5 : aggB Try.prog 26 5 = true := by kernel_rfl
theorem agg_36_5 : aggB Try.prog 36 5 = true := by kernel_rfl
theorem bool_4 : Try.prog.underlying 4 = some .bool := by kernel_rfl
theorem fn_20 : fnB Try.prog 20 = true := by kernel_rfl
theorem fn_21 : fnB Try.prog 21 = true := by kernel_rfl
theorem fn_23 : fnB Try.prog 23 = true := by kernel_rfl
theorem fn_25 : fnB Try.prog 25 = true := by kernel_rfl
theorem fn_31 : fnB Try.prog 31 = true := by kernel_rfl
theorem fn_32 : fnB Try.prog 32 = true := by kernel_rfl
theorem fn_33 : fnB Try.prog 33 = true := by kernel_rfl
theorem fn_34 : fnB Try.prog 34 = true := by kernel_rfl
theorem sz_26_5 : szB Try.prog 26 5 = true := by kernel_rfl
theorem zero_26 : zeroB Try.prog 26 (.agg #[.int .i64 0, .int .i64 0, .bool false, .slice none 0 0, .slice none 0 0]) := by unfold zeroB; kernel_rfl
end T7
set_option maxRecDepth 100000 in
set_option maxHeartbeats 4000000 in
theorem c_FnExactAreProbes {wd0 hi0 : Int} {wr0 : Bool} {asp0 : Option Addr} {nsp0 csp0 : Nat} {xsp0 Xsp0 : List Nat} {als0 : Option Addr} {nls0 cls0 : Nat} {xls0 Xls0 : List Nat} {a1 : Option Addr} {n1 c1 : Nat} {x1 : List (Int × Int)} (w : World) (qssp0 : Sl w asp0 (flts xsp0)) (qlsp0 : xsp0.length = nsp0) (qksp0 : cn xsp0 = Xsp0) (qsls0 : Sl w als0 (flts xls0)) (qlls0 : xls0.length = nls0) (qkls0 : cn xls0 = Xls0) (g1 : nsp0 ≤ 9223372036854775807) (g2 : nls0 ≤ 9223372036854775807) (qs1 : Sl w a1 (flat prC x1)) (ql1 : x1.length = n1) (g3 : n1 ≤ 9223372036854775807) :
    Calls Try.prog 7 #[.agg #[.int .i64 wd0, .int .i64 hi0, .bool wr0, .slice asp0 nsp0 csp0, .slice als0 nls0 cls0], .slice a1 n1 c1] w (Rt fun v w' => v = .bool true ∧ Ext no w w') := by
  have E0 : Ext no w w := Ext.refl _ _
  have hlP0 : Xsp0.length = nsp0 := (cn_lenX qksp0).trans qlsp0
  have hlL0 : Xls0.length = nls0 := (cn_lenX qkls0).trans qlls0
  have lo_a1 := Sl.low qs1
  have lo_asp0 := Sl.low qssp0
  have lo_als0 := Sl.low qsls0
  refine calls_W (n := 45) Try.func7 rfl rfl (Nat.le_of_ble_eq_true rfl) ?_
  refine W_seq ?_
  refine W_region (by kernel_rfl) ?_
  refine s_k rfl (k_box (v := .agg #[.int .i64 wd0, .int .i64 hi0, .bool wr0, .slice asp0 nsp0 csp0, .slice als0 nls0 cls0]) (cs := [.int .i64 wd0, .int .i64 hi0, .bool wr0, .slice asp0 nsp0 csp0, .slice als0 nls0 cls0]) rfl rfl (fun b1 w2 q4 e3 hB5 => ?_))
  have hS6 := qs1.ext0 e3
  have hS7 := qssp0.ext0 e3
  have hS8 := qsls0.ext0 e3
  have E9 := E0.fresh e3 (fun _ h _ => h.elim)
  have fr10 : NotLt b1 w.heap.size := fun h => Nat.not_lt.2 (Nat.le_trans E0.size (Nat.le_of_eq q4.symm)) h
  clear q4
  refine s_y (v := .bool false) rfl (y_assign rfl) ?_
  refine s_nil ?_
  refine W_seq ?_
  refine W_region (by kernel_rfl) ?_
  refine s_y (v := .int .i64 1048576) rfl (y_assign rfl) ?_
  refine s_nil ?_
  refine W_seq ?_
  refine W_region (by kernel_rfl) ?_
  refine s_y (v := .agg #[.int .i64 wd0, .int .i64 hi0, .bool wr0, .slice asp0 nsp0 csp0, .slice als0 nls0 cls0]) rfl (y_loadn (b := b1) (o := 0) (vs := [.int .i64 wd0, .int .i64 hi0, .bool wr0, .slice asp0 nsp0 csp0, .slice als0 nls0 cls0]) T7.agg_36_5 rfl rfl (hB5.cells (o := 0) rfl)) ?_
  refine s_y (v := .int .i64 1048576) rfl (y_move rfl) ?_
  refine s_k rfl (k_call T7.fn_21 (c_l_szSheet _ (by omega) (by omega) (by omega) (by omega)) rfl ?_)
  rintro v13 w11 ⟨hv14, e12⟩
  have hB15 := hB5.ext0 e12
  have hS16 := hS6.ext0 e12
  have hS17 := hS7.ext0 e12
  have hS18 := hS8.ext0 e12
  have E19 := E9.fresh e12 (fun _ h _ => h.elim)
  by_cases c20 : ((nsp0 : Nat) : Int) + ((nls0 : Nat) : Int) ≤ 1048576
  · obtain rfl : v13 = .int .i64 (1048576 - ((nsp0 : Nat) : Int) - ((nls0 : Nat) : Int)) := hv14.trans (congrArg _ (if_pos c20))
    have hk21 : ¬ (1048576 - ((nsp0 : Nat) : Int) - ((nls0 : Nat) : Int)) < 0 := by omega
    refine s_y (v := .int .i64 (1048576 - ((nsp0 : Nat) : Int) - ((nls0 : Nat) : Int))) rfl (y_assign rfl) ?_
    refine s_nil ?_
    refine W_seq ?_
    refine W_seq ?_
    refine W_region (by kernel_rfl) ?_
    refine s_y (v := .int .i64 (1048576 - ((nsp0 : Nat) : Int) - ((nls0 : Nat) : Int))) rfl (y_move rfl) ?_
    refine s_y (v := .bool false) rfl (y_lss rfl rfl (decide_eq_false hk21)) ?_
    refine s_nil ?_
    refine W_if_f (by decide) rfl ?_
    refine W_skip ?_
    refine W_seq ?_
    refine W_region (by kernel_rfl) ?_
    refine s_y (v := .slice a1 n1 c1) rfl (y_move rfl) ?_
    refine s_y (v := .int .i64 (1048576 - ((nsp0 : Nat) : Int) - ((nls0 : Nat) : Int))) rfl (y_move rfl) ?_
    refine s_k rfl (k_call T7.fn_31 (c_l_szProbeS _ (by omega) (by omega) (by omega)) rfl ?_)
    rintro v24 w22 ⟨hv25, e23⟩
    have hB26 := hB15.ext0 e23
    have hS27 := hS16.ext0 e23
    have hS28 := hS17.ext0 e23
    have hS29 := hS18.ext0 e23
    have E30 := E19.fresh e23 (fun _ h _ => h.elim)
    by_cases c31 : ((n1 : Nat) : Int) ≤ 1048576 - ((nsp0 : Nat) : Int) - ((nls0 : Nat) : Int)
    · obtain rfl : v24 = .int .i64 ((1048576 - ((nsp0 : Nat) : Int) - ((nls0 : Nat) : Int)) - (n1 : Nat)) := hv25.trans (congrArg _ (if_pos c31))
      have hk32 : ¬ ((1048576 - ((nsp0 : Nat) : Int) - ((nls0 : Nat) : Int)) - (n1 : Nat)) < 0 := by omega
      refine s_y (v := .int .i64 ((1048576 - ((nsp0 : Nat) : Int) - ((nls0 : Nat) : Int)) - (n1 : Nat))) rfl (y_assign rfl) ?_
      refine s_nil ?_
      refine W_seq ?_
      refine W_seq ?_
      refine W_region (by kernel_rfl) ?_
      refine s_y (v := .int .i64 ((1048576 - ((nsp0 : Nat) : Int) - ((nls0 : Nat) : Int)) - (n1 : Nat))) rfl (y_move rfl) ?_
      refine s_y (v := .bool false) rfl (y_lss rfl rfl (decide_eq_false hk32)) ?_
      refine s_nil ?_
      refine W_if_f (by decide) rfl ?_
      refine W_skip ?_
      refine W_seq ?_
      refine W_region (by kernel_rfl) ?_
      refine s_y (v := .agg #[.int .i64 wd0, .int .i64 hi0, .bool wr0, .slice asp0 nsp0 csp0, .slice als0 nls0 cls0]) rfl (y_loadn (b := b1) (o := 0) (vs := [.int .i64 wd0, .int .i64 hi0, .bool wr0, .slice asp0 nsp0 csp0, .slice als0 nls0 cls0]) T7.agg_36_5 rfl rfl (hB26.cells (o := 0) rfl)) ?_
      refine s_k rfl (k_call T7.fn_23 (c_l_toSheet _ hS28 qlsp0 qksp0 hS29 qlls0 qkls0 (by omega) (by omega)) rfl ?_)
      rintro _ w33 ⟨⟨a35, c36, z37, a38, c39, z40, rfl, hO41, hl42, hc43, hO44, hl45, hc46, dj47⟩, e34⟩
      have hB48 := hB26.ext0 e34
      have hS49 := hS27.ext0 e34
      have hS50 := hS28.ext0 e34
      have hS51 := hS29.ext0 e34
      have E52 := E30.fresh e34 (fun _ h _ => h.elim)
      have d53 : ∀ k, inA a35 k → w22.heap.size ≤ k := fun kx hk => (hO41.blk kx hk).1
      have dj54 : inA a35 b1 → False := fun h => Nat.not_lt.2 (d53 _ h) hB26.lt
      have fr55 : ∀ k, inA a35 k → k < w.heap.size → False := fun kx h1 h2 => Nat.not_lt.2 (Nat.le_trans E30.size (d53 kx h1)) h2
      have hO56 := hO41.base E30.size
      have d57 : ∀ k, inA a38 k → w22.heap.size ≤ k := fun kx hk => (hO44.blk kx hk).1
      have dj58 : inA a38 b1 → False := fun h => Nat.not_lt.2 (d57 _ h) hB26.lt
      have fr59 : ∀ k, inA a38 k → k < w.heap.size → False := fun kx h1 h2 => Nat.not_lt.2 (Nat.le_trans E30.size (d57 kx h1)) h2
      have hO60 := hO44.base E30.size
      refine s_y (v := .slice a1 n1 c1) rfl (y_move rfl) ?_
      refine s_k rfl (k_call T7.fn_33 (c_l_toProbeS _ hS49 ql1 (by omega)) rfl ?_)
      rintro _ w61 ⟨⟨a63, rfl, hO64⟩, e62⟩
      have hB65 := hB48.ext0 e62
      have hS66 := hS49.ext0 e62
      have hS67 := hS50.ext0 e62
      have hS68 := hS51.ext0 e62
      have hO69 := hO56.ext0 e62
      have hO70 := hO60.ext0 e62
      have E71 := E52.fresh e62 (fun _ h _ => h.elim)
      have d72 : ∀ k, inA a63 k → w33.heap.size ≤ k := fun kx hk => (hO64.blk kx hk).1
      have dj73 : inA a63 b1 → False := fun h => Nat.not_lt.2 (d72 _ h) hB48.lt
      have dj74 : ∀ k, inA a35 k → inA a63 k → False := fun kx h1 h2 => Nat.not_lt.2 (d72 kx h2) (hO56.blk kx h1).2
      have dj75 : ∀ k, inA a38 k → inA a63 k → False := fun kx h1 h2 => Nat.not_lt.2 (d72 kx h2) (hO60.blk kx h1).2
      have fr76 : ∀ k, inA a63 k → k < w.heap.size → False := fun kx h1 h2 => Nat.not_lt.2 (Nat.le_trans E52.size (d72 kx h1)) h2
      have hO77 := hO64.base E52.size
      refine s_k rfl (k_call T7.fn_32 (c_s_AreProbes _ hO69.sl hl42 hc43 hO70.sl hl45 hc46 (by omega) (by omega) hO77.sl ql1) rfl ?_)
      rintro v80 w78 ⟨hv81, e79⟩
      have hB82 := hB65.ext0 e79
      have hS83 := hS66.ext0 e79
      have hS84 := hS67.ext0 e79
      have hS85 := hS68.ext0 e79
      have hO86 := hO69.ext0 e79
      have hO87 := hO70.ext0 e79
      have hO88 := hO77.ext0 e79
      have E89 := E71.fresh e79 (fun _ h _ => h.elim)
      by_cases c90 : areProbesB wd0 hi0 Xsp0 Xls0 x1 = true
      · have hb91 := areProbesB_b c90
        obtain rfl : v80 = .bool true := hv81.trans (congrArg Value.bool c90)
        refine s_y (v := .bool true) rfl (y_assign rfl) ?_
        refine s_nil ?_
        refine W_seq ?_
        refine W_region (by kernel_rfl) ?_
        refine s_y (v := .agg #[.int .i64 wd0, .int .i64 hi0, .bool wr0, .slice asp0 nsp0 csp0, .slice als0 nls0 cls0]) rfl (y_loadn (b := b1) (o := 0) (vs := [.int .i64 wd0, .int .i64 hi0, .bool wr0, .slice asp0 nsp0 csp0, .slice als0 nls0 cls0]) T7.agg_36_5 rfl rfl (hB82.cells (o := 0) rfl)) ?_
        refine s_k rfl (k_call T7.fn_23 (c_l_toSheet _ hS84 qlsp0 qksp0 hS85 qlls0 qkls0 (by omega) (by omega)) rfl ?_)
        rintro _ w92 ⟨⟨a94, c95, z96, a97, c98, z99, rfl, hO100, hl101, hc102, hO103, hl104, hc105, dj106⟩, e93⟩
        have hB107 := hB82.ext0 e93
        have hS108 := hS83.ext0 e93
        have hS109 := hS84.ext0 e93
        have hS110 := hS85.ext0 e93
        have hO111 := hO86.ext0 e93
        have hO112 := hO87.ext0 e93
        have hO113 := hO88.ext0 e93
        have E114 := E89.fresh e93 (fun _ h _ => h.elim)
        have d115 : ∀ k, inA a94 k → w78.heap.size ≤ k := fun kx hk => (hO100.blk kx hk).1
        have dj116 : inA a94 b1 → False := fun h => Nat.not_lt.2 (d115 _ h) hB82.lt
        have dj117 : ∀ k, inA a35 k → inA a94 k → False := fun kx h1 h2 => Nat.not_lt.2 (d115 kx h2) (hO86.blk kx h1).2
        have dj118 : ∀ k, inA a38 k → inA a94 k → False := fun kx h1 h2 => Nat.not_lt.2 (d115 kx h2) (hO87.blk kx h1).2
        have dj119 : ∀ k, inA a63 k → inA a94 k → False := fun kx h1 h2 => Nat.not_lt.2 (d115 kx h2) (hO88.blk kx h1).2
        have fr120 : ∀ k, inA a94 k → k < w.heap.size → False := fun kx h1 h2 => Nat.not_lt.2 (Nat.le_trans E89.size (d115 kx h1)) h2
        have hO121 := hO100.base E89.size
        have d122 : ∀ k, inA a97 k → w78.heap.size ≤ k := fun kx hk => (hO103.blk kx hk).1
        have dj123 : inA a97 b1 → False := fun h => Nat.not_lt.2 (d122 _ h) hB82.lt
        have dj124 : ∀ k, inA a35 k → inA a97 k → False := fun kx h1 h2 => Nat.not_lt.2 (d122 kx h2) (hO86.blk kx h1).2
        have dj125 : ∀ k, inA a38 k → inA a97 k → False := fun kx h1 h2 => Nat.not_lt.2 (d122 kx h2) (hO87.blk kx h1).2
        have dj126 : ∀ k, inA a63 k → inA a97 k → False := fun kx h1 h2 => Nat.not_lt.2 (d122 kx h2) (hO88.blk kx h1).2
        have fr127 : ∀ k, inA a97 k → k < w.heap.size → False := fun kx h1 h2 => Nat.not_lt.2 (Nat.le_trans E89.size (d122 kx h1)) h2
        have hO128 := hO103.base E89.size
        refine s_k rfl (k_alloc (z := (.agg #[.int .i64 0, .int .i64 0, .bool false, .slice none 0 0, .slice none 0 0])) (cs := [.int .i64 0, .int .i64 0, .bool false, .slice none 0 0, .slice none 0 0]) T7.zero_26 rfl (fun b129 w130 q132 e131 hB133 => ?_))
        have hB134 := hB107.ext0 e131
        have hS135 := hS108.ext0 e131
        have hS136 := hS109.ext0 e131
        have hS137 := hS110.ext0 e131
        have hO138 := hO111.ext0 e131
        have hO139 := hO112.ext0 e131
        have hO140 := hO113.ext0 e131
        have hO141 := hO121.ext0 e131
        have hO142 := hO128.ext0 e131
        have E143 := E114.fresh e131 (fun _ h _ => h.elim)
        have dj144 : NeB b1 b129 := fun h => Nat.ne_of_lt hB107.lt (h.trans q132)
        have dj145 : inA a35 b129 → False := fun h => Nat.ne_of_lt (hO111.blk _ h).2 q132
        have dj146 : inA a38 b129 → False := fun h => Nat.ne_of_lt (hO112.blk _ h).2 q132
        have dj147 : inA a63 b129 → False := fun h => Nat.ne_of_lt (hO113.blk _ h).2 q132
        have dj148 : inA a94 b129 → False := fun h => Nat.ne_of_lt (hO121.blk _ h).2 q132
        have dj149 : inA a97 b129 → False := fun h => Nat.ne_of_lt (hO128.blk _ h).2 q132
        have fr150 : NotLt b129 w.heap.size := fun h => Nat.not_lt.2 (Nat.le_trans E114.size (Nat.le_of_eq q132.symm)) h
        clear q132
        refine s_k0 rfl (k_store (v := .agg #[.int .i64 wd0, .int .i64 hi0, .bool wr0, .slice a94 nsp0 c95, .slice a97 nls0 c98]) (n := 5) (cs' := [.int .i64 wd0, .int .i64 hi0, .bool wr0, .slice a94 nsp0 c95, .slice a97 nls0 c98]) T7.sz_26_5 rfl rfl rfl hB133 (by simp [Value.cells, Value.oneCell']) (Nat.le_of_ble_eq_true rfl) rfl (fun w151 e152 z153 hB154 => ?_))
        clear z153
        have hB155 := hB134.ext e152 dj144
        have hS156 := hS135.extL lo_a1 e152 (fun kx (hs : kx = b129) hl => fr150 (hs ▸ hl))
        have hS157 := hS136.extL lo_asp0 e152 (fun kx (hs : kx = b129) hl => fr150 (hs ▸ hl))
        have hS158 := hS137.extL lo_als0 e152 (fun kx (hs : kx = b129) hl => fr150 (hs ▸ hl))
        have hO159 := hO138.ext e152 (fun kx hk (hs : kx = b129) => dj145 (hs ▸ hk))
        have hO160 := hO139.ext e152 (fun kx hk (hs : kx = b129) => dj146 (hs ▸ hk))
        have hO161 := hO140.ext e152 (fun kx hk (hs : kx = b129) => dj147 (hs ▸ hk))
        have hO162 := hO141.ext e152 (fun kx hk (hs : kx = b129) => dj148 (hs ▸ hk))
        have hO163 := hO142.ext e152 (fun kx hk (hs : kx = b129) => dj149 (hs ▸ hk))
        have E164 := E143.fresh e152 (fun kx (hs : kx = b129) hl => (fr150 (hs ▸ hl)).elim)
        refine s_nil ?_
        refine W_seq ?_
        refine W_region (by kernel_rfl) ?_
        refine s_y (v := .slice a1 n1 c1) rfl (y_move rfl) ?_
        refine s_k rfl (k_call T7.fn_33 (c_l_toProbeS _ hS156 ql1 (by omega)) rfl ?_)
        rintro _ w165 ⟨⟨a167, rfl, hO168⟩, e166⟩
        have hB169 := hB155.ext0 e166
        have hB170 := hB154.ext0 e166
        have hS171 := hS156.ext0 e166
        have hS172 := hS157.ext0 e166
        have hS173 := hS158.ext0 e166
        have hO174 := hO159.ext0 e166
        have hO175 := hO160.ext0 e166
        have hO176 := hO161.ext0 e166
        have hO177 := hO162.ext0 e166
        have hO178 := hO163.ext0 e166
        have E179 := E164.fresh e166 (fun _ h _ => h.elim)
        have d180 : ∀ k, inA a167 k → w151.heap.size ≤ k := fun kx hk => (hO168.blk kx hk).1
        have dj181 : inA a167 b1 → False := fun h => Nat.not_lt.2 (d180 _ h) hB155.lt
        have dj182 : inA a167 b129 → False := fun h => Nat.not_lt.2 (d180 _ h) hB154.lt
        have dj183 : ∀ k, inA a35 k → inA a167 k → False := fun kx h1 h2 => Nat.not_lt.2 (d180 kx h2) (hO159.blk kx h1).2
        have dj184 : ∀ k, inA a38 k → inA a167 k → False := fun kx h1 h2 => Nat.not_lt.2 (d180 kx h2) (hO160.blk kx h1).2
        have dj185 : ∀ k, inA a63 k → inA a167 k → False := fun kx h1 h2 => Nat.not_lt.2 (d180 kx h2) (hO161.blk kx h1).2
        have dj186 : ∀ k, inA a94 k → inA a167 k → False := fun kx h1 h2 => Nat.not_lt.2 (d180 kx h2) (hO162.blk kx h1).2
        have dj187 : ∀ k, inA a97 k → inA a167 k → False := fun kx h1 h2 => Nat.not_lt.2 (d180 kx h2) (hO163.blk kx h1).2
        have fr188 : ∀ k, inA a167 k → k < w.heap.size → False := fun kx h1 h2 => Nat.not_lt.2 (Nat.le_trans E164.size (d180 kx h1)) h2
        have hO189 := hO168.base E164.size
        refine s_y (v := .slice a167 n1 n1) rfl (y_assign rfl) ?_
        refine s_nil ?_
        refine W_seq ?_
        refine W_region (by kernel_rfl) ?_
        refine s_y (v := .agg #[.int .i64 wd0, .int .i64 hi0, .bool wr0, .slice a94 nsp0 c95, .slice a97 nls0 c98]) rfl (y_loadn (b := b129) (o := 0) (vs := [.int .i64 wd0, .int .i64 hi0, .bool wr0, .slice a94 nsp0 c95, .slice a97 nls0 c98]) T7.agg_26_5 rfl rfl (hB170.cells (o := 0) rfl)) ?_
        refine s_y (v := .slice a167 n1 n1) rfl (y_move rfl) ?_
        refine s_k rfl (k_call T7.fn_20 (c_i_AreProbes _ hO177.sl hl101 hc102 hO178.sl hl104 hc105 (by omega) (by omega) hO189.sl ql1) rfl ?_)
        rintro v192 w190 ⟨hv193, e191⟩
        have hB194 := hB169.ext0 e191
        have hB195 := hB170.ext0 e191
        have hS196 := hS171.ext0 e191
        have hS197 := hS172.ext0 e191
        have hS198 := hS173.ext0 e191
        have hO199 := hO174.ext0 e191
        have hO200 := hO175.ext0 e191
        have hO201 := hO176.ext0 e191
        have hO202 := hO177.ext0 e191
        have hO203 := hO178.ext0 e191
        have hO204 := hO189.ext0 e191
        have E205 := E179.fresh e191 (fun _ h _ => h.elim)
        obtain rfl : v192 = .bool true := hv193.trans (congrArg Value.bool c90)
        refine s_y (v := .bool true) rfl (y_assign rfl) ?_
        refine s_nil ?_
        refine W_seq ?_
        refine W_seq ?_
        refine W_region (by kernel_rfl) ?_
        refine s_y (v := .bool true) rfl (y_move rfl) ?_
        refine s_y (v := .bool true) rfl (y_move rfl) ?_
        refine s_y (v := .bool false) rfl (y_bneq T7.bool_4 rfl rfl rfl) ?_
        refine s_nil ?_
        refine W_if_f (by decide) rfl ?_
        refine W_skip ?_
        refine W_seq ?_
        refine W_seq ?_
        refine W_draw (no) T7.mx (by kernel_rfl) (fun w206 e207 => ?_)
        have hB208 := hB194.ext0 e207
        have hB209 := hB195.ext0 e207
        have hS210 := hS196.ext0 e207
        have hS211 := hS197.ext0 e207
        have hS212 := hS198.ext0 e207
        have hO213 := hO199.ext0 e207
        have hO214 := hO200.ext0 e207
        have hO215 := hO201.ext0 e207
        have hO216 := hO202.ext0 e207
        have hO217 := hO203.ext0 e207
        have hO218 := hO204.ext0 e207
        have E219 := E205.fresh e207 (fun _ h _ => h.elim)
        have R220 := (Ext.refl (no) w190).trans (Ext0.any e207)
        refine m_y (v := .agg #[.int .i64 wd0, .int .i64 hi0, .bool wr0, .slice a94 nsp0 c95, .slice a97 nls0 c98]) 0 rfl (by kernel_rfl) rfl rfl (fun w' e' => y_loadn (b := b129) (o := 0) (vs := [.int .i64 wd0, .int .i64 hi0, .bool wr0, .slice a94 nsp0 c95, .slice a97 nls0 c98]) T7.agg_26_5 rfl rfl ((hB195.ext0 e').cells (o := 0) rfl)) ?_
        refine m_y (v := .agg #[.int .i64 wd0, .int .i64 hi0, .bool wr0, .slice asp0 nsp0 csp0, .slice als0 nls0 cls0]) 1 rfl (by kernel_rfl) rfl rfl (fun w' e' => y_loadn (b := b1) (o := 0) (vs := [.int .i64 wd0, .int .i64 hi0, .bool wr0, .slice asp0 nsp0 csp0, .slice als0 nls0 cls0]) T7.agg_36_5 rfl rfl ((hB194.ext0 e').cells (o := 0) rfl)) ?_
        refine m_k 2 [3, 4] rfl (by kernel_rfl) rfl rfl (fun w221 e222 => ?_)
        have hB223 := hB208.ext0 e222
        have hB224 := hB209.ext0 e222
        have hS225 := hS210.ext0 e222
        have hS226 := hS211.ext0 e222
        have hS227 := hS212.ext0 e222
        have hO228 := hO213.ext0 e222
        have hO229 := hO214.ext0 e222
        have hO230 := hO215.ext0 e222
        have hO231 := hO216.ext0 e222
        have hO232 := hO217.ext0 e222
        have hO233 := hO218.ext0 e222
        have E234 := E219.fresh e222 (fun _ h _ => h.elim)
        have R235 := R220.trans (Ext0.any e222)
        refine k_call T7.fn_23 (c_l_toSheet _ hS226 qlsp0 qksp0 hS227 qlls0 qkls0 (by omega) (by omega)) rfl ?_
        rintro _ w236 ⟨⟨a238, c239, z240, a241, c242, z243, rfl, hO244, hl245, hc246, hO247, hl248, hc249, dj250⟩, e237⟩
        have hB251 := hB223.ext0 e237
        have hB252 := hB224.ext0 e237
        have hS253 := hS225.ext0 e237
        have hS254 := hS226.ext0 e237
        have hS255 := hS227.ext0 e237
        have hO256 := hO228.ext0 e237
        have hO257 := hO229.ext0 e237
        have hO258 := hO230.ext0 e237
        have hO259 := hO231.ext0 e237
        have hO260 := hO232.ext0 e237
        have hO261 := hO233.ext0 e237
        have E262 := E234.fresh e237 (fun _ h _ => h.elim)
        have R263 := R235.trans (Ext0.any e237)
        refine ⟨fun _ => R263, ?_⟩
        have d264 : ∀ k, inA a238 k → w221.heap.size ≤ k := fun kx hk => (hO244.blk kx hk).1
        have dj265 : inA a238 b1 → False := fun h => Nat.not_lt.2 (d264 _ h) hB223.lt
        have dj266 : inA a238 b129 → False := fun h => Nat.not_lt.2 (d264 _ h) hB224.lt
        have dj267 : ∀ k, inA a35 k → inA a238 k → False := fun kx h1 h2 => Nat.not_lt.2 (d264 kx h2) (hO228.blk kx h1).2
        have dj268 : ∀ k, inA a38 k → inA a238 k → False := fun kx h1 h2 => Nat.not_lt.2 (d264 kx h2) (hO229.blk kx h1).2
        have dj269 : ∀ k, inA a63 k → inA a238 k → False := fun kx h1 h2 => Nat.not_lt.2 (d264 kx h2) (hO230.blk kx h1).2
        have dj270 : ∀ k, inA a94 k → inA a238 k → False := fun kx h1 h2 => Nat.not_lt.2 (d264 kx h2) (hO231.blk kx h1).2
        have dj271 : ∀ k, inA a97 k → inA a238 k → False := fun kx h1 h2 => Nat.not_lt.2 (d264 kx h2) (hO232.blk kx h1).2
        have dj272 : ∀ k, inA a167 k → inA a238 k → False := fun kx h1 h2 => Nat.not_lt.2 (d264 kx h2) (hO233.blk kx h1).2
        have fr273 : ∀ k, inA a238 k → k < w.heap.size → False := fun kx h1 h2 => Nat.not_lt.2 (Nat.le_trans E234.size (d264 kx h1)) h2
        have hO274 := hO244.base E234.size
        have d275 : ∀ k, inA a241 k → w221.heap.size ≤ k := fun kx hk => (hO247.blk kx hk).1
        have dj276 : inA a241 b1 → False := fun h => Nat.not_lt.2 (d275 _ h) hB223.lt
        have dj277 : inA a241 b129 → False := fun h => Nat.not_lt.2 (d275 _ h) hB224.lt
        have dj278 : ∀ k, inA a35 k → inA a241 k → False := fun kx h1 h2 => Nat.not_lt.2 (d275 kx h2) (hO228.blk kx h1).2
        have dj279 : ∀ k, inA a38 k → inA a241 k → False := fun kx h1 h2 => Nat.not_lt.2 (d275 kx h2) (hO229.blk kx h1).2
        have dj280 : ∀ k, inA a63 k → inA a241 k → False := fun kx h1 h2 => Nat.not_lt.2 (d275 kx h2) (hO230.blk kx h1).2
        have dj281 : ∀ k, inA a94 k → inA a241 k → False := fun kx h1 h2 => Nat.not_lt.2 (d275 kx h2) (hO231.blk kx h1).2
        have dj282 : ∀ k, inA a97 k → inA a241 k → False := fun kx h1 h2 => Nat.not_lt.2 (d275 kx h2) (hO232.blk kx h1).2
        have dj283 : ∀ k, inA a167 k → inA a241 k → False := fun kx h1 h2 => Nat.not_lt.2 (d275 kx h2) (hO233.blk kx h1).2
        have fr284 : ∀ k, inA a241 k → k < w.heap.size → False := fun kx h1 h2 => Nat.not_lt.2 (Nat.le_trans E234.size (d275 kx h1)) h2
        have hO285 := hO247.base E234.size
        refine m_k 3 [4] rfl (by kernel_rfl) rfl rfl (fun w286 e287 => ?_)
        have hB288 := hB251.ext0 e287
        have hB289 := hB252.ext0 e287
        have hS290 := hS253.ext0 e287
        have hS291 := hS254.ext0 e287
        have hS292 := hS255.ext0 e287
        have hO293 := hO256.ext0 e287
        have hO294 := hO257.ext0 e287
        have hO295 := hO258.ext0 e287
        have hO296 := hO259.ext0 e287
        have hO297 := hO260.ext0 e287
        have hO298 := hO261.ext0 e287
        have hO299 := hO274.ext0 e287
        have hO300 := hO285.ext0 e287
        have E301 := E262.fresh e287 (fun _ h _ => h.elim)
        have R302 := R263.trans (Ext0.any e287)
        refine k_call T7.fn_25 (c_l_eqSheet _ hO296.sl hl101 hc102 hO299.sl hl245 hc246 (by omega) hO297.sl hl104 hc105 hO300.sl hl248 hc249 (by omega)) rfl ?_
        rintro _ w303 ⟨rfl, e304⟩
        have hB305 := hB288.ext0 e304
        have hB306 := hB289.ext0 e304
        have hS307 := hS290.ext0 e304
        have hS308 := hS291.ext0 e304
        have hS309 := hS292.ext0 e304
        have hO310 := hO293.ext0 e304
        have hO311 := hO294.ext0 e304
        have hO312 := hO295.ext0 e304
        have hO313 := hO296.ext0 e304
        have hO314 := hO297.ext0 e304
        have hO315 := hO298.ext0 e304
        have hO316 := hO299.ext0 e304
        have hO317 := hO300.ext0 e304
        have E318 := E301.fresh e304 (fun _ h _ => h.elim)
        have R319 := R302.trans (Ext0.any e304)
        refine ⟨fun _ => R319, ?_⟩
        refine m_y (v := .bool false) 4 rfl (by kernel_rfl) rfl rfl (fun w' e' => y_not rfl rfl) ?_
        refine m_done (by kernel_rfl) (fun w320 e321 => ?_)
        have hB322 := hB305.ext0 e321
        have hB323 := hB306.ext0 e321
        have hS324 := hS307.ext0 e321
        have hS325 := hS308.ext0 e321
        have hS326 := hS309.ext0 e321
        have hO327 := hO310.ext0 e321
        have hO328 := hO311.ext0 e321
        have hO329 := hO312.ext0 e321
        have hO330 := hO313.ext0 e321
        have hO331 := hO314.ext0 e321
        have hO332 := hO315.ext0 e321
        have hO333 := hO316.ext0 e321
        have hO334 := hO317.ext0 e321
        have E335 := E318.fresh e321 (fun _ h _ => h.elim)
        have R336 := R319.trans (Ext0.any e321)
        refine W_if_f (by decide) rfl ?_
        refine W_skip ?_
        refine W_seq ?_
        refine W_seq ?_
        refine W_region (by kernel_rfl) ?_
        refine s_y (v := .slice a167 n1 n1) rfl (y_move rfl) ?_
        refine s_y (v := .slice a1 n1 c1) rfl (y_move rfl) ?_
        refine s_k rfl (k_call T7.fn_33 (c_l_toProbeS _ hS324 ql1 (by omega)) rfl ?_)
        rintro _ w337 ⟨⟨a339, rfl, hO340⟩, e338⟩
        have hB341 := hB322.ext0 e338
        have hB342 := hB323.ext0 e338
        have hS343 := hS324.ext0 e338
        have hS344 := hS325.ext0 e338
        have hS345 := hS326.ext0 e338
        have hO346 := hO327.ext0 e338
        have hO347 := hO328.ext0 e338
        have hO348 := hO329.ext0 e338
        have hO349 := hO330.ext0 e338
        have hO350 := hO331.ext0 e338
        have hO351 := hO332.ext0 e338
        have hO352 := hO333.ext0 e338
        have hO353 := hO334.ext0 e338
        have E354 := E335.fresh e338 (fun _ h _ => h.elim)
        have d355 : ∀ k, inA a339 k → w320.heap.size ≤ k := fun kx hk => (hO340.blk kx hk).1
        have dj356 : inA a339 b1 → False := fun h => Nat.not_lt.2 (d355 _ h) hB322.lt
        have dj357 : inA a339 b129 → False := fun h => Nat.not_lt.2 (d355 _ h) hB323.lt
        have dj358 : ∀ k, inA a35 k → inA a339 k → False := fun kx h1 h2 => Nat.not_lt.2 (d355 kx h2) (hO327.blk kx h1).2
        have dj359 : ∀ k, inA a38 k → inA a339 k → False := fun kx h1 h2 => Nat.not_lt.2 (d355 kx h2) (hO328.blk kx h1).2
        have dj360 : ∀ k, inA a63 k → inA a339 k → False := fun kx h1 h2 => Nat.not_lt.2 (d355 kx h2) (hO329.blk kx h1).2
        have dj361 : ∀ k, inA a94 k → inA a339 k → False := fun kx h1 h2 => Nat.not_lt.2 (d355 kx h2) (hO330.blk kx h1).2
        have dj362 : ∀ k, inA a97 k → inA a339 k → False := fun kx h1 h2 => Nat.not_lt.2 (d355 kx h2) (hO331.blk kx h1).2
        have dj363 : ∀ k, inA a167 k → inA a339 k → False := fun kx h1 h2 => Nat.not_lt.2 (d355 kx h2) (hO332.blk kx h1).2
        have dj364 : ∀ k, inA a238 k → inA a339 k → False := fun kx h1 h2 => Nat.not_lt.2 (d355 kx h2) (hO333.blk kx h1).2
        have dj365 : ∀ k, inA a241 k → inA a339 k → False := fun kx h1 h2 => Nat.not_lt.2 (d355 kx h2) (hO334.blk kx h1).2
        have fr366 : ∀ k, inA a339 k → k < w.heap.size → False := fun kx h1 h2 => Nat.not_lt.2 (Nat.le_trans E335.size (d355 kx h1)) h2
        have hO367 := hO340.base E335.size
        refine s_k rfl (k_call T7.fn_34 (c_l_eqProbeS _ hO351.sl ql1 hO367.sl ql1 (by omega)) rfl ?_)
        rintro _ w368 ⟨rfl, e369⟩
        have hB370 := hB341.ext0 e369
        have hB371 := hB342.ext0 e369
        have hS372 := hS343.ext0 e369
        have hS373 := hS344.ext0 e369
        have hS374 := hS345.ext0 e369
        have hO375 := hO346.ext0 e369
        have hO376 := hO347.ext0 e369
        have hO377 := hO348.ext0 e369
        have hO378 := hO349.ext0 e369
        have hO379 := hO350.ext0 e369
        have hO380 := hO351.ext0 e369
        have hO381 := hO352.ext0 e369
        have hO382 := hO353.ext0 e369
        have hO383 := hO367.ext0 e369
        have E384 := E354.fresh e369 (fun _ h _ => h.elim)
        refine s_y (v := .bool false) rfl (y_not rfl rfl) ?_
        refine s_nil ?_
        refine W_if_f (by decide) rfl ?_
        refine W_skip ?_
        refine W_seq ?_
        refine W_region (by kernel_rfl) ?_
        refine s_y (v := .bool true) rfl (y_assign rfl) ?_
        refine s_nil ?_
        refine W_ret ?_
        refine ret1 rfl rfl rfl ⟨_, rfl, ?_⟩
        exact ⟨rfl, E384⟩
      · obtain rfl : v80 = .bool false := hv81.trans (congrArg Value.bool (Bool.eq_false_iff.2 c90))
        refine s_y (v := .bool false) rfl (y_assign rfl) ?_
        refine s_nil ?_
        refine W_seq ?_
        refine W_region (by kernel_rfl) ?_
        refine s_y (v := .agg #[.int .i64 wd0, .int .i64 hi0, .bool wr0, .slice asp0 nsp0 csp0, .slice als0 nls0 cls0]) rfl (y_loadn (b := b1) (o := 0) (vs := [.int .i64 wd0, .int .i64 hi0, .bool wr0, .slice asp0 nsp0 csp0, .slice als0 nls0 cls0]) T7.agg_36_5 rfl rfl (hB82.cells (o := 0) rfl)) ?_
        refine s_k rfl (k_call T7.fn_23 (c_l_toSheet _ hS84 qlsp0 qksp0 hS85 qlls0 qkls0 (by omega) (by omega)) rfl ?_)
        rintro _ w385 ⟨⟨a387, c388, z389, a390, c391, z392, rfl, hO393, hl394, hc395, hO396, hl397, hc398, dj399⟩, e386⟩
        have hB400 := hB82.ext0 e386
        have hS401 := hS83.ext0 e386
        have hS402 := hS84.ext0 e386
        have hS403 := hS85.ext0 e386
        have hO404 := hO86.ext0 e386
        have hO405 := hO87.ext0 e386
        have hO406 := hO88.ext0 e386
        have E407 := E89.fresh e386 (fun _ h _ => h.elim)
        have d408 : ∀ k, inA a387 k → w78.heap.size ≤ k := fun kx hk => (hO393.blk kx hk).1
        have dj409 : inA a387 b1 → False := fun h => Nat.not_lt.2 (d408 _ h) hB82.lt
        have dj410 : ∀ k, inA a35 k → inA a387 k → False := fun kx h1 h2 => Nat.not_lt.2 (d408 kx h2) (hO86.blk kx h1).2
        have dj411 : ∀ k, inA a38 k → inA a387 k → False := fun kx h1 h2 => Nat.not_lt.2 (d408 kx h2) (hO87.blk kx h1).2
        have dj412 : ∀ k, inA a63 k → inA a387 k → False := fun kx h1 h2 => Nat.not_lt.2 (d408 kx h2) (hO88.blk kx h1).2
        have fr413 : ∀ k, inA a387 k → k < w.heap.size → False := fun kx h1 h2 => Nat.not_lt.2 (Nat.le_trans E89.size (d408 kx h1)) h2
        have hO414 := hO393.base E89.size
        have d415 : ∀ k, inA a390 k → w78.heap.size ≤ k := fun kx hk => (hO396.blk kx hk).1
        have dj416 : inA a390 b1 → False := fun h => Nat.not_lt.2 (d415 _ h) hB82.lt
        have dj417 : ∀ k, inA a35 k → inA a390 k → False := fun kx h1 h2 => Nat.not_lt.2 (d415 kx h2) (hO86.blk kx h1).2
        have dj418 : ∀ k, inA a38 k → inA a390 k → False := fun kx h1 h2 => Nat.not_lt.2 (d415 kx h2) (hO87.blk kx h1).2
        have dj419 : ∀ k, inA a63 k → inA a390 k → False := fun kx h1 h2 => Nat.not_lt.2 (d415 kx h2) (hO88.blk kx h1).2
        have fr420 : ∀ k, inA a390 k → k < w.heap.size → False := fun kx h1 h2 => Nat.not_lt.2 (Nat.le_trans E89.size (d415 kx h1)) h2
        have hO421 := hO396.base E89.size
        refine s_k rfl (k_alloc (z := (.agg #[.int .i64 0, .int .i64 0, .bool false, .slice none 0 0, .slice none 0 0])) (cs := [.int .i64 0, .int .i64 0, .bool false, .slice none 0 0, .slice none 0 0]) T7.zero_26 rfl (fun b422 w423 q425 e424 hB426 => ?_))
        have hB427 := hB400.ext0 e424
        have hS428 := hS401.ext0 e424
        have hS429 := hS402.ext0 e424
        have hS430 := hS403.ext0 e424
        have hO431 := hO404.ext0 e424
        have hO432 := hO405.ext0 e424
        have hO433 := hO406.ext0 e424
        have hO434 := hO414.ext0 e424
        have hO435 := hO421.ext0 e424
        have E436 := E407.fresh e424 (fun _ h _ => h.elim)
        have dj437 : NeB b1 b422 := fun h => Nat.ne_of_lt hB400.lt (h.trans q425)
        have dj438 : inA a35 b422 → False := fun h => Nat.ne_of_lt (hO404.blk _ h).2 q425
        have dj439 : inA a38 b422 → False := fun h => Nat.ne_of_lt (hO405.blk _ h).2 q425
        have dj440 : inA a63 b422 → False := fun h => Nat.ne_of_lt (hO406.blk _ h).2 q425
        have dj441 : inA a387 b422 → False := fun h => Nat.ne_of_lt (hO414.blk _ h).2 q425
        have dj442 : inA a390 b422 → False := fun h => Nat.ne_of_lt (hO421.blk _ h).2 q425
        have fr443 : NotLt b422 w.heap.size := fun h => Nat.not_lt.2 (Nat.le_trans E407.size (Nat.le_of_eq q425.symm)) h
        clear q425
        refine s_k0 rfl (k_store (v := .agg #[.int .i64 wd0, .int .i64 hi0, .bool wr0, .slice a387 nsp0 c388, .slice a390 nls0 c391]) (n := 5) (cs' := [.int .i64 wd0, .int .i64 hi0, .bool wr0, .slice a387 nsp0 c388, .slice a390 nls0 c391]) T7.sz_26_5 rfl rfl rfl hB426 (by simp [Value.cells, Value.oneCell']) (Nat.le_of_ble_eq_true rfl) rfl (fun w444 e445 z446 hB447 => ?_))
        clear z446
        have hB448 := hB427.ext e445 dj437
        have hS449 := hS428.extL lo_a1 e445 (fun kx (hs : kx = b422) hl => fr443 (hs ▸ hl))
        have hS450 := hS429.extL lo_asp0 e445 (fun kx (hs : kx = b422) hl => fr443 (hs ▸ hl))
        have hS451 := hS430.extL lo_als0 e445 (fun kx (hs : kx = b422) hl => fr443 (hs ▸ hl))
        have hO452 := hO431.ext e445 (fun kx hk (hs : kx = b422) => dj438 (hs ▸ hk))
        have hO453 := hO432.ext e445 (fun kx hk (hs : kx = b422) => dj439 (hs ▸ hk))
        have hO454 := hO433.ext e445 (fun kx hk (hs : kx = b422) => dj440 (hs ▸ hk))
        have hO455 := hO434.ext e445 (fun kx hk (hs : kx = b422) => dj441 (hs ▸ hk))
        have hO456 := hO435.ext e445 (fun kx hk (hs : kx = b422) => dj442 (hs ▸ hk))
        have E457 := E436.fresh e445 (fun kx (hs : kx = b422) hl => (fr443 (hs ▸ hl)).elim)
        refine s_nil ?_
        refine W_seq ?_
        refine W_region (by kernel_rfl) ?_
        refine s_y (v := .slice a1 n1 c1) rfl (y_move rfl) ?_
        refine s_k rfl (k_call T7.fn_33 (c_l_toProbeS _ hS449 ql1 (by omega)) rfl ?_)
        rintro _ w458 ⟨⟨a460, rfl, hO461⟩, e459⟩
        have hB462 := hB448.ext0 e459
        have hB463 := hB447.ext0 e459
        have hS464 := hS449.ext0 e459
        have hS465 := hS450.ext0 e459
        have hS466 := hS451.ext0 e459
        have hO467 := hO452.ext0 e459
        have hO468 := hO453.ext0 e459
        have hO469 := hO454.ext0 e459
        have hO470 := hO455.ext0 e459
        have hO471 := hO456.ext0 e459
        have E472 := E457.fresh e459 (fun _ h _ => h.elim)
        have d473 : ∀ k, inA a460 k → w444.heap.size ≤ k := fun kx hk => (hO461.blk kx hk).1
        have dj474 : inA a460 b1 → False := fun h => Nat.not_lt.2 (d473 _ h) hB448.lt
        have dj475 : inA a460 b422 → False := fun h => Nat.not_lt.2 (d473 _ h) hB447.lt
        have dj476 : ∀ k, inA a35 k → inA a460 k → False := fun kx h1 h2 => Nat.not_lt.2 (d473 kx h2) (hO452.blk kx h1).2
        have dj477 : ∀ k, inA a38 k → inA a460 k → False := fun kx h1 h2 => Nat.not_lt.2 (d473 kx h2) (hO453.blk kx h1).2
        have dj478 : ∀ k, inA a63 k → inA a460 k → False := fun kx h1 h2 => Nat.not_lt.2 (d473 kx h2) (hO454.blk kx h1).2
        have dj479 : ∀ k, inA a387 k → inA a460 k → False := fun kx h1 h2 => Nat.not_lt.2 (d473 kx h2) (hO455.blk kx h1).2
        have dj480 : ∀ k, inA a390 k → inA a460 k → False := fun kx h1 h2 => Nat.not_lt.2 (d473 kx h2) (hO456.blk kx h1).2
        have fr481 : ∀ k, inA a460 k → k < w.heap.size → False := fun kx h1 h2 => Nat.not_lt.2 (Nat.le_trans E457.size (d473 kx h1)) h2
        have hO482 := hO461.base E457.size
        refine s_y (v := .slice a460 n1 n1) rfl (y_assign rfl) ?_
        refine s_nil ?_
        refine W_seq ?_
        refine W_region (by kernel_rfl) ?_
        refine s_y (v := .agg #[.int .i64 wd0, .int .i64 hi0, .bool wr0, .slice a387 nsp0 c388, .slice a390 nls0 c391]) rfl (y_loadn (b := b422) (o := 0) (vs := [.int .i64 wd0, .int .i64 hi0, .bool wr0, .slice a387 nsp0 c388, .slice a390 nls0 c391]) T7.agg_26_5 rfl rfl (hB463.cells (o := 0) rfl)) ?_
        refine s_y (v := .slice a460 n1 n1) rfl (y_move rfl) ?_
        refine s_k rfl (k_call T7.fn_20 (c_i_AreProbes _ hO470.sl hl394 hc395 hO471.sl hl397 hc398 (by omega) (by omega) hO482.sl ql1) rfl ?_)
        rintro v485 w483 ⟨hv486, e484⟩
        have hB487 := hB462.ext0 e484
        have hB488 := hB463.ext0 e484
        have hS489 := hS464.ext0 e484
        have hS490 := hS465.ext0 e484
        have hS491 := hS466.ext0 e484
        have hO492 := hO467.ext0 e484
        have hO493 := hO468.ext0 e484
        have hO494 := hO469.ext0 e484
        have hO495 := hO470.ext0 e484
        have hO496 := hO471.ext0 e484
        have hO497 := hO482.ext0 e484
        have E498 := E472.fresh e484 (fun _ h _ => h.elim)
        obtain rfl : v485 = .bool false := hv486.trans (congrArg Value.bool (Bool.eq_false_iff.2 c90))
        refine s_y (v := .bool false) rfl (y_assign rfl) ?_
        refine s_nil ?_
        refine W_seq ?_
        refine W_seq ?_
        refine W_region (by kernel_rfl) ?_
        refine s_y (v := .bool false) rfl (y_move rfl) ?_
        refine s_y (v := .bool false) rfl (y_move rfl) ?_
        refine s_y (v := .bool false) rfl (y_bneq T7.bool_4 rfl rfl rfl) ?_
        refine s_nil ?_
        refine W_if_f (by decide) rfl ?_
        refine W_skip ?_
        refine W_seq ?_
        refine W_seq ?_
        refine W_draw (no) T7.mx (by kernel_rfl) (fun w499 e500 => ?_)
        have hB501 := hB487.ext0 e500
        have hB502 := hB488.ext0 e500
        have hS503 := hS489.ext0 e500
        have hS504 := hS490.ext0 e500
        have hS505 := hS491.ext0 e500
        have hO506 := hO492.ext0 e500
        have hO507 := hO493.ext0 e500
        have hO508 := hO494.ext0 e500
        have hO509 := hO495.ext0 e500
        have hO510 := hO496.ext0 e500
        have hO511 := hO497.ext0 e500
        have E512 := E498.fresh e500 (fun _ h _ => h.elim)
        have R513 := (Ext.refl (no) w483).trans (Ext0.any e500)
        refine m_y (v := .agg #[.int .i64 wd0, .int .i64 hi0, .bool wr0, .slice a387 nsp0 c388, .slice a390 nls0 c391]) 0 rfl (by kernel_rfl) rfl rfl (fun w' e' => y_loadn (b := b422) (o := 0) (vs := [.int .i64 wd0, .int .i64 hi0, .bool wr0, .slice a387 nsp0 c388, .slice a390 nls0 c391]) T7.agg_26_5 rfl rfl ((hB488.ext0 e').cells (o := 0) rfl)) ?_
        refine m_y (v := .agg #[.int .i64 wd0, .int .i64 hi0, .bool wr0, .slice asp0 nsp0 csp0, .slice als0 nls0 cls0]) 1 rfl (by kernel_rfl) rfl rfl (fun w' e' => y_loadn (b := b1) (o := 0) (vs := [.int .i64 wd0, .int .i64 hi0, .bool wr0, .slice asp0 nsp0 csp0, .slice als0 nls0 cls0]) T7.agg_36_5 rfl rfl ((hB487.ext0 e').cells (o := 0) rfl)) ?_
        refine m_k 2 [3, 4] rfl (by kernel_rfl) rfl rfl (fun w514 e515 => ?_)
        have hB516 := hB501.ext0 e515
        have hB517 := hB502.ext0 e515
        have hS518 := hS503.ext0 e515
        have hS519 := hS504.ext0 e515
        have hS520 := hS505.ext0 e515
        have hO521 := hO506.ext0 e515
        have hO522 := hO507.ext0 e515
        have hO523 := hO508.ext0 e515
        have hO524 := hO509.ext0 e515
        have hO525 := hO510.ext0 e515
        have hO526 := hO511.ext0 e515
        have E527 := E512.fresh e515 (fun _ h _ => h.elim)
        have R528 := R513.trans (Ext0.any e515)
        refine k_call T7.fn_23 (c_l_toSheet _ hS519 qlsp0 qksp0 hS520 qlls0 qkls0 (by omega) (by omega)) rfl ?_
        rintro _ w529 ⟨⟨a531, c532, z533, a534, c535, z536, rfl, hO537, hl538, hc539, hO540, hl541, hc542, dj543⟩, e530⟩
        have hB544 := hB516.ext0 e530
        have hB545 := hB517.ext0 e530
        have hS546 := hS518.ext0 e530
        have hS547 := hS519.ext0 e530
        have hS548 := hS520.ext0 e530
        have hO549 := hO521.ext0 e530
        have hO550 := hO522.ext0 e530
        have hO551 := hO523.ext0 e530
        have hO552 := hO524.ext0 e530
        have hO553 := hO525.ext0 e530
        have hO554 := hO526.ext0 e530
        have E555 := E527.fresh e530 (fun _ h _ => h.elim)
        have R556 := R528.trans (Ext0.any e530)
        refine ⟨fun _ => R556, ?_⟩
        have d557 : ∀ k, inA a531 k → w514.heap.size ≤ k := fun kx hk => (hO537.blk kx hk).1
        have dj558 : inA a531 b1 → False := fun h => Nat.not_lt.2 (d557 _ h) hB516.lt
        have dj559 : inA a531 b422 → False := fun h => Nat.not_lt.2 (d557 _ h) hB517.lt
        have dj560 : ∀ k, inA a35 k → inA a531 k → False := fun kx h1 h2 => Nat.not_lt.2 (d557 kx h2) (hO521.blk kx h1).2
        have dj561 : ∀ k, inA a38 k → inA a531 k → False := fun kx h1 h2 => Nat.not_lt.2 (d557 kx h2) (hO522.blk kx h1).2
        have dj562 : ∀ k, inA a63 k → inA a531 k → False := fun kx h1 h2 => Nat.not_lt.2 (d557 kx h2) (hO523.blk kx h1).2
        have dj563 : ∀ k, inA a387 k → inA a531 k → False := fun kx h1 h2 => Nat.not_lt.2 (d557 kx h2) (hO524.blk kx h1).2
        have dj564 : ∀ k, inA a390 k → inA a531 k → False := fun kx h1 h2 => Nat.not_lt.2 (d557 kx h2) (hO525.blk kx h1).2
        have dj565 : ∀ k, inA a460 k → inA a531 k → False := fun kx h1 h2 => Nat.not_lt.2 (d557 kx h2) (hO526.blk kx h1).2
        have fr566 : ∀ k, inA a531 k → k < w.heap.size → False := fun kx h1 h2 => Nat.not_lt.2 (Nat.le_trans E527.size (d557 kx h1)) h2
        have hO567 := hO537.base E527.size
        have d568 : ∀ k, inA a534 k → w514.heap.size ≤ k := fun kx hk => (hO540.blk kx hk).1
        have dj569 : inA a534 b1 → False := fun h => Nat.not_lt.2 (d568 _ h) hB516.lt
        have dj570 : inA a534 b422 → False := fun h => Nat.not_lt.2 (d568 _ h) hB517.lt
        have dj571 : ∀ k, inA a35 k → inA a534 k → False := fun kx h1 h2 => Nat.not_lt.2 (d568 kx h2) (hO521.blk kx h1).2
        have dj572 : ∀ k, inA a38 k → inA a534 k → False := fun kx h1 h2 => Nat.not_lt.2 (d568 kx h2) (hO522.blk kx h1).2
        have dj573 : ∀ k, inA a63 k → inA a534 k → False := fun kx h1 h2 => Nat.not_lt.2 (d568 kx h2) (hO523.blk kx h1).2
        have dj574 : ∀ k, inA a387 k → inA a534 k → False := fun kx h1 h2 => Nat.not_lt.2 (d568 kx h2) (hO524.blk kx h1).2
        have dj575 : ∀ k, inA a390 k → inA a534 k → False := fun kx h1 h2 => Nat.not_lt.2 (d568 kx h2) (hO525.blk kx h1).2
        have dj576 : ∀ k, inA a460 k → inA a534 k → False := fun kx h1 h2 => Nat.not_lt.2 (d568 kx h2) (hO526.blk kx h1).2
        have fr577 : ∀ k, inA a534 k → k < w.heap.size → False := fun kx h1 h2 => Nat.not_lt.2 (Nat.le_trans E527.size (d568 kx h1)) h2
        have hO578 := hO540.base E527.size
        refine m_k 3 [4] rfl (by kernel_rfl) rfl rfl (fun w579 e580 => ?_)
        have hB581 := hB544.ext0 e580
        have hB582 := hB545.ext0 e580
        have hS583 := hS546.ext0 e580
        have hS584 := hS547.ext0 e580
        have hS585 := hS548.ext0 e580
        have hO586 := hO549.ext0 e580
        have hO587 := hO550.ext0 e580
        have hO588 := hO551.ext0 e580
        have hO589 := hO552.ext0 e580
        have hO590 := hO553.ext0 e580
        have hO591 := hO554.ext0 e580
        have hO592 := hO567.ext0 e580
        have hO593 := hO578.ext0 e580
        have E594 := E555.fresh e580 (fun _ h _ => h.elim)
        have R595 := R556.trans (Ext0.any e580)
        refine k_call T7.fn_25 (c_l_eqSheet _ hO589.sl hl394 hc395 hO592.sl hl538 hc539 (by omega) hO590.sl hl397 hc398 hO593.sl hl541 hc542 (by omega)) rfl ?_
        rintro _ w596 ⟨rfl, e597⟩
        have hB598 := hB581.ext0 e597
        have hB599 := hB582.ext0 e597
        have hS600 := hS583.ext0 e597
        have hS601 := hS584.ext0 e597
        have hS602 := hS585.ext0 e597
        have hO603 := hO586.ext0 e597
        have hO604 := hO587.ext0 e597
        have hO605 := hO588.ext0 e597
        have hO606 := hO589.ext0 e597
        have hO607 := hO590.ext0 e597
        have hO608 := hO591.ext0 e597
        have hO609 := hO592.ext0 e597
        have hO610 := hO593.ext0 e597
        have E611 := E594.fresh e597 (fun _ h _ => h.elim)
        have R612 := R595.trans (Ext0.any e597)
        refine ⟨fun _ => R612, ?_⟩
        refine m_y (v := .bool false) 4 rfl (by kernel_rfl) rfl rfl (fun w' e' => y_not rfl rfl) ?_
        refine m_done (by kernel_rfl) (fun w613 e614 => ?_)
        have hB615 := hB598.ext0 e614
        have hB616 := hB599.ext0 e614
        have hS617 := hS600.ext0 e614
        have hS618 := hS601.ext0 e614
        have hS619 := hS602.ext0 e614
        have hO620 := hO603.ext0 e614
        have hO621 := hO604.ext0 e614
        have hO622 := hO605.ext0 e614
        have hO623 := hO606.ext0 e614
        have hO624 := hO607.ext0 e614
        have hO625 := hO608.ext0 e614
        have hO626 := hO609.ext0 e614
        have hO627 := hO610.ext0 e614
        have E628 := E611.fresh e614 (fun _ h _ => h.elim)
        have R629 := R612.trans (Ext0.any e614)
        refine W_if_f (by decide) rfl ?_
        refine W_skip ?_
        refine W_seq ?_
        refine W_seq ?_
        refine W_region (by kernel_rfl) ?_
        refine s_y (v := .slice a460 n1 n1) rfl (y_move rfl) ?_
        refine s_y (v := .slice a1 n1 c1) rfl (y_move rfl) ?_
        refine s_k rfl (k_call T7.fn_33 (c_l_toProbeS _ hS617 ql1 (by omega)) rfl ?_)
        rintro _ w630 ⟨⟨a632, rfl, hO633⟩, e631⟩
        have hB634 := hB615.ext0 e631
        have hB635 := hB616.ext0 e631
        have hS636 := hS617.ext0 e631
        have hS637 := hS618.ext0 e631
        have hS638 := hS619.ext0 e631
        have hO639 := hO620.ext0 e631
        have hO640 := hO621.ext0 e631
        have hO641 := hO622.ext0 e631
        have hO642 := hO623.ext0 e631
        have hO643 := hO624.ext0 e631
        have hO644 := hO625.ext0 e631
        have hO645 := hO626.ext0 e631
        have hO646 := hO627.ext0 e631
        have E647 := E628.fresh e631 (fun _ h _ => h.elim)
        have d648 : ∀ k, inA a632 k → w613.heap.size ≤ k := fun kx hk => (hO633.blk kx hk).1
        have dj649 : inA a632 b1 → False := fun h => Nat.not_lt.2 (d648 _ h) hB615.lt
        have dj650 : inA a632 b422 → False := fun h => Nat.not_lt.2 (d648 _ h) hB616.lt
        have dj651 : ∀ k, inA a35 k → inA a632 k → False := fun kx h1 h2 => Nat.not_lt.2 (d648 kx h2) (hO620.blk kx h1).2
        have dj652 : ∀ k, inA a38 k → inA a632 k → False := fun kx h1 h2 => Nat.not_lt.2 (d648 kx h2) (hO621.blk kx h1).2
        have dj653 : ∀ k, inA a63 k → inA a632 k → False := fun kx h1 h2 => Nat.not_lt.2 (d648 kx h2) (hO622.blk kx h1).2
        have dj654 : ∀ k, inA a387 k → inA a632 k → False := fun kx h1 h2 => Nat.not_lt.2 (d648 kx h2) (hO623.blk kx h1).2
        have dj655 : ∀ k, inA a390 k → inA a632 k → False := fun kx h1 h2 => Nat.not_lt.2 (d648 kx h2) (hO624.blk kx h1).2
        have dj656 : ∀ k, inA a460 k → inA a632 k → False := fun kx h1 h2 => Nat.not_lt.2 (d648 kx h2) (hO625.blk kx h1).2
        have dj657 : ∀ k, inA a531 k → inA a632 k → False := fun kx h1 h2 => Nat.not_lt.2 (d648 kx h2) (hO626.blk kx h1).2
        have dj658 : ∀ k, inA a534 k → inA a632 k → False := fun kx h1 h2 => Nat.not_lt.2 (d648 kx h2) (hO627.blk kx h1).2
        have fr659 : ∀ k, inA a632 k → k < w.heap.size → False := fun kx h1 h2 => Nat.not_lt.2 (Nat.le_trans E628.size (d648 kx h1)) h2
        have hO660 := hO633.base E628.size
        refine s_k rfl (k_call T7.fn_34 (c_l_eqProbeS _ hO644.sl ql1 hO660.sl ql1 (by omega)) rfl ?_)
        rintro _ w661 ⟨rfl, e662⟩
        have hB663 := hB634.ext0 e662
        have hB664 := hB635.ext0 e662
        have hS665 := hS636.ext0 e662
        have hS666 := hS637.ext0 e662
        have hS667 := hS638.ext0 e662
        have hO668 := hO639.ext0 e662
        have hO669 := hO640.ext0 e662
        have hO670 := hO641.ext0 e662
        have hO671 := hO642.ext0 e662
        have hO672 := hO643.ext0 e662
        have hO673 := hO644.ext0 e662
        have hO674 := hO645.ext0 e662
        have hO675 := hO646.ext0 e662
        have hO676 := hO660.ext0 e662
        have E677 := E647.fresh e662 (fun _ h _ => h.elim)
        refine s_y (v := .bool false) rfl (y_not rfl rfl) ?_
        refine s_nil ?_
        refine W_if_f (by decide) rfl ?_
        refine W_skip ?_
        refine W_seq ?_
        refine W_region (by kernel_rfl) ?_
        refine s_y (v := .bool true) rfl (y_assign rfl) ?_
        refine s_nil ?_
        refine W_ret ?_
        refine ret1 rfl rfl rfl ⟨_, rfl, ?_⟩
        exact ⟨rfl, E677⟩
    · obtain rfl : v24 = .int .i64 (-1) := hv25.trans (congrArg _ (if_neg c31))
      refine s_y (v := .int .i64 (-1)) rfl (y_assign rfl) ?_
      refine s_nil ?_
      refine W_seq ?_
      refine W_seq ?_
      refine W_region (by kernel_rfl) ?_
      refine s_y (v := .int .i64 (-1)) rfl (y_move rfl) ?_
      have hk678 : (-1 : Int) < 0 := (by decide)
      refine s_y (v := .bool true) rfl (y_lss rfl rfl (decide_eq_true hk678)) ?_
      refine s_nil ?_
      refine W_if_t (by decide) rfl ?_
      refine W_seq ?_
      refine W_region (by kernel_rfl) ?_
      refine s_y (v := .bool true) rfl (y_assign rfl) ?_
      refine s_nil ?_
      refine W_ret ?_
      refine ret1 rfl rfl rfl ⟨_, rfl, ?_⟩
      exact ⟨rfl, E30⟩
  · obtain rfl : v13 = .int .i64 (-1) := hv14.trans (congrArg _ (if_neg c20))
    refine s_y (v := .int .i64 (-1)) rfl (y_assign rfl) ?_
    refine s_nil ?_
    refine W_seq ?_
    refine W_seq ?_
    refine W_region (by kernel_rfl) ?_
    refine s_y (v := .int .i64 (-1)) rfl (y_move rfl) ?_
    have hk679 : (-1 : Int) < 0 := (by decide)
    refine s_y (v := .bool true) rfl (y_lss rfl rfl (decide_eq_true hk679)) ?_
    refine s_nil ?_
    refine W_if_t (by decide) rfl ?_
    refine W_seq ?_
    refine W_region (by kernel_rfl) ?_
    refine s_y (v := .bool true) rfl (y_assign rfl) ?_
    refine s_nil ?_
    refine W_ret ?_
    refine ret1 rfl rfl rfl ⟨_, rfl, ?_⟩
    exact ⟨rfl, E19⟩
end Go.Proofs.Ytcggpjocghigcaa
