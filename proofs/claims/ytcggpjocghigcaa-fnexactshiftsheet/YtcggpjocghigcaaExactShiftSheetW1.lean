/- Walks: what the functions under FnExactShiftSheet do (part 2). Printed by a program of this claim's author. -/
import Derived.Test.YtcggpjocghigcaaExactShiftSheetW0
set_option linter.unusedSimpArgs false
set_option linter.unusedVariables false
open Go.Wv
namespace Go.Proofs.Ytcggpjocghigcaa
open Go.Proofs
namespace T81
theorem mx : Try.prog.follows .mixedOrders = true := by kernel_rfl
theorem agg_26_5 : aggB Try.prog 26 5 = true := by kernel_rfl
theorem fn_87 : fnB Try.prog 87 = true := by kernel_rfl
theorem one_62 : oneB Try.prog 62 = true := by kernel_rfl
theorem sl_24_62_1 : slB Try.prog 24 62 1 = true := by kernel_rfl
theorem slt_24 : SlT Try.prog 24 62 1 4 (.float .f32 0) := ⟨by kernel_rfl, by kernel_rfl, rfl, by decide⟩
end T81
set_option maxRecDepth 100000 in
set_option maxHeartbeats 4000000 in
theorem c_i_moved {wd hi : Int} {wr : Bool} {asp als : Option Addr} {nsp nls csp cls : Nat} {a : Option Addr} {n c : Nat} {x X : List Nat} {W H : Int} {f : Nat} {us xs : List Value} {FU FV : Int → Int → Int} (w : World) (qs : Sl w a (flts x)) (ql : x.length = n) (qk : cn x = X) (h1 : 3 ≤ wd) (h2 : wd ≤ 16) (h3 : 3 ≤ hi) (h4 : hi ≤ 16) (h5 : 0 < W) (h6 : W ≤ 16) (h7 : 0 < H) (h8 : H ≤ 16) (hn : (n : Int) = wd * hi) (hfB : fnB Try.prog f = true) (hF : ∀ x y w1, Ext0 w w1 → 0 ≤ x → x < W → 0 ≤ y → y < H → Calls Try.prog f (us ++ ([.int .i64 x, .int .i64 y] : List Value) ++ xs).toArray w1 (Rt fun v w2 => v = .tuple #[.int .i64 (FU x y), .int .i64 (FV x y)] ∧ Ext0 w1 w2)) (hR : ∀ x y, 0 ≤ x → x < W → 0 ≤ y → y < H → (-wd ≤ FU x y ∧ FU x y ≤ 1000000) ∧ (-hi ≤ FV x y ∧ FV x y ≤ 1000000)) :
    Calls Try.prog 81 #[.agg #[.int .i64 wd, .int .i64 hi, .bool wr, .slice asp nsp csp, .slice als nls cls], .slice a n c, .int .i64 W, .int .i64 H, .func (.func f) us.toArray xs.toArray] w (Rt fun v w' => (∃ (a1 : Option Addr) (c1 : Nat) (z1 : List Nat), v = .slice a1 ((W * H).toNat) c1 ∧ Own w' w.heap.size a1 ((W * H).toNat) c1 62 1 (flts z1) ∧ z1.length = (W * H).toNat ∧ cn z1 = movL W H (fun x y => atI wd hi (FU x y) (FV x y)) X) ∧ Ext0 w w') := by
  have E0 : Ext no w w := Ext.refl _ _
  have hwh := mul16 (And.intro (And.intro h1 h2) (And.intro h3 h4))
  have lo_a := Sl.low qs
  refine calls_W (n := 45) Try.func81 rfl rfl (Nat.le_of_ble_eq_true rfl) ?_
  refine W_seq ?_
  refine W_region (by kernel_rfl) ?_
  refine s_k rfl (k_box (v := .agg #[.int .i64 wd, .int .i64 hi, .bool wr, .slice asp nsp csp, .slice als nls cls]) (cs := [.int .i64 wd, .int .i64 hi, .bool wr, .slice asp nsp csp, .slice als nls cls]) rfl rfl (fun b1 w2 q4 e3 hB5 => ?_))
  have hS6 := qs.ext0 e3
  have E7 := E0.fresh e3 (fun _ h _ => h.elim)
  have fr8 : NotLt b1 w.heap.size := fun h => Nat.not_lt.2 (Nat.le_trans E0.size (Nat.le_of_eq q4.symm)) h
  clear q4
  refine s_y (v := .slice none 0 0) rfl (y_assign rfl) ?_
  refine s_nil ?_
  refine W_seq ?_
  refine W_region (by kernel_rfl) ?_
  refine s_k rfl (k_bslice (n := 0) (cells := #[]) T81.slt_24 (by decide) (by first | rfl | kernel_rfl) (by first | rfl | kernel_rfl) (fun b9 w10 q12 e11 hO13 => ?_))
  have hB14 := hB5.ext0 e11
  have hS15 := hS6.ext0 e11
  have E16 := E7.fresh e11 (fun _ h _ => h.elim)
  have d17 : ∀ k, inA (some ⟨b9, 0, none⟩) k → w2.heap.size ≤ k := fun kx hk => (hO13.blk kx hk).1
  have dj18 : inA (some ⟨b9, 0, none⟩) b1 → False := fun h => Nat.not_lt.2 (d17 _ h) hB5.lt
  have fr19 : ∀ k, inA (some ⟨b9, 0, none⟩) k → k < w.heap.size → False := fun kx h1 h2 => Nat.not_lt.2 (Nat.le_trans E7.size (d17 kx h1)) h2
  have hO20 := hO13.base E7.size
  have hO21 := hO20.cast (cs' := flts []) rfl rfl
  refine s_y (v := .slice (some ⟨b9, 0, none⟩) 0 0) rfl (y_assign rfl) ?_
  refine s_nil ?_
  refine W_seq ?_
  refine W_seq ?_
  refine W_region (by kernel_rfl) ?_
  refine s_y (v := .int .i64 H) rfl (y_move rfl) ?_
  refine s_y (v := .int .i64 0) rfl (y_move rfl) ?_
  refine s_nil ?_
  refine W_block ?_
  refine W_loop (fun ρ' w' => ∃ (ρ1 : Env) (py : Int) (a0 : Option Addr) (cc0 : Nat) (z0 : List Nat) (nn0 : Nat), ρ' = updL ρ1 [(1, .slice a n c), (2, .int .i64 W), (4, .func (.func f) us.toArray xs.toArray), (5, .pointer (some ⟨b1, 0, none⟩)), (10, .slice none 0 0), (11, .slice a0 nn0 cc0), (17, .int .i64 H), (18, .int .i64 py)] ∧ Ext no w w' ∧ Blk w' b1 [.int .i64 wd, .int .i64 hi, .bool wr, .slice asp nsp csp, .slice als nls cls] 26 ∧ Sl w' a (flts x) ∧ Own w' w.heap.size a0 nn0 cc0 62 1 (flts z0) ∧ (0 ≤ py) ∧ (py ≤ H) ∧ (z0.length = nn0) ∧ (cn z0 = tab (W * py) (fun i => el X ((fun x y => atI wd hi (FU x y) (FV x y)) (i % W) (i / W)))) ∧ (inA a0 b1 → False) ∧ (∀ k, inA a0 k → k < w.heap.size → False)) (fun ρ' _ => (H - iv (ρ' 18)).toNat) ?_ ?_
  · exact ⟨_, 0, (some ⟨b9, 0, none⟩), 0, ([]), 0, Fits.eq ⟨rfl, rfl, rfl, rfl, rfl, rfl, rfl, rfl, trivial⟩, E16, hB14, hS15, hO21, (Int.le_refl _), (by omega), rfl, (rfl.trans (by rw [Int.mul_zero]; rfl)), dj18, fr19⟩
  · rintro _ w24 ⟨ρ29, py, a0, cc0, z0, nn0, rfl, E25, hB26, hS27, hO28, h0py, h1py, hl0, hz0, dj22, fr23⟩
    have hwy := mulb (a := W) (b := py) (by omega) (by omega) (by omega) (by omega)
    have hn0 := (cn_lenX hz0).symm.trans (tab_length _ _)
    refine W_seq ?_
    refine W_region (by kernel_rfl) ?_
    by_cases c30 : py < H
    · refine s_y (v := .bool true) rfl (y_lss rfl rfl (decide_eq_true c30)) ?_
      refine s_nil ?_
      refine W_seq ?_
      refine W_if_t (by decide) rfl ?_
      refine W_skip ?_
      refine W_seq ?_
      refine W_block ?_
      refine W_seq ?_
      refine W_region (by kernel_rfl) ?_
      refine s_y (v := .int .i64 py) rfl (y_move rfl) ?_
      refine s_y (v := .int .i64 py) rfl (y_assign rfl) ?_
      refine s_nil ?_
      refine W_seq ?_
      refine W_region (by kernel_rfl) ?_
      refine s_y (v := .int .i64 W) rfl (y_move rfl) ?_
      refine s_y (v := .int .i64 0) rfl (y_move rfl) ?_
      refine s_nil ?_
      refine W_block ?_
      refine W_loop (fun ρ' w' => ∃ (ρ1 : Env) (px : Int) (a1 : Option Addr) (cc1 : Nat) (z1 : List Nat) (nn1 : Nat), ρ' = updL ρ1 [(1, .slice a n c), (2, .int .i64 W), (4, .func (.func f) us.toArray xs.toArray), (5, .pointer (some ⟨b1, 0, none⟩)), (10, .slice none 0 0), (11, .slice a1 nn1 cc1), (12, .int .i64 py), (17, .int .i64 H), (18, .int .i64 py), (19, .bool true), (20, .int .i64 py), (21, .int .i64 W), (22, .int .i64 px)] ∧ Ext no w w' ∧ Blk w' b1 [.int .i64 wd, .int .i64 hi, .bool wr, .slice asp nsp csp, .slice als nls cls] 26 ∧ Sl w' a (flts x) ∧ Own w' w.heap.size a1 nn1 cc1 62 1 (flts z1) ∧ (0 ≤ px) ∧ (px ≤ W) ∧ (z1.length = nn1) ∧ (cn z1 = tab (W * py + px) (fun i => el X ((fun x y => atI wd hi (FU x y) (FV x y)) (i % W) (i / W)))) ∧ (inA a1 b1 → False) ∧ (∀ k, inA a1 k → k < w.heap.size → False)) (fun ρ' _ => (W - iv (ρ' 22)).toNat) ?_ ?_
      · exact ⟨_, 0, a0, cc0, z0, nn0, Fits.eq ⟨rfl, rfl, rfl, rfl, rfl, rfl, rfl, rfl, rfl, rfl, rfl, rfl, rfl, trivial⟩, E25, hB26, hS27, hO28, (Int.le_refl _), (by omega), hl0, (hz0.trans (by rw [Int.add_zero])), dj22, fr23⟩
      · rintro _ w33 ⟨ρ38, px, a1, cc1, z1, nn1, rfl, E34, hB35, hS36, hO37, h0px, h1px, hl1, hz1, dj31, fr32⟩
        have hn1 := (cn_lenX hz1).symm.trans (tab_length _ _)
        refine W_seq ?_
        refine W_region (by kernel_rfl) ?_
        by_cases c39 : px < W
        · refine s_y (v := .bool true) rfl (y_lss rfl rfl (decide_eq_true c39)) ?_
          refine s_nil ?_
          refine W_seq ?_
          refine W_if_t (by decide) rfl ?_
          refine W_skip ?_
          refine W_seq ?_
          refine W_block ?_
          refine W_seq ?_
          refine W_region (by kernel_rfl) ?_
          refine s_y (v := .int .i64 px) rfl (y_move rfl) ?_
          refine s_y (v := .int .i64 px) rfl (y_assign rfl) ?_
          refine s_nil ?_
          refine W_seq ?_
          refine W_region (by kernel_rfl) ?_
          refine s_y (v := .func (.func f) us.toArray xs.toArray) rfl (y_move rfl) ?_
          refine s_y (v := .int .i64 px) rfl (y_move rfl) ?_
          refine s_y (v := .int .i64 py) rfl (y_move rfl) ?_
          refine s_k rfl (k_callv hfB rfl (hF px py _ E34 (by omega) (by omega) (by omega) (by omega)) rfl ?_)
          rintro _ w40 ⟨rfl, e41⟩
          have hB42 := hB35.ext0 e41
          have hS43 := hS36.ext0 e41
          have hO44 := hO37.ext0 e41
          have E45 := E34.fresh e41 (fun _ h _ => h.elim)
          have hr46 := hR px py (by omega) (by omega) (by omega) (by omega)
          refine s_y (v := .tuple #[.int .i64 (FU px py), .int .i64 (FV px py)]) rfl (y_move rfl) ?_
          refine s_y (v := .int .i64 (FU px py)) rfl (y_extract rfl rfl) ?_
          refine s_y (v := .int .i64 (FV px py)) rfl (y_extract rfl rfl) ?_
          refine s_y (v := .int .i64 (FU px py)) rfl (y_assign rfl) ?_
          refine s_y (v := .int .i64 (FV px py)) rfl (y_assign rfl) ?_
          refine s_nil ?_
          refine W_region (by kernel_rfl) ?_
          refine s_y (v := .slice a1 nn1 cc1) rfl (y_move rfl) ?_
          refine s_y (v := .slice a n c) rfl (y_move rfl) ?_
          refine s_y (v := .agg #[.int .i64 wd, .int .i64 hi, .bool wr, .slice asp nsp csp, .slice als nls cls]) rfl (y_loadn (b := b1) (o := 0) (vs := [.int .i64 wd, .int .i64 hi, .bool wr, .slice asp nsp csp, .slice als nls cls]) T81.agg_26_5 rfl rfl (hB42.cells (o := 0) rfl)) ?_
          refine s_y (v := .int .i64 (FU px py)) rfl (y_move rfl) ?_
          refine s_y (v := .int .i64 (FV px py)) rfl (y_move rfl) ?_
          refine s_k rfl (k_call T81.fn_87 (c_i_at _ (by omega) (by omega) (by omega) (by omega) (by omega) (by omega) (by omega) (by omega)) rfl ?_)
          rintro _ w47 ⟨rfl, e48⟩
          have hB49 := hB42.ext0 e48
          have hS50 := hS43.ext0 e48
          have hO51 := hO44.ext0 e48
          have E52 := E45.fresh e48 (fun _ h _ => h.elim)
          have hat53 := atI_b (wd := wd) (hi := hi) (x := FU px py) (y := FV px py) (by omega) (by omega)
          refine s_y (v := .pointer (some (sat a ((atI wd hi (FU px py) (FV px py)).toNat * 1)))) rfl (y_idx T81.sl_24_62_1 rfl rfl (hS50.addr (by rw [flts_length]; omega)) (by omega) (by omega)) ?_
          refine s_y (v := .float .f32 (el x (atI wd hi (FU px py) (FV px py)))) rfl (y_load T81.one_62 rfl (hS50.cell (fl_at (by omega) (by omega)))) ?_
          refine s_k rfl (k_bslice (n := 1) (cells := #[.float .f32 (el x (atI wd hi (FU px py) (FV px py)))]) T81.slt_24 (by decide) (by first | rfl | kernel_rfl) (by first | rfl | kernel_rfl) (fun b54 w55 q57 e56 hO58 => ?_))
          have hB59 := hB49.ext0 e56
          have hS60 := hS50.ext0 e56
          have hO61 := hO51.ext0 e56
          have E62 := E52.fresh e56 (fun _ h _ => h.elim)
          have d63 : ∀ k, inA (some ⟨b54, 0, none⟩) k → w47.heap.size ≤ k := fun kx hk => (hO58.blk kx hk).1
          have dj64 : inA (some ⟨b54, 0, none⟩) b1 → False := fun h => Nat.not_lt.2 (d63 _ h) hB49.lt
          have dj65 : ∀ k, inA a1 k → inA (some ⟨b54, 0, none⟩) k → False := fun kx h1 h2 => Nat.not_lt.2 (d63 kx h2) (hO51.blk kx h1).2
          have fr66 : ∀ k, inA (some ⟨b54, 0, none⟩) k → k < w.heap.size → False := fun kx h1 h2 => Nat.not_lt.2 (Nat.le_trans E52.size (d63 kx h1)) h2
          have hO67 := hO58.base E52.size
          refine s_k rfl (k_append T81.slt_24 rfl rfl rfl hO61 hO67.sl rfl (by simp [Value.oneCell']) (by omega) (by unfold maxLen; omega) E62.size (fun a68 c69 w70 e71 hO72 hd73 => ?_))
          have hB74 := hB59.ext e71 (fun hk => dj31 hk)
          have hS75 := hS60.extL lo_a e71 (fun kx hs hl => (fun hs => fr32 kx hs hl) hs)
          have hO76 := hO67.ext e71 (fun kx hk hs => (fun hs => dj65 kx hs hk) hs)
          have E77 := E62.fresh e71 (fun kx hs hl => (fun hs => (fr32 kx hs hl).elim) hs)
          have dj78 : inA a68 b1 → False := fun h => (hd73 _ h).elim dj31 (fun hx => Nat.not_lt.2 hx hB59.lt)
          have dj79 : ∀ k, inA a68 k → inA (some ⟨b54, 0, none⟩) k → False := fun kx h1 h2 => (hd73 kx h1).elim (fun h => dj65 kx h h2) (fun hx => Nat.not_lt.2 hx (hO67.blk kx h2).2)
          have fr80 : ∀ k, inA a68 k → k < w.heap.size → False := fun kx h1 h2 => (hd73 kx h1).elim (fun h => fr32 kx h h2) (fun hx => Nat.not_lt.2 (Nat.le_trans E62.size hx) h2)
          have hO81 := hO72.cast rfl (flts_snoc z1 (el x (atI wd hi (FU px py) (FV px py))))
          have hl82 : (z1 ++ [el x (atI wd hi (FU px py) (FV px py))]).length = nn1 + 1 := by simp only [List.length_append, List.length_cons, List.length_nil]; omega
          have hc83 := cn_snoc hz1 (cn_el qk (atI wd hi (FU px py) (FV px py)))
          refine s_y (v := .slice a68 (nn1 + 1) c69) rfl (y_assign rfl) ?_
          refine s_nil ?_
          refine W_region (by kernel_rfl) ?_
          refine s_y (v := .int .i64 (px + 1)) rfl (y_add rfl rfl rfl (by omega)) ?_
          refine s_y (v := .int .i64 (px + 1)) rfl (y_move rfl) ?_
          refine s_nil ?_
          refine ⟨⟨_, px + 1, a68, c69, (z1 ++ [el x (atI wd hi (FU px py) (FV px py))]), nn1 + 1, Fits.eq ⟨rfl, rfl, rfl, rfl, rfl, rfl, rfl, rfl, rfl, rfl, rfl, rfl, rfl, trivial⟩, E77, hB74, hS75, hO81, (by omega), (by omega), hl82, (hc83.trans (tab_row (g := fun p q => el X ((fun x y => atI wd hi (FU x y) (FV x y)) p q)) (by omega) (by omega) (by omega))), dj78, fr80⟩, ?_⟩
          show (W - (px + 1)).toNat < (W - px).toNat
          omega
        · refine s_y (v := .bool false) rfl (y_lss rfl rfl (decide_eq_false c39)) ?_
          refine s_nil ?_
          refine W_seq ?_
          refine W_if_f (by decide) rfl ?_
          refine W_exit ?_
          refine W_region (by kernel_rfl) ?_
          refine s_y (v := .int .i64 (py + 1)) rfl (y_add rfl rfl rfl (by omega)) ?_
          refine s_y (v := .int .i64 (py + 1)) rfl (y_move rfl) ?_
          refine s_nil ?_
          refine ⟨⟨_, py + 1, a1, cc1, z1, nn1, Fits.eq ⟨rfl, rfl, rfl, rfl, rfl, rfl, rfl, rfl, trivial⟩, E34, hB35, hS36, hO37, (by omega), (by omega), hl1, (hz1.trans (congrArg (fun q => tab q _) (show W * py + px = W * (py + 1) by rw [Int.mul_add, Int.mul_one]; omega))), dj31, fr32⟩, ?_⟩
          show (H - (py + 1)).toNat < (H - py).toNat
          omega
    · refine s_y (v := .bool false) rfl (y_lss rfl rfl (decide_eq_false c30)) ?_
      refine s_nil ?_
      refine W_seq ?_
      refine W_if_f (by decide) rfl ?_
      refine W_exit ?_
      refine W_seq ?_
      refine W_region (by kernel_rfl) ?_
      refine s_y (v := .slice a0 nn0 cc0) rfl (y_move rfl) ?_
      refine s_y (v := .slice a0 nn0 cc0) rfl (y_assign rfl) ?_
      refine s_nil ?_
      refine W_ret ?_
      refine ret1 rfl rfl rfl ⟨_, rfl, ?_⟩
      obtain rfl : py = H := by omega
      obtain rfl : nn0 = (W * py).toNat := by omega
      exact ⟨⟨_, _, _, rfl, hO28, hl0, hz0⟩, E25⟩
namespace T51
theorem mx : Try.prog.follows .mixedOrders = true := by kernel_rfl
theorem agg_26_5 : aggB Try.prog 26 5 = true := by kernel_rfl
theorem fld_26_0_0 : fldB Try.prog 26 0 0 = true := by kernel_rfl
theorem fld_26_1_1 : fldB Try.prog 26 1 1 = true := by kernel_rfl
theorem fld_26_2_2 : fldB Try.prog 26 2 2 = true := by kernel_rfl
theorem fld_26_3_3 : fldB Try.prog 26 3 3 = true := by kernel_rfl
theorem fld_26_4_4 : fldB Try.prog 26 4 4 = true := by kernel_rfl
theorem fn_107 : fnB Try.prog 107 = true := by kernel_rfl
theorem fn_81 : fnB Try.prog 81 = true := by kernel_rfl
theorem fn_90 : fnB Try.prog 90 = true := by kernel_rfl
theorem fn_91 : fnB Try.prog 91 = true := by kernel_rfl
theorem one_2 : oneB Try.prog 2 = true := by kernel_rfl
theorem one_24 : oneB Try.prog 24 = true := by kernel_rfl
theorem one_4 : oneB Try.prog 4 = true := by kernel_rfl
theorem sz_26_5 : szB Try.prog 26 5 = true := by kernel_rfl
theorem zero_26 : zeroB Try.prog 26 (.agg #[.int .i64 0, .int .i64 0, .bool false, .slice none 0 0, .slice none 0 0]) := by unfold zeroB; kernel_rfl
end T51
set_option maxRecDepth 100000 in
set_option maxHeartbeats 4000000 in
theorem c_i_ShiftSheet {wd hi : Int} {wr : Bool} {asp : Option Addr} {nsp csp : Nat} {xsp Xsp : List Nat} {als : Option Addr} {nls cls : Nat} {xls Xls : List Nat} {x y : Int} (w : World) (qssp : Sl w asp (flts xsp)) (qlsp : xsp.length = nsp) (qksp : cn xsp = Xsp) (qsls : Sl w als (flts xls)) (qlls : xls.length = nls) (qkls : cn xls = Xls) (hb1 : nsp ≤ 9223372036854775806) (hb2 : nls ≤ 9223372036854775806) :
    Calls Try.prog 51 #[.agg #[.int .i64 wd, .int .i64 hi, .bool wr, .slice asp nsp csp, .slice als nls cls], .int .i64 x, .int .i64 y] w (Rt fun v w' => ((shB wd hi wr Xsp Xls x y = true ∧ ∃ (a1 : Option Addr) (c1 : Nat) (z1 : List Nat) (a2 : Option Addr) (c2 : Nat) (z2 : List Nat), v = .tuple #[.agg #[.int .i64 wd, .int .i64 hi, .bool wr, .slice a1 ((wd * hi).toNat) c1, .slice a2 ((wd * hi).toNat) c2], .bool true] ∧ Own w' w.heap.size a1 ((wd * hi).toNat) c1 62 1 (flts z1) ∧ z1.length = (wd * hi).toNat ∧ cn z1 = shfS wd hi x y Xsp ∧ Own w' w.heap.size a2 ((wd * hi).toNat) c2 62 1 (flts z2) ∧ z2.length = (wd * hi).toNat ∧ cn z2 = shfS wd hi x y Xls ∧ (∀ k, inA a1 k → inA a2 k → False)) ∨ (shB wd hi wr Xsp Xls x y = false ∧ v = .tuple #[.agg #[.int .i64 0, .int .i64 0, .bool false, .slice none 0 0, .slice none 0 0], .bool false])) ∧ Ext0 w w') := by
  have E0 : Ext no w w := Ext.refl _ _
  have hlP : Xsp.length = nsp := (cn_lenX qksp).trans qlsp
  have hlL : Xls.length = nls := (cn_lenX qkls).trans qlls
  have lo_asp := Sl.low qssp
  have lo_als := Sl.low qsls
  refine calls_W (n := 44) Try.func51 rfl rfl (Nat.le_of_ble_eq_true rfl) ?_
  refine W_seq ?_
  refine W_region (by kernel_rfl) ?_
  refine s_k rfl (k_box (v := .agg #[.int .i64 wd, .int .i64 hi, .bool wr, .slice asp nsp csp, .slice als nls cls]) (cs := [.int .i64 wd, .int .i64 hi, .bool wr, .slice asp nsp csp, .slice als nls cls]) rfl rfl (fun b1 w2 q4 e3 hB5 => ?_))
  have hS6 := qssp.ext0 e3
  have hS7 := qsls.ext0 e3
  have E8 := E0.fresh e3 (fun _ h _ => h.elim)
  have fr9 : NotLt b1 w.heap.size := fun h => Nat.not_lt.2 (Nat.le_trans E0.size (Nat.le_of_eq q4.symm)) h
  clear q4
  refine s_k rfl (k_alloc (z := (.agg #[.int .i64 0, .int .i64 0, .bool false, .slice none 0 0, .slice none 0 0])) (cs := [.int .i64 0, .int .i64 0, .bool false, .slice none 0 0, .slice none 0 0]) T51.zero_26 rfl (fun b10 w11 q13 e12 hB14 => ?_))
  have hB15 := hB5.ext0 e12
  have hS16 := hS6.ext0 e12
  have hS17 := hS7.ext0 e12
  have E18 := E8.fresh e12 (fun _ h _ => h.elim)
  have dj19 : NeB b1 b10 := fun h => Nat.ne_of_lt hB5.lt (h.trans q13)
  have fr20 : NotLt b10 w.heap.size := fun h => Nat.not_lt.2 (Nat.le_trans E8.size (Nat.le_of_eq q13.symm)) h
  clear q13
  refine s_y (v := .bool false) rfl (y_assign rfl) ?_
  refine s_nil ?_
  refine W_seq ?_
  refine W_seq ?_
  refine W_region (by kernel_rfl) ?_
  refine s_y (v := .agg #[.int .i64 wd, .int .i64 hi, .bool wr, .slice asp nsp csp, .slice als nls cls]) rfl (y_loadn (b := b1) (o := 0) (vs := [.int .i64 wd, .int .i64 hi, .bool wr, .slice asp nsp csp, .slice als nls cls]) T51.agg_26_5 rfl rfl (hB15.cells (o := 0) rfl)) ?_
  refine s_y (v := .int .i64 x) rfl (y_move rfl) ?_
  refine s_y (v := .int .i64 y) rfl (y_move rfl) ?_
  refine s_k rfl (k_call T51.fn_90 (c_i_isShift _ hS16 qlsp qksp hS17 qlls qkls (by omega) (by omega)) rfl ?_)
  rintro v23 w21 ⟨hv24, e22⟩
  have hB25 := hB15.ext0 e22
  have hB26 := hB14.ext0 e22
  have hS27 := hS16.ext0 e22
  have hS28 := hS17.ext0 e22
  have E29 := E18.fresh e22 (fun _ h _ => h.elim)
  by_cases c30 : shB wd hi wr Xsp Xls x y = true
  · have hb31 := shB_b c30
    obtain rfl : v23 = .bool true := hv24.trans (congrArg Value.bool c30)
    refine s_y (v := .bool false) rfl (y_not rfl rfl) ?_
    refine s_nil ?_
    refine W_if_f (by decide) rfl ?_
    refine W_skip ?_
    refine W_seq ?_
    refine W_region (by kernel_rfl) ?_
    refine s_y (v := .agg #[.int .i64 wd, .int .i64 hi, .bool wr, .slice asp nsp csp, .slice als nls cls]) rfl (y_loadn (b := b1) (o := 0) (vs := [.int .i64 wd, .int .i64 hi, .bool wr, .slice asp nsp csp, .slice als nls cls]) T51.agg_26_5 rfl rfl (hB25.cells (o := 0) rfl)) ?_
    refine s_y (v := .int .i64 x) rfl (y_move rfl) ?_
    refine s_y (v := .int .i64 y) rfl (y_move rfl) ?_
    refine s_k rfl (k_call T51.fn_91 (c_i_backBy _) rfl ?_)
    rintro _ w32 ⟨⟨b34, b35, b36, rfl, hB37, hB38, hB39, ge40, ge41, ge42⟩, e33⟩
    have hB43 := hB25.ext0 e33
    have hB44 := hB26.ext0 e33
    have hS45 := hS27.ext0 e33
    have hS46 := hS28.ext0 e33
    have E47 := E29.fresh e33 (fun _ h _ => h.elim)
    have dj48 : NeB b1 b34 := fun h => Nat.not_lt.2 ge40 (h ▸ hB25.lt)
    have dj49 : NeB b10 b34 := fun h => Nat.not_lt.2 ge40 (h ▸ hB26.lt)
    have fr50 : NotLt b34 w.heap.size := fun h => Nat.not_lt.2 (Nat.le_trans E29.size ge40) h
    have dj51 : NeB b1 b35 := fun h => Nat.not_lt.2 ge41 (h ▸ hB25.lt)
    have dj52 : NeB b10 b35 := fun h => Nat.not_lt.2 ge41 (h ▸ hB26.lt)
    have fr53 : NotLt b35 w.heap.size := fun h => Nat.not_lt.2 (Nat.le_trans E29.size ge41) h
    have dj54 : NeB b1 b36 := fun h => Nat.not_lt.2 ge42 (h ▸ hB25.lt)
    have dj55 : NeB b10 b36 := fun h => Nat.not_lt.2 ge42 (h ▸ hB26.lt)
    have fr56 : NotLt b36 w.heap.size := fun h => Nat.not_lt.2 (Nat.le_trans E29.size ge42) h
    refine s_y (v := .func (.func 107) #[] #[.pointer (some ⟨b34, 0, none⟩), .pointer (some ⟨b35, 0, none⟩), .pointer (some ⟨b36, 0, none⟩)]) rfl (y_assign rfl) ?_
    refine s_nil ?_
    refine W_seq ?_
    refine W_draw (at1 b10) T51.mx (by kernel_rfl) (fun w57 e58 => ?_)
    have hB59 := hB43.ext0 e58
    have hB60 := hB44.ext0 e58
    have hB61 := hB37.ext0 e58
    have hB62 := hB38.ext0 e58
    have hB63 := hB39.ext0 e58
    have hS64 := hS45.ext0 e58
    have hS65 := hS46.ext0 e58
    have E66 := E47.fresh e58 (fun _ h _ => h.elim)
    have R67 := (Ext.refl (at1 b10) w32).trans (Ext0.any e58)
    refine m_y (v := .pointer (some ⟨b1, 0, none⟩)) 0 rfl (by kernel_rfl) rfl rfl (fun w' e' => y_fld (o := 0) T51.fld_26_0_0 rfl) ?_
    refine m_y (v := .int .i64 wd) 1 rfl (by kernel_rfl) rfl rfl (fun w' e' => y_load T51.one_2 rfl ((hB43.ext e' dj19).cell (j := 0) rfl)) ?_
    refine m_y (v := .pointer (some ⟨b1, 1, none⟩)) 2 rfl (by kernel_rfl) rfl rfl (fun w' e' => y_fld (o := 0) T51.fld_26_1_1 rfl) ?_
    refine m_y (v := .int .i64 hi) 3 rfl (by kernel_rfl) rfl rfl (fun w' e' => y_load T51.one_2 rfl ((hB43.ext e' dj19).cell (j := 1) rfl)) ?_
    refine m_y (v := .pointer (some ⟨b1, 2, none⟩)) 4 rfl (by kernel_rfl) rfl rfl (fun w' e' => y_fld (o := 0) T51.fld_26_2_2 rfl) ?_
    refine m_y (v := .bool wr) 5 rfl (by kernel_rfl) rfl rfl (fun w' e' => y_load T51.one_4 rfl ((hB43.ext e' dj19).cell (j := 2) rfl)) ?_
    refine m_y (v := .agg #[.int .i64 wd, .int .i64 hi, .bool wr, .slice asp nsp csp, .slice als nls cls]) 6 rfl (by kernel_rfl) rfl rfl (fun w' e' => y_loadn (b := b1) (o := 0) (vs := [.int .i64 wd, .int .i64 hi, .bool wr, .slice asp nsp csp, .slice als nls cls]) T51.agg_26_5 rfl rfl ((hB43.ext e' dj19).cells (o := 0) rfl)) ?_
    refine m_y (v := .pointer (some ⟨b1, 3, none⟩)) 7 rfl (by kernel_rfl) rfl rfl (fun w' e' => y_fld (o := 0) T51.fld_26_3_3 rfl) ?_
    refine m_y (v := .slice asp nsp csp) 8 rfl (by kernel_rfl) rfl rfl (fun w' e' => y_load T51.one_24 rfl ((hB43.ext e' dj19).cell (j := 3) rfl)) ?_
    refine m_y (v := .pointer (some ⟨b1, 0, none⟩)) 9 rfl (by kernel_rfl) rfl rfl (fun w' e' => y_fld (o := 0) T51.fld_26_0_0 rfl) ?_
    refine m_y (v := .int .i64 wd) 10 rfl (by kernel_rfl) rfl rfl (fun w' e' => y_load T51.one_2 rfl ((hB43.ext e' dj19).cell (j := 0) rfl)) ?_
    refine m_y (v := .pointer (some ⟨b1, 1, none⟩)) 11 rfl (by kernel_rfl) rfl rfl (fun w' e' => y_fld (o := 0) T51.fld_26_1_1 rfl) ?_
    refine m_y (v := .int .i64 hi) 12 rfl (by kernel_rfl) rfl rfl (fun w' e' => y_load T51.one_2 rfl ((hB43.ext e' dj19).cell (j := 1) rfl)) ?_
    refine m_y (v := .func (.func 107) #[] #[.pointer (some ⟨b34, 0, none⟩), .pointer (some ⟨b35, 0, none⟩), .pointer (some ⟨b36, 0, none⟩)]) 13 rfl (by kernel_rfl) rfl rfl (fun w' e' => y_move rfl) ?_
    refine m_y (v := .agg #[.int .i64 wd, .int .i64 hi, .bool wr, .slice asp nsp csp, .slice als nls cls]) 15 rfl (by kernel_rfl) rfl rfl (fun w' e' => y_loadn (b := b1) (o := 0) (vs := [.int .i64 wd, .int .i64 hi, .bool wr, .slice asp nsp csp, .slice als nls cls]) T51.agg_26_5 rfl rfl ((hB43.ext e' dj19).cells (o := 0) rfl)) ?_
    refine m_y (v := .pointer (some ⟨b1, 4, none⟩)) 16 rfl (by kernel_rfl) rfl rfl (fun w' e' => y_fld (o := 0) T51.fld_26_4_4 rfl) ?_
    refine m_y (v := .slice als nls cls) 17 rfl (by kernel_rfl) rfl rfl (fun w' e' => y_load T51.one_24 rfl ((hB43.ext e' dj19).cell (j := 4) rfl)) ?_
    refine m_y (v := .pointer (some ⟨b1, 0, none⟩)) 18 rfl (by kernel_rfl) rfl rfl (fun w' e' => y_fld (o := 0) T51.fld_26_0_0 rfl) ?_
    refine m_y (v := .int .i64 wd) 19 rfl (by kernel_rfl) rfl rfl (fun w' e' => y_load T51.one_2 rfl ((hB43.ext e' dj19).cell (j := 0) rfl)) ?_
    refine m_y (v := .pointer (some ⟨b1, 1, none⟩)) 20 rfl (by kernel_rfl) rfl rfl (fun w' e' => y_fld (o := 0) T51.fld_26_1_1 rfl) ?_
    refine m_y (v := .int .i64 hi) 21 rfl (by kernel_rfl) rfl rfl (fun w' e' => y_load T51.one_2 rfl ((hB43.ext e' dj19).cell (j := 1) rfl)) ?_
    refine m_y (v := .func (.func 107) #[] #[.pointer (some ⟨b34, 0, none⟩), .pointer (some ⟨b35, 0, none⟩), .pointer (some ⟨b36, 0, none⟩)]) 22 rfl (by kernel_rfl) rfl rfl (fun w' e' => y_move rfl) ?_
    refine m_k 14 [23, 24, 25, 26] rfl (by kernel_rfl) rfl rfl (fun w68 e69 => ?_)
    have hB70 := hB59.ext0 e69
    have hB71 := hB60.ext0 e69
    have hB72 := hB61.ext0 e69
    have hB73 := hB62.ext0 e69
    have hB74 := hB63.ext0 e69
    have hS75 := hS64.ext0 e69
    have hS76 := hS65.ext0 e69
    have E77 := E66.fresh e69 (fun _ h _ => h.elim)
    have R78 := R67.trans (Ext0.any e69)
    refine k_call T51.fn_81 (c_i_moved (W := wd) (H := hi) (f := 107) (us := []) (xs := [.pointer (some ⟨b34, 0, none⟩), .pointer (some ⟨b35, 0, none⟩), .pointer (some ⟨b36, 0, none⟩)]) (FU := (fun x_ _ => (x_ - x + 16 * wd) % wd)) (FV := (fun _ y_ => (y_ - y + 16 * hi) % hi)) _ hS75 qlsp qksp (by omega) (by omega) (by omega) (by omega) (by omega) (by omega) (by omega) (by omega) (by omega) T51.fn_107 (fun x y w1 he h0 h1 h2 h3 => (c_i_backBy_1 w1 (hB72.sl.ext0 he) (hB73.sl.ext0 he) (hB74.sl.ext0 he) (by omega) (by omega) (by omega) (by omega) (by omega) (by omega) (by omega) (by omega) (by omega) (by omega) (by omega) (by omega))) (fun x_ y_ h0 h1 h2 h3 => (by have q1 := rem_b (x := x_ - x + 16 * wd) (m := wd) (by omega) (by omega); have q2 := rem_b (x := y_ - y + 16 * hi) (m := hi) (by omega) (by omega); exact ⟨⟨by omega, by omega⟩, ⟨by omega, by omega⟩⟩))) rfl ?_
    rintro _ w79 ⟨⟨a81, c82, z83, rfl, hO84, hl85, hc86⟩, e80⟩
    have hB87 := hB70.ext0 e80
    have hB88 := hB71.ext0 e80
    have hB89 := hB72.ext0 e80
    have hB90 := hB73.ext0 e80
    have hB91 := hB74.ext0 e80
    have hS92 := hS75.ext0 e80
    have hS93 := hS76.ext0 e80
    have E94 := E77.fresh e80 (fun _ h _ => h.elim)
    have R95 := R78.trans (Ext0.any e80)
    refine ⟨fun _ => R95, ?_⟩
    have d96 : ∀ k, inA a81 k → w68.heap.size ≤ k := fun kx hk => (hO84.blk kx hk).1
    have dj97 : inA a81 b1 → False := fun h => Nat.not_lt.2 (d96 _ h) hB70.lt
    have dj98 : inA a81 b10 → False := fun h => Nat.not_lt.2 (d96 _ h) hB71.lt
    have dj99 : inA a81 b34 → False := fun h => Nat.not_lt.2 (d96 _ h) hB72.lt
    have dj100 : inA a81 b35 → False := fun h => Nat.not_lt.2 (d96 _ h) hB73.lt
    have dj101 : inA a81 b36 → False := fun h => Nat.not_lt.2 (d96 _ h) hB74.lt
    have fr102 : ∀ k, inA a81 k → k < w.heap.size → False := fun kx h1 h2 => Nat.not_lt.2 (Nat.le_trans E77.size (d96 kx h1)) h2
    have hO103 := hO84.base E77.size
    refine m_k 23 [24, 25, 26] rfl (by kernel_rfl) rfl rfl (fun w104 e105 => ?_)
    have hB106 := hB87.ext0 e105
    have hB107 := hB88.ext0 e105
    have hB108 := hB89.ext0 e105
    have hB109 := hB90.ext0 e105
    have hB110 := hB91.ext0 e105
    have hS111 := hS92.ext0 e105
    have hS112 := hS93.ext0 e105
    have hO113 := hO103.ext0 e105
    have E114 := E94.fresh e105 (fun _ h _ => h.elim)
    have R115 := R95.trans (Ext0.any e105)
    refine k_call T51.fn_81 (c_i_moved (W := wd) (H := hi) (f := 107) (us := []) (xs := [.pointer (some ⟨b34, 0, none⟩), .pointer (some ⟨b35, 0, none⟩), .pointer (some ⟨b36, 0, none⟩)]) (FU := (fun x_ _ => (x_ - x + 16 * wd) % wd)) (FV := (fun _ y_ => (y_ - y + 16 * hi) % hi)) _ hS112 qlls qkls (by omega) (by omega) (by omega) (by omega) (by omega) (by omega) (by omega) (by omega) (by omega) T51.fn_107 (fun x y w1 he h0 h1 h2 h3 => (c_i_backBy_1 w1 (hB108.sl.ext0 he) (hB109.sl.ext0 he) (hB110.sl.ext0 he) (by omega) (by omega) (by omega) (by omega) (by omega) (by omega) (by omega) (by omega) (by omega) (by omega) (by omega) (by omega))) (fun x_ y_ h0 h1 h2 h3 => (by have q1 := rem_b (x := x_ - x + 16 * wd) (m := wd) (by omega) (by omega); have q2 := rem_b (x := y_ - y + 16 * hi) (m := hi) (by omega) (by omega); exact ⟨⟨by omega, by omega⟩, ⟨by omega, by omega⟩⟩))) rfl ?_
    rintro _ w116 ⟨⟨a118, c119, z120, rfl, hO121, hl122, hc123⟩, e117⟩
    have hB124 := hB106.ext0 e117
    have hB125 := hB107.ext0 e117
    have hB126 := hB108.ext0 e117
    have hB127 := hB109.ext0 e117
    have hB128 := hB110.ext0 e117
    have hS129 := hS111.ext0 e117
    have hS130 := hS112.ext0 e117
    have hO131 := hO113.ext0 e117
    have E132 := E114.fresh e117 (fun _ h _ => h.elim)
    have R133 := R115.trans (Ext0.any e117)
    refine ⟨fun _ => R133, ?_⟩
    have d134 : ∀ k, inA a118 k → w104.heap.size ≤ k := fun kx hk => (hO121.blk kx hk).1
    have dj135 : inA a118 b1 → False := fun h => Nat.not_lt.2 (d134 _ h) hB106.lt
    have dj136 : inA a118 b10 → False := fun h => Nat.not_lt.2 (d134 _ h) hB107.lt
    have dj137 : inA a118 b34 → False := fun h => Nat.not_lt.2 (d134 _ h) hB108.lt
    have dj138 : inA a118 b35 → False := fun h => Nat.not_lt.2 (d134 _ h) hB109.lt
    have dj139 : inA a118 b36 → False := fun h => Nat.not_lt.2 (d134 _ h) hB110.lt
    have dj140 : ∀ k, inA a81 k → inA a118 k → False := fun kx h1 h2 => Nat.not_lt.2 (d134 kx h2) (hO113.blk kx h1).2
    have fr141 : ∀ k, inA a118 k → k < w.heap.size → False := fun kx h1 h2 => Nat.not_lt.2 (Nat.le_trans E114.size (d134 kx h1)) h2
    have hO142 := hO121.base E114.size
    refine m_y (v := .agg #[.int .i64 wd, .int .i64 hi, .bool wr, .slice a81 ((wd * hi).toNat) c82, .slice a118 ((wd * hi).toNat) c119]) 24 rfl (by kernel_rfl) rfl rfl (fun w' e' => y_build (cells := #[.int .i64 wd, .int .i64 hi, .bool wr, .slice a81 ((wd * hi).toNat) c82, .slice a118 ((wd * hi).toNat) c119]) (by kernel_rfl)) ?_
    refine m_k 25 [26] rfl (by kernel_rfl) rfl rfl (fun w147 e148 => ?_)
    have hB149 := hB124.ext0 e148
    have hB150 := hB125.ext0 e148
    have hB151 := hB126.ext0 e148
    have hB152 := hB127.ext0 e148
    have hB153 := hB128.ext0 e148
    have hS154 := hS129.ext0 e148
    have hS155 := hS130.ext0 e148
    have hO156 := hO131.ext0 e148
    have hO157 := hO142.ext0 e148
    have E158 := E132.fresh e148 (fun _ h _ => h.elim)
    have R159 := R133.trans (Ext0.any e148)
    refine k_store (v := .agg #[.int .i64 wd, .int .i64 hi, .bool wr, .slice a81 ((wd * hi).toNat) c82, .slice a118 ((wd * hi).toNat) c119]) (n := 5) (cs' := [.int .i64 wd, .int .i64 hi, .bool wr, .slice a81 ((wd * hi).toNat) c82, .slice a118 ((wd * hi).toNat) c119]) T51.sz_26_5 rfl rfl rfl hB150 (by simp [Value.cells, Value.oneCell']) (Nat.le_of_ble_eq_true rfl) rfl (fun w143 e144 z145 hB146 => ?_)
    clear z145
    have hB160 := hB149.ext e144 dj19
    have hB161 := hB151.ext e144 (fun h => dj49 h.symm)
    have hB162 := hB152.ext e144 (fun h => dj52 h.symm)
    have hB163 := hB153.ext e144 (fun h => dj55 h.symm)
    have hS164 := hS154.extL lo_asp e144 (fun kx (hs : kx = b10) hl => fr20 (hs ▸ hl))
    have hS165 := hS155.extL lo_als e144 (fun kx (hs : kx = b10) hl => fr20 (hs ▸ hl))
    have hO166 := hO156.ext e144 (fun kx hk (hs : kx = b10) => dj98 (hs ▸ hk))
    have hO167 := hO157.ext e144 (fun kx hk (hs : kx = b10) => dj136 (hs ▸ hk))
    have E168 := E158.fresh e144 (fun kx (hs : kx = b10) hl => (fr20 (hs ▸ hl)).elim)
    have R169 := R159.fresh e144 (fun kx hs hl => hs)
    refine ⟨fun _ => R169, ?_⟩
    refine m_y (v := .bool true) 26 rfl (by kernel_rfl) rfl rfl (fun w' e' => y_assign rfl) ?_
    refine m_done (by kernel_rfl) (fun w170 e171 => ?_)
    have hB172 := hB160.ext0 e171
    have hB173 := hB146.ext0 e171
    have hB174 := hB161.ext0 e171
    have hB175 := hB162.ext0 e171
    have hB176 := hB163.ext0 e171
    have hS177 := hS164.ext0 e171
    have hS178 := hS165.ext0 e171
    have hO179 := hO166.ext0 e171
    have hO180 := hO167.ext0 e171
    have E181 := E168.fresh e171 (fun _ h _ => h.elim)
    have R182 := R169.trans (Ext0.any e171)
    refine W_ret ?_
    refine ret2 rfl rfl rfl ⟨_, [.int .i64 wd, .int .i64 hi, .bool wr, .slice a81 ((wd * hi).toNat) c82, .slice a118 ((wd * hi).toNat) c119], _, rfl, hB173, T51.agg_26_5, rfl⟩ rfl ⟨_, rfl, ?_⟩
    exact ⟨.inl ⟨by simp only [c30, Bool.and_true, Bool.true_and, Bool.and_false, Bool.false_and, Bool.not_true, Bool.not_false, Bool.or_true, Bool.true_or, Bool.or_false, Bool.false_or], ⟨_, _, _, _, _, _, rfl, hO179, hl85, (hc86.trans (shf_i (by omega) (by omega))), hO180, hl122, (hc123.trans (shf_i (by omega) (by omega))), dj140⟩⟩, E181⟩
  · obtain rfl : v23 = .bool false := hv24.trans (congrArg Value.bool (Bool.eq_false_iff.2 c30))
    refine s_y (v := .bool true) rfl (y_not rfl rfl) ?_
    refine s_nil ?_
    refine W_if_t (by decide) rfl ?_
    refine W_seq ?_
    refine W_region (by kernel_rfl) ?_
    refine s_y (v := .agg #[.int .i64 0, .int .i64 0, .bool false, .slice none 0 0, .slice none 0 0]) rfl (y_build (cells := #[.int .i64 0, .int .i64 0, .bool false, .slice none 0 0, .slice none 0 0]) (by kernel_rfl)) ?_
    refine s_k0 rfl (k_store (v := .agg #[.int .i64 0, .int .i64 0, .bool false, .slice none 0 0, .slice none 0 0]) (n := 5) (cs' := [.int .i64 0, .int .i64 0, .bool false, .slice none 0 0, .slice none 0 0]) T51.sz_26_5 rfl rfl rfl hB26 (by simp [Value.cells, Value.oneCell']) (Nat.le_of_ble_eq_true rfl) rfl (fun w183 e184 z185 hB186 => ?_))
    clear z185
    have hB187 := hB25.ext e184 dj19
    have hS188 := hS27.extL lo_asp e184 (fun kx (hs : kx = b10) hl => fr20 (hs ▸ hl))
    have hS189 := hS28.extL lo_als e184 (fun kx (hs : kx = b10) hl => fr20 (hs ▸ hl))
    have E190 := E29.fresh e184 (fun kx (hs : kx = b10) hl => (fr20 (hs ▸ hl)).elim)
    refine s_y (v := .bool false) rfl (y_assign rfl) ?_
    refine s_nil ?_
    refine W_ret ?_
    refine ret2 rfl rfl rfl ⟨_, [.int .i64 0, .int .i64 0, .bool false, .slice none 0 0, .slice none 0 0], _, rfl, hB186, T51.agg_26_5, rfl⟩ rfl ⟨_, rfl, ?_⟩
    exact ⟨.inr ⟨by simp only [(Bool.eq_false_iff.2 c30), Bool.and_true, Bool.true_and, Bool.and_false, Bool.false_and, Bool.not_true, Bool.not_false, Bool.or_true, Bool.true_or, Bool.or_false, Bool.false_or], rfl⟩, E190⟩
namespace T45
theorem mx : Try.prog.follows .mixedOrders = true := by kernel_rfl
theorem bool_4 : Try.prog.underlying 4 = some .bool := by kernel_rfl
end T45
set_option maxRecDepth 100000 in
set_option maxHeartbeats 4000000 in
theorem c_l_sameFloat (a b A : Nat) (ha : can .f64 a = A) (hb : can .f64 b = A) (w : World) :
    Calls Try.prog 45 #[.float .f64 a, .float .f64 b] w (Rt fun v w' => v = .bool true ∧ Ext0 w w') := by
  have E0 : Ext no w w := Ext.refl _ _
  refine calls_W (n := 37) Try.func45 rfl rfl (Nat.le_of_ble_eq_true rfl) ?_
  refine W_seq ?_
  refine W_region (by kernel_rfl) ?_
  refine s_y (v := .bool false) rfl (y_assign rfl) ?_
  refine s_nil ?_
  refine W_seq ?_
  refine W_seq ?_
  refine W_region (by kernel_rfl) ?_
  refine s_y (v := .float .f64 a) rfl (y_move rfl) ?_
  refine s_y (v := .float .f64 a) rfl (y_move rfl) ?_
  by_cases c1 : fne .f64 A A = true
  · refine s_y (v := .bool true) rfl (y_fneq rfl rfl (fneC ha ha c1)) ?_
    refine s_y (v := .bool true) rfl (y_move rfl) ?_
    refine s_skip rfl ?_
    refine s_skip rfl ?_
    refine s_skip rfl ?_
    refine s_y (v := .bool true) rfl (y_pick_t rfl rfl) ?_
    refine s_nil ?_
    refine W_if_t (by decide) rfl ?_
    refine W_seq ?_
    refine W_region (by kernel_rfl) ?_
    refine s_y (v := .float .f64 a) rfl (y_move rfl) ?_
    refine s_y (v := .float .f64 a) rfl (y_move rfl) ?_
    refine s_y (v := .bool true) rfl (y_fneq rfl rfl (fneC ha ha c1)) ?_
    refine s_y (v := .bool true) rfl (y_move rfl) ?_
    refine s_y (v := .float .f64 b) rfl (y_move rfl) ?_
    refine s_y (v := .float .f64 b) rfl (y_move rfl) ?_
    refine s_y (v := .bool true) rfl (y_fneq rfl rfl (fneC hb hb c1)) ?_
    refine s_y (v := .bool true) rfl (y_pick_t rfl rfl) ?_
    refine s_y (v := .bool true) rfl (y_assign rfl) ?_
    refine s_nil ?_
    refine W_ret ?_
    refine ret1 rfl rfl rfl ⟨_, rfl, ?_⟩
    exact ⟨rfl, E0⟩
  · refine s_y (v := .bool false) rfl (y_fneq rfl rfl (fneC ha ha (Bool.eq_false_iff.2 c1))) ?_
    refine s_y (v := .bool false) rfl (y_move rfl) ?_
    refine s_y (v := .float .f64 b) rfl (y_move rfl) ?_
    refine s_y (v := .float .f64 b) rfl (y_move rfl) ?_
    refine s_y (v := .bool false) rfl (y_fneq rfl rfl (fneC hb hb (Bool.eq_false_iff.2 c1))) ?_
    refine s_y (v := .bool false) rfl (y_pick_f rfl rfl) ?_
    refine s_nil ?_
    refine W_if_f (by decide) rfl ?_
    refine W_skip ?_
    refine W_seq ?_
    refine W_seq ?_
    refine W_region (by kernel_rfl) ?_
    refine s_y (v := .float .f64 a) rfl (y_move rfl) ?_
    by_cases c2 : feq .f64 A 0 = true
    · refine s_y (v := .bool true) rfl (y_feql rfl rfl (feqC ha (show can .f64 0 = 0 by kernel_rfl) c2)) ?_
      refine s_y (v := .bool true) rfl (y_move rfl) ?_
      refine s_y (v := .float .f64 b) rfl (y_move rfl) ?_
      refine s_y (v := .bool true) rfl (y_feql rfl rfl (feqC hb (show can .f64 0 = 0 by kernel_rfl) c2)) ?_
      refine s_y (v := .bool true) rfl (y_pick_t rfl rfl) ?_
      refine s_nil ?_
      refine W_if_t (by decide) rfl ?_
      refine W_seq ?_
      refine W_region (by kernel_rfl) ?_
      refine s_y (v := .float .f64 a) rfl (y_move rfl) ?_
      refine s_n rfl (n_arith (by decide) rfl rfl) ?_
      rintro _ w6 e7 ⟨r4, rfl, hr5⟩
      have E8 := E0.fresh e7 (fun _ h _ => h.elim)
      have hc9 := fopC hr5 (show can .f64 4607182418800017408 = 4607182418800017408 by kernel_rfl) ha
      by_cases c10 : fgt .f64 (fop .quo .f64 4607182418800017408 A) 0 = true
      · refine s_y (v := .bool true) rfl (y_fgtr rfl rfl (fgtC hc9 (show can .f64 0 = 0 by kernel_rfl) c10)) ?_
        refine s_y (v := .float .f64 b) rfl (y_move rfl) ?_
        refine s_n rfl (n_arith (by decide) rfl rfl) ?_
        rintro _ w14 e15 ⟨r12, rfl, hr13⟩
        have E16 := E8.fresh e15 (fun _ h _ => h.elim)
        have hc17 := fopC hr13 (show can .f64 4607182418800017408 = 4607182418800017408 by kernel_rfl) hb
        refine s_y (v := .bool true) rfl (y_fgtr rfl rfl (fgtC hc17 (show can .f64 0 = 0 by kernel_rfl) c10)) ?_
        refine s_y (v := .bool true) rfl (y_beql T45.bool_4 rfl rfl rfl) ?_
        refine s_y (v := .bool true) rfl (y_assign rfl) ?_
        refine s_nil ?_
        refine W_ret ?_
        refine ret1 rfl rfl rfl ⟨_, rfl, ?_⟩
        exact ⟨rfl, E16⟩
      · refine s_y (v := .bool false) rfl (y_fgtr rfl rfl (fgtC hc9 (show can .f64 0 = 0 by kernel_rfl) (Bool.eq_false_iff.2 c10))) ?_
        refine s_y (v := .float .f64 b) rfl (y_move rfl) ?_
        refine s_n rfl (n_arith (by decide) rfl rfl) ?_
        rintro _ w21 e22 ⟨r19, rfl, hr20⟩
        have E23 := E8.fresh e22 (fun _ h _ => h.elim)
        have hc24 := fopC hr20 (show can .f64 4607182418800017408 = 4607182418800017408 by kernel_rfl) hb
        refine s_y (v := .bool false) rfl (y_fgtr rfl rfl (fgtC hc24 (show can .f64 0 = 0 by kernel_rfl) (Bool.eq_false_iff.2 c10))) ?_
        refine s_y (v := .bool true) rfl (y_beql T45.bool_4 rfl rfl rfl) ?_
        refine s_y (v := .bool true) rfl (y_assign rfl) ?_
        refine s_nil ?_
        refine W_ret ?_
        refine ret1 rfl rfl rfl ⟨_, rfl, ?_⟩
        exact ⟨rfl, E23⟩
    · refine s_y (v := .bool false) rfl (y_feql rfl rfl (feqC ha (show can .f64 0 = 0 by kernel_rfl) (Bool.eq_false_iff.2 c2))) ?_
      refine s_y (v := .bool false) rfl (y_move rfl) ?_
      refine s_skip rfl ?_
      refine s_skip rfl ?_
      refine s_y (v := .bool false) rfl (y_pick_f rfl rfl) ?_
      refine s_nil ?_
      refine W_if_f (by decide) rfl ?_
      refine W_skip ?_
      refine W_seq ?_
      refine W_region (by kernel_rfl) ?_
      refine s_y (v := .float .f64 a) rfl (y_move rfl) ?_
      refine s_y (v := .float .f64 b) rfl (y_move rfl) ?_
      by_cases c25 : feq .f64 A A = true
      · refine s_y (v := .bool true) rfl (y_feql rfl rfl (feqC ha hb c25)) ?_
        refine s_y (v := .bool true) rfl (y_assign rfl) ?_
        refine s_nil ?_
        refine W_ret ?_
        refine ret1 rfl rfl rfl ⟨_, rfl, ?_⟩
        exact ⟨rfl, E0⟩
      · refine s_y (v := .bool false) rfl (y_feql rfl rfl (feqC ha hb (Bool.eq_false_iff.2 c25))) ?_
        refine s_y (v := .bool false) rfl (y_assign rfl) ?_
        refine s_nil ?_
        refine W_ret ?_
        refine ret1 rfl rfl rfl ⟨_, rfl, ?_⟩
        exfalso; simp_all [fne, feq]
namespace T71
theorem mx : Try.prog.follows .mixedOrders = true := by kernel_rfl
theorem flt_68_f64 : Try.prog.underlying 68 = some (.float .f64) := by kernel_rfl
theorem fn_45 : fnB Try.prog 45 = true := by kernel_rfl
theorem one_62 : oneB Try.prog 62 = true := by kernel_rfl
theorem sl_24_62_1 : slB Try.prog 24 62 1 = true := by kernel_rfl
theorem und_62 : (Try.prog.underlying 62).isSome = true := by kernel_rfl
end T71
set_option maxRecDepth 100000 in
set_option maxHeartbeats 4000000 in
theorem c_l_eqFloat32S {a a2 : Option Addr} {n m cc c2 : Nat} {x y X : List Nat} (w : World) (h1 : Sl w a (flts x)) (l1 : x.length = n) (k1 : cn x = X) (h2 : Sl w a2 (flts y)) (l2 : y.length = m) (k2 : cn y = X) (hb : n ≤ 9223372036854775806) :
    Calls Try.prog 71 #[.slice a n cc, .slice a2 m c2] w (Rt fun v w' => v = .bool true ∧ Ext0 w w') := by
  have E0 : Ext no w w := Ext.refl _ _
  have lx := cn_lenX k1
  have ly := cn_lenX k2
  have lo_a := Sl.low h1
  have lo_a2 := Sl.low h2
  refine calls_W (n := 29) Try.func71 rfl rfl (Nat.le_of_ble_eq_true rfl) ?_
  refine W_seq ?_
  refine W_region (by kernel_rfl) ?_
  refine s_y (v := .bool false) rfl (y_assign rfl) ?_
  refine s_nil ?_
  refine W_seq ?_
  refine W_seq ?_
  refine W_region (by kernel_rfl) ?_
  refine s_y (v := .slice a n cc) rfl (y_move rfl) ?_
  refine s_y (v := .int .i64 ((n : Nat) : Int)) rfl (y_len T71.sl_24_62_1 rfl rfl) ?_
  refine s_y (v := .slice a2 m c2) rfl (y_move rfl) ?_
  refine s_y (v := .int .i64 ((m : Nat) : Int)) rfl (y_len T71.sl_24_62_1 rfl rfl) ?_
  by_cases c1 : ((n : Nat) : Int) ≠ ((m : Nat) : Int)
  · refine s_y (v := .bool true) rfl (y_neq rfl rfl (decide_eq_true c1)) ?_
    refine s_nil ?_
    refine W_if_t (by decide) rfl ?_
    refine W_seq ?_
    refine W_region (by kernel_rfl) ?_
    refine s_y (v := .bool false) rfl (y_assign rfl) ?_
    refine s_nil ?_
    refine W_ret ?_
    refine ret1 rfl rfl rfl ⟨_, rfl, ?_⟩
    omega
  · refine s_y (v := .bool false) rfl (y_neq rfl rfl (decide_eq_false c1)) ?_
    refine s_nil ?_
    refine W_if_f (by decide) rfl ?_
    refine W_skip ?_
    refine W_seq ?_
    refine W_seq ?_
    refine W_region (by kernel_rfl) ?_
    refine s_y (v := .int .i64 0) rfl (y_assign rfl) ?_
    refine s_nil ?_
    refine W_block ?_
-- loop drops slots [4]
    refine W_loop (fun ρ' w' => ∃ (ρ1 : Env) (k : Int), ρ' = updL ρ1 [(0, .slice a n cc), (1, .slice a2 m c2), (5, .int .i64 k)] ∧ Ext no w w' ∧ Sl w' a (flts x) ∧ Sl w' a2 (flts y) ∧ (0 ≤ k) ∧ (k ≤ (n : Int))) (fun ρ' _ => ((n : Int) - iv (ρ' 5)).toNat) ?_ ?_
    · exact ⟨_, 0, Fits.eq ⟨rfl, rfl, rfl, trivial⟩, E0, h1, h2, (Int.le_refl _), (by omega)⟩
    · rintro _ w2 ⟨ρ6, k, rfl, E3, hS4, hS5, h0k, h1k⟩
      refine W_seq ?_
      refine W_seq ?_
      refine W_region (by kernel_rfl) ?_
      refine s_y (v := .int .i64 k) rfl (y_move rfl) ?_
      refine s_y (v := .slice a n cc) rfl (y_move rfl) ?_
      refine s_y (v := .int .i64 ((n : Nat) : Int)) rfl (y_len T71.sl_24_62_1 rfl rfl) ?_
      by_cases c7 : k < ((n : Nat) : Int)
      · refine s_y (v := .bool true) rfl (y_lss rfl rfl (decide_eq_true c7)) ?_
        refine s_nil ?_
        refine W_if_t (by decide) rfl ?_
        refine W_skip ?_
        refine W_seq ?_
        refine W_block ?_
        refine W_seq ?_
        refine W_draw (no) T71.mx (by kernel_rfl) (fun w8 e9 => ?_)
        have hS10 := hS4.ext0 e9
        have hS11 := hS5.ext0 e9
        have E12 := E3.fresh e9 (fun _ h _ => h.elim)
        have R13 := (Ext.refl (no) w2).trans (Ext0.any e9)
        refine m_y (v := .slice a n cc) 0 rfl (by kernel_rfl) rfl rfl (fun w' e' => y_move rfl) ?_
        refine m_y (v := .int .i64 k) 1 rfl (by kernel_rfl) rfl rfl (fun w' e' => y_move rfl) ?_
        refine m_y (v := .pointer (some (sat a ((k).toNat * 1)))) 2 rfl (by kernel_rfl) rfl rfl (fun w' e' => y_idx T71.sl_24_62_1 rfl rfl (hS10.addr (by rw [flts_length]; omega)) (by omega) (by omega)) ?_
        refine m_y (v := .float .f32 (el x k)) 3 rfl (by kernel_rfl) rfl rfl (fun w' e' => y_load T71.one_62 rfl ((hS4.ext0 e').cell (fl_at (by omega) (by omega)))) ?_
        refine m_y (v := .slice a2 m c2) 5 rfl (by kernel_rfl) rfl rfl (fun w' e' => y_move rfl) ?_
        refine m_y (v := .int .i64 k) 6 rfl (by kernel_rfl) rfl rfl (fun w' e' => y_move rfl) ?_
        refine m_y (v := .pointer (some (sat a2 ((k).toNat * 1)))) 7 rfl (by kernel_rfl) rfl rfl (fun w' e' => y_idx T71.sl_24_62_1 rfl rfl (hS11.addr (by rw [flts_length]; omega)) (by omega) (by omega)) ?_
        refine m_y (v := .float .f32 (el y k)) 8 rfl (by kernel_rfl) rfl rfl (fun w' e' => y_load T71.one_62 rfl ((hS5.ext0 e').cell (fl_at (by omega) (by omega)))) ?_
        refine m_n 4 [10, 11] rfl (by kernel_rfl) rfl rfl (fun w' e' => n_wide T71.und_62 T71.flt_68_f64 rfl) ?_
        rintro _ ⟨r14, rfl, hr15⟩
        have hc18 := wideC hr15 (cn_el k1 k)
        refine m_n 9 [10, 11] rfl (by kernel_rfl) rfl rfl (fun w' e' => n_wide T71.und_62 T71.flt_68_f64 rfl) ?_
        rintro _ ⟨r19, rfl, hr20⟩
        have hc23 := wideC hr20 (cn_el k2 k)
        refine m_k 10 [11] rfl (by kernel_rfl) rfl rfl (fun w24 e25 => ?_)
        have hS26 := hS10.ext0 e25
        have hS27 := hS11.ext0 e25
        have E28 := E12.fresh e25 (fun _ h _ => h.elim)
        have R29 := R13.trans (Ext0.any e25)
        refine k_call T71.fn_45 (c_l_sameFloat _ _ _ hc18 hc23 _) rfl ?_
        rintro _ w30 ⟨rfl, e31⟩
        have hS32 := hS26.ext0 e31
        have hS33 := hS27.ext0 e31
        have E34 := E28.fresh e31 (fun _ h _ => h.elim)
        have R35 := R29.trans (Ext0.any e31)
        refine ⟨fun _ => R35, ?_⟩
        refine m_y (v := .bool false) 11 rfl (by kernel_rfl) rfl rfl (fun w' e' => y_not rfl rfl) ?_
        refine m_done (by kernel_rfl) (fun w36 e37 => ?_)
        have hS38 := hS32.ext0 e37
        have hS39 := hS33.ext0 e37
        have E40 := E34.fresh e37 (fun _ h _ => h.elim)
        have R41 := R35.trans (Ext0.any e37)
        refine W_if_f (by decide) rfl ?_
        refine W_skip ?_
        refine W_region (by kernel_rfl) ?_
        refine s_y (v := .int .i64 k) rfl (y_move rfl) ?_
        refine s_y (v := .int .i64 (k + 1)) rfl (y_add rfl rfl rfl (by omega)) ?_
        refine s_y (v := .int .i64 (k + 1)) rfl (y_assign rfl) ?_
        refine s_nil ?_
        refine ⟨⟨_, k + 1, Fits.eq ⟨rfl, rfl, rfl, trivial⟩, E40, hS38, hS39, (by omega), (by omega)⟩, ?_⟩
        show ((n : Int) - (k + 1)).toNat < ((n : Int) - k).toNat
        omega
      · refine s_y (v := .bool false) rfl (y_lss rfl rfl (decide_eq_false c7)) ?_
        refine s_nil ?_
        refine W_if_f (by decide) rfl ?_
        refine W_exit ?_
        refine W_seq ?_
        refine W_region (by kernel_rfl) ?_
        refine s_y (v := .bool true) rfl (y_assign rfl) ?_
        refine s_nil ?_
        refine W_ret ?_
        refine ret1 rfl rfl rfl ⟨_, rfl, ?_⟩
        exact ⟨rfl, E3⟩
namespace T25
theorem mx : Try.prog.follows .mixedOrders = true := by kernel_rfl
theorem bool_4 : Try.prog.underlying 4 = some .bool := by kernel_rfl
theorem fld_26_0_0 : fldB Try.prog 26 0 0 = true := by kernel_rfl
theorem fld_26_1_1 : fldB Try.prog 26 1 1 = true := by kernel_rfl
theorem fld_26_2_2 : fldB Try.prog 26 2 2 = true := by kernel_rfl
theorem fld_26_3_3 : fldB Try.prog 26 3 3 = true := by kernel_rfl
theorem fld_26_4_4 : fldB Try.prog 26 4 4 = true := by kernel_rfl
theorem fn_71 : fnB Try.prog 71 = true := by kernel_rfl
theorem one_2 : oneB Try.prog 2 = true := by kernel_rfl
theorem one_24 : oneB Try.prog 24 = true := by kernel_rfl
theorem one_4 : oneB Try.prog 4 = true := by kernel_rfl
end T25
set_option maxRecDepth 100000 in
set_option maxHeartbeats 4000000 in
theorem c_l_eqSheet {wd hi : Int} {wr : Bool} {asp bsp : Option Addr} {nsp csp msp esp : Nat} {xsp ysp Xsp : List Nat} {als bls : Option Addr} {nls cls mls els : Nat} {xls yls Xls : List Nat} (w : World) (qssp : Sl w asp (flts xsp)) (qlsp : xsp.length = nsp) (qksp : cn xsp = Xsp) (rssp : Sl w bsp (flts ysp)) (rlsp : ysp.length = msp) (rksp : cn ysp = Xsp) (hbsp : nsp ≤ 9223372036854775806) (qsls : Sl w als (flts xls)) (qlls : xls.length = nls) (qkls : cn xls = Xls) (rsls : Sl w bls (flts yls)) (rlls : yls.length = mls) (rkls : cn yls = Xls) (hbls : nls ≤ 9223372036854775806) :
    Calls Try.prog 25 #[.agg #[.int .i64 wd, .int .i64 hi, .bool wr, .slice asp nsp csp, .slice als nls cls], .agg #[.int .i64 wd, .int .i64 hi, .bool wr, .slice bsp msp esp, .slice bls mls els]] w (Rt fun v w' => v = .bool true ∧ Ext0 w w') := by
  have E0 : Ext no w w := Ext.refl _ _
  have lo_asp := Sl.low qssp
  have lo_bsp := Sl.low rssp
  have lo_als := Sl.low qsls
  have lo_bls := Sl.low rsls
  refine calls_W (n := 32) Try.func25 rfl rfl (Nat.le_of_ble_eq_true rfl) ?_
  refine W_seq ?_
  refine W_region (by kernel_rfl) ?_
  refine s_k rfl (k_box (v := .agg #[.int .i64 wd, .int .i64 hi, .bool wr, .slice asp nsp csp, .slice als nls cls]) (cs := [.int .i64 wd, .int .i64 hi, .bool wr, .slice asp nsp csp, .slice als nls cls]) rfl rfl (fun b1 w2 q4 e3 hB5 => ?_))
  have hS6 := qssp.ext0 e3
  have hS7 := rssp.ext0 e3
  have hS8 := qsls.ext0 e3
  have hS9 := rsls.ext0 e3
  have E10 := E0.fresh e3 (fun _ h _ => h.elim)
  have fr11 : NotLt b1 w.heap.size := fun h => Nat.not_lt.2 (Nat.le_trans E0.size (Nat.le_of_eq q4.symm)) h
  clear q4
  refine s_k rfl (k_box (v := .agg #[.int .i64 wd, .int .i64 hi, .bool wr, .slice bsp msp esp, .slice bls mls els]) (cs := [.int .i64 wd, .int .i64 hi, .bool wr, .slice bsp msp esp, .slice bls mls els]) rfl rfl (fun b12 w13 q15 e14 hB16 => ?_))
  have hB17 := hB5.ext0 e14
  have hS18 := hS6.ext0 e14
  have hS19 := hS7.ext0 e14
  have hS20 := hS8.ext0 e14
  have hS21 := hS9.ext0 e14
  have E22 := E10.fresh e14 (fun _ h _ => h.elim)
  have dj23 : NeB b1 b12 := fun h => Nat.ne_of_lt hB5.lt (h.trans q15)
  have fr24 : NotLt b12 w.heap.size := fun h => Nat.not_lt.2 (Nat.le_trans E10.size (Nat.le_of_eq q15.symm)) h
  clear q15
  refine s_y (v := .bool false) rfl (y_assign rfl) ?_
  refine s_nil ?_
  refine W_seq ?_
  refine W_seq ?_
  refine W_region (by kernel_rfl) ?_
  refine s_y (v := .pointer (some ⟨b1, 0, none⟩)) rfl (y_fld (o := 0) T25.fld_26_0_0 rfl) ?_
  refine s_y (v := .int .i64 wd) rfl (y_load T25.one_2 rfl (hB17.cell (j := 0) rfl)) ?_
  refine s_y (v := .pointer (some ⟨b12, 0, none⟩)) rfl (y_fld (o := 0) T25.fld_26_0_0 rfl) ?_
  refine s_y (v := .int .i64 wd) rfl (y_load T25.one_2 rfl (hB16.cell (j := 0) rfl)) ?_
  refine s_y (v := .bool false) rfl (y_neq rfl rfl (decide_eq_false (fun hq => hq rfl))) ?_
  refine s_nil ?_
  refine W_if_f (by decide) rfl ?_
  refine W_skip ?_
  refine W_seq ?_
  refine W_seq ?_
  refine W_region (by kernel_rfl) ?_
  refine s_y (v := .pointer (some ⟨b1, 1, none⟩)) rfl (y_fld (o := 0) T25.fld_26_1_1 rfl) ?_
  refine s_y (v := .int .i64 hi) rfl (y_load T25.one_2 rfl (hB17.cell (j := 1) rfl)) ?_
  refine s_y (v := .pointer (some ⟨b12, 1, none⟩)) rfl (y_fld (o := 0) T25.fld_26_1_1 rfl) ?_
  refine s_y (v := .int .i64 hi) rfl (y_load T25.one_2 rfl (hB16.cell (j := 1) rfl)) ?_
  refine s_y (v := .bool false) rfl (y_neq rfl rfl (decide_eq_false (fun hq => hq rfl))) ?_
  refine s_nil ?_
  refine W_if_f (by decide) rfl ?_
  refine W_skip ?_
  refine W_seq ?_
  refine W_seq ?_
  refine W_region (by kernel_rfl) ?_
  refine s_y (v := .pointer (some ⟨b1, 2, none⟩)) rfl (y_fld (o := 0) T25.fld_26_2_2 rfl) ?_
  refine s_y (v := .bool wr) rfl (y_load T25.one_4 rfl (hB17.cell (j := 2) rfl)) ?_
  refine s_y (v := .pointer (some ⟨b12, 2, none⟩)) rfl (y_fld (o := 0) T25.fld_26_2_2 rfl) ?_
  refine s_y (v := .bool wr) rfl (y_load T25.one_4 rfl (hB16.cell (j := 2) rfl)) ?_
  refine s_y (v := .bool false) rfl (y_bneq T25.bool_4 rfl rfl (by simp)) ?_
  refine s_nil ?_
  refine W_if_f (by decide) rfl ?_
  refine W_skip ?_
  refine W_seq ?_
  refine W_seq ?_
  refine W_region (by kernel_rfl) ?_
  refine s_y (v := .pointer (some ⟨b1, 3, none⟩)) rfl (y_fld (o := 0) T25.fld_26_3_3 rfl) ?_
  refine s_y (v := .slice asp nsp csp) rfl (y_load T25.one_24 rfl (hB17.cell (j := 3) rfl)) ?_
  refine s_y (v := .pointer (some ⟨b12, 3, none⟩)) rfl (y_fld (o := 0) T25.fld_26_3_3 rfl) ?_
  refine s_y (v := .slice bsp msp esp) rfl (y_load T25.one_24 rfl (hB16.cell (j := 3) rfl)) ?_
  refine s_k rfl (k_call T25.fn_71 (c_l_eqFloat32S _ hS18 qlsp qksp hS19 rlsp rksp (by omega)) rfl ?_)
  rintro _ w25 ⟨rfl, e26⟩
  have hB27 := hB17.ext0 e26
  have hB28 := hB16.ext0 e26
  have hS29 := hS18.ext0 e26
  have hS30 := hS19.ext0 e26
  have hS31 := hS20.ext0 e26
  have hS32 := hS21.ext0 e26
  have E33 := E22.fresh e26 (fun _ h _ => h.elim)
  refine s_y (v := .bool false) rfl (y_not rfl rfl) ?_
  refine s_nil ?_
  refine W_if_f (by decide) rfl ?_
  refine W_skip ?_
  refine W_seq ?_
  refine W_seq ?_
  refine W_region (by kernel_rfl) ?_
  refine s_y (v := .pointer (some ⟨b1, 4, none⟩)) rfl (y_fld (o := 0) T25.fld_26_4_4 rfl) ?_
  refine s_y (v := .slice als nls cls) rfl (y_load T25.one_24 rfl (hB27.cell (j := 4) rfl)) ?_
  refine s_y (v := .pointer (some ⟨b12, 4, none⟩)) rfl (y_fld (o := 0) T25.fld_26_4_4 rfl) ?_
  refine s_y (v := .slice bls mls els) rfl (y_load T25.one_24 rfl (hB28.cell (j := 4) rfl)) ?_
  refine s_k rfl (k_call T25.fn_71 (c_l_eqFloat32S _ hS31 qlls qkls hS32 rlls rkls (by omega)) rfl ?_)
  rintro _ w34 ⟨rfl, e35⟩
  have hB36 := hB27.ext0 e35
  have hB37 := hB28.ext0 e35
  have hS38 := hS29.ext0 e35
  have hS39 := hS30.ext0 e35
  have hS40 := hS31.ext0 e35
  have hS41 := hS32.ext0 e35
  have E42 := E33.fresh e35 (fun _ h _ => h.elim)
  refine s_y (v := .bool false) rfl (y_not rfl rfl) ?_
  refine s_nil ?_
  refine W_if_f (by decide) rfl ?_
  refine W_skip ?_
  refine W_seq ?_
  refine W_region (by kernel_rfl) ?_
  refine s_y (v := .bool true) rfl (y_assign rfl) ?_
  refine s_nil ?_
  refine W_ret ?_
  refine ret1 rfl rfl rfl ⟨_, rfl, ?_⟩
  exact ⟨rfl, E42⟩
namespace T82
theorem mx : Try.prog.follows .mixedOrders = true := by kernel_rfl
theorem flt_62_f32 : Try.prog.underlying 62 = some (.float .f32) := by kernel_rfl
theorem sl_24_62_1 : slB Try.prog 24 62 1 = true := by kernel_rfl
theorem sz_62_1 : szB Try.prog 62 1 = true := by kernel_rfl
theorem und_3 : (Try.prog.underlying 3).isSome = true := by kernel_rfl
end T82
set_option maxRecDepth 100000 in
set_option maxHeartbeats 4000000 in
theorem c_l_markFloat32S {a : Option Addr} {n c : Nat} {x X : List Nat} {k : Int} (w : World) {B : Nat} (qo : Own w B a n c 62 1 (flts x)) (ql : x.length = n) (qk : cn x = X) (hl : n ≤ 1048576) (hk0 : 0 ≤ k) (hk1 : k ≤ 4294967296) :
    Calls Try.prog 82 #[.slice a n c, .int .i64 k] w (Rt fun v w' => v = .int .i64 (k + (n : Nat)) ∧ Own w' B a n c 62 1 (flts (marks k n)) ∧ Ext (inA a) w w') := by
  have E0 : Ext (inA a) w w := Ext.refl _ _
  refine calls_W (n := 20) Try.func82 rfl rfl (Nat.le_of_ble_eq_true rfl) ?_
  refine W_seq ?_
  refine W_region (by kernel_rfl) ?_
  refine s_y (v := .int .i64 0) rfl (y_assign rfl) ?_
  refine s_nil ?_
  refine W_seq ?_
  refine W_seq ?_
  refine W_region (by kernel_rfl) ?_
  refine s_y (v := .int .i64 0) rfl (y_assign rfl) ?_
  refine s_nil ?_
  refine W_block ?_
  refine W_loop (fun ρ' w' => ∃ (ρ1 : Env) (j : Int) (zs : List Nat), ρ' = updL ρ1 [(0, .slice a n c), (1, .int .i64 (k + j)), (4, .int .i64 0), (5, .int .i64 j)] ∧ Ext (inA a) w w' ∧ Own w' B a n c 62 1 (flts zs) ∧ (0 ≤ j) ∧ (j ≤ (n : Int)) ∧ (zs.length = n) ∧ (∀ i, 0 ≤ i → i < j → el zs i = FloatKind.nearest .f32 (k + i))) (fun ρ' _ => ((n : Int) - iv (ρ' 5)).toNat) ?_ ?_
  · exact ⟨_, 0, _, Fits.eq ⟨rfl, (by first | rfl | exact congrArg (Value.int .i64) (by omega)), rfl, rfl, trivial⟩, E0, qo, (Int.le_refl _), (by omega), ql, (by intro i h0 h1; omega)⟩
  · rintro _ w1 ⟨ρ4, j, zs, rfl, E2, hO3, h0j, h1j, hz, hq⟩
    refine W_seq ?_
    refine W_seq ?_
    refine W_region (by kernel_rfl) ?_
    refine s_y (v := .int .i64 j) rfl (y_move rfl) ?_
    refine s_y (v := .slice a n c) rfl (y_move rfl) ?_
    refine s_y (v := .int .i64 ((n : Nat) : Int)) rfl (y_len T82.sl_24_62_1 rfl rfl) ?_
    by_cases c5 : j < ((n : Nat) : Int)
    · refine s_y (v := .bool true) rfl (y_lss rfl rfl (decide_eq_true c5)) ?_
      refine s_nil ?_
      refine W_if_t (by decide) rfl ?_
      refine W_skip ?_
      refine W_seq ?_
      refine W_block ?_
      refine W_seq ?_
      refine W_region (by kernel_rfl) ?_
      refine s_y (v := .slice a n c) rfl (y_move rfl) ?_
      refine s_y (v := .int .i64 j) rfl (y_move rfl) ?_
      refine s_y (v := .int .i64 (k + j)) rfl (y_move rfl) ?_
      refine s_y (v := .float .f32 (FloatKind.nearest .f32 (k + j))) rfl (y_if T82.und_3 T82.flt_62_f32 rfl) ?_
      refine s_y (v := .pointer (some (sat a ((j).toNat * 1)))) rfl (y_idx T82.sl_24_62_1 rfl rfl (hO3.sl.addr (by rw [flts_length]; omega)) (by omega) (by omega)) ?_
      refine s_k0 rfl (k_storeEl (v := .float .f32 (FloatKind.nearest .f32 (k + j))) T82.sz_62_1 rfl rfl rfl rfl hO3 (by rw [flts_length]; omega) (fun w6 e7 z8 hO9 => ?_))
      clear z8
      have E10 := E2.fresh e7 (fun kx hs hl => (fun hs => hs) hs)
      have hO11 := hO9.cast rfl (flts_put zs j (FloatKind.nearest .f32 (k + j)))
      have hl12 := (put_length zs j (FloatKind.nearest .f32 (k + j))).trans hz
      have hc13 := cn_put (rfl : cn zs = cn zs) (can_nearest .f32 (k + j)) j
      refine s_nil ?_
      refine W_region (by kernel_rfl) ?_
      refine s_y (v := .int .i64 (k + j)) rfl (y_move rfl) ?_
      refine s_y (v := .int .i64 ((k + j) + 1)) rfl (y_add rfl rfl rfl (by omega)) ?_
      refine s_y (v := .int .i64 ((k + j) + 1)) rfl (y_assign rfl) ?_
      refine s_nil ?_
      refine W_region (by kernel_rfl) ?_
      refine s_y (v := .int .i64 j) rfl (y_move rfl) ?_
      refine s_y (v := .int .i64 (j + 1)) rfl (y_add rfl rfl rfl (by omega)) ?_
      refine s_y (v := .int .i64 (j + 1)) rfl (y_assign rfl) ?_
      refine s_nil ?_
      refine ⟨⟨_, j + 1, _, Fits.eq ⟨rfl, (by first | rfl | exact congrArg (Value.int .i64) (by omega)), rfl, rfl, trivial⟩, E10, hO11, (by omega), (by omega), hl12, (el_mark (by omega) (by omega) (by omega) hq)⟩, ?_⟩
      show ((n : Int) - (j + 1)).toNat < ((n : Int) - j).toNat
      omega
    · refine s_y (v := .bool false) rfl (y_lss rfl rfl (decide_eq_false c5)) ?_
      refine s_nil ?_
      refine W_if_f (by decide) rfl ?_
      refine W_exit ?_
      refine W_seq ?_
      refine W_region (by kernel_rfl) ?_
      refine s_y (v := .int .i64 (k + j)) rfl (y_move rfl) ?_
      refine s_y (v := .int .i64 (k + j)) rfl (y_assign rfl) ?_
      refine s_nil ?_
      refine W_ret ?_
      refine ret1 rfl rfl rfl ⟨_, rfl, ?_⟩
      obtain rfl : zs = marks k n := marks_done (by omega) (fun i h0 h1 => hq i h0 (by omega))
      exact ⟨congrArg (Value.int .i64) (by omega), hO3, E2⟩
namespace T37
theorem mx : Try.prog.follows .mixedOrders = true := by kernel_rfl
theorem fld_26_3_3 : fldB Try.prog 26 3 3 = true := by kernel_rfl
theorem fld_26_4_4 : fldB Try.prog 26 4 4 = true := by kernel_rfl
theorem fn_82 : fnB Try.prog 82 = true := by kernel_rfl
theorem one_24 : oneB Try.prog 24 = true := by kernel_rfl
end T37
set_option maxRecDepth 100000 in
set_option maxHeartbeats 4000000 in
theorem c_l_markSheet {wd hi : Int} {wr : Bool} {asp : Option Addr} {nsp csp : Nat} {xsp Xsp : List Nat} {als : Option Addr} {nls cls : Nat} {xls Xls : List Nat} {k : Int} (w : World) {Bsp : Nat} (qosp : Own w Bsp asp nsp csp 62 1 (flts xsp)) (qlsp : xsp.length = nsp) (qksp : cn xsp = Xsp) {Bls : Nat} (qols : Own w Bls als nls cls 62 1 (flts xls)) (qlls : xls.length = nls) (qkls : cn xls = Xls) (djspls : ∀ k, inA asp k → inA als k → False) (hbsp : nsp ≤ 1048576) (hbls : nls ≤ 1048576) (hk0 : 0 ≤ k) (hk1 : k ≤ 4200000000) :
    Calls Try.prog 37 #[.agg #[.int .i64 wd, .int .i64 hi, .bool wr, .slice asp nsp csp, .slice als nls cls], .int .i64 k] w (Rt fun v w' => v = .int .i64 (k + ((nsp : Nat) : Int) + ((nls : Nat) : Int)) ∧ Own w' Bsp asp nsp csp 62 1 (flts (marks k nsp)) ∧ Own w' Bls als nls cls 62 1 (flts (marks (k + ((nsp : Nat) : Int)) nls)) ∧ Ext (fun k => inA asp k ∨ inA als k) w w') := by
  have E0 : Ext (fun k => inA asp k ∨ inA als k) w w := Ext.refl _ _
  refine calls_W (n := 14) Try.func37 rfl rfl (Nat.le_of_ble_eq_true rfl) ?_
  refine W_seq ?_
  refine W_region (by kernel_rfl) ?_
  refine s_k rfl (k_box (v := .agg #[.int .i64 wd, .int .i64 hi, .bool wr, .slice asp nsp csp, .slice als nls cls]) (cs := [.int .i64 wd, .int .i64 hi, .bool wr, .slice asp nsp csp, .slice als nls cls]) rfl rfl (fun b1 w2 q4 e3 hB5 => ?_))
  have hO6 := qosp.ext0 e3
  have hO7 := qols.ext0 e3
  have E8 := E0.fresh e3 (fun _ h _ => h.elim)
  have dj9 : inA asp b1 → False := fun h => Nat.ne_of_lt (qosp.blk _ h).2 q4
  have dj10 : inA als b1 → False := fun h => Nat.ne_of_lt (qols.blk _ h).2 q4
  have fr11 : NotLt b1 w.heap.size := fun h => Nat.not_lt.2 (Nat.le_trans E0.size (Nat.le_of_eq q4.symm)) h
  clear q4
  refine s_y (v := .int .i64 0) rfl (y_assign rfl) ?_
  refine s_nil ?_
  refine W_seq ?_
  refine W_region (by kernel_rfl) ?_
  refine s_y (v := .pointer (some ⟨b1, 3, none⟩)) rfl (y_fld (o := 0) T37.fld_26_3_3 rfl) ?_
  refine s_y (v := .slice asp nsp csp) rfl (y_load T37.one_24 rfl (hB5.cell (j := 3) rfl)) ?_
  refine s_y (v := .int .i64 k) rfl (y_move rfl) ?_
  refine s_k rfl (k_call T37.fn_82 (c_l_markFloat32S _ hO6 qlsp qksp (by omega) (by omega) (by omega)) rfl ?_)
  rintro _ w12 ⟨rfl, hO14, e13⟩
  have hB15 := hB5.ext e13 (fun hk => dj9 hk)
  have hO16 := hO7.ext e13 (fun kx hk hs => (fun hs => djspls kx hs hk) hs)
  have E17 := E8.fresh e13 (fun kx hs hl => (fun hs => (.inl hs)) hs)
  refine s_y (v := .int .i64 (k + (nsp : Nat))) rfl (y_assign rfl) ?_
  refine s_nil ?_
  refine W_seq ?_
  refine W_region (by kernel_rfl) ?_
  refine s_y (v := .pointer (some ⟨b1, 4, none⟩)) rfl (y_fld (o := 0) T37.fld_26_4_4 rfl) ?_
  refine s_y (v := .slice als nls cls) rfl (y_load T37.one_24 rfl (hB15.cell (j := 4) rfl)) ?_
  refine s_y (v := .int .i64 (k + (nsp : Nat))) rfl (y_move rfl) ?_
  refine s_k rfl (k_call T37.fn_82 (c_l_markFloat32S _ hO16 qlls qkls (by omega) (by omega) (by omega)) rfl ?_)
  rintro _ w18 ⟨rfl, hO20, e19⟩
  have hB21 := hB15.ext e19 (fun hk => dj10 hk)
  have hO22 := hO14.ext e19 (fun kx hk hs => (fun hs => (fun kx h1 h2 => djspls kx h2 h1) kx hs hk) hs)
  have E23 := E17.fresh e19 (fun kx hs hl => (fun hs => (.inr hs)) hs)
  refine s_y (v := .int .i64 ((k + (nsp : Nat)) + (nls : Nat))) rfl (y_assign rfl) ?_
  refine s_nil ?_
  refine W_seq ?_
  refine W_region (by kernel_rfl) ?_
  refine s_y (v := .int .i64 ((k + (nsp : Nat)) + (nls : Nat))) rfl (y_move rfl) ?_
  refine s_y (v := .int .i64 ((k + (nsp : Nat)) + (nls : Nat))) rfl (y_assign rfl) ?_
  refine s_nil ?_
  refine W_ret ?_
  refine ret1 rfl rfl rfl ⟨_, rfl, ?_⟩
  exact ⟨rfl, hO22, hO20, E23⟩
namespace T83
theorem mx : Try.prog.follows .mixedOrders = true := by kernel_rfl
theorem flt_62_f32 : Try.prog.underlying 62 = some (.float .f32) := by kernel_rfl
theorem one_62 : oneB Try.prog 62 = true := by kernel_rfl
theorem sl_24_62_1 : slB Try.prog 24 62 1 = true := by kernel_rfl
theorem und_3 : (Try.prog.underlying 3).isSome = true := by kernel_rfl
end T83
set_option maxRecDepth 100000 in
set_option maxHeartbeats 4000000 in
theorem c_l_heldFloat32S {a : Option Addr} {n c : Nat} {k : Int} (w : World) (qs : Sl w a (flts (marks k n))) (hl : n ≤ 1048576) (hk0 : 0 ≤ k) (hk1 : k ≤ 4294967296) :
    Calls Try.prog 83 #[.slice a n c, .int .i64 k] w (Rt fun v w' => v = .int .i64 (k + (n : Nat)) ∧ Ext0 w w') := by
  have E0 : Ext no w w := Ext.refl _ _
  have hml := marks_length k n
  have lo_a := Sl.low qs
  refine calls_W (n := 22) Try.func83 rfl rfl (Nat.le_of_ble_eq_true rfl) ?_
  refine W_seq ?_
  refine W_region (by kernel_rfl) ?_
  refine s_y (v := .int .i64 0) rfl (y_assign rfl) ?_
  refine s_nil ?_
  refine W_seq ?_
  refine W_seq ?_
  refine W_region (by kernel_rfl) ?_
  refine s_y (v := .int .i64 0) rfl (y_assign rfl) ?_
  refine s_nil ?_
  refine W_block ?_
-- loop drops slots [4]
  refine W_loop (fun ρ' w' => ∃ (ρ1 : Env) (j : Int), ρ' = updL ρ1 [(0, .slice a n c), (1, .int .i64 (k + j)), (5, .int .i64 j)] ∧ Ext no w w' ∧ Sl w' a (flts (marks k n)) ∧ (0 ≤ j) ∧ (j ≤ (n : Int))) (fun ρ' _ => ((n : Int) - iv (ρ' 5)).toNat) ?_ ?_
  · exact ⟨_, 0, Fits.eq ⟨rfl, (by first | rfl | exact congrArg (Value.int .i64) (by omega)), rfl, trivial⟩, E0, qs, (Int.le_refl _), (by omega)⟩
  · rintro _ w1 ⟨ρ4, j, rfl, E2, hS3, h0j, h1j⟩
    refine W_seq ?_
    refine W_seq ?_
    refine W_region (by kernel_rfl) ?_
    refine s_y (v := .int .i64 j) rfl (y_move rfl) ?_
    refine s_y (v := .slice a n c) rfl (y_move rfl) ?_
    refine s_y (v := .int .i64 ((n : Nat) : Int)) rfl (y_len T83.sl_24_62_1 rfl rfl) ?_
    by_cases c5 : j < ((n : Nat) : Int)
    · refine s_y (v := .bool true) rfl (y_lss rfl rfl (decide_eq_true c5)) ?_
      refine s_nil ?_
      refine W_if_t (by decide) rfl ?_
      refine W_skip ?_
      refine W_seq ?_
      refine W_block ?_
      refine W_seq ?_
      refine W_seq ?_
      refine W_region (by kernel_rfl) ?_
      refine s_y (v := .slice a n c) rfl (y_move rfl) ?_
      refine s_y (v := .int .i64 j) rfl (y_move rfl) ?_
      refine s_y (v := .pointer (some (sat a ((j).toNat * 1)))) rfl (y_idx T83.sl_24_62_1 rfl rfl (hS3.addr (by rw [flts_length]; omega)) (by omega) (by omega)) ?_
      refine s_y (v := .float .f32 (el (marks k n) j)) rfl (y_load T83.one_62 rfl (hS3.cell (fl_at (by omega) (by omega)))) ?_
      refine s_y (v := .int .i64 (k + j)) rfl (y_move rfl) ?_
      refine s_y (v := .float .f32 (FloatKind.nearest .f32 (k + j))) rfl (y_if T83.und_3 T83.flt_62_f32 rfl) ?_
      have hk6 : ¬ (fne .f32 (el (cn (marks k n)) j) (FloatKind.nearest .f32 (k + j)) = true) := not_fne_marks (by omega) (by omega)
      refine s_y (v := .bool false) rfl (y_fneq rfl rfl (fneC (cn_el (rfl : cn (marks k n) = cn (marks k n)) j) (can_nearest .f32 (k + j)) (Bool.eq_false_iff.2 hk6))) ?_
      refine s_nil ?_
      refine W_if_f (by decide) rfl ?_
      refine W_skip ?_
      refine W_region (by kernel_rfl) ?_
      refine s_y (v := .int .i64 (k + j)) rfl (y_move rfl) ?_
      refine s_y (v := .int .i64 ((k + j) + 1)) rfl (y_add rfl rfl rfl (by omega)) ?_
      refine s_y (v := .int .i64 ((k + j) + 1)) rfl (y_assign rfl) ?_
      refine s_nil ?_
      refine W_region (by kernel_rfl) ?_
      refine s_y (v := .int .i64 j) rfl (y_move rfl) ?_
      refine s_y (v := .int .i64 (j + 1)) rfl (y_add rfl rfl rfl (by omega)) ?_
      refine s_y (v := .int .i64 (j + 1)) rfl (y_assign rfl) ?_
      refine s_nil ?_
      refine ⟨⟨_, j + 1, Fits.eq ⟨rfl, (by first | rfl | exact congrArg (Value.int .i64) (by omega)), rfl, trivial⟩, E2, hS3, (by omega), (by omega)⟩, ?_⟩
      show ((n : Int) - (j + 1)).toNat < ((n : Int) - j).toNat
      omega
    · refine s_y (v := .bool false) rfl (y_lss rfl rfl (decide_eq_false c5)) ?_
      refine s_nil ?_
      refine W_if_f (by decide) rfl ?_
      refine W_exit ?_
      refine W_seq ?_
      refine W_region (by kernel_rfl) ?_
      refine s_y (v := .int .i64 (k + j)) rfl (y_move rfl) ?_
      refine s_y (v := .int .i64 (k + j)) rfl (y_assign rfl) ?_
      refine s_nil ?_
      refine W_ret ?_
      refine ret1 rfl rfl rfl ⟨_, rfl, ?_⟩
      exact ⟨congrArg (Value.int .i64) (by omega), E2⟩
namespace T38
theorem mx : Try.prog.follows .mixedOrders = true := by kernel_rfl
theorem fld_26_3_3 : fldB Try.prog 26 3 3 = true := by kernel_rfl
theorem fld_26_4_4 : fldB Try.prog 26 4 4 = true := by kernel_rfl
theorem fn_83 : fnB Try.prog 83 = true := by kernel_rfl
theorem one_24 : oneB Try.prog 24 = true := by kernel_rfl
end T38
set_option maxRecDepth 100000 in
set_option maxHeartbeats 4000000 in
theorem c_l_heldSheet {wd hi : Int} {wr : Bool} {asp : Option Addr} {nsp csp : Nat} {als : Option Addr} {nls cls : Nat} {k : Int} (w : World) (qssp : Sl w asp (flts (marks k nsp))) (qsls : Sl w als (flts (marks (k + ((nsp : Nat) : Int)) nls))) (hbsp : nsp ≤ 1048576) (hbls : nls ≤ 1048576) (hk0 : 0 ≤ k) (hk1 : k ≤ 4200000000) :
    Calls Try.prog 38 #[.agg #[.int .i64 wd, .int .i64 hi, .bool wr, .slice asp nsp csp, .slice als nls cls], .int .i64 k] w (Rt fun v w' => v = .int .i64 (k + ((nsp : Nat) : Int) + ((nls : Nat) : Int)) ∧ Ext0 w w') := by
  have E0 : Ext no w w := Ext.refl _ _
  have lo_asp := Sl.low qssp
  have lo_als := Sl.low qsls
  refine calls_W (n := 18) Try.func38 rfl rfl (Nat.le_of_ble_eq_true rfl) ?_
  refine W_seq ?_
  refine W_region (by kernel_rfl) ?_
  refine s_k rfl (k_box (v := .agg #[.int .i64 wd, .int .i64 hi, .bool wr, .slice asp nsp csp, .slice als nls cls]) (cs := [.int .i64 wd, .int .i64 hi, .bool wr, .slice asp nsp csp, .slice als nls cls]) rfl rfl (fun b1 w2 q4 e3 hB5 => ?_))
  have hS6 := qssp.ext0 e3
  have hS7 := qsls.ext0 e3
  have E8 := E0.fresh e3 (fun _ h _ => h.elim)
  have fr9 : NotLt b1 w.heap.size := fun h => Nat.not_lt.2 (Nat.le_trans E0.size (Nat.le_of_eq q4.symm)) h
  clear q4
  refine s_y (v := .int .i64 0) rfl (y_assign rfl) ?_
  refine s_nil ?_
  refine W_seq ?_
  refine W_region (by kernel_rfl) ?_
  refine s_y (v := .pointer (some ⟨b1, 3, none⟩)) rfl (y_fld (o := 0) T38.fld_26_3_3 rfl) ?_
  refine s_y (v := .slice asp nsp csp) rfl (y_load T38.one_24 rfl (hB5.cell (j := 3) rfl)) ?_
  refine s_y (v := .int .i64 k) rfl (y_move rfl) ?_
  refine s_k rfl (k_call T38.fn_83 (c_l_heldFloat32S _ hS6 (by omega) (by omega) (by omega)) rfl ?_)
  rintro _ w10 ⟨rfl, e11⟩
  have hB12 := hB5.ext0 e11
  have hS13 := hS6.ext0 e11
  have hS14 := hS7.ext0 e11
  have E15 := E8.fresh e11 (fun _ h _ => h.elim)
  refine s_y (v := .int .i64 (k + (nsp : Nat))) rfl (y_assign rfl) ?_
  refine s_nil ?_
  refine W_seq ?_
  refine W_seq ?_
  refine W_region (by kernel_rfl) ?_
  refine s_y (v := .int .i64 (k + (nsp : Nat))) rfl (y_move rfl) ?_
  have hk16 : ¬ ((k + (nsp : Nat)) < 0) := (by omega)
  refine s_y (v := .bool false) rfl (y_lss rfl rfl (decide_eq_false hk16)) ?_
  refine s_nil ?_
  refine W_if_f (by decide) rfl ?_
  refine W_skip ?_
  refine W_seq ?_
  refine W_region (by kernel_rfl) ?_
  refine s_y (v := .pointer (some ⟨b1, 4, none⟩)) rfl (y_fld (o := 0) T38.fld_26_4_4 rfl) ?_
  refine s_y (v := .slice als nls cls) rfl (y_load T38.one_24 rfl (hB12.cell (j := 4) rfl)) ?_
  refine s_y (v := .int .i64 (k + (nsp : Nat))) rfl (y_move rfl) ?_
  refine s_k rfl (k_call T38.fn_83 (c_l_heldFloat32S _ hS14 (by omega) (by omega) (by omega)) rfl ?_)
  rintro _ w17 ⟨rfl, e18⟩
  have hB19 := hB12.ext0 e18
  have hS20 := hS13.ext0 e18
  have hS21 := hS14.ext0 e18
  have E22 := E15.fresh e18 (fun _ h _ => h.elim)
  refine s_y (v := .int .i64 ((k + (nsp : Nat)) + (nls : Nat))) rfl (y_assign rfl) ?_
  refine s_nil ?_
  refine W_seq ?_
  refine W_seq ?_
  refine W_region (by kernel_rfl) ?_
  refine s_y (v := .int .i64 ((k + (nsp : Nat)) + (nls : Nat))) rfl (y_move rfl) ?_
  have hk23 : ¬ (((k + (nsp : Nat)) + (nls : Nat)) < 0) := (by omega)
  refine s_y (v := .bool false) rfl (y_lss rfl rfl (decide_eq_false hk23)) ?_
  refine s_nil ?_
  refine W_if_f (by decide) rfl ?_
  refine W_skip ?_
  refine W_seq ?_
  refine W_region (by kernel_rfl) ?_
  refine s_y (v := .int .i64 ((k + (nsp : Nat)) + (nls : Nat))) rfl (y_move rfl) ?_
  refine s_y (v := .int .i64 ((k + (nsp : Nat)) + (nls : Nat))) rfl (y_assign rfl) ?_
  refine s_nil ?_
  refine W_ret ?_
  refine ret1 rfl rfl rfl ⟨_, rfl, ?_⟩
  exact ⟨rfl, E22⟩
end Go.Proofs.Ytcggpjocghigcaa
