/- Walks: what the functions under FnExactRunField do (part 3). Printed by a program of this claim's author. -/
import Derived.Test.YtmcldploldaceaaExactRunFieldW1
set_option linter.unusedSimpArgs false
set_option linter.unusedVariables false
open Go.Wv
namespace Go.Proofs.Ytmcldploldaceaa
open Go.Proofs
namespace T12
theorem mx : Try.prog.follows .mixedOrders = true := by kernel_rfl
theorem agg_26_5 : aggB Try.prog 26 5 = true := by kernel_rfl
theorem agg_29_3 : aggB Try.prog 29 3 = true := by kernel_rfl
theorem agg_45_5 : aggB Try.prog 45 5 = true := by kernel_rfl
theorem agg_46_3 : aggB Try.prog 46 3 = true := by kernel_rfl
theorem bool_4 : Try.prog.underlying 4 = some .bool := by kernel_rfl
theorem fn_19 : fnB Try.prog 19 = true := by kernel_rfl
theorem fn_31 : fnB Try.prog 31 = true := by kernel_rfl
theorem fn_32 : fnB Try.prog 32 = true := by kernel_rfl
theorem fn_34 : fnB Try.prog 34 = true := by kernel_rfl
theorem fn_35 : fnB Try.prog 35 = true := by kernel_rfl
theorem fn_38 : fnB Try.prog 38 = true := by kernel_rfl
theorem fn_39 : fnB Try.prog 39 = true := by kernel_rfl
theorem fn_40 : fnB Try.prog 40 = true := by kernel_rfl
theorem fn_41 : fnB Try.prog 41 = true := by kernel_rfl
theorem fn_46 : fnB Try.prog 46 = true := by kernel_rfl
theorem fn_65 : fnB Try.prog 65 = true := by kernel_rfl
theorem sz_26_5 : szB Try.prog 26 5 = true := by kernel_rfl
theorem sz_29_3 : szB Try.prog 29 3 = true := by kernel_rfl
theorem zero_26 : zeroB Try.prog 26 (.agg #[.int .i64 0, .int .i64 0, .bool false, .slice none 0 0, .slice none 0 0]) := by unfold zeroB; kernel_rfl
theorem zero_29 : zeroB Try.prog 29 (.agg #[.slice none 0 0, .slice none 0 0, .slice none 0 0]) := by unfold zeroB; kernel_rfl
end T12
set_option maxRecDepth 100000 in
set_option maxHeartbeats 20000000 in
theorem c_FnExactRunField {wd0 : Int} {hi0 : Int} {wr0 : Bool} {asp0 : Option Addr} {nsp0 : Nat} {csp0 : Nat} {Xsp0 : List Nat} {als0 : Option Addr} {nls0 : Nat} {cls0 : Nat} {Xls0 : List Nat} {afe1 : Option Addr} {nfe1 : Nat} {cfe1 : Nat} {Xfe1 : List Nat} {afx1 : Option Addr} {nfx1 : Nat} {cfx1 : Nat} {Xfx1 : List Nat} {afy1 : Option Addr} {nfy1 : Nat} {cfy1 : Nat} {Xfy1 : List Nat} {i2 : Int} {w : World} (qsp0 : Rd w kF asp0 nsp0 Xsp0) (qls0 : Rd w kF als0 nls0 Xls0) (qfe1 : Rd w kF afe1 nfe1 Xfe1) (qfx1 : Rd w kF afx1 nfx1 Xfx1) (qfy1 : Rd w kF afy1 nfy1 Xfy1) (gsp0 : nsp0 ≤ 9223372036854775807) (gls0 : nls0 ≤ 9223372036854775807) (gfe1 : nfe1 ≤ 9223372036854775807) (gfx1 : nfx1 ≤ 9223372036854775807) (gfy1 : nfy1 ≤ 9223372036854775807) :
    Calls Try.prog 12 #[.agg #[.int .i64 wd0, .int .i64 hi0, .bool wr0, .slice asp0 nsp0 csp0, .slice als0 nls0 cls0], .agg #[.slice afe1 nfe1 cfe1, .slice afx1 nfx1 cfx1, .slice afy1 nfy1 cfy1], .int .i64 i2] w (Rt fun v w' => v = .bool true ∧ Ext0 w w') := by
  have hlsp0 := qsp0.len
  have hlls0 := qls0.len
  have hlfe1 := qfe1.len
  have hlfx1 := qfx1.len
  have hlfy1 := qfy1.len
  have B : Bu w no w [.rd kF asp0 nsp0 Xsp0, .rd kF als0 nls0 Xls0, .rd kF afe1 nfe1 Xfe1, .rd kF afx1 nfx1 Xfx1, .rd kF afy1 nfy1 Xfy1] := Bu.ro (All.cons qsp0 (All.cons qls0 (All.cons qfe1 (All.cons qfx1 (All.cons qfy1 All.nil))))) rfl
  refine calls_W (n := 124) Try.func12 rfl rfl (Nat.le_of_ble_eq_true rfl) ?_
  refine W_seq ?_
  refine W_region (by kernel_rfl) ?_
  refine s_k rfl (k_boxN (v := .agg #[.int .i64 wd0, .int .i64 hi0, .bool wr0, .slice asp0 nsp0 csp0, .slice als0 nls0 cls0]) (cs := [.int .i64 wd0, .int .i64 hi0, .bool wr0, .slice asp0 nsp0 csp0, .slice als0 nls0 cls0]) rfl rfl (fun b1 w2 hN3 => ?_))
  replace B := B.new1 hN3
  clear hN3
  refine s_k rfl (k_boxN (v := .agg #[.slice afe1 nfe1 cfe1, .slice afx1 nfx1 cfx1, .slice afy1 nfy1 cfy1]) (cs := [.slice afe1 nfe1 cfe1, .slice afx1 nfx1 cfx1, .slice afy1 nfy1 cfy1]) rfl rfl (fun b4 w5 hN6 => ?_))
  replace B := B.new1 hN6
  clear hN6
  refine s_y (v := .bool false) rfl (y_assign rfl) ?_
  refine s_nil ?_
  refine W_seq ?_
  refine W_region (by kernel_rfl) ?_
  refine s_y (v := .int .i64 1048576) rfl (y_assign rfl) ?_
  refine s_nil ?_
  refine W_seq ?_
  refine W_region (by kernel_rfl) ?_
  refine s_y (v := .agg #[.int .i64 wd0, .int .i64 hi0, .bool wr0, .slice asp0 nsp0 csp0, .slice als0 nls0 cls0]) rfl (y_loadn (b := b1) (o := 0) (vs := [.int .i64 wd0, .int .i64 hi0, .bool wr0, .slice asp0 nsp0 csp0, .slice als0 nls0 cls0]) T12.agg_45_5 rfl rfl ((B.b 1 rfl).cells (o := 0) rfl)) ?_
  refine s_y (v := .int .i64 1048576) rfl (y_move rfl) ?_
  refine s_k rfl (k_call T12.fn_31 (c_l_szSheet (by omega) (by omega) (by omega) (by omega)) rfl ?_)
  rintro v9 w7 ⟨hv10, e8⟩
  replace B := B.ext0 e8
  clear e8
  by_cases c11 : ((nsp0 : Nat) : Int) + ((nls0 : Nat) : Int) ≤ 1048576
  · obtain rfl : v9 = .int .i64 (1048576 - ((nsp0 : Nat) : Int) - ((nls0 : Nat) : Int)) := hv10.trans (congrArg _ (if_pos c11))
    have hk12 : ¬ (1048576 - ((nsp0 : Nat) : Int) - ((nls0 : Nat) : Int)) < 0 := by omega
    refine s_y (v := .int .i64 (1048576 - ((nsp0 : Nat) : Int) - ((nls0 : Nat) : Int))) rfl (y_assign rfl) ?_
    refine s_nil ?_
    refine W_seq ?_
    refine W_seq ?_
    refine W_region (by kernel_rfl) ?_
    refine s_y (v := .int .i64 (1048576 - ((nsp0 : Nat) : Int) - ((nls0 : Nat) : Int))) rfl (y_move rfl) ?_
    refine s_y (v := .bool false) rfl (y_lss rfl rfl (decide_eq_false hk12)) ?_
    refine s_nil ?_
    refine W_if_f (by decide) rfl ?_
    refine W_skip ?_
    refine W_seq ?_
    refine W_region (by kernel_rfl) ?_
    refine s_y (v := .agg #[.slice afe1 nfe1 cfe1, .slice afx1 nfx1 cfx1, .slice afy1 nfy1 cfy1]) rfl (y_loadn (b := b4) (o := 0) (vs := [.slice afe1 nfe1 cfe1, .slice afx1 nfx1 cfx1, .slice afy1 nfy1 cfy1]) T12.agg_46_3 rfl rfl ((B.b 0 rfl).cells (o := 0) rfl)) ?_
    refine s_y (v := .int .i64 (1048576 - ((nsp0 : Nat) : Int) - ((nls0 : Nat) : Int))) rfl (y_move rfl) ?_
    refine s_k rfl (k_call T12.fn_32 (c_l_szField (by omega) (by omega) (by omega) (by omega) (by omega)) rfl ?_)
    rintro v15 w13 ⟨hv16, e14⟩
    replace B := B.ext0 e14
    clear e14
    by_cases c17 : ((nfe1 : Nat) : Int) + ((nfx1 : Nat) : Int) + ((nfy1 : Nat) : Int) ≤ (1048576 - ((nsp0 : Nat) : Int) - ((nls0 : Nat) : Int))
    · obtain rfl : v15 = .int .i64 ((1048576 - ((nsp0 : Nat) : Int) - ((nls0 : Nat) : Int)) - ((nfe1 : Nat) : Int) - ((nfx1 : Nat) : Int) - ((nfy1 : Nat) : Int)) := hv16.trans (congrArg _ (if_pos c17))
      have hk18 : ¬ ((1048576 - ((nsp0 : Nat) : Int) - ((nls0 : Nat) : Int)) - ((nfe1 : Nat) : Int) - ((nfx1 : Nat) : Int) - ((nfy1 : Nat) : Int)) < 0 := by omega
      refine s_y (v := .int .i64 ((1048576 - ((nsp0 : Nat) : Int) - ((nls0 : Nat) : Int)) - ((nfe1 : Nat) : Int) - ((nfx1 : Nat) : Int) - ((nfy1 : Nat) : Int))) rfl (y_assign rfl) ?_
      refine s_nil ?_
      refine W_seq ?_
      refine W_seq ?_
      refine W_region (by kernel_rfl) ?_
      refine s_y (v := .int .i64 ((1048576 - ((nsp0 : Nat) : Int) - ((nls0 : Nat) : Int)) - ((nfe1 : Nat) : Int) - ((nfx1 : Nat) : Int) - ((nfy1 : Nat) : Int))) rfl (y_move rfl) ?_
      refine s_y (v := .bool false) rfl (y_lss rfl rfl (decide_eq_false hk18)) ?_
      refine s_nil ?_
      refine W_if_f (by decide) rfl ?_
      refine W_skip ?_
      refine W_seq ?_
      have B0_21 := B
      refine W_drawI (no) (fun ρ' w' => (∃ (ρ1 : Env) (b61 : Nat) (a54 : Option Addr) (c55 : Nat) (a56 : Option Addr) (c57 : Nat) (a58 : Option Addr) (c59 : Nat), ρ' = updL ρ1 [(2, .int .i64 i2), (3, .pointer (some ⟨b1, 0, none⟩)), (4, .pointer (some ⟨b4, 0, none⟩)), (6, .bool false), (8, .pointer (some ⟨b61, 0, none⟩)), (9, .bool true)] ∧ Bu w no w' [.blk b61 [.slice a54 nfe1 c55, .slice a56 nfx1 c57, .slice a58 nfy1 c59] 29, .ow kF a54 nfe1 c55 35 ((rnT wd0 hi0 wr0 Xsp0 Xls0 (Xfe1, Xfx1, Xfy1) (Int.toNat i2)).1), .ow kF a56 nfx1 c57 35 ((rnT wd0 hi0 wr0 Xsp0 Xls0 (Xfe1, Xfx1, Xfy1) (Int.toNat i2)).2.1), .ow kF a58 nfy1 c59 35 ((rnT wd0 hi0 wr0 Xsp0 Xls0 (Xfe1, Xfx1, Xfy1) (Int.toNat i2)).2.2), .blk b4 [.slice afe1 nfe1 cfe1, .slice afx1 nfx1 cfx1, .slice afy1 nfy1 cfy1] 46, .blk b1 [.int .i64 wd0, .int .i64 hi0, .bool wr0, .slice asp0 nsp0 csp0, .slice als0 nls0 cls0] 45, .rd kF asp0 nsp0 Xsp0, .rd kF als0 nls0 Xls0, .rd kF afe1 nfe1 Xfe1, .rd kF afx1 nfx1 Xfx1, .rd kF afy1 nfy1 Xfy1] ∧ (runB wd0 hi0 wr0 Xsp0 Xls0 Xfe1 Xfx1 Xfy1 i2 = true)) ∨ (∃ (ρ1 : Env) (b75 : Nat), ρ' = updL ρ1 [(2, .int .i64 i2), (3, .pointer (some ⟨b1, 0, none⟩)), (4, .pointer (some ⟨b4, 0, none⟩)), (6, .bool false), (8, .pointer (some ⟨b75, 0, none⟩)), (9, .bool false)] ∧ Bu w no w' [.blk b75 [.slice none 0 0, .slice none 0 0, .slice none 0 0] 29, .blk b4 [.slice afe1 nfe1 cfe1, .slice afx1 nfx1 cfx1, .slice afy1 nfy1 cfy1] 46, .blk b1 [.int .i64 wd0, .int .i64 hi0, .bool wr0, .slice asp0 nsp0 csp0, .slice als0 nls0 cls0] 45, .rd kF asp0 nsp0 Xsp0, .rd kF als0 nls0 Xls0, .rd kF afe1 nfe1 Xfe1, .rd kF afx1 nfx1 Xfx1, .rd kF afy1 nfy1 Xfy1] ∧ ¬ (runB wd0 hi0 wr0 Xsp0 Xls0 Xfe1 Xfx1 Xfy1 i2 = true))) T12.mx (by kernel_rfl) (fun w19 e20 => ?_) ?_
      · have R22 := Ext.refl (no) w13
        replace R22 := R22.trans (Ext0.any e20)
        replace B := B.ext0 e20
        clear e20
        refine m_y (v := .agg #[.int .i64 wd0, .int .i64 hi0, .bool wr0, .slice asp0 nsp0 csp0, .slice als0 nls0 cls0]) 0 rfl (by kernel_rfl) rfl rfl (fun w' e' => y_loadn (b := b1) (o := 0) (vs := [.int .i64 wd0, .int .i64 hi0, .bool wr0, .slice asp0 nsp0 csp0, .slice als0 nls0 cls0]) T12.agg_45_5 rfl rfl (((B0_21.b 1 rfl).ext0 e').cells (o := 0) rfl)) ?_
        refine m_y (v := .agg #[.slice afe1 nfe1 cfe1, .slice afx1 nfx1 cfx1, .slice afy1 nfy1 cfy1]) 2 rfl (by kernel_rfl) rfl rfl (fun w' e' => y_loadn (b := b4) (o := 0) (vs := [.slice afe1 nfe1 cfe1, .slice afx1 nfx1 cfx1, .slice afy1 nfy1 cfy1]) T12.agg_46_3 rfl rfl (((B0_21.b 0 rfl).ext0 e').cells (o := 0) rfl)) ?_
        refine m_y (v := .int .i64 i2) 4 rfl (by kernel_rfl) rfl rfl (fun w' e' => y_move rfl) ?_
        refine m_two 1 9 (by kernel_rfl) rfl rfl rfl rfl rfl rfl (fun w23 e24 => ?_) (fun w25 e26 => ?_)
        · replace R22 := R22.trans (Ext0.any e24)
          replace B := B.ext0 e24
          clear e24
          refine k_call T12.fn_34 (c_l_toSheet (B.r 2 rfl) (B.r 3 rfl) (by omega) (by omega)) rfl ?_
          rintro _ w27 ⟨a28, c29, a30, c31, rfl, hN32⟩
          replace R22 := R22.trans (Ext0.any hN32.ext)
          replace B := B.new2 hN32
          clear hN32
          refine ⟨fun _ => R22, ?_⟩
          refine m_two 3 9 (by kernel_rfl) rfl rfl rfl rfl rfl rfl (fun w33 e34 => ?_) (fun w35 e36 => ?_)
          · replace R22 := R22.trans (Ext0.any e34)
            replace B := B.ext0 e34
            clear e34
            refine k_call T12.fn_35 (c_l_toField (B.r 6 rfl) (B.r 7 rfl) (B.r 8 rfl) (by omega) (by omega) (by omega)) rfl ?_
            rintro _ w37 ⟨a38, c39, a40, c41, a42, c43, rfl, hN44⟩
            replace R22 := R22.trans (Ext0.any hN44.ext)
            replace B := B.new3 hN44
            clear hN44
            refine ⟨fun _ => R22, ?_⟩
            refine m_two 5 9 (by kernel_rfl) rfl rfl rfl rfl rfl rfl (fun w45 e46 => ?_) (fun w47 e48 => ?_)
            · replace R22 := R22.trans (Ext0.any e46)
              replace B := B.ext0 e46
              clear e46
              refine k_call T12.fn_65 (c_s_RunField ((B.o 3 rfl).rd) ((B.o 4 rfl).rd) ((B.o 0 rfl).rd) ((B.o 1 rfl).rd) ((B.o 2 rfl).rd) (by omega) (by omega) (by omega) (by omega) (by omega)) rfl ?_
              rintro v51 w49 hx50
              by_cases c52 : runB wd0 hi0 wr0 Xsp0 Xls0 Xfe1 Xfx1 Xfy1 i2 = true
              · have hb53 := runB_b c52
                obtain ⟨a54, c55, a56, c57, a58, c59, rfl, hN60⟩ := (hx50.resolve_right (fun hz => by rw [c52] at hz; cases hz.1)).2
                clear hx50
                replace R22 := R22.trans (Ext0.any hN60.ext)
                replace B := B.new3 hN60
                clear hN60
                refine ⟨fun _ => R22, ?_⟩
                refine m_y (v := .tuple #[.agg #[.slice a54 nfe1 c55, .slice a56 nfx1 c57, .slice a58 nfy1 c59], .bool true]) 6 rfl (by kernel_rfl) rfl rfl (fun w' e' => y_move rfl) ?_
                refine m_y (v := .agg #[.slice a54 nfe1 c55, .slice a56 nfx1 c57, .slice a58 nfy1 c59]) 7 rfl (by kernel_rfl) rfl rfl (fun w' e' => y_extract rfl rfl) ?_
                refine m_y (v := .bool true) 8 rfl (by kernel_rfl) rfl rfl (fun w' e' => y_extract rfl rfl) ?_
                refine m_k 9 [10, 11] rfl (by kernel_rfl) rfl rfl (fun w64 e65 => ?_)
                replace R22 := R22.trans (Ext0.any e65)
                replace B := B.ext0 e65
                clear e65
                refine k_allocN (z := (.agg #[.slice none 0 0, .slice none 0 0, .slice none 0 0])) (cs := [.slice none 0 0, .slice none 0 0, .slice none 0 0]) T12.zero_29 rfl (fun b61 w62 hN63 => ?_)
                have nf66 : NotLt b61 _ := fun h => Nat.not_lt.2 (Nat.le_trans (Ext.size R22) hN63.ge) h
                replace R22 := R22.trans (Ext0.any hN63.ext)
                replace B := B.new1 hN63
                clear hN63
                refine ⟨fun _ => R22, ?_⟩
                refine m_k 10 [11] rfl (by kernel_rfl) rfl rfl (fun w70 e71 => ?_)
                replace R22 := R22.trans (Ext0.any e71)
                replace B := B.ext0 e71
                clear e71
                refine k_stB (v := .agg #[.slice a54 nfe1 c55, .slice a56 nfx1 c57, .slice a58 nfy1 c59]) (n := 3) (cs' := [.slice a54 nfe1 c55, .slice a56 nfx1 c57, .slice a58 nfy1 c59]) T12.sz_29_3 rfl rfl rfl (B.b 0 rfl) (by simp [Value.cells, Value.oneCell']) (Nat.le_of_ble_eq_true rfl) rfl (fun w68 hU69 => ?_)
                replace R22 := R22.fresh hU69.at1 (fun kx hs hl => (nf66 ((show kx = b61 from hs) ▸ hl)).elim)
                replace B : Bu w no w68 [.blk b61 [.slice a54 nfe1 c55, .slice a56 nfx1 c57, .slice a58 nfy1 c59] 29, .ow kF a54 nfe1 c55 35 ((rnT wd0 hi0 wr0 Xsp0 Xls0 (Xfe1, Xfx1, Xfy1) (Int.toNat i2)).1), .ow kF a56 nfx1 c57 35 ((rnT wd0 hi0 wr0 Xsp0 Xls0 (Xfe1, Xfx1, Xfy1) (Int.toNat i2)).2.1), .ow kF a58 nfy1 c59 35 ((rnT wd0 hi0 wr0 Xsp0 Xls0 (Xfe1, Xfx1, Xfy1) (Int.toNat i2)).2.2), .ow kF a38 nfe1 c39 35 Xfe1, .ow kF a40 nfx1 c41 35 Xfx1, .ow kF a42 nfy1 c43 35 Xfy1, .ow kF a28 nsp0 c29 35 Xsp0, .ow kF a30 nls0 c31 35 Xls0, .blk b4 [.slice afe1 nfe1 cfe1, .slice afx1 nfx1 cfx1, .slice afy1 nfy1 cfy1] 46, .blk b1 [.int .i64 wd0, .int .i64 hi0, .bool wr0, .slice asp0 nsp0 csp0, .slice als0 nls0 cls0] 45, .rd kF asp0 nsp0 Xsp0, .rd kF als0 nls0 Xls0, .rd kF afe1 nfe1 Xfe1, .rd kF afx1 nfx1 Xfx1, .rd kF afy1 nfy1 Xfy1] := B.upd [0] rfl hU69
                clear hU69
                refine ⟨fun _ => R22, ?_⟩
                refine m_y (v := .bool true) 11 rfl (by kernel_rfl) rfl rfl (fun w' e' => y_assign rfl) ?_
                refine m_done (by kernel_rfl) (fun w72 e73 => ?_)
                replace B := B.ext0 e73
                clear e73
                clear B0_21 R22
                exact .inl ⟨_, b61, a54, c55, a56, c57, a58, c59, Fits.eq ⟨rfl, rfl, rfl, rfl, rfl, rfl, trivial⟩, B.pick [0, 1, 2, 3, 9, 10, 11, 12, 13, 14, 15] rfl rfl, c52⟩
              · obtain ⟨_, rfl, e74⟩ := hx50.resolve_left (fun hz => c52 hz.1)
                clear hx50
                replace R22 := R22.trans (Ext0.any e74)
                replace B := B.ext0 e74
                clear e74
                refine ⟨fun _ => R22, ?_⟩
                refine m_y (v := .tuple #[.agg #[.slice none 0 0, .slice none 0 0, .slice none 0 0], .bool false]) 6 rfl (by kernel_rfl) rfl rfl (fun w' e' => y_move rfl) ?_
                refine m_y (v := .agg #[.slice none 0 0, .slice none 0 0, .slice none 0 0]) 7 rfl (by kernel_rfl) rfl rfl (fun w' e' => y_extract rfl rfl) ?_
                refine m_y (v := .bool false) 8 rfl (by kernel_rfl) rfl rfl (fun w' e' => y_extract rfl rfl) ?_
                refine m_k 9 [10, 11] rfl (by kernel_rfl) rfl rfl (fun w78 e79 => ?_)
                replace R22 := R22.trans (Ext0.any e79)
                replace B := B.ext0 e79
                clear e79
                refine k_allocN (z := (.agg #[.slice none 0 0, .slice none 0 0, .slice none 0 0])) (cs := [.slice none 0 0, .slice none 0 0, .slice none 0 0]) T12.zero_29 rfl (fun b75 w76 hN77 => ?_)
                have nf80 : NotLt b75 _ := fun h => Nat.not_lt.2 (Nat.le_trans (Ext.size R22) hN77.ge) h
                replace R22 := R22.trans (Ext0.any hN77.ext)
                replace B := B.new1 hN77
                clear hN77
                refine ⟨fun _ => R22, ?_⟩
                refine m_k 10 [11] rfl (by kernel_rfl) rfl rfl (fun w84 e85 => ?_)
                replace R22 := R22.trans (Ext0.any e85)
                replace B := B.ext0 e85
                clear e85
                refine k_stB (v := .agg #[.slice none 0 0, .slice none 0 0, .slice none 0 0]) (n := 3) (cs' := [.slice none 0 0, .slice none 0 0, .slice none 0 0]) T12.sz_29_3 rfl rfl rfl (B.b 0 rfl) (by simp [Value.cells, Value.oneCell']) (Nat.le_of_ble_eq_true rfl) rfl (fun w82 hU83 => ?_)
                replace R22 := R22.fresh hU83.at1 (fun kx hs hl => (nf80 ((show kx = b75 from hs) ▸ hl)).elim)
                replace B : Bu w no w82 [.blk b75 [.slice none 0 0, .slice none 0 0, .slice none 0 0] 29, .ow kF a38 nfe1 c39 35 Xfe1, .ow kF a40 nfx1 c41 35 Xfx1, .ow kF a42 nfy1 c43 35 Xfy1, .ow kF a28 nsp0 c29 35 Xsp0, .ow kF a30 nls0 c31 35 Xls0, .blk b4 [.slice afe1 nfe1 cfe1, .slice afx1 nfx1 cfx1, .slice afy1 nfy1 cfy1] 46, .blk b1 [.int .i64 wd0, .int .i64 hi0, .bool wr0, .slice asp0 nsp0 csp0, .slice als0 nls0 cls0] 45, .rd kF asp0 nsp0 Xsp0, .rd kF als0 nls0 Xls0, .rd kF afe1 nfe1 Xfe1, .rd kF afx1 nfx1 Xfx1, .rd kF afy1 nfy1 Xfy1] := B.upd [0] rfl hU83
                clear hU83
                refine ⟨fun _ => R22, ?_⟩
                refine m_y (v := .bool false) 11 rfl (by kernel_rfl) rfl rfl (fun w' e' => y_assign rfl) ?_
                refine m_done (by kernel_rfl) (fun w86 e87 => ?_)
                replace B := B.ext0 e87
                clear e87
                clear B0_21 R22
                exact .inr (⟨_, b75, Fits.eq ⟨rfl, rfl, rfl, rfl, rfl, rfl, trivial⟩, B.pick [0, 6, 7, 8, 9, 10, 11, 12] rfl rfl, c52⟩)
            · replace R22 := R22.trans (Ext0.any e48)
              replace B := B.ext0 e48
              clear e48
              refine k_allocN (z := (.agg #[.slice none 0 0, .slice none 0 0, .slice none 0 0])) (cs := [.slice none 0 0, .slice none 0 0, .slice none 0 0]) T12.zero_29 rfl (fun b88 w89 hN90 => ?_)
              have nf91 : NotLt b88 _ := fun h => Nat.not_lt.2 (Nat.le_trans (Ext.size R22) hN90.ge) h
              replace R22 := R22.trans (Ext0.any hN90.ext)
              replace B := B.new1 hN90
              clear hN90
              refine ⟨fun _ => R22, ?_⟩
              refine m_k 5 [6, 7, 8, 10, 11] rfl (by kernel_rfl) rfl rfl (fun w93 e94 => ?_)
              replace R22 := R22.trans (Ext0.any e94)
              replace B := B.ext0 e94
              clear e94
              refine k_call T12.fn_65 (c_s_RunField ((B.o 4 rfl).rd) ((B.o 5 rfl).rd) ((B.o 1 rfl).rd) ((B.o 2 rfl).rd) ((B.o 3 rfl).rd) (by omega) (by omega) (by omega) (by omega) (by omega)) rfl ?_
              rintro v97 w95 hx96
              by_cases c98 : runB wd0 hi0 wr0 Xsp0 Xls0 Xfe1 Xfx1 Xfy1 i2 = true
              · have hb99 := runB_b c98
                obtain ⟨a100, c101, a102, c103, a104, c105, rfl, hN106⟩ := (hx96.resolve_right (fun hz => by rw [c98] at hz; cases hz.1)).2
                clear hx96
                replace R22 := R22.trans (Ext0.any hN106.ext)
                replace B := B.new3 hN106
                clear hN106
                refine ⟨fun _ => R22, ?_⟩
                refine m_y (v := .tuple #[.agg #[.slice a100 nfe1 c101, .slice a102 nfx1 c103, .slice a104 nfy1 c105], .bool true]) 6 rfl (by kernel_rfl) rfl rfl (fun w' e' => y_move rfl) ?_
                refine m_y (v := .agg #[.slice a100 nfe1 c101, .slice a102 nfx1 c103, .slice a104 nfy1 c105]) 7 rfl (by kernel_rfl) rfl rfl (fun w' e' => y_extract rfl rfl) ?_
                refine m_y (v := .bool true) 8 rfl (by kernel_rfl) rfl rfl (fun w' e' => y_extract rfl rfl) ?_
                refine m_k 10 [11] rfl (by kernel_rfl) rfl rfl (fun w109 e110 => ?_)
                replace R22 := R22.trans (Ext0.any e110)
                replace B := B.ext0 e110
                clear e110
                refine k_stB (v := .agg #[.slice a100 nfe1 c101, .slice a102 nfx1 c103, .slice a104 nfy1 c105]) (n := 3) (cs' := [.slice a100 nfe1 c101, .slice a102 nfx1 c103, .slice a104 nfy1 c105]) T12.sz_29_3 rfl rfl rfl (B.b 3 rfl) (by simp [Value.cells, Value.oneCell']) (Nat.le_of_ble_eq_true rfl) rfl (fun w107 hU108 => ?_)
                replace R22 := R22.fresh hU108.at1 (fun kx hs hl => (nf91 ((show kx = b88 from hs) ▸ hl)).elim)
                replace B : Bu w no w107 [.blk b88 [.slice a100 nfe1 c101, .slice a102 nfx1 c103, .slice a104 nfy1 c105] 29, .ow kF a100 nfe1 c101 35 ((rnT wd0 hi0 wr0 Xsp0 Xls0 (Xfe1, Xfx1, Xfy1) (Int.toNat i2)).1), .ow kF a102 nfx1 c103 35 ((rnT wd0 hi0 wr0 Xsp0 Xls0 (Xfe1, Xfx1, Xfy1) (Int.toNat i2)).2.1), .ow kF a104 nfy1 c105 35 ((rnT wd0 hi0 wr0 Xsp0 Xls0 (Xfe1, Xfx1, Xfy1) (Int.toNat i2)).2.2), .ow kF a38 nfe1 c39 35 Xfe1, .ow kF a40 nfx1 c41 35 Xfx1, .ow kF a42 nfy1 c43 35 Xfy1, .ow kF a28 nsp0 c29 35 Xsp0, .ow kF a30 nls0 c31 35 Xls0, .blk b4 [.slice afe1 nfe1 cfe1, .slice afx1 nfx1 cfx1, .slice afy1 nfy1 cfy1] 46, .blk b1 [.int .i64 wd0, .int .i64 hi0, .bool wr0, .slice asp0 nsp0 csp0, .slice als0 nls0 cls0] 45, .rd kF asp0 nsp0 Xsp0, .rd kF als0 nls0 Xls0, .rd kF afe1 nfe1 Xfe1, .rd kF afx1 nfx1 Xfx1, .rd kF afy1 nfy1 Xfy1] := B.upd [3] rfl hU108
                clear hU108
                refine ⟨fun _ => R22, ?_⟩
                refine m_y (v := .bool true) 11 rfl (by kernel_rfl) rfl rfl (fun w' e' => y_assign rfl) ?_
                refine m_done (by kernel_rfl) (fun w111 e112 => ?_)
                replace B := B.ext0 e112
                clear e112
                clear B0_21 R22
                exact .inl ⟨_, b88, a100, c101, a102, c103, a104, c105, Fits.eq ⟨rfl, rfl, rfl, rfl, rfl, rfl, trivial⟩, B.pick [0, 1, 2, 3, 9, 10, 11, 12, 13, 14, 15] rfl rfl, c98⟩
              · obtain ⟨_, rfl, e113⟩ := hx96.resolve_left (fun hz => c98 hz.1)
                clear hx96
                replace R22 := R22.trans (Ext0.any e113)
                replace B := B.ext0 e113
                clear e113
                refine ⟨fun _ => R22, ?_⟩
                refine m_y (v := .tuple #[.agg #[.slice none 0 0, .slice none 0 0, .slice none 0 0], .bool false]) 6 rfl (by kernel_rfl) rfl rfl (fun w' e' => y_move rfl) ?_
                refine m_y (v := .agg #[.slice none 0 0, .slice none 0 0, .slice none 0 0]) 7 rfl (by kernel_rfl) rfl rfl (fun w' e' => y_extract rfl rfl) ?_
                refine m_y (v := .bool false) 8 rfl (by kernel_rfl) rfl rfl (fun w' e' => y_extract rfl rfl) ?_
                refine m_k 10 [11] rfl (by kernel_rfl) rfl rfl (fun w116 e117 => ?_)
                replace R22 := R22.trans (Ext0.any e117)
                replace B := B.ext0 e117
                clear e117
                refine k_stB (v := .agg #[.slice none 0 0, .slice none 0 0, .slice none 0 0]) (n := 3) (cs' := [.slice none 0 0, .slice none 0 0, .slice none 0 0]) T12.sz_29_3 rfl rfl rfl (B.b 0 rfl) (by simp [Value.cells, Value.oneCell']) (Nat.le_of_ble_eq_true rfl) rfl (fun w114 hU115 => ?_)
                replace R22 := R22.fresh hU115.at1 (fun kx hs hl => (nf91 ((show kx = b88 from hs) ▸ hl)).elim)
                replace B : Bu w no w114 [.blk b88 [.slice none 0 0, .slice none 0 0, .slice none 0 0] 29, .ow kF a38 nfe1 c39 35 Xfe1, .ow kF a40 nfx1 c41 35 Xfx1, .ow kF a42 nfy1 c43 35 Xfy1, .ow kF a28 nsp0 c29 35 Xsp0, .ow kF a30 nls0 c31 35 Xls0, .blk b4 [.slice afe1 nfe1 cfe1, .slice afx1 nfx1 cfx1, .slice afy1 nfy1 cfy1] 46, .blk b1 [.int .i64 wd0, .int .i64 hi0, .bool wr0, .slice asp0 nsp0 csp0, .slice als0 nls0 cls0] 45, .rd kF asp0 nsp0 Xsp0, .rd kF als0 nls0 Xls0, .rd kF afe1 nfe1 Xfe1, .rd kF afx1 nfx1 Xfx1, .rd kF afy1 nfy1 Xfy1] := B.upd [0] rfl hU115
                clear hU115
                refine ⟨fun _ => R22, ?_⟩
                refine m_y (v := .bool false) 11 rfl (by kernel_rfl) rfl rfl (fun w' e' => y_assign rfl) ?_
                refine m_done (by kernel_rfl) (fun w118 e119 => ?_)
                replace B := B.ext0 e119
                clear e119
                clear B0_21 R22
                exact .inr (⟨_, b88, Fits.eq ⟨rfl, rfl, rfl, rfl, rfl, rfl, trivial⟩, B.pick [0, 6, 7, 8, 9, 10, 11, 12] rfl rfl, c98⟩)
          · replace R22 := R22.trans (Ext0.any e36)
            replace B := B.ext0 e36
            clear e36
            refine k_allocN (z := (.agg #[.slice none 0 0, .slice none 0 0, .slice none 0 0])) (cs := [.slice none 0 0, .slice none 0 0, .slice none 0 0]) T12.zero_29 rfl (fun b120 w121 hN122 => ?_)
            have nf123 : NotLt b120 _ := fun h => Nat.not_lt.2 (Nat.le_trans (Ext.size R22) hN122.ge) h
            replace R22 := R22.trans (Ext0.any hN122.ext)
            replace B := B.new1 hN122
            clear hN122
            refine ⟨fun _ => R22, ?_⟩
            refine m_k 3 [5, 6, 7, 8, 10, 11] rfl (by kernel_rfl) rfl rfl (fun w125 e126 => ?_)
            replace R22 := R22.trans (Ext0.any e126)
            replace B := B.ext0 e126
            clear e126
            refine k_call T12.fn_35 (c_l_toField (B.r 7 rfl) (B.r 8 rfl) (B.r 9 rfl) (by omega) (by omega) (by omega)) rfl ?_
            rintro _ w127 ⟨a128, c129, a130, c131, a132, c133, rfl, hN134⟩
            replace R22 := R22.trans (Ext0.any hN134.ext)
            replace B := B.new3 hN134
            clear hN134
            refine ⟨fun _ => R22, ?_⟩
            refine m_k 5 [6, 7, 8, 10, 11] rfl (by kernel_rfl) rfl rfl (fun w135 e136 => ?_)
            replace R22 := R22.trans (Ext0.any e136)
            replace B := B.ext0 e136
            clear e136
            refine k_call T12.fn_65 (c_s_RunField ((B.o 4 rfl).rd) ((B.o 5 rfl).rd) ((B.o 0 rfl).rd) ((B.o 1 rfl).rd) ((B.o 2 rfl).rd) (by omega) (by omega) (by omega) (by omega) (by omega)) rfl ?_
            rintro v139 w137 hx138
            by_cases c140 : runB wd0 hi0 wr0 Xsp0 Xls0 Xfe1 Xfx1 Xfy1 i2 = true
            · have hb141 := runB_b c140
              obtain ⟨a142, c143, a144, c145, a146, c147, rfl, hN148⟩ := (hx138.resolve_right (fun hz => by rw [c140] at hz; cases hz.1)).2
              clear hx138
              replace R22 := R22.trans (Ext0.any hN148.ext)
              replace B := B.new3 hN148
              clear hN148
              refine ⟨fun _ => R22, ?_⟩
              refine m_y (v := .tuple #[.agg #[.slice a142 nfe1 c143, .slice a144 nfx1 c145, .slice a146 nfy1 c147], .bool true]) 6 rfl (by kernel_rfl) rfl rfl (fun w' e' => y_move rfl) ?_
              refine m_y (v := .agg #[.slice a142 nfe1 c143, .slice a144 nfx1 c145, .slice a146 nfy1 c147]) 7 rfl (by kernel_rfl) rfl rfl (fun w' e' => y_extract rfl rfl) ?_
              refine m_y (v := .bool true) 8 rfl (by kernel_rfl) rfl rfl (fun w' e' => y_extract rfl rfl) ?_
              refine m_k 10 [11] rfl (by kernel_rfl) rfl rfl (fun w151 e152 => ?_)
              replace R22 := R22.trans (Ext0.any e152)
              replace B := B.ext0 e152
              clear e152
              refine k_stB (v := .agg #[.slice a142 nfe1 c143, .slice a144 nfx1 c145, .slice a146 nfy1 c147]) (n := 3) (cs' := [.slice a142 nfe1 c143, .slice a144 nfx1 c145, .slice a146 nfy1 c147]) T12.sz_29_3 rfl rfl rfl (B.b 6 rfl) (by simp [Value.cells, Value.oneCell']) (Nat.le_of_ble_eq_true rfl) rfl (fun w149 hU150 => ?_)
              replace R22 := R22.fresh hU150.at1 (fun kx hs hl => (nf123 ((show kx = b120 from hs) ▸ hl)).elim)
              replace B : Bu w no w149 [.blk b120 [.slice a142 nfe1 c143, .slice a144 nfx1 c145, .slice a146 nfy1 c147] 29, .ow kF a142 nfe1 c143 35 ((rnT wd0 hi0 wr0 Xsp0 Xls0 (Xfe1, Xfx1, Xfy1) (Int.toNat i2)).1), .ow kF a144 nfx1 c145 35 ((rnT wd0 hi0 wr0 Xsp0 Xls0 (Xfe1, Xfx1, Xfy1) (Int.toNat i2)).2.1), .ow kF a146 nfy1 c147 35 ((rnT wd0 hi0 wr0 Xsp0 Xls0 (Xfe1, Xfx1, Xfy1) (Int.toNat i2)).2.2), .ow kF a128 nfe1 c129 35 Xfe1, .ow kF a130 nfx1 c131 35 Xfx1, .ow kF a132 nfy1 c133 35 Xfy1, .ow kF a28 nsp0 c29 35 Xsp0, .ow kF a30 nls0 c31 35 Xls0, .blk b4 [.slice afe1 nfe1 cfe1, .slice afx1 nfx1 cfx1, .slice afy1 nfy1 cfy1] 46, .blk b1 [.int .i64 wd0, .int .i64 hi0, .bool wr0, .slice asp0 nsp0 csp0, .slice als0 nls0 cls0] 45, .rd kF asp0 nsp0 Xsp0, .rd kF als0 nls0 Xls0, .rd kF afe1 nfe1 Xfe1, .rd kF afx1 nfx1 Xfx1, .rd kF afy1 nfy1 Xfy1] := B.upd [6] rfl hU150
              clear hU150
              refine ⟨fun _ => R22, ?_⟩
              refine m_y (v := .bool true) 11 rfl (by kernel_rfl) rfl rfl (fun w' e' => y_assign rfl) ?_
              refine m_done (by kernel_rfl) (fun w153 e154 => ?_)
              replace B := B.ext0 e154
              clear e154
              clear B0_21 R22
              exact .inl ⟨_, b120, a142, c143, a144, c145, a146, c147, Fits.eq ⟨rfl, rfl, rfl, rfl, rfl, rfl, trivial⟩, B.pick [0, 1, 2, 3, 9, 10, 11, 12, 13, 14, 15] rfl rfl, c140⟩
            · obtain ⟨_, rfl, e155⟩ := hx138.resolve_left (fun hz => c140 hz.1)
              clear hx138
              replace R22 := R22.trans (Ext0.any e155)
              replace B := B.ext0 e155
              clear e155
              refine ⟨fun _ => R22, ?_⟩
              refine m_y (v := .tuple #[.agg #[.slice none 0 0, .slice none 0 0, .slice none 0 0], .bool false]) 6 rfl (by kernel_rfl) rfl rfl (fun w' e' => y_move rfl) ?_
              refine m_y (v := .agg #[.slice none 0 0, .slice none 0 0, .slice none 0 0]) 7 rfl (by kernel_rfl) rfl rfl (fun w' e' => y_extract rfl rfl) ?_
              refine m_y (v := .bool false) 8 rfl (by kernel_rfl) rfl rfl (fun w' e' => y_extract rfl rfl) ?_
              refine m_k 10 [11] rfl (by kernel_rfl) rfl rfl (fun w158 e159 => ?_)
              replace R22 := R22.trans (Ext0.any e159)
              replace B := B.ext0 e159
              clear e159
              refine k_stB (v := .agg #[.slice none 0 0, .slice none 0 0, .slice none 0 0]) (n := 3) (cs' := [.slice none 0 0, .slice none 0 0, .slice none 0 0]) T12.sz_29_3 rfl rfl rfl (B.b 3 rfl) (by simp [Value.cells, Value.oneCell']) (Nat.le_of_ble_eq_true rfl) rfl (fun w156 hU157 => ?_)
              replace R22 := R22.fresh hU157.at1 (fun kx hs hl => (nf123 ((show kx = b120 from hs) ▸ hl)).elim)
              replace B : Bu w no w156 [.blk b120 [.slice none 0 0, .slice none 0 0, .slice none 0 0] 29, .ow kF a128 nfe1 c129 35 Xfe1, .ow kF a130 nfx1 c131 35 Xfx1, .ow kF a132 nfy1 c133 35 Xfy1, .ow kF a28 nsp0 c29 35 Xsp0, .ow kF a30 nls0 c31 35 Xls0, .blk b4 [.slice afe1 nfe1 cfe1, .slice afx1 nfx1 cfx1, .slice afy1 nfy1 cfy1] 46, .blk b1 [.int .i64 wd0, .int .i64 hi0, .bool wr0, .slice asp0 nsp0 csp0, .slice als0 nls0 cls0] 45, .rd kF asp0 nsp0 Xsp0, .rd kF als0 nls0 Xls0, .rd kF afe1 nfe1 Xfe1, .rd kF afx1 nfx1 Xfx1, .rd kF afy1 nfy1 Xfy1] := B.upd [3] rfl hU157
              clear hU157
              refine ⟨fun _ => R22, ?_⟩
              refine m_y (v := .bool false) 11 rfl (by kernel_rfl) rfl rfl (fun w' e' => y_assign rfl) ?_
              refine m_done (by kernel_rfl) (fun w160 e161 => ?_)
              replace B := B.ext0 e161
              clear e161
              clear B0_21 R22
              exact .inr (⟨_, b120, Fits.eq ⟨rfl, rfl, rfl, rfl, rfl, rfl, trivial⟩, B.pick [0, 6, 7, 8, 9, 10, 11, 12] rfl rfl, c140⟩)
        · replace R22 := R22.trans (Ext0.any e26)
          replace B := B.ext0 e26
          clear e26
          refine k_allocN (z := (.agg #[.slice none 0 0, .slice none 0 0, .slice none 0 0])) (cs := [.slice none 0 0, .slice none 0 0, .slice none 0 0]) T12.zero_29 rfl (fun b162 w163 hN164 => ?_)
          have nf165 : NotLt b162 _ := fun h => Nat.not_lt.2 (Nat.le_trans (Ext.size R22) hN164.ge) h
          replace R22 := R22.trans (Ext0.any hN164.ext)
          replace B := B.new1 hN164
          clear hN164
          refine ⟨fun _ => R22, ?_⟩
          refine m_k 1 [3, 5, 6, 7, 8, 10, 11] rfl (by kernel_rfl) rfl rfl (fun w167 e168 => ?_)
          replace R22 := R22.trans (Ext0.any e168)
          replace B := B.ext0 e168
          clear e168
          refine k_call T12.fn_34 (c_l_toSheet (B.r 3 rfl) (B.r 4 rfl) (by omega) (by omega)) rfl ?_
          rintro _ w169 ⟨a170, c171, a172, c173, rfl, hN174⟩
          replace R22 := R22.trans (Ext0.any hN174.ext)
          replace B := B.new2 hN174
          clear hN174
          refine ⟨fun _ => R22, ?_⟩
          refine m_k 3 [5, 6, 7, 8, 10, 11] rfl (by kernel_rfl) rfl rfl (fun w175 e176 => ?_)
          replace R22 := R22.trans (Ext0.any e176)
          replace B := B.ext0 e176
          clear e176
          refine k_call T12.fn_35 (c_l_toField (B.r 7 rfl) (B.r 8 rfl) (B.r 9 rfl) (by omega) (by omega) (by omega)) rfl ?_
          rintro _ w177 ⟨a178, c179, a180, c181, a182, c183, rfl, hN184⟩
          replace R22 := R22.trans (Ext0.any hN184.ext)
          replace B := B.new3 hN184
          clear hN184
          refine ⟨fun _ => R22, ?_⟩
          refine m_k 5 [6, 7, 8, 10, 11] rfl (by kernel_rfl) rfl rfl (fun w185 e186 => ?_)
          replace R22 := R22.trans (Ext0.any e186)
          replace B := B.ext0 e186
          clear e186
          refine k_call T12.fn_65 (c_s_RunField ((B.o 3 rfl).rd) ((B.o 4 rfl).rd) ((B.o 0 rfl).rd) ((B.o 1 rfl).rd) ((B.o 2 rfl).rd) (by omega) (by omega) (by omega) (by omega) (by omega)) rfl ?_
          rintro v189 w187 hx188
          by_cases c190 : runB wd0 hi0 wr0 Xsp0 Xls0 Xfe1 Xfx1 Xfy1 i2 = true
          · have hb191 := runB_b c190
            obtain ⟨a192, c193, a194, c195, a196, c197, rfl, hN198⟩ := (hx188.resolve_right (fun hz => by rw [c190] at hz; cases hz.1)).2
            clear hx188
            replace R22 := R22.trans (Ext0.any hN198.ext)
            replace B := B.new3 hN198
            clear hN198
            refine ⟨fun _ => R22, ?_⟩
            refine m_y (v := .tuple #[.agg #[.slice a192 nfe1 c193, .slice a194 nfx1 c195, .slice a196 nfy1 c197], .bool true]) 6 rfl (by kernel_rfl) rfl rfl (fun w' e' => y_move rfl) ?_
            refine m_y (v := .agg #[.slice a192 nfe1 c193, .slice a194 nfx1 c195, .slice a196 nfy1 c197]) 7 rfl (by kernel_rfl) rfl rfl (fun w' e' => y_extract rfl rfl) ?_
            refine m_y (v := .bool true) 8 rfl (by kernel_rfl) rfl rfl (fun w' e' => y_extract rfl rfl) ?_
            refine m_k 10 [11] rfl (by kernel_rfl) rfl rfl (fun w201 e202 => ?_)
            replace R22 := R22.trans (Ext0.any e202)
            replace B := B.ext0 e202
            clear e202
            refine k_stB (v := .agg #[.slice a192 nfe1 c193, .slice a194 nfx1 c195, .slice a196 nfy1 c197]) (n := 3) (cs' := [.slice a192 nfe1 c193, .slice a194 nfx1 c195, .slice a196 nfy1 c197]) T12.sz_29_3 rfl rfl rfl (B.b 8 rfl) (by simp [Value.cells, Value.oneCell']) (Nat.le_of_ble_eq_true rfl) rfl (fun w199 hU200 => ?_)
            replace R22 := R22.fresh hU200.at1 (fun kx hs hl => (nf165 ((show kx = b162 from hs) ▸ hl)).elim)
            replace B : Bu w no w199 [.blk b162 [.slice a192 nfe1 c193, .slice a194 nfx1 c195, .slice a196 nfy1 c197] 29, .ow kF a192 nfe1 c193 35 ((rnT wd0 hi0 wr0 Xsp0 Xls0 (Xfe1, Xfx1, Xfy1) (Int.toNat i2)).1), .ow kF a194 nfx1 c195 35 ((rnT wd0 hi0 wr0 Xsp0 Xls0 (Xfe1, Xfx1, Xfy1) (Int.toNat i2)).2.1), .ow kF a196 nfy1 c197 35 ((rnT wd0 hi0 wr0 Xsp0 Xls0 (Xfe1, Xfx1, Xfy1) (Int.toNat i2)).2.2), .ow kF a178 nfe1 c179 35 Xfe1, .ow kF a180 nfx1 c181 35 Xfx1, .ow kF a182 nfy1 c183 35 Xfy1, .ow kF a170 nsp0 c171 35 Xsp0, .ow kF a172 nls0 c173 35 Xls0, .blk b4 [.slice afe1 nfe1 cfe1, .slice afx1 nfx1 cfx1, .slice afy1 nfy1 cfy1] 46, .blk b1 [.int .i64 wd0, .int .i64 hi0, .bool wr0, .slice asp0 nsp0 csp0, .slice als0 nls0 cls0] 45, .rd kF asp0 nsp0 Xsp0, .rd kF als0 nls0 Xls0, .rd kF afe1 nfe1 Xfe1, .rd kF afx1 nfx1 Xfx1, .rd kF afy1 nfy1 Xfy1] := B.upd [8] rfl hU200
            clear hU200
            refine ⟨fun _ => R22, ?_⟩
            refine m_y (v := .bool true) 11 rfl (by kernel_rfl) rfl rfl (fun w' e' => y_assign rfl) ?_
            refine m_done (by kernel_rfl) (fun w203 e204 => ?_)
            replace B := B.ext0 e204
            clear e204
            clear B0_21 R22
            exact .inl ⟨_, b162, a192, c193, a194, c195, a196, c197, Fits.eq ⟨rfl, rfl, rfl, rfl, rfl, rfl, trivial⟩, B.pick [0, 1, 2, 3, 9, 10, 11, 12, 13, 14, 15] rfl rfl, c190⟩
          · obtain ⟨_, rfl, e205⟩ := hx188.resolve_left (fun hz => c190 hz.1)
            clear hx188
            replace R22 := R22.trans (Ext0.any e205)
            replace B := B.ext0 e205
            clear e205
            refine ⟨fun _ => R22, ?_⟩
            refine m_y (v := .tuple #[.agg #[.slice none 0 0, .slice none 0 0, .slice none 0 0], .bool false]) 6 rfl (by kernel_rfl) rfl rfl (fun w' e' => y_move rfl) ?_
            refine m_y (v := .agg #[.slice none 0 0, .slice none 0 0, .slice none 0 0]) 7 rfl (by kernel_rfl) rfl rfl (fun w' e' => y_extract rfl rfl) ?_
            refine m_y (v := .bool false) 8 rfl (by kernel_rfl) rfl rfl (fun w' e' => y_extract rfl rfl) ?_
            refine m_k 10 [11] rfl (by kernel_rfl) rfl rfl (fun w208 e209 => ?_)
            replace R22 := R22.trans (Ext0.any e209)
            replace B := B.ext0 e209
            clear e209
            refine k_stB (v := .agg #[.slice none 0 0, .slice none 0 0, .slice none 0 0]) (n := 3) (cs' := [.slice none 0 0, .slice none 0 0, .slice none 0 0]) T12.sz_29_3 rfl rfl rfl (B.b 5 rfl) (by simp [Value.cells, Value.oneCell']) (Nat.le_of_ble_eq_true rfl) rfl (fun w206 hU207 => ?_)
            replace R22 := R22.fresh hU207.at1 (fun kx hs hl => (nf165 ((show kx = b162 from hs) ▸ hl)).elim)
            replace B : Bu w no w206 [.blk b162 [.slice none 0 0, .slice none 0 0, .slice none 0 0] 29, .ow kF a178 nfe1 c179 35 Xfe1, .ow kF a180 nfx1 c181 35 Xfx1, .ow kF a182 nfy1 c183 35 Xfy1, .ow kF a170 nsp0 c171 35 Xsp0, .ow kF a172 nls0 c173 35 Xls0, .blk b4 [.slice afe1 nfe1 cfe1, .slice afx1 nfx1 cfx1, .slice afy1 nfy1 cfy1] 46, .blk b1 [.int .i64 wd0, .int .i64 hi0, .bool wr0, .slice asp0 nsp0 csp0, .slice als0 nls0 cls0] 45, .rd kF asp0 nsp0 Xsp0, .rd kF als0 nls0 Xls0, .rd kF afe1 nfe1 Xfe1, .rd kF afx1 nfx1 Xfx1, .rd kF afy1 nfy1 Xfy1] := B.upd [5] rfl hU207
            clear hU207
            refine ⟨fun _ => R22, ?_⟩
            refine m_y (v := .bool false) 11 rfl (by kernel_rfl) rfl rfl (fun w' e' => y_assign rfl) ?_
            refine m_done (by kernel_rfl) (fun w210 e211 => ?_)
            replace B := B.ext0 e211
            clear e211
            clear B0_21 R22
            exact .inr (⟨_, b162, Fits.eq ⟨rfl, rfl, rfl, rfl, rfl, rfl, trivial⟩, B.pick [0, 6, 7, 8, 9, 10, 11, 12] rfl rfl, c190⟩)
      · clear B; rintro _ w212 (⟨ρ214, b61, a54, c55, a56, c57, a58, c59, rfl, B, c213⟩ | ⟨ρ216, b75, rfl, B, c215⟩)
        · have hb217 := runB_b c213
          refine W_seq ?_
          refine W_region (by kernel_rfl) ?_
          refine s_y (v := .agg #[.int .i64 wd0, .int .i64 hi0, .bool wr0, .slice asp0 nsp0 csp0, .slice als0 nls0 cls0]) rfl (y_loadn (b := b1) (o := 0) (vs := [.int .i64 wd0, .int .i64 hi0, .bool wr0, .slice asp0 nsp0 csp0, .slice als0 nls0 cls0]) T12.agg_45_5 rfl rfl ((B.b 5 rfl).cells (o := 0) rfl)) ?_
          refine s_k rfl (k_call T12.fn_34 (c_l_toSheet (B.r 6 rfl) (B.r 7 rfl) (by omega) (by omega)) rfl ?_)
          rintro _ w218 ⟨a219, c220, a221, c222, rfl, hN223⟩
          replace B := B.new2 hN223
          clear hN223
          refine s_k rfl (k_allocN (z := (.agg #[.int .i64 0, .int .i64 0, .bool false, .slice none 0 0, .slice none 0 0])) (cs := [.int .i64 0, .int .i64 0, .bool false, .slice none 0 0, .slice none 0 0]) T12.zero_26 rfl (fun b224 w225 hN226 => ?_))
          replace B := B.new1 hN226
          clear hN226
          refine s_k0 rfl (k_stB (v := .agg #[.int .i64 wd0, .int .i64 hi0, .bool wr0, .slice a219 nsp0 c220, .slice a221 nls0 c222]) (n := 5) (cs' := [.int .i64 wd0, .int .i64 hi0, .bool wr0, .slice a219 nsp0 c220, .slice a221 nls0 c222]) T12.sz_26_5 rfl rfl rfl (B.b 0 rfl) (by simp [Value.cells, Value.oneCell']) (Nat.le_of_ble_eq_true rfl) rfl (fun w227 hU228 => ?_))
          replace B : Bu w no w227 [.blk b224 [.int .i64 wd0, .int .i64 hi0, .bool wr0, .slice a219 nsp0 c220, .slice a221 nls0 c222] 26, .ow kF a219 nsp0 c220 35 Xsp0, .ow kF a221 nls0 c222 35 Xls0, .blk b61 [.slice a54 nfe1 c55, .slice a56 nfx1 c57, .slice a58 nfy1 c59] 29, .ow kF a54 nfe1 c55 35 ((rnT wd0 hi0 wr0 Xsp0 Xls0 (Xfe1, Xfx1, Xfy1) (Int.toNat i2)).1), .ow kF a56 nfx1 c57 35 ((rnT wd0 hi0 wr0 Xsp0 Xls0 (Xfe1, Xfx1, Xfy1) (Int.toNat i2)).2.1), .ow kF a58 nfy1 c59 35 ((rnT wd0 hi0 wr0 Xsp0 Xls0 (Xfe1, Xfx1, Xfy1) (Int.toNat i2)).2.2), .blk b4 [.slice afe1 nfe1 cfe1, .slice afx1 nfx1 cfx1, .slice afy1 nfy1 cfy1] 46, .blk b1 [.int .i64 wd0, .int .i64 hi0, .bool wr0, .slice asp0 nsp0 csp0, .slice als0 nls0 cls0] 45, .rd kF asp0 nsp0 Xsp0, .rd kF als0 nls0 Xls0, .rd kF afe1 nfe1 Xfe1, .rd kF afx1 nfx1 Xfx1, .rd kF afy1 nfy1 Xfy1] := B.upd [0] rfl hU228
          clear hU228
          refine s_nil ?_
          refine W_seq ?_
          refine W_region (by kernel_rfl) ?_
          refine s_y (v := .agg #[.slice afe1 nfe1 cfe1, .slice afx1 nfx1 cfx1, .slice afy1 nfy1 cfy1]) rfl (y_loadn (b := b4) (o := 0) (vs := [.slice afe1 nfe1 cfe1, .slice afx1 nfx1 cfx1, .slice afy1 nfy1 cfy1]) T12.agg_46_3 rfl rfl ((B.b 7 rfl).cells (o := 0) rfl)) ?_
          refine s_k rfl (k_call T12.fn_35 (c_l_toField (B.r 11 rfl) (B.r 12 rfl) (B.r 13 rfl) (by omega) (by omega) (by omega)) rfl ?_)
          rintro _ w229 ⟨a230, c231, a232, c233, a234, c235, rfl, hN236⟩
          replace B := B.new3 hN236
          clear hN236
          refine s_k rfl (k_allocN (z := (.agg #[.slice none 0 0, .slice none 0 0, .slice none 0 0])) (cs := [.slice none 0 0, .slice none 0 0, .slice none 0 0]) T12.zero_29 rfl (fun b237 w238 hN239 => ?_))
          replace B := B.new1 hN239
          clear hN239
          refine s_k0 rfl (k_stB (v := .agg #[.slice a230 nfe1 c231, .slice a232 nfx1 c233, .slice a234 nfy1 c235]) (n := 3) (cs' := [.slice a230 nfe1 c231, .slice a232 nfx1 c233, .slice a234 nfy1 c235]) T12.sz_29_3 rfl rfl rfl (B.b 0 rfl) (by simp [Value.cells, Value.oneCell']) (Nat.le_of_ble_eq_true rfl) rfl (fun w240 hU241 => ?_))
          replace B : Bu w no w240 [.blk b237 [.slice a230 nfe1 c231, .slice a232 nfx1 c233, .slice a234 nfy1 c235] 29, .ow kF a230 nfe1 c231 35 Xfe1, .ow kF a232 nfx1 c233 35 Xfx1, .ow kF a234 nfy1 c235 35 Xfy1, .blk b224 [.int .i64 wd0, .int .i64 hi0, .bool wr0, .slice a219 nsp0 c220, .slice a221 nls0 c222] 26, .ow kF a219 nsp0 c220 35 Xsp0, .ow kF a221 nls0 c222 35 Xls0, .blk b61 [.slice a54 nfe1 c55, .slice a56 nfx1 c57, .slice a58 nfy1 c59] 29, .ow kF a54 nfe1 c55 35 ((rnT wd0 hi0 wr0 Xsp0 Xls0 (Xfe1, Xfx1, Xfy1) (Int.toNat i2)).1), .ow kF a56 nfx1 c57 35 ((rnT wd0 hi0 wr0 Xsp0 Xls0 (Xfe1, Xfx1, Xfy1) (Int.toNat i2)).2.1), .ow kF a58 nfy1 c59 35 ((rnT wd0 hi0 wr0 Xsp0 Xls0 (Xfe1, Xfx1, Xfy1) (Int.toNat i2)).2.2), .blk b4 [.slice afe1 nfe1 cfe1, .slice afx1 nfx1 cfx1, .slice afy1 nfy1 cfy1] 46, .blk b1 [.int .i64 wd0, .int .i64 hi0, .bool wr0, .slice asp0 nsp0 csp0, .slice als0 nls0 cls0] 45, .rd kF asp0 nsp0 Xsp0, .rd kF als0 nls0 Xls0, .rd kF afe1 nfe1 Xfe1, .rd kF afx1 nfx1 Xfx1, .rd kF afy1 nfy1 Xfy1] := B.upd [0] rfl hU241
          clear hU241
          refine s_nil ?_
          refine W_seq ?_
          refine W_region (by kernel_rfl) ?_
          refine s_y (v := .agg #[.int .i64 wd0, .int .i64 hi0, .bool wr0, .slice a219 nsp0 c220, .slice a221 nls0 c222]) rfl (y_loadn (b := b224) (o := 0) (vs := [.int .i64 wd0, .int .i64 hi0, .bool wr0, .slice a219 nsp0 c220, .slice a221 nls0 c222]) T12.agg_26_5 rfl rfl ((B.b 4 rfl).cells (o := 0) rfl)) ?_
          refine s_y (v := .agg #[.slice a230 nfe1 c231, .slice a232 nfx1 c233, .slice a234 nfy1 c235]) rfl (y_loadn (b := b237) (o := 0) (vs := [.slice a230 nfe1 c231, .slice a232 nfx1 c233, .slice a234 nfy1 c235]) T12.agg_29_3 rfl rfl ((B.b 0 rfl).cells (o := 0) rfl)) ?_
          refine s_y (v := .int .i64 i2) rfl (y_move rfl) ?_
          refine s_k rfl (k_call T12.fn_19 (c_i_RunField ((B.o 5 rfl).rd) ((B.o 6 rfl).rd) ((B.o 1 rfl).rd) ((B.o 2 rfl).rd) ((B.o 3 rfl).rd) (by omega) (by omega) (by omega) (by omega) (by omega)) rfl ?_)
          rintro v244 w242 hx243
          obtain ⟨a245, c246, a247, c248, a249, c250, rfl, hN251⟩ := (hx243.resolve_right (fun hz => by rw [c213] at hz; cases hz.1)).2
          clear hx243
          replace B := B.new3 hN251
          clear hN251
          refine s_y (v := .tuple #[.agg #[.slice a245 nfe1 c246, .slice a247 nfx1 c248, .slice a249 nfy1 c250], .bool true]) rfl (y_move rfl) ?_
          refine s_y (v := .agg #[.slice a245 nfe1 c246, .slice a247 nfx1 c248, .slice a249 nfy1 c250]) rfl (y_extract rfl rfl) ?_
          refine s_y (v := .bool true) rfl (y_extract rfl rfl) ?_
          refine s_k rfl (k_allocN (z := (.agg #[.slice none 0 0, .slice none 0 0, .slice none 0 0])) (cs := [.slice none 0 0, .slice none 0 0, .slice none 0 0]) T12.zero_29 rfl (fun b252 w253 hN254 => ?_))
          replace B := B.new1 hN254
          clear hN254
          refine s_k0 rfl (k_stB (v := .agg #[.slice a245 nfe1 c246, .slice a247 nfx1 c248, .slice a249 nfy1 c250]) (n := 3) (cs' := [.slice a245 nfe1 c246, .slice a247 nfx1 c248, .slice a249 nfy1 c250]) T12.sz_29_3 rfl rfl rfl (B.b 0 rfl) (by simp [Value.cells, Value.oneCell']) (Nat.le_of_ble_eq_true rfl) rfl (fun w255 hU256 => ?_))
          replace B : Bu w no w255 [.blk b252 [.slice a245 nfe1 c246, .slice a247 nfx1 c248, .slice a249 nfy1 c250] 29, .ow kF a245 nfe1 c246 35 ((rnT wd0 hi0 wr0 Xsp0 Xls0 (Xfe1, Xfx1, Xfy1) (Int.toNat i2)).1), .ow kF a247 nfx1 c248 35 ((rnT wd0 hi0 wr0 Xsp0 Xls0 (Xfe1, Xfx1, Xfy1) (Int.toNat i2)).2.1), .ow kF a249 nfy1 c250 35 ((rnT wd0 hi0 wr0 Xsp0 Xls0 (Xfe1, Xfx1, Xfy1) (Int.toNat i2)).2.2), .blk b237 [.slice a230 nfe1 c231, .slice a232 nfx1 c233, .slice a234 nfy1 c235] 29, .ow kF a230 nfe1 c231 35 Xfe1, .ow kF a232 nfx1 c233 35 Xfx1, .ow kF a234 nfy1 c235 35 Xfy1, .blk b224 [.int .i64 wd0, .int .i64 hi0, .bool wr0, .slice a219 nsp0 c220, .slice a221 nls0 c222] 26, .ow kF a219 nsp0 c220 35 Xsp0, .ow kF a221 nls0 c222 35 Xls0, .blk b61 [.slice a54 nfe1 c55, .slice a56 nfx1 c57, .slice a58 nfy1 c59] 29, .ow kF a54 nfe1 c55 35 ((rnT wd0 hi0 wr0 Xsp0 Xls0 (Xfe1, Xfx1, Xfy1) (Int.toNat i2)).1), .ow kF a56 nfx1 c57 35 ((rnT wd0 hi0 wr0 Xsp0 Xls0 (Xfe1, Xfx1, Xfy1) (Int.toNat i2)).2.1), .ow kF a58 nfy1 c59 35 ((rnT wd0 hi0 wr0 Xsp0 Xls0 (Xfe1, Xfx1, Xfy1) (Int.toNat i2)).2.2), .blk b4 [.slice afe1 nfe1 cfe1, .slice afx1 nfx1 cfx1, .slice afy1 nfy1 cfy1] 46, .blk b1 [.int .i64 wd0, .int .i64 hi0, .bool wr0, .slice asp0 nsp0 csp0, .slice als0 nls0 cls0] 45, .rd kF asp0 nsp0 Xsp0, .rd kF als0 nls0 Xls0, .rd kF afe1 nfe1 Xfe1, .rd kF afx1 nfx1 Xfx1, .rd kF afy1 nfy1 Xfy1] := B.upd [0] rfl hU256
          clear hU256
          refine s_y (v := .bool true) rfl (y_assign rfl) ?_
          refine s_nil ?_
          refine W_seq ?_
          refine W_seq ?_
          refine W_region (by kernel_rfl) ?_
          refine s_y (v := .agg #[.slice a245 nfe1 c246, .slice a247 nfx1 c248, .slice a249 nfy1 c250]) rfl (y_loadn (b := b252) (o := 0) (vs := [.slice a245 nfe1 c246, .slice a247 nfx1 c248, .slice a249 nfy1 c250]) T12.agg_29_3 rfl rfl ((B.b 0 rfl).cells (o := 0) rfl)) ?_
          refine s_y (v := .agg #[.slice a54 nfe1 c55, .slice a56 nfx1 c57, .slice a58 nfy1 c59]) rfl (y_loadn (b := b61) (o := 0) (vs := [.slice a54 nfe1 c55, .slice a56 nfx1 c57, .slice a58 nfy1 c59]) T12.agg_29_3 rfl rfl ((B.b 11 rfl).cells (o := 0) rfl)) ?_
          refine s_k rfl (k_call T12.fn_39 (c_l_eqField ((B.o 1 rfl).rd) ((B.o 2 rfl).rd) ((B.o 3 rfl).rd) ((B.o 12 rfl).rd) ((B.o 13 rfl).rd) ((B.o 14 rfl).rd) (by omega) (by omega) (by omega)) rfl ?_)
          rintro _ w257 ⟨rfl, e258⟩
          replace B := B.ext0 e258
          clear e258
          refine s_y (v := .bool false) rfl (y_not rfl rfl) ?_
          refine s_y (v := .bool false) rfl (y_move rfl) ?_
          refine s_y (v := .bool true) rfl (y_move rfl) ?_
          refine s_y (v := .bool true) rfl (y_move rfl) ?_
          refine s_y (v := .bool false) rfl (y_bneq T12.bool_4 rfl rfl rfl) ?_
          refine s_y (v := .bool false) rfl (y_pick_f rfl rfl) ?_
          refine s_nil ?_
          refine W_if_f (by decide) rfl ?_
          refine W_skip ?_
          refine W_seq ?_
          refine W_seq ?_
          have B0_263 := B
          refine W_draw (no) T12.mx (by kernel_rfl) (fun w261 e262 => ?_)
          have R264 := Ext.refl (no) w257
          replace R264 := R264.trans (Ext0.any e262)
          replace B := B.ext0 e262
          clear e262
          refine m_y (v := .agg #[.int .i64 wd0, .int .i64 hi0, .bool wr0, .slice a219 nsp0 c220, .slice a221 nls0 c222]) 0 rfl (by kernel_rfl) rfl rfl (fun w' e' => y_loadn (b := b224) (o := 0) (vs := [.int .i64 wd0, .int .i64 hi0, .bool wr0, .slice a219 nsp0 c220, .slice a221 nls0 c222]) T12.agg_26_5 rfl rfl (((B0_263.b 8 rfl).ext0 e').cells (o := 0) rfl)) ?_
          refine m_y (v := .agg #[.int .i64 wd0, .int .i64 hi0, .bool wr0, .slice asp0 nsp0 csp0, .slice als0 nls0 cls0]) 1 rfl (by kernel_rfl) rfl rfl (fun w' e' => y_loadn (b := b1) (o := 0) (vs := [.int .i64 wd0, .int .i64 hi0, .bool wr0, .slice asp0 nsp0 csp0, .slice als0 nls0 cls0]) T12.agg_45_5 rfl rfl (((B0_263.b 16 rfl).ext0 e').cells (o := 0) rfl)) ?_
          refine m_k 2 [3, 4] rfl (by kernel_rfl) rfl rfl (fun w265 e266 => ?_)
          replace R264 := R264.trans (Ext0.any e266)
          replace B := B.ext0 e266
          clear e266
          refine k_call T12.fn_34 (c_l_toSheet (B.r 17 rfl) (B.r 18 rfl) (by omega) (by omega)) rfl ?_
          rintro _ w267 ⟨a268, c269, a270, c271, rfl, hN272⟩
          replace R264 := R264.trans (Ext0.any hN272.ext)
          replace B := B.new2 hN272
          clear hN272
          refine ⟨fun _ => R264, ?_⟩
          refine m_k 3 [4] rfl (by kernel_rfl) rfl rfl (fun w273 e274 => ?_)
          replace R264 := R264.trans (Ext0.any e274)
          replace B := B.ext0 e274
          clear e274
          refine k_call T12.fn_38 (c_l_eqSheet ((B.o 11 rfl).rd) ((B.o 12 rfl).rd) ((B.o 0 rfl).rd) ((B.o 1 rfl).rd) (by omega) (by omega)) rfl ?_
          rintro _ w275 ⟨rfl, e276⟩
          replace R264 := R264.trans (Ext0.any e276)
          replace B := B.ext0 e276
          clear e276
          refine ⟨fun _ => R264, ?_⟩
          refine m_y (v := .bool false) 4 rfl (by kernel_rfl) rfl rfl (fun w' e' => y_not rfl rfl) ?_
          refine m_done (by kernel_rfl) (fun w277 e278 => ?_)
          replace B := B.ext0 e278
          clear e278
          clear B0_263 R264
          refine W_if_f (by decide) rfl ?_
          refine W_skip ?_
          refine W_seq ?_
          refine W_seq ?_
          have B0_283 := B
          refine W_draw (no) T12.mx (by kernel_rfl) (fun w281 e282 => ?_)
          have R284 := Ext.refl (no) w277
          replace R284 := R284.trans (Ext0.any e282)
          replace B := B.ext0 e282
          clear e282
          refine m_y (v := .agg #[.slice a230 nfe1 c231, .slice a232 nfx1 c233, .slice a234 nfy1 c235]) 0 rfl (by kernel_rfl) rfl rfl (fun w' e' => y_loadn (b := b237) (o := 0) (vs := [.slice a230 nfe1 c231, .slice a232 nfx1 c233, .slice a234 nfy1 c235]) T12.agg_29_3 rfl rfl (((B0_283.b 6 rfl).ext0 e').cells (o := 0) rfl)) ?_
          refine m_y (v := .agg #[.slice afe1 nfe1 cfe1, .slice afx1 nfx1 cfx1, .slice afy1 nfy1 cfy1]) 1 rfl (by kernel_rfl) rfl rfl (fun w' e' => y_loadn (b := b4) (o := 0) (vs := [.slice afe1 nfe1 cfe1, .slice afx1 nfx1 cfx1, .slice afy1 nfy1 cfy1]) T12.agg_46_3 rfl rfl (((B0_283.b 17 rfl).ext0 e').cells (o := 0) rfl)) ?_
          refine m_k 2 [3, 4] rfl (by kernel_rfl) rfl rfl (fun w285 e286 => ?_)
          replace R284 := R284.trans (Ext0.any e286)
          replace B := B.ext0 e286
          clear e286
          refine k_call T12.fn_35 (c_l_toField (B.r 21 rfl) (B.r 22 rfl) (B.r 23 rfl) (by omega) (by omega) (by omega)) rfl ?_
          rintro _ w287 ⟨a288, c289, a290, c291, a292, c293, rfl, hN294⟩
          replace R284 := R284.trans (Ext0.any hN294.ext)
          replace B := B.new3 hN294
          clear hN294
          refine ⟨fun _ => R284, ?_⟩
          refine m_k 3 [4] rfl (by kernel_rfl) rfl rfl (fun w295 e296 => ?_)
          replace R284 := R284.trans (Ext0.any e296)
          replace B := B.ext0 e296
          clear e296
          refine k_call T12.fn_39 (c_l_eqField ((B.o 10 rfl).rd) ((B.o 11 rfl).rd) ((B.o 12 rfl).rd) ((B.o 0 rfl).rd) ((B.o 1 rfl).rd) ((B.o 2 rfl).rd) (by omega) (by omega) (by omega)) rfl ?_
          rintro _ w297 ⟨rfl, e298⟩
          replace R284 := R284.trans (Ext0.any e298)
          replace B := B.ext0 e298
          clear e298
          refine ⟨fun _ => R284, ?_⟩
          refine m_y (v := .bool false) 4 rfl (by kernel_rfl) rfl rfl (fun w' e' => y_not rfl rfl) ?_
          refine m_done (by kernel_rfl) (fun w299 e300 => ?_)
          replace B := B.ext0 e300
          clear e300
          clear B0_283 R284
          refine W_if_f (by decide) rfl ?_
          refine W_skip ?_
          refine W_seq ?_
          refine W_region (by kernel_rfl) ?_
          refine s_y (v := .int .i64 1) rfl (y_assign rfl) ?_
          refine s_nil ?_
          refine W_seq ?_
          refine W_region (by kernel_rfl) ?_
          refine s_y (v := .agg #[.int .i64 wd0, .int .i64 hi0, .bool wr0, .slice a219 nsp0 c220, .slice a221 nls0 c222]) rfl (y_loadn (b := b224) (o := 0) (vs := [.int .i64 wd0, .int .i64 hi0, .bool wr0, .slice a219 nsp0 c220, .slice a221 nls0 c222]) T12.agg_26_5 rfl rfl ((B.b 13 rfl).cells (o := 0) rfl)) ?_
          refine s_y (v := .int .i64 1) rfl (y_move rfl) ?_
          refine s_k rfl (k_call T12.fn_40 (c_l_markSheet (by omega) (by omega) (by omega) (by omega) (B.all.pick [14, 15] rfl) (B.pw.pick [14, 15] rfl rfl)) rfl ?_)
          rintro _ w301 ⟨rfl, hU302⟩
          replace B : Bu w no w301 [.ow kF a219 nsp0 c220 35 (marks 1 nsp0), .ow kF a221 nls0 c222 35 (marks (1 + ((nsp0 : Nat) : Int)) nls0), .ow kF a288 nfe1 c289 35 Xfe1, .ow kF a290 nfx1 c291 35 Xfx1, .ow kF a292 nfy1 c293 35 Xfy1, .ow kF a268 nsp0 c269 35 Xsp0, .ow kF a270 nls0 c271 35 Xls0, .blk b252 [.slice a245 nfe1 c246, .slice a247 nfx1 c248, .slice a249 nfy1 c250] 29, .ow kF a245 nfe1 c246 35 ((rnT wd0 hi0 wr0 Xsp0 Xls0 (Xfe1, Xfx1, Xfy1) (Int.toNat i2)).1), .ow kF a247 nfx1 c248 35 ((rnT wd0 hi0 wr0 Xsp0 Xls0 (Xfe1, Xfx1, Xfy1) (Int.toNat i2)).2.1), .ow kF a249 nfy1 c250 35 ((rnT wd0 hi0 wr0 Xsp0 Xls0 (Xfe1, Xfx1, Xfy1) (Int.toNat i2)).2.2), .blk b237 [.slice a230 nfe1 c231, .slice a232 nfx1 c233, .slice a234 nfy1 c235] 29, .ow kF a230 nfe1 c231 35 Xfe1, .ow kF a232 nfx1 c233 35 Xfx1, .ow kF a234 nfy1 c235 35 Xfy1, .blk b224 [.int .i64 wd0, .int .i64 hi0, .bool wr0, .slice a219 nsp0 c220, .slice a221 nls0 c222] 26, .blk b61 [.slice a54 nfe1 c55, .slice a56 nfx1 c57, .slice a58 nfy1 c59] 29, .ow kF a54 nfe1 c55 35 ((rnT wd0 hi0 wr0 Xsp0 Xls0 (Xfe1, Xfx1, Xfy1) (Int.toNat i2)).1), .ow kF a56 nfx1 c57 35 ((rnT wd0 hi0 wr0 Xsp0 Xls0 (Xfe1, Xfx1, Xfy1) (Int.toNat i2)).2.1), .ow kF a58 nfy1 c59 35 ((rnT wd0 hi0 wr0 Xsp0 Xls0 (Xfe1, Xfx1, Xfy1) (Int.toNat i2)).2.2), .blk b4 [.slice afe1 nfe1 cfe1, .slice afx1 nfx1 cfx1, .slice afy1 nfy1 cfy1] 46, .blk b1 [.int .i64 wd0, .int .i64 hi0, .bool wr0, .slice asp0 nsp0 csp0, .slice als0 nls0 cls0] 45, .rd kF asp0 nsp0 Xsp0, .rd kF als0 nls0 Xls0, .rd kF afe1 nfe1 Xfe1, .rd kF afx1 nfx1 Xfx1, .rd kF afy1 nfy1 Xfy1] := B.upd [14, 15] rfl hU302
          clear hU302
          refine s_y (v := .int .i64 (1 + ((nsp0 : Nat) : Int) + ((nls0 : Nat) : Int))) rfl (y_assign rfl) ?_
          refine s_nil ?_
          refine W_seq ?_
          refine W_region (by kernel_rfl) ?_
          refine s_y (v := .agg #[.slice a230 nfe1 c231, .slice a232 nfx1 c233, .slice a234 nfy1 c235]) rfl (y_loadn (b := b237) (o := 0) (vs := [.slice a230 nfe1 c231, .slice a232 nfx1 c233, .slice a234 nfy1 c235]) T12.agg_29_3 rfl rfl ((B.b 11 rfl).cells (o := 0) rfl)) ?_
          refine s_y (v := .int .i64 (1 + ((nsp0 : Nat) : Int) + ((nls0 : Nat) : Int))) rfl (y_move rfl) ?_
          refine s_k rfl (k_call T12.fn_41 (c_l_markField (by omega) (by omega) (by omega) (by omega) (by omega) (B.all.pick [12, 13, 14] rfl) (B.pw.pick [12, 13, 14] rfl rfl)) rfl ?_)
          rintro _ w303 ⟨rfl, hU304⟩
          replace B : Bu w no w303 [.ow kF a230 nfe1 c231 35 (marks (1 + ((nsp0 : Nat) : Int) + ((nls0 : Nat) : Int)) nfe1), .ow kF a232 nfx1 c233 35 (marks ((1 + ((nsp0 : Nat) : Int) + ((nls0 : Nat) : Int)) + ((nfe1 : Nat) : Int)) nfx1), .ow kF a234 nfy1 c235 35 (marks ((1 + ((nsp0 : Nat) : Int) + ((nls0 : Nat) : Int)) + ((nfe1 : Nat) : Int) + ((nfx1 : Nat) : Int)) nfy1), .ow kF a219 nsp0 c220 35 (marks 1 nsp0), .ow kF a221 nls0 c222 35 (marks (1 + ((nsp0 : Nat) : Int)) nls0), .ow kF a288 nfe1 c289 35 Xfe1, .ow kF a290 nfx1 c291 35 Xfx1, .ow kF a292 nfy1 c293 35 Xfy1, .ow kF a268 nsp0 c269 35 Xsp0, .ow kF a270 nls0 c271 35 Xls0, .blk b252 [.slice a245 nfe1 c246, .slice a247 nfx1 c248, .slice a249 nfy1 c250] 29, .ow kF a245 nfe1 c246 35 ((rnT wd0 hi0 wr0 Xsp0 Xls0 (Xfe1, Xfx1, Xfy1) (Int.toNat i2)).1), .ow kF a247 nfx1 c248 35 ((rnT wd0 hi0 wr0 Xsp0 Xls0 (Xfe1, Xfx1, Xfy1) (Int.toNat i2)).2.1), .ow kF a249 nfy1 c250 35 ((rnT wd0 hi0 wr0 Xsp0 Xls0 (Xfe1, Xfx1, Xfy1) (Int.toNat i2)).2.2), .blk b237 [.slice a230 nfe1 c231, .slice a232 nfx1 c233, .slice a234 nfy1 c235] 29, .blk b224 [.int .i64 wd0, .int .i64 hi0, .bool wr0, .slice a219 nsp0 c220, .slice a221 nls0 c222] 26, .blk b61 [.slice a54 nfe1 c55, .slice a56 nfx1 c57, .slice a58 nfy1 c59] 29, .ow kF a54 nfe1 c55 35 ((rnT wd0 hi0 wr0 Xsp0 Xls0 (Xfe1, Xfx1, Xfy1) (Int.toNat i2)).1), .ow kF a56 nfx1 c57 35 ((rnT wd0 hi0 wr0 Xsp0 Xls0 (Xfe1, Xfx1, Xfy1) (Int.toNat i2)).2.1), .ow kF a58 nfy1 c59 35 ((rnT wd0 hi0 wr0 Xsp0 Xls0 (Xfe1, Xfx1, Xfy1) (Int.toNat i2)).2.2), .blk b4 [.slice afe1 nfe1 cfe1, .slice afx1 nfx1 cfx1, .slice afy1 nfy1 cfy1] 46, .blk b1 [.int .i64 wd0, .int .i64 hi0, .bool wr0, .slice asp0 nsp0 csp0, .slice als0 nls0 cls0] 45, .rd kF asp0 nsp0 Xsp0, .rd kF als0 nls0 Xls0, .rd kF afe1 nfe1 Xfe1, .rd kF afx1 nfx1 Xfx1, .rd kF afy1 nfy1 Xfy1] := B.upd [12, 13, 14] rfl hU304
          clear hU304
          refine s_y (v := .int .i64 ((1 + ((nsp0 : Nat) : Int) + ((nls0 : Nat) : Int)) + ((nfe1 : Nat) : Int) + ((nfx1 : Nat) : Int) + ((nfy1 : Nat) : Int))) rfl (y_assign rfl) ?_
          refine s_nil ?_
          refine W_seq ?_
          refine W_seq ?_
          refine W_region (by kernel_rfl) ?_
          refine s_y (v := .int .i64 ((1 + ((nsp0 : Nat) : Int) + ((nls0 : Nat) : Int)) + ((nfe1 : Nat) : Int) + ((nfx1 : Nat) : Int) + ((nfy1 : Nat) : Int))) rfl (y_move rfl) ?_
          have hk305 : ¬ (((1 + ((nsp0 : Nat) : Int) + ((nls0 : Nat) : Int)) + ((nfe1 : Nat) : Int) + ((nfx1 : Nat) : Int) + ((nfy1 : Nat) : Int)) < 0) := (by omega)
          refine s_y (v := .bool false) rfl (y_lss rfl rfl (decide_eq_false hk305)) ?_
          refine s_y (v := .bool false) rfl (y_move rfl) ?_
          refine s_y (v := .agg #[.slice a245 nfe1 c246, .slice a247 nfx1 c248, .slice a249 nfy1 c250]) rfl (y_loadn (b := b252) (o := 0) (vs := [.slice a245 nfe1 c246, .slice a247 nfx1 c248, .slice a249 nfy1 c250]) T12.agg_29_3 rfl rfl ((B.b 10 rfl).cells (o := 0) rfl)) ?_
          refine s_y (v := .agg #[.slice a54 nfe1 c55, .slice a56 nfx1 c57, .slice a58 nfy1 c59]) rfl (y_loadn (b := b61) (o := 0) (vs := [.slice a54 nfe1 c55, .slice a56 nfx1 c57, .slice a58 nfy1 c59]) T12.agg_29_3 rfl rfl ((B.b 16 rfl).cells (o := 0) rfl)) ?_
          refine s_k rfl (k_call T12.fn_39 (c_l_eqField ((B.o 11 rfl).rd) ((B.o 12 rfl).rd) ((B.o 13 rfl).rd) ((B.o 17 rfl).rd) ((B.o 18 rfl).rd) ((B.o 19 rfl).rd) (by omega) (by omega) (by omega)) rfl ?_)
          rintro _ w306 ⟨rfl, e307⟩
          replace B := B.ext0 e307
          clear e307
          refine s_y (v := .bool false) rfl (y_not rfl rfl) ?_
          refine s_y (v := .bool false) rfl (y_pick_f rfl rfl) ?_
          refine s_y (v := .bool false) rfl (y_move rfl) ?_
          refine s_y (v := .bool true) rfl (y_move rfl) ?_
          refine s_y (v := .bool true) rfl (y_move rfl) ?_
          refine s_y (v := .bool false) rfl (y_bneq T12.bool_4 rfl rfl rfl) ?_
          refine s_y (v := .bool false) rfl (y_pick_f rfl rfl) ?_
          refine s_nil ?_
          refine W_if_f (by decide) rfl ?_
          refine W_skip ?_
          refine W_seq ?_
          refine W_region (by kernel_rfl) ?_
          refine s_y (v := .int .i64 1) rfl (y_assign rfl) ?_
          refine s_nil ?_
          refine W_seq ?_
          refine W_region (by kernel_rfl) ?_
          refine s_y (v := .agg #[.slice a245 nfe1 c246, .slice a247 nfx1 c248, .slice a249 nfy1 c250]) rfl (y_loadn (b := b252) (o := 0) (vs := [.slice a245 nfe1 c246, .slice a247 nfx1 c248, .slice a249 nfy1 c250]) T12.agg_29_3 rfl rfl ((B.b 10 rfl).cells (o := 0) rfl)) ?_
          refine s_y (v := .int .i64 1) rfl (y_move rfl) ?_
          refine s_k rfl (k_call T12.fn_41 (c_l_markField (by omega) (by omega) (by omega) (by omega) (by omega) (B.all.pick [11, 12, 13] rfl) (B.pw.pick [11, 12, 13] rfl rfl)) rfl ?_)
          rintro _ w308 ⟨rfl, hU309⟩
          replace B : Bu w no w308 [.ow kF a245 nfe1 c246 35 (marks 1 nfe1), .ow kF a247 nfx1 c248 35 (marks (1 + ((nfe1 : Nat) : Int)) nfx1), .ow kF a249 nfy1 c250 35 (marks (1 + ((nfe1 : Nat) : Int) + ((nfx1 : Nat) : Int)) nfy1), .ow kF a230 nfe1 c231 35 (marks (1 + ((nsp0 : Nat) : Int) + ((nls0 : Nat) : Int)) nfe1), .ow kF a232 nfx1 c233 35 (marks ((1 + ((nsp0 : Nat) : Int) + ((nls0 : Nat) : Int)) + ((nfe1 : Nat) : Int)) nfx1), .ow kF a234 nfy1 c235 35 (marks ((1 + ((nsp0 : Nat) : Int) + ((nls0 : Nat) : Int)) + ((nfe1 : Nat) : Int) + ((nfx1 : Nat) : Int)) nfy1), .ow kF a219 nsp0 c220 35 (marks 1 nsp0), .ow kF a221 nls0 c222 35 (marks (1 + ((nsp0 : Nat) : Int)) nls0), .ow kF a288 nfe1 c289 35 Xfe1, .ow kF a290 nfx1 c291 35 Xfx1, .ow kF a292 nfy1 c293 35 Xfy1, .ow kF a268 nsp0 c269 35 Xsp0, .ow kF a270 nls0 c271 35 Xls0, .blk b252 [.slice a245 nfe1 c246, .slice a247 nfx1 c248, .slice a249 nfy1 c250] 29, .blk b237 [.slice a230 nfe1 c231, .slice a232 nfx1 c233, .slice a234 nfy1 c235] 29, .blk b224 [.int .i64 wd0, .int .i64 hi0, .bool wr0, .slice a219 nsp0 c220, .slice a221 nls0 c222] 26, .blk b61 [.slice a54 nfe1 c55, .slice a56 nfx1 c57, .slice a58 nfy1 c59] 29, .ow kF a54 nfe1 c55 35 ((rnT wd0 hi0 wr0 Xsp0 Xls0 (Xfe1, Xfx1, Xfy1) (Int.toNat i2)).1), .ow kF a56 nfx1 c57 35 ((rnT wd0 hi0 wr0 Xsp0 Xls0 (Xfe1, Xfx1, Xfy1) (Int.toNat i2)).2.1), .ow kF a58 nfy1 c59 35 ((rnT wd0 hi0 wr0 Xsp0 Xls0 (Xfe1, Xfx1, Xfy1) (Int.toNat i2)).2.2), .blk b4 [.slice afe1 nfe1 cfe1, .slice afx1 nfx1 cfx1, .slice afy1 nfy1 cfy1] 46, .blk b1 [.int .i64 wd0, .int .i64 hi0, .bool wr0, .slice asp0 nsp0 csp0, .slice als0 nls0 cls0] 45, .rd kF asp0 nsp0 Xsp0, .rd kF als0 nls0 Xls0, .rd kF afe1 nfe1 Xfe1, .rd kF afx1 nfx1 Xfx1, .rd kF afy1 nfy1 Xfy1] := B.upd [11, 12, 13] rfl hU309
          clear hU309
          refine s_y (v := .int .i64 (1 + ((nfe1 : Nat) : Int) + ((nfx1 : Nat) : Int) + ((nfy1 : Nat) : Int))) rfl (y_assign rfl) ?_
          refine s_nil ?_
          refine W_seq ?_
          refine W_region (by kernel_rfl) ?_
          refine s_y (v := .int .i64 1) rfl (y_assign rfl) ?_
          refine s_nil ?_
          refine W_seq ?_
          refine W_region (by kernel_rfl) ?_
          refine s_y (v := .agg #[.slice a245 nfe1 c246, .slice a247 nfx1 c248, .slice a249 nfy1 c250]) rfl (y_loadn (b := b252) (o := 0) (vs := [.slice a245 nfe1 c246, .slice a247 nfx1 c248, .slice a249 nfy1 c250]) T12.agg_29_3 rfl rfl ((B.b 13 rfl).cells (o := 0) rfl)) ?_
          refine s_y (v := .int .i64 1) rfl (y_move rfl) ?_
          refine s_k rfl (k_call T12.fn_46 (c_l_heldField ((B.o 0 rfl).rd) ((B.o 1 rfl).rd) ((B.o 2 rfl).rd) (by omega) (by omega) (by omega) (by omega) (by omega)) rfl ?_)
          rintro _ w310 ⟨rfl, e311⟩
          replace B := B.ext0 e311
          clear e311
          refine s_y (v := .int .i64 (1 + ((nfe1 : Nat) : Int) + ((nfx1 : Nat) : Int) + ((nfy1 : Nat) : Int))) rfl (y_assign rfl) ?_
          refine s_nil ?_
          refine W_seq ?_
          refine W_seq ?_
          refine W_region (by kernel_rfl) ?_
          refine s_y (v := .int .i64 (1 + ((nfe1 : Nat) : Int) + ((nfx1 : Nat) : Int) + ((nfy1 : Nat) : Int))) rfl (y_move rfl) ?_
          have hk312 : ¬ ((1 + ((nfe1 : Nat) : Int) + ((nfx1 : Nat) : Int) + ((nfy1 : Nat) : Int)) < 0) := (by omega)
          refine s_y (v := .bool false) rfl (y_lss rfl rfl (decide_eq_false hk312)) ?_
          refine s_nil ?_
          refine W_if_f (by decide) rfl ?_
          refine W_skip ?_
          refine W_seq ?_
          refine W_seq ?_
          refine W_region (by kernel_rfl) ?_
          refine s_y (v := .int .i64 (1 + ((nfe1 : Nat) : Int) + ((nfx1 : Nat) : Int) + ((nfy1 : Nat) : Int))) rfl (y_move rfl) ?_
          refine s_y (v := .int .i64 (1 + ((nfe1 : Nat) : Int) + ((nfx1 : Nat) : Int) + ((nfy1 : Nat) : Int))) rfl (y_move rfl) ?_
          refine s_y (v := .bool false) rfl (y_neq rfl rfl (decide_eq_false (fun hq => hq rfl))) ?_
          refine s_nil ?_
          refine W_if_f (by decide) rfl ?_
          refine W_skip ?_
          refine W_seq ?_
          have B0_315 := B
          refine W_drawI (no) (fun ρ' w' => (∃ (ρ1 : Env) (b353 : Nat) (a346 : Option Addr) (c347 : Nat) (a348 : Option Addr) (c349 : Nat) (a350 : Option Addr) (c351 : Nat), ρ' = updL ρ1 [(6, .bool false), (8, .pointer (some ⟨b61, 0, none⟩)), (9, .bool true), (12, .pointer (some ⟨b252, 0, none⟩)), (15, .int .i64 (1 + ((nfe1 : Nat) : Int) + ((nfx1 : Nat) : Int) + ((nfy1 : Nat) : Int))), (16, .int .i64 (1 + ((nfe1 : Nat) : Int) + ((nfx1 : Nat) : Int) + ((nfy1 : Nat) : Int))), (17, .pointer (some ⟨b353, 0, none⟩)), (18, .bool true)] ∧ Bu w no w' [.blk b353 [.slice a346 nfe1 c347, .slice a348 nfx1 c349, .slice a350 nfy1 c351] 29, .ow kF a346 nfe1 c347 35 ((rnT wd0 hi0 wr0 Xsp0 Xls0 (Xfe1, Xfx1, Xfy1) (Int.toNat i2)).1), .ow kF a348 nfx1 c349 35 ((rnT wd0 hi0 wr0 Xsp0 Xls0 (Xfe1, Xfx1, Xfy1) (Int.toNat i2)).2.1), .ow kF a350 nfy1 c351 35 ((rnT wd0 hi0 wr0 Xsp0 Xls0 (Xfe1, Xfx1, Xfy1) (Int.toNat i2)).2.2), .ow kF a245 nfe1 c246 35 (marks 1 nfe1), .ow kF a247 nfx1 c248 35 (marks (1 + ((nfe1 : Nat) : Int)) nfx1), .ow kF a249 nfy1 c250 35 (marks (1 + ((nfe1 : Nat) : Int) + ((nfx1 : Nat) : Int)) nfy1), .ow kF a230 nfe1 c231 35 (marks (1 + ((nsp0 : Nat) : Int) + ((nls0 : Nat) : Int)) nfe1), .ow kF a232 nfx1 c233 35 (marks ((1 + ((nsp0 : Nat) : Int) + ((nls0 : Nat) : Int)) + ((nfe1 : Nat) : Int)) nfx1), .ow kF a234 nfy1 c235 35 (marks ((1 + ((nsp0 : Nat) : Int) + ((nls0 : Nat) : Int)) + ((nfe1 : Nat) : Int) + ((nfx1 : Nat) : Int)) nfy1), .ow kF a219 nsp0 c220 35 (marks 1 nsp0), .ow kF a221 nls0 c222 35 (marks (1 + ((nsp0 : Nat) : Int)) nls0), .ow kF a288 nfe1 c289 35 Xfe1, .ow kF a290 nfx1 c291 35 Xfx1, .ow kF a292 nfy1 c293 35 Xfy1, .ow kF a268 nsp0 c269 35 Xsp0, .ow kF a270 nls0 c271 35 Xls0, .blk b252 [.slice a245 nfe1 c246, .slice a247 nfx1 c248, .slice a249 nfy1 c250] 29, .blk b237 [.slice a230 nfe1 c231, .slice a232 nfx1 c233, .slice a234 nfy1 c235] 29, .blk b224 [.int .i64 wd0, .int .i64 hi0, .bool wr0, .slice a219 nsp0 c220, .slice a221 nls0 c222] 26, .blk b61 [.slice a54 nfe1 c55, .slice a56 nfx1 c57, .slice a58 nfy1 c59] 29, .ow kF a54 nfe1 c55 35 ((rnT wd0 hi0 wr0 Xsp0 Xls0 (Xfe1, Xfx1, Xfy1) (Int.toNat i2)).1), .ow kF a56 nfx1 c57 35 ((rnT wd0 hi0 wr0 Xsp0 Xls0 (Xfe1, Xfx1, Xfy1) (Int.toNat i2)).2.1), .ow kF a58 nfy1 c59 35 ((rnT wd0 hi0 wr0 Xsp0 Xls0 (Xfe1, Xfx1, Xfy1) (Int.toNat i2)).2.2), .blk b4 [.slice afe1 nfe1 cfe1, .slice afx1 nfx1 cfx1, .slice afy1 nfy1 cfy1] 46, .blk b1 [.int .i64 wd0, .int .i64 hi0, .bool wr0, .slice asp0 nsp0 csp0, .slice als0 nls0 cls0] 45, .rd kF asp0 nsp0 Xsp0, .rd kF als0 nls0 Xls0, .rd kF afe1 nfe1 Xfe1, .rd kF afx1 nfx1 Xfx1, .rd kF afy1 nfy1 Xfy1])) T12.mx (by kernel_rfl) (fun w313 e314 => ?_) ?_
          · have R316 := Ext.refl (no) w310
            replace R316 := R316.trans (Ext0.any e314)
            replace B := B.ext0 e314
            clear e314
            refine m_y (v := .agg #[.int .i64 wd0, .int .i64 hi0, .bool wr0, .slice asp0 nsp0 csp0, .slice als0 nls0 cls0]) 0 rfl (by kernel_rfl) rfl rfl (fun w' e' => y_loadn (b := b1) (o := 0) (vs := [.int .i64 wd0, .int .i64 hi0, .bool wr0, .slice asp0 nsp0 csp0, .slice als0 nls0 cls0]) T12.agg_45_5 rfl rfl (((B0_315.b 21 rfl).ext0 e').cells (o := 0) rfl)) ?_
            refine m_y (v := .agg #[.slice afe1 nfe1 cfe1, .slice afx1 nfx1 cfx1, .slice afy1 nfy1 cfy1]) 2 rfl (by kernel_rfl) rfl rfl (fun w' e' => y_loadn (b := b4) (o := 0) (vs := [.slice afe1 nfe1 cfe1, .slice afx1 nfx1 cfx1, .slice afy1 nfy1 cfy1]) T12.agg_46_3 rfl rfl (((B0_315.b 20 rfl).ext0 e').cells (o := 0) rfl)) ?_
            refine m_y (v := .int .i64 i2) 4 rfl (by kernel_rfl) rfl rfl (fun w' e' => y_move rfl) ?_
            refine m_two 1 9 (by kernel_rfl) rfl rfl rfl rfl rfl rfl (fun w317 e318 => ?_) (fun w319 e320 => ?_)
            · replace R316 := R316.trans (Ext0.any e318)
              replace B := B.ext0 e318
              clear e318
              refine k_call T12.fn_34 (c_l_toSheet (B.r 22 rfl) (B.r 23 rfl) (by omega) (by omega)) rfl ?_
              rintro _ w321 ⟨a322, c323, a324, c325, rfl, hN326⟩
              replace R316 := R316.trans (Ext0.any hN326.ext)
              replace B := B.new2 hN326
              clear hN326
              refine ⟨fun _ => R316, ?_⟩
              refine m_two 3 9 (by kernel_rfl) rfl rfl rfl rfl rfl rfl (fun w327 e328 => ?_) (fun w329 e330 => ?_)
              · replace R316 := R316.trans (Ext0.any e328)
                replace B := B.ext0 e328
                clear e328
                refine k_call T12.fn_35 (c_l_toField (B.r 26 rfl) (B.r 27 rfl) (B.r 28 rfl) (by omega) (by omega) (by omega)) rfl ?_
                rintro _ w331 ⟨a332, c333, a334, c335, a336, c337, rfl, hN338⟩
                replace R316 := R316.trans (Ext0.any hN338.ext)
                replace B := B.new3 hN338
                clear hN338
                refine ⟨fun _ => R316, ?_⟩
                refine m_two 5 9 (by kernel_rfl) rfl rfl rfl rfl rfl rfl (fun w339 e340 => ?_) (fun w341 e342 => ?_)
                · replace R316 := R316.trans (Ext0.any e340)
                  replace B := B.ext0 e340
                  clear e340
                  refine k_call T12.fn_19 (c_i_RunField ((B.o 3 rfl).rd) ((B.o 4 rfl).rd) ((B.o 0 rfl).rd) ((B.o 1 rfl).rd) ((B.o 2 rfl).rd) (by omega) (by omega) (by omega) (by omega) (by omega)) rfl ?_
                  rintro v345 w343 hx344
                  obtain ⟨a346, c347, a348, c349, a350, c351, rfl, hN352⟩ := (hx344.resolve_right (fun hz => by rw [c213] at hz; cases hz.1)).2
                  clear hx344
                  replace R316 := R316.trans (Ext0.any hN352.ext)
                  replace B := B.new3 hN352
                  clear hN352
                  refine ⟨fun _ => R316, ?_⟩
                  refine m_y (v := .tuple #[.agg #[.slice a346 nfe1 c347, .slice a348 nfx1 c349, .slice a350 nfy1 c351], .bool true]) 6 rfl (by kernel_rfl) rfl rfl (fun w' e' => y_move rfl) ?_
                  refine m_y (v := .agg #[.slice a346 nfe1 c347, .slice a348 nfx1 c349, .slice a350 nfy1 c351]) 7 rfl (by kernel_rfl) rfl rfl (fun w' e' => y_extract rfl rfl) ?_
                  refine m_y (v := .bool true) 8 rfl (by kernel_rfl) rfl rfl (fun w' e' => y_extract rfl rfl) ?_
                  refine m_k 9 [10, 11] rfl (by kernel_rfl) rfl rfl (fun w356 e357 => ?_)
                  replace R316 := R316.trans (Ext0.any e357)
                  replace B := B.ext0 e357
                  clear e357
                  refine k_allocN (z := (.agg #[.slice none 0 0, .slice none 0 0, .slice none 0 0])) (cs := [.slice none 0 0, .slice none 0 0, .slice none 0 0]) T12.zero_29 rfl (fun b353 w354 hN355 => ?_)
                  have nf358 : NotLt b353 _ := fun h => Nat.not_lt.2 (Nat.le_trans (Ext.size R316) hN355.ge) h
                  replace R316 := R316.trans (Ext0.any hN355.ext)
                  replace B := B.new1 hN355
                  clear hN355
                  refine ⟨fun _ => R316, ?_⟩
                  refine m_k 10 [11] rfl (by kernel_rfl) rfl rfl (fun w362 e363 => ?_)
                  replace R316 := R316.trans (Ext0.any e363)
                  replace B := B.ext0 e363
                  clear e363
                  refine k_stB (v := .agg #[.slice a346 nfe1 c347, .slice a348 nfx1 c349, .slice a350 nfy1 c351]) (n := 3) (cs' := [.slice a346 nfe1 c347, .slice a348 nfx1 c349, .slice a350 nfy1 c351]) T12.sz_29_3 rfl rfl rfl (B.b 0 rfl) (by simp [Value.cells, Value.oneCell']) (Nat.le_of_ble_eq_true rfl) rfl (fun w360 hU361 => ?_)
                  replace R316 := R316.fresh hU361.at1 (fun kx hs hl => (nf358 ((show kx = b353 from hs) ▸ hl)).elim)
                  replace B : Bu w no w360 [.blk b353 [.slice a346 nfe1 c347, .slice a348 nfx1 c349, .slice a350 nfy1 c351] 29, .ow kF a346 nfe1 c347 35 ((rnT wd0 hi0 wr0 Xsp0 Xls0 (Xfe1, Xfx1, Xfy1) (Int.toNat i2)).1), .ow kF a348 nfx1 c349 35 ((rnT wd0 hi0 wr0 Xsp0 Xls0 (Xfe1, Xfx1, Xfy1) (Int.toNat i2)).2.1), .ow kF a350 nfy1 c351 35 ((rnT wd0 hi0 wr0 Xsp0 Xls0 (Xfe1, Xfx1, Xfy1) (Int.toNat i2)).2.2), .ow kF a332 nfe1 c333 35 Xfe1, .ow kF a334 nfx1 c335 35 Xfx1, .ow kF a336 nfy1 c337 35 Xfy1, .ow kF a322 nsp0 c323 35 Xsp0, .ow kF a324 nls0 c325 35 Xls0, .ow kF a245 nfe1 c246 35 (marks 1 nfe1), .ow kF a247 nfx1 c248 35 (marks (1 + ((nfe1 : Nat) : Int)) nfx1), .ow kF a249 nfy1 c250 35 (marks (1 + ((nfe1 : Nat) : Int) + ((nfx1 : Nat) : Int)) nfy1), .ow kF a230 nfe1 c231 35 (marks (1 + ((nsp0 : Nat) : Int) + ((nls0 : Nat) : Int)) nfe1), .ow kF a232 nfx1 c233 35 (marks ((1 + ((nsp0 : Nat) : Int) + ((nls0 : Nat) : Int)) + ((nfe1 : Nat) : Int)) nfx1), .ow kF a234 nfy1 c235 35 (marks ((1 + ((nsp0 : Nat) : Int) + ((nls0 : Nat) : Int)) + ((nfe1 : Nat) : Int) + ((nfx1 : Nat) : Int)) nfy1), .ow kF a219 nsp0 c220 35 (marks 1 nsp0), .ow kF a221 nls0 c222 35 (marks (1 + ((nsp0 : Nat) : Int)) nls0), .ow kF a288 nfe1 c289 35 Xfe1, .ow kF a290 nfx1 c291 35 Xfx1, .ow kF a292 nfy1 c293 35 Xfy1, .ow kF a268 nsp0 c269 35 Xsp0, .ow kF a270 nls0 c271 35 Xls0, .blk b252 [.slice a245 nfe1 c246, .slice a247 nfx1 c248, .slice a249 nfy1 c250] 29, .blk b237 [.slice a230 nfe1 c231, .slice a232 nfx1 c233, .slice a234 nfy1 c235] 29, .blk b224 [.int .i64 wd0, .int .i64 hi0, .bool wr0, .slice a219 nsp0 c220, .slice a221 nls0 c222] 26, .blk b61 [.slice a54 nfe1 c55, .slice a56 nfx1 c57, .slice a58 nfy1 c59] 29, .ow kF a54 nfe1 c55 35 ((rnT wd0 hi0 wr0 Xsp0 Xls0 (Xfe1, Xfx1, Xfy1) (Int.toNat i2)).1), .ow kF a56 nfx1 c57 35 ((rnT wd0 hi0 wr0 Xsp0 Xls0 (Xfe1, Xfx1, Xfy1) (Int.toNat i2)).2.1), .ow kF a58 nfy1 c59 35 ((rnT wd0 hi0 wr0 Xsp0 Xls0 (Xfe1, Xfx1, Xfy1) (Int.toNat i2)).2.2), .blk b4 [.slice afe1 nfe1 cfe1, .slice afx1 nfx1 cfx1, .slice afy1 nfy1 cfy1] 46, .blk b1 [.int .i64 wd0, .int .i64 hi0, .bool wr0, .slice asp0 nsp0 csp0, .slice als0 nls0 cls0] 45, .rd kF asp0 nsp0 Xsp0, .rd kF als0 nls0 Xls0, .rd kF afe1 nfe1 Xfe1, .rd kF afx1 nfx1 Xfx1, .rd kF afy1 nfy1 Xfy1] := B.upd [0] rfl hU361
                  clear hU361
                  refine ⟨fun _ => R316, ?_⟩
                  refine m_y (v := .bool true) 11 rfl (by kernel_rfl) rfl rfl (fun w' e' => y_assign rfl) ?_
                  refine m_done (by kernel_rfl) (fun w364 e365 => ?_)
                  replace B := B.ext0 e365
                  clear e365
                  clear B0_315 R316
                  exact ⟨_, b353, a346, c347, a348, c349, a350, c351, Fits.eq ⟨rfl, rfl, rfl, rfl, rfl, rfl, rfl, rfl, trivial⟩, B.pick [0, 1, 2, 3, 9, 10, 11, 12, 13, 14, 15, 16, 17, 18, 19, 20, 21, 22, 23, 24, 25, 26, 27, 28, 29, 30, 31, 32, 33, 34, 35] rfl rfl⟩
                · replace R316 := R316.trans (Ext0.any e342)
                  replace B := B.ext0 e342
                  clear e342
                  refine k_allocN (z := (.agg #[.slice none 0 0, .slice none 0 0, .slice none 0 0])) (cs := [.slice none 0 0, .slice none 0 0, .slice none 0 0]) T12.zero_29 rfl (fun b366 w367 hN368 => ?_)
                  have nf369 : NotLt b366 _ := fun h => Nat.not_lt.2 (Nat.le_trans (Ext.size R316) hN368.ge) h
                  replace R316 := R316.trans (Ext0.any hN368.ext)
                  replace B := B.new1 hN368
                  clear hN368
                  refine ⟨fun _ => R316, ?_⟩
                  refine m_k 5 [6, 7, 8, 10, 11] rfl (by kernel_rfl) rfl rfl (fun w371 e372 => ?_)
                  replace R316 := R316.trans (Ext0.any e372)
                  replace B := B.ext0 e372
                  clear e372
                  refine k_call T12.fn_19 (c_i_RunField ((B.o 4 rfl).rd) ((B.o 5 rfl).rd) ((B.o 1 rfl).rd) ((B.o 2 rfl).rd) ((B.o 3 rfl).rd) (by omega) (by omega) (by omega) (by omega) (by omega)) rfl ?_
                  rintro v375 w373 hx374
                  obtain ⟨a376, c377, a378, c379, a380, c381, rfl, hN382⟩ := (hx374.resolve_right (fun hz => by rw [c213] at hz; cases hz.1)).2
                  clear hx374
                  replace R316 := R316.trans (Ext0.any hN382.ext)
                  replace B := B.new3 hN382
                  clear hN382
                  refine ⟨fun _ => R316, ?_⟩
                  refine m_y (v := .tuple #[.agg #[.slice a376 nfe1 c377, .slice a378 nfx1 c379, .slice a380 nfy1 c381], .bool true]) 6 rfl (by kernel_rfl) rfl rfl (fun w' e' => y_move rfl) ?_
                  refine m_y (v := .agg #[.slice a376 nfe1 c377, .slice a378 nfx1 c379, .slice a380 nfy1 c381]) 7 rfl (by kernel_rfl) rfl rfl (fun w' e' => y_extract rfl rfl) ?_
                  refine m_y (v := .bool true) 8 rfl (by kernel_rfl) rfl rfl (fun w' e' => y_extract rfl rfl) ?_
                  refine m_k 10 [11] rfl (by kernel_rfl) rfl rfl (fun w385 e386 => ?_)
                  replace R316 := R316.trans (Ext0.any e386)
                  replace B := B.ext0 e386
                  clear e386
                  refine k_stB (v := .agg #[.slice a376 nfe1 c377, .slice a378 nfx1 c379, .slice a380 nfy1 c381]) (n := 3) (cs' := [.slice a376 nfe1 c377, .slice a378 nfx1 c379, .slice a380 nfy1 c381]) T12.sz_29_3 rfl rfl rfl (B.b 3 rfl) (by simp [Value.cells, Value.oneCell']) (Nat.le_of_ble_eq_true rfl) rfl (fun w383 hU384 => ?_)
                  replace R316 := R316.fresh hU384.at1 (fun kx hs hl => (nf369 ((show kx = b366 from hs) ▸ hl)).elim)
                  replace B : Bu w no w383 [.blk b366 [.slice a376 nfe1 c377, .slice a378 nfx1 c379, .slice a380 nfy1 c381] 29, .ow kF a376 nfe1 c377 35 ((rnT wd0 hi0 wr0 Xsp0 Xls0 (Xfe1, Xfx1, Xfy1) (Int.toNat i2)).1), .ow kF a378 nfx1 c379 35 ((rnT wd0 hi0 wr0 Xsp0 Xls0 (Xfe1, Xfx1, Xfy1) (Int.toNat i2)).2.1), .ow kF a380 nfy1 c381 35 ((rnT wd0 hi0 wr0 Xsp0 Xls0 (Xfe1, Xfx1, Xfy1) (Int.toNat i2)).2.2), .ow kF a332 nfe1 c333 35 Xfe1, .ow kF a334 nfx1 c335 35 Xfx1, .ow kF a336 nfy1 c337 35 Xfy1, .ow kF a322 nsp0 c323 35 Xsp0, .ow kF a324 nls0 c325 35 Xls0, .ow kF a245 nfe1 c246 35 (marks 1 nfe1), .ow kF a247 nfx1 c248 35 (marks (1 + ((nfe1 : Nat) : Int)) nfx1), .ow kF a249 nfy1 c250 35 (marks (1 + ((nfe1 : Nat) : Int) + ((nfx1 : Nat) : Int)) nfy1), .ow kF a230 nfe1 c231 35 (marks (1 + ((nsp0 : Nat) : Int) + ((nls0 : Nat) : Int)) nfe1), .ow kF a232 nfx1 c233 35 (marks ((1 + ((nsp0 : Nat) : Int) + ((nls0 : Nat) : Int)) + ((nfe1 : Nat) : Int)) nfx1), .ow kF a234 nfy1 c235 35 (marks ((1 + ((nsp0 : Nat) : Int) + ((nls0 : Nat) : Int)) + ((nfe1 : Nat) : Int) + ((nfx1 : Nat) : Int)) nfy1), .ow kF a219 nsp0 c220 35 (marks 1 nsp0), .ow kF a221 nls0 c222 35 (marks (1 + ((nsp0 : Nat) : Int)) nls0), .ow kF a288 nfe1 c289 35 Xfe1, .ow kF a290 nfx1 c291 35 Xfx1, .ow kF a292 nfy1 c293 35 Xfy1, .ow kF a268 nsp0 c269 35 Xsp0, .ow kF a270 nls0 c271 35 Xls0, .blk b252 [.slice a245 nfe1 c246, .slice a247 nfx1 c248, .slice a249 nfy1 c250] 29, .blk b237 [.slice a230 nfe1 c231, .slice a232 nfx1 c233, .slice a234 nfy1 c235] 29, .blk b224 [.int .i64 wd0, .int .i64 hi0, .bool wr0, .slice a219 nsp0 c220, .slice a221 nls0 c222] 26, .blk b61 [.slice a54 nfe1 c55, .slice a56 nfx1 c57, .slice a58 nfy1 c59] 29, .ow kF a54 nfe1 c55 35 ((rnT wd0 hi0 wr0 Xsp0 Xls0 (Xfe1, Xfx1, Xfy1) (Int.toNat i2)).1), .ow kF a56 nfx1 c57 35 ((rnT wd0 hi0 wr0 Xsp0 Xls0 (Xfe1, Xfx1, Xfy1) (Int.toNat i2)).2.1), .ow kF a58 nfy1 c59 35 ((rnT wd0 hi0 wr0 Xsp0 Xls0 (Xfe1, Xfx1, Xfy1) (Int.toNat i2)).2.2), .blk b4 [.slice afe1 nfe1 cfe1, .slice afx1 nfx1 cfx1, .slice afy1 nfy1 cfy1] 46, .blk b1 [.int .i64 wd0, .int .i64 hi0, .bool wr0, .slice asp0 nsp0 csp0, .slice als0 nls0 cls0] 45, .rd kF asp0 nsp0 Xsp0, .rd kF als0 nls0 Xls0, .rd kF afe1 nfe1 Xfe1, .rd kF afx1 nfx1 Xfx1, .rd kF afy1 nfy1 Xfy1] := B.upd [3] rfl hU384
                  clear hU384
                  refine ⟨fun _ => R316, ?_⟩
                  refine m_y (v := .bool true) 11 rfl (by kernel_rfl) rfl rfl (fun w' e' => y_assign rfl) ?_
                  refine m_done (by kernel_rfl) (fun w387 e388 => ?_)
                  replace B := B.ext0 e388
                  clear e388
                  clear B0_315 R316
                  exact ⟨_, b366, a376, c377, a378, c379, a380, c381, Fits.eq ⟨rfl, rfl, rfl, rfl, rfl, rfl, rfl, rfl, trivial⟩, B.pick [0, 1, 2, 3, 9, 10, 11, 12, 13, 14, 15, 16, 17, 18, 19, 20, 21, 22, 23, 24, 25, 26, 27, 28, 29, 30, 31, 32, 33, 34, 35] rfl rfl⟩
              · replace R316 := R316.trans (Ext0.any e330)
                replace B := B.ext0 e330
                clear e330
                refine k_allocN (z := (.agg #[.slice none 0 0, .slice none 0 0, .slice none 0 0])) (cs := [.slice none 0 0, .slice none 0 0, .slice none 0 0]) T12.zero_29 rfl (fun b389 w390 hN391 => ?_)
                have nf392 : NotLt b389 _ := fun h => Nat.not_lt.2 (Nat.le_trans (Ext.size R316) hN391.ge) h
                replace R316 := R316.trans (Ext0.any hN391.ext)
                replace B := B.new1 hN391
                clear hN391
                refine ⟨fun _ => R316, ?_⟩
                refine m_k 3 [5, 6, 7, 8, 10, 11] rfl (by kernel_rfl) rfl rfl (fun w394 e395 => ?_)
                replace R316 := R316.trans (Ext0.any e395)
                replace B := B.ext0 e395
                clear e395
                refine k_call T12.fn_35 (c_l_toField (B.r 27 rfl) (B.r 28 rfl) (B.r 29 rfl) (by omega) (by omega) (by omega)) rfl ?_
                rintro _ w396 ⟨a397, c398, a399, c400, a401, c402, rfl, hN403⟩
                replace R316 := R316.trans (Ext0.any hN403.ext)
                replace B := B.new3 hN403
                clear hN403
                refine ⟨fun _ => R316, ?_⟩
                refine m_k 5 [6, 7, 8, 10, 11] rfl (by kernel_rfl) rfl rfl (fun w404 e405 => ?_)
                replace R316 := R316.trans (Ext0.any e405)
                replace B := B.ext0 e405
                clear e405
                refine k_call T12.fn_19 (c_i_RunField ((B.o 4 rfl).rd) ((B.o 5 rfl).rd) ((B.o 0 rfl).rd) ((B.o 1 rfl).rd) ((B.o 2 rfl).rd) (by omega) (by omega) (by omega) (by omega) (by omega)) rfl ?_
                rintro v408 w406 hx407
                obtain ⟨a409, c410, a411, c412, a413, c414, rfl, hN415⟩ := (hx407.resolve_right (fun hz => by rw [c213] at hz; cases hz.1)).2
                clear hx407
                replace R316 := R316.trans (Ext0.any hN415.ext)
                replace B := B.new3 hN415
                clear hN415
                refine ⟨fun _ => R316, ?_⟩
                refine m_y (v := .tuple #[.agg #[.slice a409 nfe1 c410, .slice a411 nfx1 c412, .slice a413 nfy1 c414], .bool true]) 6 rfl (by kernel_rfl) rfl rfl (fun w' e' => y_move rfl) ?_
                refine m_y (v := .agg #[.slice a409 nfe1 c410, .slice a411 nfx1 c412, .slice a413 nfy1 c414]) 7 rfl (by kernel_rfl) rfl rfl (fun w' e' => y_extract rfl rfl) ?_
                refine m_y (v := .bool true) 8 rfl (by kernel_rfl) rfl rfl (fun w' e' => y_extract rfl rfl) ?_
                refine m_k 10 [11] rfl (by kernel_rfl) rfl rfl (fun w418 e419 => ?_)
                replace R316 := R316.trans (Ext0.any e419)
                replace B := B.ext0 e419
                clear e419
                refine k_stB (v := .agg #[.slice a409 nfe1 c410, .slice a411 nfx1 c412, .slice a413 nfy1 c414]) (n := 3) (cs' := [.slice a409 nfe1 c410, .slice a411 nfx1 c412, .slice a413 nfy1 c414]) T12.sz_29_3 rfl rfl rfl (B.b 6 rfl) (by simp [Value.cells, Value.oneCell']) (Nat.le_of_ble_eq_true rfl) rfl (fun w416 hU417 => ?_)
                replace R316 := R316.fresh hU417.at1 (fun kx hs hl => (nf392 ((show kx = b389 from hs) ▸ hl)).elim)
                replace B : Bu w no w416 [.blk b389 [.slice a409 nfe1 c410, .slice a411 nfx1 c412, .slice a413 nfy1 c414] 29, .ow kF a409 nfe1 c410 35 ((rnT wd0 hi0 wr0 Xsp0 Xls0 (Xfe1, Xfx1, Xfy1) (Int.toNat i2)).1), .ow kF a411 nfx1 c412 35 ((rnT wd0 hi0 wr0 Xsp0 Xls0 (Xfe1, Xfx1, Xfy1) (Int.toNat i2)).2.1), .ow kF a413 nfy1 c414 35 ((rnT wd0 hi0 wr0 Xsp0 Xls0 (Xfe1, Xfx1, Xfy1) (Int.toNat i2)).2.2), .ow kF a397 nfe1 c398 35 Xfe1, .ow kF a399 nfx1 c400 35 Xfx1, .ow kF a401 nfy1 c402 35 Xfy1, .ow kF a322 nsp0 c323 35 Xsp0, .ow kF a324 nls0 c325 35 Xls0, .ow kF a245 nfe1 c246 35 (marks 1 nfe1), .ow kF a247 nfx1 c248 35 (marks (1 + ((nfe1 : Nat) : Int)) nfx1), .ow kF a249 nfy1 c250 35 (marks (1 + ((nfe1 : Nat) : Int) + ((nfx1 : Nat) : Int)) nfy1), .ow kF a230 nfe1 c231 35 (marks (1 + ((nsp0 : Nat) : Int) + ((nls0 : Nat) : Int)) nfe1), .ow kF a232 nfx1 c233 35 (marks ((1 + ((nsp0 : Nat) : Int) + ((nls0 : Nat) : Int)) + ((nfe1 : Nat) : Int)) nfx1), .ow kF a234 nfy1 c235 35 (marks ((1 + ((nsp0 : Nat) : Int) + ((nls0 : Nat) : Int)) + ((nfe1 : Nat) : Int) + ((nfx1 : Nat) : Int)) nfy1), .ow kF a219 nsp0 c220 35 (marks 1 nsp0), .ow kF a221 nls0 c222 35 (marks (1 + ((nsp0 : Nat) : Int)) nls0), .ow kF a288 nfe1 c289 35 Xfe1, .ow kF a290 nfx1 c291 35 Xfx1, .ow kF a292 nfy1 c293 35 Xfy1, .ow kF a268 nsp0 c269 35 Xsp0, .ow kF a270 nls0 c271 35 Xls0, .blk b252 [.slice a245 nfe1 c246, .slice a247 nfx1 c248, .slice a249 nfy1 c250] 29, .blk b237 [.slice a230 nfe1 c231, .slice a232 nfx1 c233, .slice a234 nfy1 c235] 29, .blk b224 [.int .i64 wd0, .int .i64 hi0, .bool wr0, .slice a219 nsp0 c220, .slice a221 nls0 c222] 26, .blk b61 [.slice a54 nfe1 c55, .slice a56 nfx1 c57, .slice a58 nfy1 c59] 29, .ow kF a54 nfe1 c55 35 ((rnT wd0 hi0 wr0 Xsp0 Xls0 (Xfe1, Xfx1, Xfy1) (Int.toNat i2)).1), .ow kF a56 nfx1 c57 35 ((rnT wd0 hi0 wr0 Xsp0 Xls0 (Xfe1, Xfx1, Xfy1) (Int.toNat i2)).2.1), .ow kF a58 nfy1 c59 35 ((rnT wd0 hi0 wr0 Xsp0 Xls0 (Xfe1, Xfx1, Xfy1) (Int.toNat i2)).2.2), .blk b4 [.slice afe1 nfe1 cfe1, .slice afx1 nfx1 cfx1, .slice afy1 nfy1 cfy1] 46, .blk b1 [.int .i64 wd0, .int .i64 hi0, .bool wr0, .slice asp0 nsp0 csp0, .slice als0 nls0 cls0] 45, .rd kF asp0 nsp0 Xsp0, .rd kF als0 nls0 Xls0, .rd kF afe1 nfe1 Xfe1, .rd kF afx1 nfx1 Xfx1, .rd kF afy1 nfy1 Xfy1] := B.upd [6] rfl hU417
                clear hU417
                refine ⟨fun _ => R316, ?_⟩
                refine m_y (v := .bool true) 11 rfl (by kernel_rfl) rfl rfl (fun w' e' => y_assign rfl) ?_
                refine m_done (by kernel_rfl) (fun w420 e421 => ?_)
                replace B := B.ext0 e421
                clear e421
                clear B0_315 R316
                exact ⟨_, b389, a409, c410, a411, c412, a413, c414, Fits.eq ⟨rfl, rfl, rfl, rfl, rfl, rfl, rfl, rfl, trivial⟩, B.pick [0, 1, 2, 3, 9, 10, 11, 12, 13, 14, 15, 16, 17, 18, 19, 20, 21, 22, 23, 24, 25, 26, 27, 28, 29, 30, 31, 32, 33, 34, 35] rfl rfl⟩
            · replace R316 := R316.trans (Ext0.any e320)
              replace B := B.ext0 e320
              clear e320
              refine k_allocN (z := (.agg #[.slice none 0 0, .slice none 0 0, .slice none 0 0])) (cs := [.slice none 0 0, .slice none 0 0, .slice none 0 0]) T12.zero_29 rfl (fun b422 w423 hN424 => ?_)
              have nf425 : NotLt b422 _ := fun h => Nat.not_lt.2 (Nat.le_trans (Ext.size R316) hN424.ge) h
              replace R316 := R316.trans (Ext0.any hN424.ext)
              replace B := B.new1 hN424
              clear hN424
              refine ⟨fun _ => R316, ?_⟩
              refine m_k 1 [3, 5, 6, 7, 8, 10, 11] rfl (by kernel_rfl) rfl rfl (fun w427 e428 => ?_)
              replace R316 := R316.trans (Ext0.any e428)
              replace B := B.ext0 e428
              clear e428
              refine k_call T12.fn_34 (c_l_toSheet (B.r 23 rfl) (B.r 24 rfl) (by omega) (by omega)) rfl ?_
              rintro _ w429 ⟨a430, c431, a432, c433, rfl, hN434⟩
              replace R316 := R316.trans (Ext0.any hN434.ext)
              replace B := B.new2 hN434
              clear hN434
              refine ⟨fun _ => R316, ?_⟩
              refine m_k 3 [5, 6, 7, 8, 10, 11] rfl (by kernel_rfl) rfl rfl (fun w435 e436 => ?_)
              replace R316 := R316.trans (Ext0.any e436)
              replace B := B.ext0 e436
              clear e436
              refine k_call T12.fn_35 (c_l_toField (B.r 27 rfl) (B.r 28 rfl) (B.r 29 rfl) (by omega) (by omega) (by omega)) rfl ?_
              rintro _ w437 ⟨a438, c439, a440, c441, a442, c443, rfl, hN444⟩
              replace R316 := R316.trans (Ext0.any hN444.ext)
              replace B := B.new3 hN444
              clear hN444
              refine ⟨fun _ => R316, ?_⟩
              refine m_k 5 [6, 7, 8, 10, 11] rfl (by kernel_rfl) rfl rfl (fun w445 e446 => ?_)
              replace R316 := R316.trans (Ext0.any e446)
              replace B := B.ext0 e446
              clear e446
              refine k_call T12.fn_19 (c_i_RunField ((B.o 3 rfl).rd) ((B.o 4 rfl).rd) ((B.o 0 rfl).rd) ((B.o 1 rfl).rd) ((B.o 2 rfl).rd) (by omega) (by omega) (by omega) (by omega) (by omega)) rfl ?_
              rintro v449 w447 hx448
              obtain ⟨a450, c451, a452, c453, a454, c455, rfl, hN456⟩ := (hx448.resolve_right (fun hz => by rw [c213] at hz; cases hz.1)).2
              clear hx448
              replace R316 := R316.trans (Ext0.any hN456.ext)
              replace B := B.new3 hN456
              clear hN456
              refine ⟨fun _ => R316, ?_⟩
              refine m_y (v := .tuple #[.agg #[.slice a450 nfe1 c451, .slice a452 nfx1 c453, .slice a454 nfy1 c455], .bool true]) 6 rfl (by kernel_rfl) rfl rfl (fun w' e' => y_move rfl) ?_
              refine m_y (v := .agg #[.slice a450 nfe1 c451, .slice a452 nfx1 c453, .slice a454 nfy1 c455]) 7 rfl (by kernel_rfl) rfl rfl (fun w' e' => y_extract rfl rfl) ?_
              refine m_y (v := .bool true) 8 rfl (by kernel_rfl) rfl rfl (fun w' e' => y_extract rfl rfl) ?_
              refine m_k 10 [11] rfl (by kernel_rfl) rfl rfl (fun w459 e460 => ?_)
              replace R316 := R316.trans (Ext0.any e460)
              replace B := B.ext0 e460
              clear e460
              refine k_stB (v := .agg #[.slice a450 nfe1 c451, .slice a452 nfx1 c453, .slice a454 nfy1 c455]) (n := 3) (cs' := [.slice a450 nfe1 c451, .slice a452 nfx1 c453, .slice a454 nfy1 c455]) T12.sz_29_3 rfl rfl rfl (B.b 8 rfl) (by simp [Value.cells, Value.oneCell']) (Nat.le_of_ble_eq_true rfl) rfl (fun w457 hU458 => ?_)
              replace R316 := R316.fresh hU458.at1 (fun kx hs hl => (nf425 ((show kx = b422 from hs) ▸ hl)).elim)
              replace B : Bu w no w457 [.blk b422 [.slice a450 nfe1 c451, .slice a452 nfx1 c453, .slice a454 nfy1 c455] 29, .ow kF a450 nfe1 c451 35 ((rnT wd0 hi0 wr0 Xsp0 Xls0 (Xfe1, Xfx1, Xfy1) (Int.toNat i2)).1), .ow kF a452 nfx1 c453 35 ((rnT wd0 hi0 wr0 Xsp0 Xls0 (Xfe1, Xfx1, Xfy1) (Int.toNat i2)).2.1), .ow kF a454 nfy1 c455 35 ((rnT wd0 hi0 wr0 Xsp0 Xls0 (Xfe1, Xfx1, Xfy1) (Int.toNat i2)).2.2), .ow kF a438 nfe1 c439 35 Xfe1, .ow kF a440 nfx1 c441 35 Xfx1, .ow kF a442 nfy1 c443 35 Xfy1, .ow kF a430 nsp0 c431 35 Xsp0, .ow kF a432 nls0 c433 35 Xls0, .ow kF a245 nfe1 c246 35 (marks 1 nfe1), .ow kF a247 nfx1 c248 35 (marks (1 + ((nfe1 : Nat) : Int)) nfx1), .ow kF a249 nfy1 c250 35 (marks (1 + ((nfe1 : Nat) : Int) + ((nfx1 : Nat) : Int)) nfy1), .ow kF a230 nfe1 c231 35 (marks (1 + ((nsp0 : Nat) : Int) + ((nls0 : Nat) : Int)) nfe1), .ow kF a232 nfx1 c233 35 (marks ((1 + ((nsp0 : Nat) : Int) + ((nls0 : Nat) : Int)) + ((nfe1 : Nat) : Int)) nfx1), .ow kF a234 nfy1 c235 35 (marks ((1 + ((nsp0 : Nat) : Int) + ((nls0 : Nat) : Int)) + ((nfe1 : Nat) : Int) + ((nfx1 : Nat) : Int)) nfy1), .ow kF a219 nsp0 c220 35 (marks 1 nsp0), .ow kF a221 nls0 c222 35 (marks (1 + ((nsp0 : Nat) : Int)) nls0), .ow kF a288 nfe1 c289 35 Xfe1, .ow kF a290 nfx1 c291 35 Xfx1, .ow kF a292 nfy1 c293 35 Xfy1, .ow kF a268 nsp0 c269 35 Xsp0, .ow kF a270 nls0 c271 35 Xls0, .blk b252 [.slice a245 nfe1 c246, .slice a247 nfx1 c248, .slice a249 nfy1 c250] 29, .blk b237 [.slice a230 nfe1 c231, .slice a232 nfx1 c233, .slice a234 nfy1 c235] 29, .blk b224 [.int .i64 wd0, .int .i64 hi0, .bool wr0, .slice a219 nsp0 c220, .slice a221 nls0 c222] 26, .blk b61 [.slice a54 nfe1 c55, .slice a56 nfx1 c57, .slice a58 nfy1 c59] 29, .ow kF a54 nfe1 c55 35 ((rnT wd0 hi0 wr0 Xsp0 Xls0 (Xfe1, Xfx1, Xfy1) (Int.toNat i2)).1), .ow kF a56 nfx1 c57 35 ((rnT wd0 hi0 wr0 Xsp0 Xls0 (Xfe1, Xfx1, Xfy1) (Int.toNat i2)).2.1), .ow kF a58 nfy1 c59 35 ((rnT wd0 hi0 wr0 Xsp0 Xls0 (Xfe1, Xfx1, Xfy1) (Int.toNat i2)).2.2), .blk b4 [.slice afe1 nfe1 cfe1, .slice afx1 nfx1 cfx1, .slice afy1 nfy1 cfy1] 46, .blk b1 [.int .i64 wd0, .int .i64 hi0, .bool wr0, .slice asp0 nsp0 csp0, .slice als0 nls0 cls0] 45, .rd kF asp0 nsp0 Xsp0, .rd kF als0 nls0 Xls0, .rd kF afe1 nfe1 Xfe1, .rd kF afx1 nfx1 Xfx1, .rd kF afy1 nfy1 Xfy1] := B.upd [8] rfl hU458
              clear hU458
              refine ⟨fun _ => R316, ?_⟩
              refine m_y (v := .bool true) 11 rfl (by kernel_rfl) rfl rfl (fun w' e' => y_assign rfl) ?_
              refine m_done (by kernel_rfl) (fun w461 e462 => ?_)
              replace B := B.ext0 e462
              clear e462
              clear B0_315 R316
              exact ⟨_, b422, a450, c451, a452, c453, a454, c455, Fits.eq ⟨rfl, rfl, rfl, rfl, rfl, rfl, rfl, rfl, trivial⟩, B.pick [0, 1, 2, 3, 9, 10, 11, 12, 13, 14, 15, 16, 17, 18, 19, 20, 21, 22, 23, 24, 25, 26, 27, 28, 29, 30, 31, 32, 33, 34, 35] rfl rfl⟩
          · clear B; rintro _ w463 (⟨ρ464, b353, a346, c347, a348, c349, a350, c351, rfl, B⟩)
            refine W_seq ?_
            refine W_seq ?_
            refine W_region (by kernel_rfl) ?_
            refine s_y (v := .agg #[.slice a346 nfe1 c347, .slice a348 nfx1 c349, .slice a350 nfy1 c351]) rfl (y_loadn (b := b353) (o := 0) (vs := [.slice a346 nfe1 c347, .slice a348 nfx1 c349, .slice a350 nfy1 c351]) T12.agg_29_3 rfl rfl ((B.b 0 rfl).cells (o := 0) rfl)) ?_
            refine s_y (v := .agg #[.slice a54 nfe1 c55, .slice a56 nfx1 c57, .slice a58 nfy1 c59]) rfl (y_loadn (b := b61) (o := 0) (vs := [.slice a54 nfe1 c55, .slice a56 nfx1 c57, .slice a58 nfy1 c59]) T12.agg_29_3 rfl rfl ((B.b 20 rfl).cells (o := 0) rfl)) ?_
            refine s_k rfl (k_call T12.fn_39 (c_l_eqField ((B.o 1 rfl).rd) ((B.o 2 rfl).rd) ((B.o 3 rfl).rd) ((B.o 21 rfl).rd) ((B.o 22 rfl).rd) ((B.o 23 rfl).rd) (by omega) (by omega) (by omega)) rfl ?_)
            rintro _ w465 ⟨rfl, e466⟩
            replace B := B.ext0 e466
            clear e466
            refine s_y (v := .bool false) rfl (y_not rfl rfl) ?_
            refine s_y (v := .bool false) rfl (y_move rfl) ?_
            refine s_y (v := .bool true) rfl (y_move rfl) ?_
            refine s_y (v := .bool true) rfl (y_move rfl) ?_
            refine s_y (v := .bool false) rfl (y_bneq T12.bool_4 rfl rfl rfl) ?_
            refine s_y (v := .bool false) rfl (y_pick_f rfl rfl) ?_
            refine s_nil ?_
            refine W_if_f (by decide) rfl ?_
            refine W_skip ?_
            refine W_seq ?_
            refine W_region (by kernel_rfl) ?_
            refine s_y (v := .int .i64 1) rfl (y_assign rfl) ?_
            refine s_nil ?_
            refine W_seq ?_
            refine W_region (by kernel_rfl) ?_
            refine s_y (v := .agg #[.slice a245 nfe1 c246, .slice a247 nfx1 c248, .slice a249 nfy1 c250]) rfl (y_loadn (b := b252) (o := 0) (vs := [.slice a245 nfe1 c246, .slice a247 nfx1 c248, .slice a249 nfy1 c250]) T12.agg_29_3 rfl rfl ((B.b 17 rfl).cells (o := 0) rfl)) ?_
            refine s_y (v := .int .i64 1) rfl (y_move rfl) ?_
            refine s_k rfl (k_call T12.fn_46 (c_l_heldField ((B.o 4 rfl).rd) ((B.o 5 rfl).rd) ((B.o 6 rfl).rd) (by omega) (by omega) (by omega) (by omega) (by omega)) rfl ?_)
            rintro _ w467 ⟨rfl, e468⟩
            replace B := B.ext0 e468
            clear e468
            refine s_y (v := .int .i64 (1 + ((nfe1 : Nat) : Int) + ((nfx1 : Nat) : Int) + ((nfy1 : Nat) : Int))) rfl (y_assign rfl) ?_
            refine s_nil ?_
            refine W_seq ?_
            refine W_seq ?_
            refine W_region (by kernel_rfl) ?_
            refine s_y (v := .int .i64 (1 + ((nfe1 : Nat) : Int) + ((nfx1 : Nat) : Int) + ((nfy1 : Nat) : Int))) rfl (y_move rfl) ?_
            refine s_y (v := .bool false) rfl (y_lss rfl rfl (decide_eq_false hk312)) ?_
            refine s_nil ?_
            refine W_if_f (by decide) rfl ?_
            refine W_skip ?_
            refine W_seq ?_
            refine W_seq ?_
            refine W_region (by kernel_rfl) ?_
            refine s_y (v := .int .i64 (1 + ((nfe1 : Nat) : Int) + ((nfx1 : Nat) : Int) + ((nfy1 : Nat) : Int))) rfl (y_move rfl) ?_
            refine s_y (v := .int .i64 (1 + ((nfe1 : Nat) : Int) + ((nfx1 : Nat) : Int) + ((nfy1 : Nat) : Int))) rfl (y_move rfl) ?_
            refine s_y (v := .bool false) rfl (y_neq rfl rfl (decide_eq_false (fun hq => hq rfl))) ?_
            refine s_nil ?_
            refine W_if_f (by decide) rfl ?_
            refine W_skip ?_
            refine W_seq ?_
            refine W_region (by kernel_rfl) ?_
            refine s_y (v := .bool true) rfl (y_assign rfl) ?_
            refine s_nil ?_
            refine W_ret ?_
            refine ret1 (v := .bool true) rfl rfl rfl ⟨_, rfl, ?_⟩
            exact ⟨rfl, B.ext⟩
        · refine W_seq ?_
          refine W_region (by kernel_rfl) ?_
          refine s_y (v := .agg #[.int .i64 wd0, .int .i64 hi0, .bool wr0, .slice asp0 nsp0 csp0, .slice als0 nls0 cls0]) rfl (y_loadn (b := b1) (o := 0) (vs := [.int .i64 wd0, .int .i64 hi0, .bool wr0, .slice asp0 nsp0 csp0, .slice als0 nls0 cls0]) T12.agg_45_5 rfl rfl ((B.b 2 rfl).cells (o := 0) rfl)) ?_
          refine s_k rfl (k_call T12.fn_34 (c_l_toSheet (B.r 3 rfl) (B.r 4 rfl) (by omega) (by omega)) rfl ?_)
          rintro _ w469 ⟨a470, c471, a472, c473, rfl, hN474⟩
          replace B := B.new2 hN474
          clear hN474
          refine s_k rfl (k_allocN (z := (.agg #[.int .i64 0, .int .i64 0, .bool false, .slice none 0 0, .slice none 0 0])) (cs := [.int .i64 0, .int .i64 0, .bool false, .slice none 0 0, .slice none 0 0]) T12.zero_26 rfl (fun b475 w476 hN477 => ?_))
          replace B := B.new1 hN477
          clear hN477
          refine s_k0 rfl (k_stB (v := .agg #[.int .i64 wd0, .int .i64 hi0, .bool wr0, .slice a470 nsp0 c471, .slice a472 nls0 c473]) (n := 5) (cs' := [.int .i64 wd0, .int .i64 hi0, .bool wr0, .slice a470 nsp0 c471, .slice a472 nls0 c473]) T12.sz_26_5 rfl rfl rfl (B.b 0 rfl) (by simp [Value.cells, Value.oneCell']) (Nat.le_of_ble_eq_true rfl) rfl (fun w478 hU479 => ?_))
          replace B : Bu w no w478 [.blk b475 [.int .i64 wd0, .int .i64 hi0, .bool wr0, .slice a470 nsp0 c471, .slice a472 nls0 c473] 26, .ow kF a470 nsp0 c471 35 Xsp0, .ow kF a472 nls0 c473 35 Xls0, .blk b75 [.slice none 0 0, .slice none 0 0, .slice none 0 0] 29, .blk b4 [.slice afe1 nfe1 cfe1, .slice afx1 nfx1 cfx1, .slice afy1 nfy1 cfy1] 46, .blk b1 [.int .i64 wd0, .int .i64 hi0, .bool wr0, .slice asp0 nsp0 csp0, .slice als0 nls0 cls0] 45, .rd kF asp0 nsp0 Xsp0, .rd kF als0 nls0 Xls0, .rd kF afe1 nfe1 Xfe1, .rd kF afx1 nfx1 Xfx1, .rd kF afy1 nfy1 Xfy1] := B.upd [0] rfl hU479
          clear hU479
          refine s_nil ?_
          refine W_seq ?_
          refine W_region (by kernel_rfl) ?_
          refine s_y (v := .agg #[.slice afe1 nfe1 cfe1, .slice afx1 nfx1 cfx1, .slice afy1 nfy1 cfy1]) rfl (y_loadn (b := b4) (o := 0) (vs := [.slice afe1 nfe1 cfe1, .slice afx1 nfx1 cfx1, .slice afy1 nfy1 cfy1]) T12.agg_46_3 rfl rfl ((B.b 4 rfl).cells (o := 0) rfl)) ?_
          refine s_k rfl (k_call T12.fn_35 (c_l_toField (B.r 8 rfl) (B.r 9 rfl) (B.r 10 rfl) (by omega) (by omega) (by omega)) rfl ?_)
          rintro _ w480 ⟨a481, c482, a483, c484, a485, c486, rfl, hN487⟩
          replace B := B.new3 hN487
          clear hN487
          refine s_k rfl (k_allocN (z := (.agg #[.slice none 0 0, .slice none 0 0, .slice none 0 0])) (cs := [.slice none 0 0, .slice none 0 0, .slice none 0 0]) T12.zero_29 rfl (fun b488 w489 hN490 => ?_))
          replace B := B.new1 hN490
          clear hN490
          refine s_k0 rfl (k_stB (v := .agg #[.slice a481 nfe1 c482, .slice a483 nfx1 c484, .slice a485 nfy1 c486]) (n := 3) (cs' := [.slice a481 nfe1 c482, .slice a483 nfx1 c484, .slice a485 nfy1 c486]) T12.sz_29_3 rfl rfl rfl (B.b 0 rfl) (by simp [Value.cells, Value.oneCell']) (Nat.le_of_ble_eq_true rfl) rfl (fun w491 hU492 => ?_))
          replace B : Bu w no w491 [.blk b488 [.slice a481 nfe1 c482, .slice a483 nfx1 c484, .slice a485 nfy1 c486] 29, .ow kF a481 nfe1 c482 35 Xfe1, .ow kF a483 nfx1 c484 35 Xfx1, .ow kF a485 nfy1 c486 35 Xfy1, .blk b475 [.int .i64 wd0, .int .i64 hi0, .bool wr0, .slice a470 nsp0 c471, .slice a472 nls0 c473] 26, .ow kF a470 nsp0 c471 35 Xsp0, .ow kF a472 nls0 c473 35 Xls0, .blk b75 [.slice none 0 0, .slice none 0 0, .slice none 0 0] 29, .blk b4 [.slice afe1 nfe1 cfe1, .slice afx1 nfx1 cfx1, .slice afy1 nfy1 cfy1] 46, .blk b1 [.int .i64 wd0, .int .i64 hi0, .bool wr0, .slice asp0 nsp0 csp0, .slice als0 nls0 cls0] 45, .rd kF asp0 nsp0 Xsp0, .rd kF als0 nls0 Xls0, .rd kF afe1 nfe1 Xfe1, .rd kF afx1 nfx1 Xfx1, .rd kF afy1 nfy1 Xfy1] := B.upd [0] rfl hU492
          clear hU492
          refine s_nil ?_
          refine W_seq ?_
          refine W_region (by kernel_rfl) ?_
          refine s_y (v := .agg #[.int .i64 wd0, .int .i64 hi0, .bool wr0, .slice a470 nsp0 c471, .slice a472 nls0 c473]) rfl (y_loadn (b := b475) (o := 0) (vs := [.int .i64 wd0, .int .i64 hi0, .bool wr0, .slice a470 nsp0 c471, .slice a472 nls0 c473]) T12.agg_26_5 rfl rfl ((B.b 4 rfl).cells (o := 0) rfl)) ?_
          refine s_y (v := .agg #[.slice a481 nfe1 c482, .slice a483 nfx1 c484, .slice a485 nfy1 c486]) rfl (y_loadn (b := b488) (o := 0) (vs := [.slice a481 nfe1 c482, .slice a483 nfx1 c484, .slice a485 nfy1 c486]) T12.agg_29_3 rfl rfl ((B.b 0 rfl).cells (o := 0) rfl)) ?_
          refine s_y (v := .int .i64 i2) rfl (y_move rfl) ?_
          refine s_k rfl (k_call T12.fn_19 (c_i_RunField ((B.o 5 rfl).rd) ((B.o 6 rfl).rd) ((B.o 1 rfl).rd) ((B.o 2 rfl).rd) ((B.o 3 rfl).rd) (by omega) (by omega) (by omega) (by omega) (by omega)) rfl ?_)
          rintro v495 w493 hx494
          obtain ⟨_, rfl, e496⟩ := hx494.resolve_left (fun hz => c215 hz.1)
          clear hx494
          replace B := B.ext0 e496
          clear e496
          refine s_y (v := .tuple #[.agg #[.slice none 0 0, .slice none 0 0, .slice none 0 0], .bool false]) rfl (y_move rfl) ?_
          refine s_y (v := .agg #[.slice none 0 0, .slice none 0 0, .slice none 0 0]) rfl (y_extract rfl rfl) ?_
          refine s_y (v := .bool false) rfl (y_extract rfl rfl) ?_
          refine s_k rfl (k_allocN (z := (.agg #[.slice none 0 0, .slice none 0 0, .slice none 0 0])) (cs := [.slice none 0 0, .slice none 0 0, .slice none 0 0]) T12.zero_29 rfl (fun b497 w498 hN499 => ?_))
          replace B := B.new1 hN499
          clear hN499
          refine s_k0 rfl (k_stB (v := .agg #[.slice none 0 0, .slice none 0 0, .slice none 0 0]) (n := 3) (cs' := [.slice none 0 0, .slice none 0 0, .slice none 0 0]) T12.sz_29_3 rfl rfl rfl (B.b 0 rfl) (by simp [Value.cells, Value.oneCell']) (Nat.le_of_ble_eq_true rfl) rfl (fun w500 hU501 => ?_))
          replace B : Bu w no w500 [.blk b497 [.slice none 0 0, .slice none 0 0, .slice none 0 0] 29, .blk b488 [.slice a481 nfe1 c482, .slice a483 nfx1 c484, .slice a485 nfy1 c486] 29, .ow kF a481 nfe1 c482 35 Xfe1, .ow kF a483 nfx1 c484 35 Xfx1, .ow kF a485 nfy1 c486 35 Xfy1, .blk b475 [.int .i64 wd0, .int .i64 hi0, .bool wr0, .slice a470 nsp0 c471, .slice a472 nls0 c473] 26, .ow kF a470 nsp0 c471 35 Xsp0, .ow kF a472 nls0 c473 35 Xls0, .blk b75 [.slice none 0 0, .slice none 0 0, .slice none 0 0] 29, .blk b4 [.slice afe1 nfe1 cfe1, .slice afx1 nfx1 cfx1, .slice afy1 nfy1 cfy1] 46, .blk b1 [.int .i64 wd0, .int .i64 hi0, .bool wr0, .slice asp0 nsp0 csp0, .slice als0 nls0 cls0] 45, .rd kF asp0 nsp0 Xsp0, .rd kF als0 nls0 Xls0, .rd kF afe1 nfe1 Xfe1, .rd kF afx1 nfx1 Xfx1, .rd kF afy1 nfy1 Xfy1] := B.upd [0] rfl hU501
          clear hU501
          refine s_y (v := .bool false) rfl (y_assign rfl) ?_
          refine s_nil ?_
          refine W_seq ?_
          refine W_seq ?_
          refine W_region (by kernel_rfl) ?_
          refine s_y (v := .agg #[.slice none 0 0, .slice none 0 0, .slice none 0 0]) rfl (y_loadn (b := b497) (o := 0) (vs := [.slice none 0 0, .slice none 0 0, .slice none 0 0]) T12.agg_29_3 rfl rfl ((B.b 0 rfl).cells (o := 0) rfl)) ?_
          refine s_y (v := .agg #[.slice none 0 0, .slice none 0 0, .slice none 0 0]) rfl (y_loadn (b := b75) (o := 0) (vs := [.slice none 0 0, .slice none 0 0, .slice none 0 0]) T12.agg_29_3 rfl rfl ((B.b 8 rfl).cells (o := 0) rfl)) ?_
          refine s_k rfl (k_call T12.fn_39 (c_l_eqField (Rd.nil _ kF none) (Rd.nil _ kF none) (Rd.nil _ kF none) (Rd.nil _ kF none) (Rd.nil _ kF none) (Rd.nil _ kF none) (by omega) (by omega) (by omega)) rfl ?_)
          rintro _ w502 ⟨rfl, e503⟩
          replace B := B.ext0 e503
          clear e503
          refine s_y (v := .bool false) rfl (y_not rfl rfl) ?_
          refine s_y (v := .bool false) rfl (y_move rfl) ?_
          refine s_y (v := .bool false) rfl (y_move rfl) ?_
          refine s_y (v := .bool false) rfl (y_move rfl) ?_
          refine s_y (v := .bool false) rfl (y_bneq T12.bool_4 rfl rfl rfl) ?_
          refine s_y (v := .bool false) rfl (y_pick_f rfl rfl) ?_
          refine s_nil ?_
          refine W_if_f (by decide) rfl ?_
          refine W_skip ?_
          refine W_seq ?_
          refine W_seq ?_
          have B0_508 := B
          refine W_draw (no) T12.mx (by kernel_rfl) (fun w506 e507 => ?_)
          have R509 := Ext.refl (no) w502
          replace R509 := R509.trans (Ext0.any e507)
          replace B := B.ext0 e507
          clear e507
          refine m_y (v := .agg #[.int .i64 wd0, .int .i64 hi0, .bool wr0, .slice a470 nsp0 c471, .slice a472 nls0 c473]) 0 rfl (by kernel_rfl) rfl rfl (fun w' e' => y_loadn (b := b475) (o := 0) (vs := [.int .i64 wd0, .int .i64 hi0, .bool wr0, .slice a470 nsp0 c471, .slice a472 nls0 c473]) T12.agg_26_5 rfl rfl (((B0_508.b 5 rfl).ext0 e').cells (o := 0) rfl)) ?_
          refine m_y (v := .agg #[.int .i64 wd0, .int .i64 hi0, .bool wr0, .slice asp0 nsp0 csp0, .slice als0 nls0 cls0]) 1 rfl (by kernel_rfl) rfl rfl (fun w' e' => y_loadn (b := b1) (o := 0) (vs := [.int .i64 wd0, .int .i64 hi0, .bool wr0, .slice asp0 nsp0 csp0, .slice als0 nls0 cls0]) T12.agg_45_5 rfl rfl (((B0_508.b 10 rfl).ext0 e').cells (o := 0) rfl)) ?_
          refine m_k 2 [3, 4] rfl (by kernel_rfl) rfl rfl (fun w510 e511 => ?_)
          replace R509 := R509.trans (Ext0.any e511)
          replace B := B.ext0 e511
          clear e511
          refine k_call T12.fn_34 (c_l_toSheet (B.r 11 rfl) (B.r 12 rfl) (by omega) (by omega)) rfl ?_
          rintro _ w512 ⟨a513, c514, a515, c516, rfl, hN517⟩
          replace R509 := R509.trans (Ext0.any hN517.ext)
          replace B := B.new2 hN517
          clear hN517
          refine ⟨fun _ => R509, ?_⟩
          refine m_k 3 [4] rfl (by kernel_rfl) rfl rfl (fun w518 e519 => ?_)
          replace R509 := R509.trans (Ext0.any e519)
          replace B := B.ext0 e519
          clear e519
          refine k_call T12.fn_38 (c_l_eqSheet ((B.o 8 rfl).rd) ((B.o 9 rfl).rd) ((B.o 0 rfl).rd) ((B.o 1 rfl).rd) (by omega) (by omega)) rfl ?_
          rintro _ w520 ⟨rfl, e521⟩
          replace R509 := R509.trans (Ext0.any e521)
          replace B := B.ext0 e521
          clear e521
          refine ⟨fun _ => R509, ?_⟩
          refine m_y (v := .bool false) 4 rfl (by kernel_rfl) rfl rfl (fun w' e' => y_not rfl rfl) ?_
          refine m_done (by kernel_rfl) (fun w522 e523 => ?_)
          replace B := B.ext0 e523
          clear e523
          clear B0_508 R509
          refine W_if_f (by decide) rfl ?_
          refine W_skip ?_
          refine W_seq ?_
          refine W_seq ?_
          have B0_528 := B
          refine W_draw (no) T12.mx (by kernel_rfl) (fun w526 e527 => ?_)
          have R529 := Ext.refl (no) w522
          replace R529 := R529.trans (Ext0.any e527)
          replace B := B.ext0 e527
          clear e527
          refine m_y (v := .agg #[.slice a481 nfe1 c482, .slice a483 nfx1 c484, .slice a485 nfy1 c486]) 0 rfl (by kernel_rfl) rfl rfl (fun w' e' => y_loadn (b := b488) (o := 0) (vs := [.slice a481 nfe1 c482, .slice a483 nfx1 c484, .slice a485 nfy1 c486]) T12.agg_29_3 rfl rfl (((B0_528.b 3 rfl).ext0 e').cells (o := 0) rfl)) ?_
          refine m_y (v := .agg #[.slice afe1 nfe1 cfe1, .slice afx1 nfx1 cfx1, .slice afy1 nfy1 cfy1]) 1 rfl (by kernel_rfl) rfl rfl (fun w' e' => y_loadn (b := b4) (o := 0) (vs := [.slice afe1 nfe1 cfe1, .slice afx1 nfx1 cfx1, .slice afy1 nfy1 cfy1]) T12.agg_46_3 rfl rfl (((B0_528.b 11 rfl).ext0 e').cells (o := 0) rfl)) ?_
          refine m_k 2 [3, 4] rfl (by kernel_rfl) rfl rfl (fun w530 e531 => ?_)
          replace R529 := R529.trans (Ext0.any e531)
          replace B := B.ext0 e531
          clear e531
          refine k_call T12.fn_35 (c_l_toField (B.r 15 rfl) (B.r 16 rfl) (B.r 17 rfl) (by omega) (by omega) (by omega)) rfl ?_
          rintro _ w532 ⟨a533, c534, a535, c536, a537, c538, rfl, hN539⟩
          replace R529 := R529.trans (Ext0.any hN539.ext)
          replace B := B.new3 hN539
          clear hN539
          refine ⟨fun _ => R529, ?_⟩
          refine m_k 3 [4] rfl (by kernel_rfl) rfl rfl (fun w540 e541 => ?_)
          replace R529 := R529.trans (Ext0.any e541)
          replace B := B.ext0 e541
          clear e541
          refine k_call T12.fn_39 (c_l_eqField ((B.o 7 rfl).rd) ((B.o 8 rfl).rd) ((B.o 9 rfl).rd) ((B.o 0 rfl).rd) ((B.o 1 rfl).rd) ((B.o 2 rfl).rd) (by omega) (by omega) (by omega)) rfl ?_
          rintro _ w542 ⟨rfl, e543⟩
          replace R529 := R529.trans (Ext0.any e543)
          replace B := B.ext0 e543
          clear e543
          refine ⟨fun _ => R529, ?_⟩
          refine m_y (v := .bool false) 4 rfl (by kernel_rfl) rfl rfl (fun w' e' => y_not rfl rfl) ?_
          refine m_done (by kernel_rfl) (fun w544 e545 => ?_)
          replace B := B.ext0 e545
          clear e545
          clear B0_528 R529
          refine W_if_f (by decide) rfl ?_
          refine W_skip ?_
          refine W_seq ?_
          refine W_region (by kernel_rfl) ?_
          refine s_y (v := .int .i64 1) rfl (y_assign rfl) ?_
          refine s_nil ?_
          refine W_seq ?_
          refine W_region (by kernel_rfl) ?_
          refine s_y (v := .agg #[.int .i64 wd0, .int .i64 hi0, .bool wr0, .slice a470 nsp0 c471, .slice a472 nls0 c473]) rfl (y_loadn (b := b475) (o := 0) (vs := [.int .i64 wd0, .int .i64 hi0, .bool wr0, .slice a470 nsp0 c471, .slice a472 nls0 c473]) T12.agg_26_5 rfl rfl ((B.b 10 rfl).cells (o := 0) rfl)) ?_
          refine s_y (v := .int .i64 1) rfl (y_move rfl) ?_
          refine s_k rfl (k_call T12.fn_40 (c_l_markSheet (by omega) (by omega) (by omega) (by omega) (B.all.pick [11, 12] rfl) (B.pw.pick [11, 12] rfl rfl)) rfl ?_)
          rintro _ w546 ⟨rfl, hU547⟩
          replace B : Bu w no w546 [.ow kF a470 nsp0 c471 35 (marks 1 nsp0), .ow kF a472 nls0 c473 35 (marks (1 + ((nsp0 : Nat) : Int)) nls0), .ow kF a533 nfe1 c534 35 Xfe1, .ow kF a535 nfx1 c536 35 Xfx1, .ow kF a537 nfy1 c538 35 Xfy1, .ow kF a513 nsp0 c514 35 Xsp0, .ow kF a515 nls0 c516 35 Xls0, .blk b497 [.slice none 0 0, .slice none 0 0, .slice none 0 0] 29, .blk b488 [.slice a481 nfe1 c482, .slice a483 nfx1 c484, .slice a485 nfy1 c486] 29, .ow kF a481 nfe1 c482 35 Xfe1, .ow kF a483 nfx1 c484 35 Xfx1, .ow kF a485 nfy1 c486 35 Xfy1, .blk b475 [.int .i64 wd0, .int .i64 hi0, .bool wr0, .slice a470 nsp0 c471, .slice a472 nls0 c473] 26, .blk b75 [.slice none 0 0, .slice none 0 0, .slice none 0 0] 29, .blk b4 [.slice afe1 nfe1 cfe1, .slice afx1 nfx1 cfx1, .slice afy1 nfy1 cfy1] 46, .blk b1 [.int .i64 wd0, .int .i64 hi0, .bool wr0, .slice asp0 nsp0 csp0, .slice als0 nls0 cls0] 45, .rd kF asp0 nsp0 Xsp0, .rd kF als0 nls0 Xls0, .rd kF afe1 nfe1 Xfe1, .rd kF afx1 nfx1 Xfx1, .rd kF afy1 nfy1 Xfy1] := B.upd [11, 12] rfl hU547
          clear hU547
          refine s_y (v := .int .i64 (1 + ((nsp0 : Nat) : Int) + ((nls0 : Nat) : Int))) rfl (y_assign rfl) ?_
          refine s_nil ?_
          refine W_seq ?_
          refine W_region (by kernel_rfl) ?_
          refine s_y (v := .agg #[.slice a481 nfe1 c482, .slice a483 nfx1 c484, .slice a485 nfy1 c486]) rfl (y_loadn (b := b488) (o := 0) (vs := [.slice a481 nfe1 c482, .slice a483 nfx1 c484, .slice a485 nfy1 c486]) T12.agg_29_3 rfl rfl ((B.b 8 rfl).cells (o := 0) rfl)) ?_
          refine s_y (v := .int .i64 (1 + ((nsp0 : Nat) : Int) + ((nls0 : Nat) : Int))) rfl (y_move rfl) ?_
          refine s_k rfl (k_call T12.fn_41 (c_l_markField (by omega) (by omega) (by omega) (by omega) (by omega) (B.all.pick [9, 10, 11] rfl) (B.pw.pick [9, 10, 11] rfl rfl)) rfl ?_)
          rintro _ w548 ⟨rfl, hU549⟩
          replace B : Bu w no w548 [.ow kF a481 nfe1 c482 35 (marks (1 + ((nsp0 : Nat) : Int) + ((nls0 : Nat) : Int)) nfe1), .ow kF a483 nfx1 c484 35 (marks ((1 + ((nsp0 : Nat) : Int) + ((nls0 : Nat) : Int)) + ((nfe1 : Nat) : Int)) nfx1), .ow kF a485 nfy1 c486 35 (marks ((1 + ((nsp0 : Nat) : Int) + ((nls0 : Nat) : Int)) + ((nfe1 : Nat) : Int) + ((nfx1 : Nat) : Int)) nfy1), .ow kF a470 nsp0 c471 35 (marks 1 nsp0), .ow kF a472 nls0 c473 35 (marks (1 + ((nsp0 : Nat) : Int)) nls0), .ow kF a533 nfe1 c534 35 Xfe1, .ow kF a535 nfx1 c536 35 Xfx1, .ow kF a537 nfy1 c538 35 Xfy1, .ow kF a513 nsp0 c514 35 Xsp0, .ow kF a515 nls0 c516 35 Xls0, .blk b497 [.slice none 0 0, .slice none 0 0, .slice none 0 0] 29, .blk b488 [.slice a481 nfe1 c482, .slice a483 nfx1 c484, .slice a485 nfy1 c486] 29, .blk b475 [.int .i64 wd0, .int .i64 hi0, .bool wr0, .slice a470 nsp0 c471, .slice a472 nls0 c473] 26, .blk b75 [.slice none 0 0, .slice none 0 0, .slice none 0 0] 29, .blk b4 [.slice afe1 nfe1 cfe1, .slice afx1 nfx1 cfx1, .slice afy1 nfy1 cfy1] 46, .blk b1 [.int .i64 wd0, .int .i64 hi0, .bool wr0, .slice asp0 nsp0 csp0, .slice als0 nls0 cls0] 45, .rd kF asp0 nsp0 Xsp0, .rd kF als0 nls0 Xls0, .rd kF afe1 nfe1 Xfe1, .rd kF afx1 nfx1 Xfx1, .rd kF afy1 nfy1 Xfy1] := B.upd [9, 10, 11] rfl hU549
          clear hU549
          refine s_y (v := .int .i64 ((1 + ((nsp0 : Nat) : Int) + ((nls0 : Nat) : Int)) + ((nfe1 : Nat) : Int) + ((nfx1 : Nat) : Int) + ((nfy1 : Nat) : Int))) rfl (y_assign rfl) ?_
          refine s_nil ?_
          refine W_seq ?_
          refine W_seq ?_
          refine W_region (by kernel_rfl) ?_
          refine s_y (v := .int .i64 ((1 + ((nsp0 : Nat) : Int) + ((nls0 : Nat) : Int)) + ((nfe1 : Nat) : Int) + ((nfx1 : Nat) : Int) + ((nfy1 : Nat) : Int))) rfl (y_move rfl) ?_
          have hk550 : ¬ (((1 + ((nsp0 : Nat) : Int) + ((nls0 : Nat) : Int)) + ((nfe1 : Nat) : Int) + ((nfx1 : Nat) : Int) + ((nfy1 : Nat) : Int)) < 0) := (by omega)
          refine s_y (v := .bool false) rfl (y_lss rfl rfl (decide_eq_false hk550)) ?_
          refine s_y (v := .bool false) rfl (y_move rfl) ?_
          refine s_y (v := .agg #[.slice none 0 0, .slice none 0 0, .slice none 0 0]) rfl (y_loadn (b := b497) (o := 0) (vs := [.slice none 0 0, .slice none 0 0, .slice none 0 0]) T12.agg_29_3 rfl rfl ((B.b 10 rfl).cells (o := 0) rfl)) ?_
          refine s_y (v := .agg #[.slice none 0 0, .slice none 0 0, .slice none 0 0]) rfl (y_loadn (b := b75) (o := 0) (vs := [.slice none 0 0, .slice none 0 0, .slice none 0 0]) T12.agg_29_3 rfl rfl ((B.b 13 rfl).cells (o := 0) rfl)) ?_
          refine s_k rfl (k_call T12.fn_39 (c_l_eqField (Rd.nil _ kF none) (Rd.nil _ kF none) (Rd.nil _ kF none) (Rd.nil _ kF none) (Rd.nil _ kF none) (Rd.nil _ kF none) (by omega) (by omega) (by omega)) rfl ?_)
          rintro _ w551 ⟨rfl, e552⟩
          replace B := B.ext0 e552
          clear e552
          refine s_y (v := .bool false) rfl (y_not rfl rfl) ?_
          refine s_y (v := .bool false) rfl (y_pick_f rfl rfl) ?_
          refine s_y (v := .bool false) rfl (y_move rfl) ?_
          refine s_y (v := .bool false) rfl (y_move rfl) ?_
          refine s_y (v := .bool false) rfl (y_move rfl) ?_
          refine s_y (v := .bool false) rfl (y_bneq T12.bool_4 rfl rfl rfl) ?_
          refine s_y (v := .bool false) rfl (y_pick_f rfl rfl) ?_
          refine s_nil ?_
          refine W_if_f (by decide) rfl ?_
          refine W_skip ?_
          refine W_seq ?_
          refine W_region (by kernel_rfl) ?_
          refine s_y (v := .int .i64 1) rfl (y_assign rfl) ?_
          refine s_nil ?_
          refine W_seq ?_
          refine W_region (by kernel_rfl) ?_
          refine s_y (v := .agg #[.slice none 0 0, .slice none 0 0, .slice none 0 0]) rfl (y_loadn (b := b497) (o := 0) (vs := [.slice none 0 0, .slice none 0 0, .slice none 0 0]) T12.agg_29_3 rfl rfl ((B.b 10 rfl).cells (o := 0) rfl)) ?_
          refine s_y (v := .int .i64 1) rfl (y_move rfl) ?_
          refine s_k rfl (k_call T12.fn_41 (c_l_markField (by decide) (by decide) (by decide) (by omega) (by omega) (All.cons (Ow.nil _ kF 35 : Fact.holds _ (.ow kF none 0 0 35 [])) <| All.cons (Ow.nil _ kF 35 : Fact.holds _ (.ow kF none 0 0 35 [])) <| All.cons (Ow.nil _ kF 35 : Fact.holds _ (.ow kF none 0 0 35 [])) <| All.nil) (Pw.nils (by intro f hf; simp only [List.mem_cons, List.not_mem_nil, or_false] at hf; rcases hf with rfl | rfl | rfl <;> exact no_none))) rfl ?_)
          rintro _ w553 ⟨rfl, hU554⟩
          replace hU554 := Upd.nils hU554 (by intro f hf; simp only [List.mem_cons, List.not_mem_nil, or_false] at hf; rcases hf with rfl | rfl | rfl <;> exact no_none)
          replace B := B.ext0 hU554
          clear hU554
          refine s_y (v := .int .i64 (1 + ((0 : Nat) : Int) + ((0 : Nat) : Int) + ((0 : Nat) : Int))) rfl (y_assign rfl) ?_
          refine s_nil ?_
          refine W_seq ?_
          refine W_region (by kernel_rfl) ?_
          refine s_y (v := .int .i64 1) rfl (y_assign rfl) ?_
          refine s_nil ?_
          refine W_seq ?_
          refine W_region (by kernel_rfl) ?_
          refine s_y (v := .agg #[.slice none 0 0, .slice none 0 0, .slice none 0 0]) rfl (y_loadn (b := b497) (o := 0) (vs := [.slice none 0 0, .slice none 0 0, .slice none 0 0]) T12.agg_29_3 rfl rfl ((B.b 10 rfl).cells (o := 0) rfl)) ?_
          refine s_y (v := .int .i64 1) rfl (y_move rfl) ?_
          refine s_k rfl (k_call T12.fn_46 (c_l_heldField (k := 1) (Rd.nil _ kF none : Rd _ kF none 0 (marks 1 0)) (Rd.nil _ kF none : Rd _ kF none 0 (marks (1 + ((0 : Nat) : Int)) 0)) (Rd.nil _ kF none : Rd _ kF none 0 (marks (1 + ((0 : Nat) : Int) + ((0 : Nat) : Int)) 0)) (by decide) (by decide) (by decide) (by omega) (by omega)) rfl ?_)
          rintro _ w555 ⟨rfl, e556⟩
          replace B := B.ext0 e556
          clear e556
          refine s_y (v := .int .i64 (1 + ((0 : Nat) : Int) + ((0 : Nat) : Int) + ((0 : Nat) : Int))) rfl (y_assign rfl) ?_
          refine s_nil ?_
          refine W_seq ?_
          refine W_seq ?_
          refine W_region (by kernel_rfl) ?_
          refine s_y (v := .int .i64 (1 + ((0 : Nat) : Int) + ((0 : Nat) : Int) + ((0 : Nat) : Int))) rfl (y_move rfl) ?_
          have hk557 : ¬ ((1 + ((0 : Nat) : Int) + ((0 : Nat) : Int) + ((0 : Nat) : Int)) < 0) := (by omega)
          refine s_y (v := .bool false) rfl (y_lss rfl rfl (decide_eq_false hk557)) ?_
          refine s_nil ?_
          refine W_if_f (by decide) rfl ?_
          refine W_skip ?_
          refine W_seq ?_
          refine W_seq ?_
          refine W_region (by kernel_rfl) ?_
          refine s_y (v := .int .i64 (1 + ((0 : Nat) : Int) + ((0 : Nat) : Int) + ((0 : Nat) : Int))) rfl (y_move rfl) ?_
          refine s_y (v := .int .i64 (1 + ((0 : Nat) : Int) + ((0 : Nat) : Int) + ((0 : Nat) : Int))) rfl (y_move rfl) ?_
          refine s_y (v := .bool false) rfl (y_neq rfl rfl (decide_eq_false (fun hq => hq rfl))) ?_
          refine s_nil ?_
          refine W_if_f (by decide) rfl ?_
          refine W_skip ?_
          refine W_seq ?_
          have B0_560 := B
          refine W_drawI (no) (fun ρ' w' => (∃ (ρ1 : Env) (b592 : Nat), ρ' = updL ρ1 [(6, .bool false), (8, .pointer (some ⟨b75, 0, none⟩)), (9, .bool false), (12, .pointer (some ⟨b497, 0, none⟩)), (15, .int .i64 (1 + ((0 : Nat) : Int) + ((0 : Nat) : Int) + ((0 : Nat) : Int))), (16, .int .i64 (1 + ((0 : Nat) : Int) + ((0 : Nat) : Int) + ((0 : Nat) : Int))), (17, .pointer (some ⟨b592, 0, none⟩)), (18, .bool false)] ∧ Bu w no w' [.blk b592 [.slice none 0 0, .slice none 0 0, .slice none 0 0] 29, .ow kF a481 nfe1 c482 35 (marks (1 + ((nsp0 : Nat) : Int) + ((nls0 : Nat) : Int)) nfe1), .ow kF a483 nfx1 c484 35 (marks ((1 + ((nsp0 : Nat) : Int) + ((nls0 : Nat) : Int)) + ((nfe1 : Nat) : Int)) nfx1), .ow kF a485 nfy1 c486 35 (marks ((1 + ((nsp0 : Nat) : Int) + ((nls0 : Nat) : Int)) + ((nfe1 : Nat) : Int) + ((nfx1 : Nat) : Int)) nfy1), .ow kF a470 nsp0 c471 35 (marks 1 nsp0), .ow kF a472 nls0 c473 35 (marks (1 + ((nsp0 : Nat) : Int)) nls0), .ow kF a533 nfe1 c534 35 Xfe1, .ow kF a535 nfx1 c536 35 Xfx1, .ow kF a537 nfy1 c538 35 Xfy1, .ow kF a513 nsp0 c514 35 Xsp0, .ow kF a515 nls0 c516 35 Xls0, .blk b497 [.slice none 0 0, .slice none 0 0, .slice none 0 0] 29, .blk b488 [.slice a481 nfe1 c482, .slice a483 nfx1 c484, .slice a485 nfy1 c486] 29, .blk b475 [.int .i64 wd0, .int .i64 hi0, .bool wr0, .slice a470 nsp0 c471, .slice a472 nls0 c473] 26, .blk b75 [.slice none 0 0, .slice none 0 0, .slice none 0 0] 29, .blk b4 [.slice afe1 nfe1 cfe1, .slice afx1 nfx1 cfx1, .slice afy1 nfy1 cfy1] 46, .blk b1 [.int .i64 wd0, .int .i64 hi0, .bool wr0, .slice asp0 nsp0 csp0, .slice als0 nls0 cls0] 45, .rd kF asp0 nsp0 Xsp0, .rd kF als0 nls0 Xls0, .rd kF afe1 nfe1 Xfe1, .rd kF afx1 nfx1 Xfx1, .rd kF afy1 nfy1 Xfy1])) T12.mx (by kernel_rfl) (fun w558 e559 => ?_) ?_
          · have R561 := Ext.refl (no) w555
            replace R561 := R561.trans (Ext0.any e559)
            replace B := B.ext0 e559
            clear e559
            refine m_y (v := .agg #[.int .i64 wd0, .int .i64 hi0, .bool wr0, .slice asp0 nsp0 csp0, .slice als0 nls0 cls0]) 0 rfl (by kernel_rfl) rfl rfl (fun w' e' => y_loadn (b := b1) (o := 0) (vs := [.int .i64 wd0, .int .i64 hi0, .bool wr0, .slice asp0 nsp0 csp0, .slice als0 nls0 cls0]) T12.agg_45_5 rfl rfl (((B0_560.b 15 rfl).ext0 e').cells (o := 0) rfl)) ?_
            refine m_y (v := .agg #[.slice afe1 nfe1 cfe1, .slice afx1 nfx1 cfx1, .slice afy1 nfy1 cfy1]) 2 rfl (by kernel_rfl) rfl rfl (fun w' e' => y_loadn (b := b4) (o := 0) (vs := [.slice afe1 nfe1 cfe1, .slice afx1 nfx1 cfx1, .slice afy1 nfy1 cfy1]) T12.agg_46_3 rfl rfl (((B0_560.b 14 rfl).ext0 e').cells (o := 0) rfl)) ?_
            refine m_y (v := .int .i64 i2) 4 rfl (by kernel_rfl) rfl rfl (fun w' e' => y_move rfl) ?_
            refine m_two 1 9 (by kernel_rfl) rfl rfl rfl rfl rfl rfl (fun w562 e563 => ?_) (fun w564 e565 => ?_)
            · replace R561 := R561.trans (Ext0.any e563)
              replace B := B.ext0 e563
              clear e563
              refine k_call T12.fn_34 (c_l_toSheet (B.r 16 rfl) (B.r 17 rfl) (by omega) (by omega)) rfl ?_
              rintro _ w566 ⟨a567, c568, a569, c570, rfl, hN571⟩
              replace R561 := R561.trans (Ext0.any hN571.ext)
              replace B := B.new2 hN571
              clear hN571
              refine ⟨fun _ => R561, ?_⟩
              refine m_two 3 9 (by kernel_rfl) rfl rfl rfl rfl rfl rfl (fun w572 e573 => ?_) (fun w574 e575 => ?_)
              · replace R561 := R561.trans (Ext0.any e573)
                replace B := B.ext0 e573
                clear e573
                refine k_call T12.fn_35 (c_l_toField (B.r 20 rfl) (B.r 21 rfl) (B.r 22 rfl) (by omega) (by omega) (by omega)) rfl ?_
                rintro _ w576 ⟨a577, c578, a579, c580, a581, c582, rfl, hN583⟩
                replace R561 := R561.trans (Ext0.any hN583.ext)
                replace B := B.new3 hN583
                clear hN583
                refine ⟨fun _ => R561, ?_⟩
                refine m_two 5 9 (by kernel_rfl) rfl rfl rfl rfl rfl rfl (fun w584 e585 => ?_) (fun w586 e587 => ?_)
                · replace R561 := R561.trans (Ext0.any e585)
                  replace B := B.ext0 e585
                  clear e585
                  refine k_call T12.fn_19 (c_i_RunField ((B.o 3 rfl).rd) ((B.o 4 rfl).rd) ((B.o 0 rfl).rd) ((B.o 1 rfl).rd) ((B.o 2 rfl).rd) (by omega) (by omega) (by omega) (by omega) (by omega)) rfl ?_
                  rintro v590 w588 hx589
                  obtain ⟨_, rfl, e591⟩ := hx589.resolve_left (fun hz => c215 hz.1)
                  clear hx589
                  replace R561 := R561.trans (Ext0.any e591)
                  replace B := B.ext0 e591
                  clear e591
                  refine ⟨fun _ => R561, ?_⟩
                  refine m_y (v := .tuple #[.agg #[.slice none 0 0, .slice none 0 0, .slice none 0 0], .bool false]) 6 rfl (by kernel_rfl) rfl rfl (fun w' e' => y_move rfl) ?_
                  refine m_y (v := .agg #[.slice none 0 0, .slice none 0 0, .slice none 0 0]) 7 rfl (by kernel_rfl) rfl rfl (fun w' e' => y_extract rfl rfl) ?_
                  refine m_y (v := .bool false) 8 rfl (by kernel_rfl) rfl rfl (fun w' e' => y_extract rfl rfl) ?_
                  refine m_k 9 [10, 11] rfl (by kernel_rfl) rfl rfl (fun w595 e596 => ?_)
                  replace R561 := R561.trans (Ext0.any e596)
                  replace B := B.ext0 e596
                  clear e596
                  refine k_allocN (z := (.agg #[.slice none 0 0, .slice none 0 0, .slice none 0 0])) (cs := [.slice none 0 0, .slice none 0 0, .slice none 0 0]) T12.zero_29 rfl (fun b592 w593 hN594 => ?_)
                  have nf597 : NotLt b592 _ := fun h => Nat.not_lt.2 (Nat.le_trans (Ext.size R561) hN594.ge) h
                  replace R561 := R561.trans (Ext0.any hN594.ext)
                  replace B := B.new1 hN594
                  clear hN594
                  refine ⟨fun _ => R561, ?_⟩
                  refine m_k 10 [11] rfl (by kernel_rfl) rfl rfl (fun w601 e602 => ?_)
                  replace R561 := R561.trans (Ext0.any e602)
                  replace B := B.ext0 e602
                  clear e602
                  refine k_stB (v := .agg #[.slice none 0 0, .slice none 0 0, .slice none 0 0]) (n := 3) (cs' := [.slice none 0 0, .slice none 0 0, .slice none 0 0]) T12.sz_29_3 rfl rfl rfl (B.b 0 rfl) (by simp [Value.cells, Value.oneCell']) (Nat.le_of_ble_eq_true rfl) rfl (fun w599 hU600 => ?_)
                  replace R561 := R561.fresh hU600.at1 (fun kx hs hl => (nf597 ((show kx = b592 from hs) ▸ hl)).elim)
                  replace B : Bu w no w599 [.blk b592 [.slice none 0 0, .slice none 0 0, .slice none 0 0] 29, .ow kF a577 nfe1 c578 35 Xfe1, .ow kF a579 nfx1 c580 35 Xfx1, .ow kF a581 nfy1 c582 35 Xfy1, .ow kF a567 nsp0 c568 35 Xsp0, .ow kF a569 nls0 c570 35 Xls0, .ow kF a481 nfe1 c482 35 (marks (1 + ((nsp0 : Nat) : Int) + ((nls0 : Nat) : Int)) nfe1), .ow kF a483 nfx1 c484 35 (marks ((1 + ((nsp0 : Nat) : Int) + ((nls0 : Nat) : Int)) + ((nfe1 : Nat) : Int)) nfx1), .ow kF a485 nfy1 c486 35 (marks ((1 + ((nsp0 : Nat) : Int) + ((nls0 : Nat) : Int)) + ((nfe1 : Nat) : Int) + ((nfx1 : Nat) : Int)) nfy1), .ow kF a470 nsp0 c471 35 (marks 1 nsp0), .ow kF a472 nls0 c473 35 (marks (1 + ((nsp0 : Nat) : Int)) nls0), .ow kF a533 nfe1 c534 35 Xfe1, .ow kF a535 nfx1 c536 35 Xfx1, .ow kF a537 nfy1 c538 35 Xfy1, .ow kF a513 nsp0 c514 35 Xsp0, .ow kF a515 nls0 c516 35 Xls0, .blk b497 [.slice none 0 0, .slice none 0 0, .slice none 0 0] 29, .blk b488 [.slice a481 nfe1 c482, .slice a483 nfx1 c484, .slice a485 nfy1 c486] 29, .blk b475 [.int .i64 wd0, .int .i64 hi0, .bool wr0, .slice a470 nsp0 c471, .slice a472 nls0 c473] 26, .blk b75 [.slice none 0 0, .slice none 0 0, .slice none 0 0] 29, .blk b4 [.slice afe1 nfe1 cfe1, .slice afx1 nfx1 cfx1, .slice afy1 nfy1 cfy1] 46, .blk b1 [.int .i64 wd0, .int .i64 hi0, .bool wr0, .slice asp0 nsp0 csp0, .slice als0 nls0 cls0] 45, .rd kF asp0 nsp0 Xsp0, .rd kF als0 nls0 Xls0, .rd kF afe1 nfe1 Xfe1, .rd kF afx1 nfx1 Xfx1, .rd kF afy1 nfy1 Xfy1] := B.upd [0] rfl hU600
                  clear hU600
                  refine ⟨fun _ => R561, ?_⟩
                  refine m_y (v := .bool false) 11 rfl (by kernel_rfl) rfl rfl (fun w' e' => y_assign rfl) ?_
                  refine m_done (by kernel_rfl) (fun w603 e604 => ?_)
                  replace B := B.ext0 e604
                  clear e604
                  clear B0_560 R561
                  exact ⟨_, b592, Fits.eq ⟨rfl, rfl, rfl, rfl, rfl, rfl, rfl, rfl, trivial⟩, B.pick [0, 6, 7, 8, 9, 10, 11, 12, 13, 14, 15, 16, 17, 18, 19, 20, 21, 22, 23, 24, 25, 26] rfl rfl⟩
                · replace R561 := R561.trans (Ext0.any e587)
                  replace B := B.ext0 e587
                  clear e587
                  refine k_allocN (z := (.agg #[.slice none 0 0, .slice none 0 0, .slice none 0 0])) (cs := [.slice none 0 0, .slice none 0 0, .slice none 0 0]) T12.zero_29 rfl (fun b605 w606 hN607 => ?_)
                  have nf608 : NotLt b605 _ := fun h => Nat.not_lt.2 (Nat.le_trans (Ext.size R561) hN607.ge) h
                  replace R561 := R561.trans (Ext0.any hN607.ext)
                  replace B := B.new1 hN607
                  clear hN607
                  refine ⟨fun _ => R561, ?_⟩
                  refine m_k 5 [6, 7, 8, 10, 11] rfl (by kernel_rfl) rfl rfl (fun w610 e611 => ?_)
                  replace R561 := R561.trans (Ext0.any e611)
                  replace B := B.ext0 e611
                  clear e611
                  refine k_call T12.fn_19 (c_i_RunField ((B.o 4 rfl).rd) ((B.o 5 rfl).rd) ((B.o 1 rfl).rd) ((B.o 2 rfl).rd) ((B.o 3 rfl).rd) (by omega) (by omega) (by omega) (by omega) (by omega)) rfl ?_
                  rintro v614 w612 hx613
                  obtain ⟨_, rfl, e615⟩ := hx613.resolve_left (fun hz => c215 hz.1)
                  clear hx613
                  replace R561 := R561.trans (Ext0.any e615)
                  replace B := B.ext0 e615
                  clear e615
                  refine ⟨fun _ => R561, ?_⟩
                  refine m_y (v := .tuple #[.agg #[.slice none 0 0, .slice none 0 0, .slice none 0 0], .bool false]) 6 rfl (by kernel_rfl) rfl rfl (fun w' e' => y_move rfl) ?_
                  refine m_y (v := .agg #[.slice none 0 0, .slice none 0 0, .slice none 0 0]) 7 rfl (by kernel_rfl) rfl rfl (fun w' e' => y_extract rfl rfl) ?_
                  refine m_y (v := .bool false) 8 rfl (by kernel_rfl) rfl rfl (fun w' e' => y_extract rfl rfl) ?_
                  refine m_k 10 [11] rfl (by kernel_rfl) rfl rfl (fun w618 e619 => ?_)
                  replace R561 := R561.trans (Ext0.any e619)
                  replace B := B.ext0 e619
                  clear e619
                  refine k_stB (v := .agg #[.slice none 0 0, .slice none 0 0, .slice none 0 0]) (n := 3) (cs' := [.slice none 0 0, .slice none 0 0, .slice none 0 0]) T12.sz_29_3 rfl rfl rfl (B.b 0 rfl) (by simp [Value.cells, Value.oneCell']) (Nat.le_of_ble_eq_true rfl) rfl (fun w616 hU617 => ?_)
                  replace R561 := R561.fresh hU617.at1 (fun kx hs hl => (nf608 ((show kx = b605 from hs) ▸ hl)).elim)
                  replace B : Bu w no w616 [.blk b605 [.slice none 0 0, .slice none 0 0, .slice none 0 0] 29, .ow kF a577 nfe1 c578 35 Xfe1, .ow kF a579 nfx1 c580 35 Xfx1, .ow kF a581 nfy1 c582 35 Xfy1, .ow kF a567 nsp0 c568 35 Xsp0, .ow kF a569 nls0 c570 35 Xls0, .ow kF a481 nfe1 c482 35 (marks (1 + ((nsp0 : Nat) : Int) + ((nls0 : Nat) : Int)) nfe1), .ow kF a483 nfx1 c484 35 (marks ((1 + ((nsp0 : Nat) : Int) + ((nls0 : Nat) : Int)) + ((nfe1 : Nat) : Int)) nfx1), .ow kF a485 nfy1 c486 35 (marks ((1 + ((nsp0 : Nat) : Int) + ((nls0 : Nat) : Int)) + ((nfe1 : Nat) : Int) + ((nfx1 : Nat) : Int)) nfy1), .ow kF a470 nsp0 c471 35 (marks 1 nsp0), .ow kF a472 nls0 c473 35 (marks (1 + ((nsp0 : Nat) : Int)) nls0), .ow kF a533 nfe1 c534 35 Xfe1, .ow kF a535 nfx1 c536 35 Xfx1, .ow kF a537 nfy1 c538 35 Xfy1, .ow kF a513 nsp0 c514 35 Xsp0, .ow kF a515 nls0 c516 35 Xls0, .blk b497 [.slice none 0 0, .slice none 0 0, .slice none 0 0] 29, .blk b488 [.slice a481 nfe1 c482, .slice a483 nfx1 c484, .slice a485 nfy1 c486] 29, .blk b475 [.int .i64 wd0, .int .i64 hi0, .bool wr0, .slice a470 nsp0 c471, .slice a472 nls0 c473] 26, .blk b75 [.slice none 0 0, .slice none 0 0, .slice none 0 0] 29, .blk b4 [.slice afe1 nfe1 cfe1, .slice afx1 nfx1 cfx1, .slice afy1 nfy1 cfy1] 46, .blk b1 [.int .i64 wd0, .int .i64 hi0, .bool wr0, .slice asp0 nsp0 csp0, .slice als0 nls0 cls0] 45, .rd kF asp0 nsp0 Xsp0, .rd kF als0 nls0 Xls0, .rd kF afe1 nfe1 Xfe1, .rd kF afx1 nfx1 Xfx1, .rd kF afy1 nfy1 Xfy1] := B.upd [0] rfl hU617
                  clear hU617
                  refine ⟨fun _ => R561, ?_⟩
                  refine m_y (v := .bool false) 11 rfl (by kernel_rfl) rfl rfl (fun w' e' => y_assign rfl) ?_
                  refine m_done (by kernel_rfl) (fun w620 e621 => ?_)
                  replace B := B.ext0 e621
                  clear e621
                  clear B0_560 R561
                  exact ⟨_, b605, Fits.eq ⟨rfl, rfl, rfl, rfl, rfl, rfl, rfl, rfl, trivial⟩, B.pick [0, 6, 7, 8, 9, 10, 11, 12, 13, 14, 15, 16, 17, 18, 19, 20, 21, 22, 23, 24, 25, 26] rfl rfl⟩
              · replace R561 := R561.trans (Ext0.any e575)
                replace B := B.ext0 e575
                clear e575
                refine k_allocN (z := (.agg #[.slice none 0 0, .slice none 0 0, .slice none 0 0])) (cs := [.slice none 0 0, .slice none 0 0, .slice none 0 0]) T12.zero_29 rfl (fun b622 w623 hN624 => ?_)
                have nf625 : NotLt b622 _ := fun h => Nat.not_lt.2 (Nat.le_trans (Ext.size R561) hN624.ge) h
                replace R561 := R561.trans (Ext0.any hN624.ext)
                replace B := B.new1 hN624
                clear hN624
                refine ⟨fun _ => R561, ?_⟩
                refine m_k 3 [5, 6, 7, 8, 10, 11] rfl (by kernel_rfl) rfl rfl (fun w627 e628 => ?_)
                replace R561 := R561.trans (Ext0.any e628)
                replace B := B.ext0 e628
                clear e628
                refine k_call T12.fn_35 (c_l_toField (B.r 21 rfl) (B.r 22 rfl) (B.r 23 rfl) (by omega) (by omega) (by omega)) rfl ?_
                rintro _ w629 ⟨a630, c631, a632, c633, a634, c635, rfl, hN636⟩
                replace R561 := R561.trans (Ext0.any hN636.ext)
                replace B := B.new3 hN636
                clear hN636
                refine ⟨fun _ => R561, ?_⟩
                refine m_k 5 [6, 7, 8, 10, 11] rfl (by kernel_rfl) rfl rfl (fun w637 e638 => ?_)
                replace R561 := R561.trans (Ext0.any e638)
                replace B := B.ext0 e638
                clear e638
                refine k_call T12.fn_19 (c_i_RunField ((B.o 4 rfl).rd) ((B.o 5 rfl).rd) ((B.o 0 rfl).rd) ((B.o 1 rfl).rd) ((B.o 2 rfl).rd) (by omega) (by omega) (by omega) (by omega) (by omega)) rfl ?_
                rintro v641 w639 hx640
                obtain ⟨_, rfl, e642⟩ := hx640.resolve_left (fun hz => c215 hz.1)
                clear hx640
                replace R561 := R561.trans (Ext0.any e642)
                replace B := B.ext0 e642
                clear e642
                refine ⟨fun _ => R561, ?_⟩
                refine m_y (v := .tuple #[.agg #[.slice none 0 0, .slice none 0 0, .slice none 0 0], .bool false]) 6 rfl (by kernel_rfl) rfl rfl (fun w' e' => y_move rfl) ?_
                refine m_y (v := .agg #[.slice none 0 0, .slice none 0 0, .slice none 0 0]) 7 rfl (by kernel_rfl) rfl rfl (fun w' e' => y_extract rfl rfl) ?_
                refine m_y (v := .bool false) 8 rfl (by kernel_rfl) rfl rfl (fun w' e' => y_extract rfl rfl) ?_
                refine m_k 10 [11] rfl (by kernel_rfl) rfl rfl (fun w645 e646 => ?_)
                replace R561 := R561.trans (Ext0.any e646)
                replace B := B.ext0 e646
                clear e646
                refine k_stB (v := .agg #[.slice none 0 0, .slice none 0 0, .slice none 0 0]) (n := 3) (cs' := [.slice none 0 0, .slice none 0 0, .slice none 0 0]) T12.sz_29_3 rfl rfl rfl (B.b 3 rfl) (by simp [Value.cells, Value.oneCell']) (Nat.le_of_ble_eq_true rfl) rfl (fun w643 hU644 => ?_)
                replace R561 := R561.fresh hU644.at1 (fun kx hs hl => (nf625 ((show kx = b622 from hs) ▸ hl)).elim)
                replace B : Bu w no w643 [.blk b622 [.slice none 0 0, .slice none 0 0, .slice none 0 0] 29, .ow kF a630 nfe1 c631 35 Xfe1, .ow kF a632 nfx1 c633 35 Xfx1, .ow kF a634 nfy1 c635 35 Xfy1, .ow kF a567 nsp0 c568 35 Xsp0, .ow kF a569 nls0 c570 35 Xls0, .ow kF a481 nfe1 c482 35 (marks (1 + ((nsp0 : Nat) : Int) + ((nls0 : Nat) : Int)) nfe1), .ow kF a483 nfx1 c484 35 (marks ((1 + ((nsp0 : Nat) : Int) + ((nls0 : Nat) : Int)) + ((nfe1 : Nat) : Int)) nfx1), .ow kF a485 nfy1 c486 35 (marks ((1 + ((nsp0 : Nat) : Int) + ((nls0 : Nat) : Int)) + ((nfe1 : Nat) : Int) + ((nfx1 : Nat) : Int)) nfy1), .ow kF a470 nsp0 c471 35 (marks 1 nsp0), .ow kF a472 nls0 c473 35 (marks (1 + ((nsp0 : Nat) : Int)) nls0), .ow kF a533 nfe1 c534 35 Xfe1, .ow kF a535 nfx1 c536 35 Xfx1, .ow kF a537 nfy1 c538 35 Xfy1, .ow kF a513 nsp0 c514 35 Xsp0, .ow kF a515 nls0 c516 35 Xls0, .blk b497 [.slice none 0 0, .slice none 0 0, .slice none 0 0] 29, .blk b488 [.slice a481 nfe1 c482, .slice a483 nfx1 c484, .slice a485 nfy1 c486] 29, .blk b475 [.int .i64 wd0, .int .i64 hi0, .bool wr0, .slice a470 nsp0 c471, .slice a472 nls0 c473] 26, .blk b75 [.slice none 0 0, .slice none 0 0, .slice none 0 0] 29, .blk b4 [.slice afe1 nfe1 cfe1, .slice afx1 nfx1 cfx1, .slice afy1 nfy1 cfy1] 46, .blk b1 [.int .i64 wd0, .int .i64 hi0, .bool wr0, .slice asp0 nsp0 csp0, .slice als0 nls0 cls0] 45, .rd kF asp0 nsp0 Xsp0, .rd kF als0 nls0 Xls0, .rd kF afe1 nfe1 Xfe1, .rd kF afx1 nfx1 Xfx1, .rd kF afy1 nfy1 Xfy1] := B.upd [3] rfl hU644
                clear hU644
                refine ⟨fun _ => R561, ?_⟩
                refine m_y (v := .bool false) 11 rfl (by kernel_rfl) rfl rfl (fun w' e' => y_assign rfl) ?_
                refine m_done (by kernel_rfl) (fun w647 e648 => ?_)
                replace B := B.ext0 e648
                clear e648
                clear B0_560 R561
                exact ⟨_, b622, Fits.eq ⟨rfl, rfl, rfl, rfl, rfl, rfl, rfl, rfl, trivial⟩, B.pick [0, 6, 7, 8, 9, 10, 11, 12, 13, 14, 15, 16, 17, 18, 19, 20, 21, 22, 23, 24, 25, 26] rfl rfl⟩
            · replace R561 := R561.trans (Ext0.any e565)
              replace B := B.ext0 e565
              clear e565
              refine k_allocN (z := (.agg #[.slice none 0 0, .slice none 0 0, .slice none 0 0])) (cs := [.slice none 0 0, .slice none 0 0, .slice none 0 0]) T12.zero_29 rfl (fun b649 w650 hN651 => ?_)
              have nf652 : NotLt b649 _ := fun h => Nat.not_lt.2 (Nat.le_trans (Ext.size R561) hN651.ge) h
              replace R561 := R561.trans (Ext0.any hN651.ext)
              replace B := B.new1 hN651
              clear hN651
              refine ⟨fun _ => R561, ?_⟩
              refine m_k 1 [3, 5, 6, 7, 8, 10, 11] rfl (by kernel_rfl) rfl rfl (fun w654 e655 => ?_)
              replace R561 := R561.trans (Ext0.any e655)
              replace B := B.ext0 e655
              clear e655
              refine k_call T12.fn_34 (c_l_toSheet (B.r 17 rfl) (B.r 18 rfl) (by omega) (by omega)) rfl ?_
              rintro _ w656 ⟨a657, c658, a659, c660, rfl, hN661⟩
              replace R561 := R561.trans (Ext0.any hN661.ext)
              replace B := B.new2 hN661
              clear hN661
              refine ⟨fun _ => R561, ?_⟩
              refine m_k 3 [5, 6, 7, 8, 10, 11] rfl (by kernel_rfl) rfl rfl (fun w662 e663 => ?_)
              replace R561 := R561.trans (Ext0.any e663)
              replace B := B.ext0 e663
              clear e663
              refine k_call T12.fn_35 (c_l_toField (B.r 21 rfl) (B.r 22 rfl) (B.r 23 rfl) (by omega) (by omega) (by omega)) rfl ?_
              rintro _ w664 ⟨a665, c666, a667, c668, a669, c670, rfl, hN671⟩
              replace R561 := R561.trans (Ext0.any hN671.ext)
              replace B := B.new3 hN671
              clear hN671
              refine ⟨fun _ => R561, ?_⟩
              refine m_k 5 [6, 7, 8, 10, 11] rfl (by kernel_rfl) rfl rfl (fun w672 e673 => ?_)
              replace R561 := R561.trans (Ext0.any e673)
              replace B := B.ext0 e673
              clear e673
              refine k_call T12.fn_19 (c_i_RunField ((B.o 3 rfl).rd) ((B.o 4 rfl).rd) ((B.o 0 rfl).rd) ((B.o 1 rfl).rd) ((B.o 2 rfl).rd) (by omega) (by omega) (by omega) (by omega) (by omega)) rfl ?_
              rintro v676 w674 hx675
              obtain ⟨_, rfl, e677⟩ := hx675.resolve_left (fun hz => c215 hz.1)
              clear hx675
              replace R561 := R561.trans (Ext0.any e677)
              replace B := B.ext0 e677
              clear e677
              refine ⟨fun _ => R561, ?_⟩
              refine m_y (v := .tuple #[.agg #[.slice none 0 0, .slice none 0 0, .slice none 0 0], .bool false]) 6 rfl (by kernel_rfl) rfl rfl (fun w' e' => y_move rfl) ?_
              refine m_y (v := .agg #[.slice none 0 0, .slice none 0 0, .slice none 0 0]) 7 rfl (by kernel_rfl) rfl rfl (fun w' e' => y_extract rfl rfl) ?_
              refine m_y (v := .bool false) 8 rfl (by kernel_rfl) rfl rfl (fun w' e' => y_extract rfl rfl) ?_
              refine m_k 10 [11] rfl (by kernel_rfl) rfl rfl (fun w680 e681 => ?_)
              replace R561 := R561.trans (Ext0.any e681)
              replace B := B.ext0 e681
              clear e681
              refine k_stB (v := .agg #[.slice none 0 0, .slice none 0 0, .slice none 0 0]) (n := 3) (cs' := [.slice none 0 0, .slice none 0 0, .slice none 0 0]) T12.sz_29_3 rfl rfl rfl (B.b 5 rfl) (by simp [Value.cells, Value.oneCell']) (Nat.le_of_ble_eq_true rfl) rfl (fun w678 hU679 => ?_)
              replace R561 := R561.fresh hU679.at1 (fun kx hs hl => (nf652 ((show kx = b649 from hs) ▸ hl)).elim)
              replace B : Bu w no w678 [.blk b649 [.slice none 0 0, .slice none 0 0, .slice none 0 0] 29, .ow kF a665 nfe1 c666 35 Xfe1, .ow kF a667 nfx1 c668 35 Xfx1, .ow kF a669 nfy1 c670 35 Xfy1, .ow kF a657 nsp0 c658 35 Xsp0, .ow kF a659 nls0 c660 35 Xls0, .ow kF a481 nfe1 c482 35 (marks (1 + ((nsp0 : Nat) : Int) + ((nls0 : Nat) : Int)) nfe1), .ow kF a483 nfx1 c484 35 (marks ((1 + ((nsp0 : Nat) : Int) + ((nls0 : Nat) : Int)) + ((nfe1 : Nat) : Int)) nfx1), .ow kF a485 nfy1 c486 35 (marks ((1 + ((nsp0 : Nat) : Int) + ((nls0 : Nat) : Int)) + ((nfe1 : Nat) : Int) + ((nfx1 : Nat) : Int)) nfy1), .ow kF a470 nsp0 c471 35 (marks 1 nsp0), .ow kF a472 nls0 c473 35 (marks (1 + ((nsp0 : Nat) : Int)) nls0), .ow kF a533 nfe1 c534 35 Xfe1, .ow kF a535 nfx1 c536 35 Xfx1, .ow kF a537 nfy1 c538 35 Xfy1, .ow kF a513 nsp0 c514 35 Xsp0, .ow kF a515 nls0 c516 35 Xls0, .blk b497 [.slice none 0 0, .slice none 0 0, .slice none 0 0] 29, .blk b488 [.slice a481 nfe1 c482, .slice a483 nfx1 c484, .slice a485 nfy1 c486] 29, .blk b475 [.int .i64 wd0, .int .i64 hi0, .bool wr0, .slice a470 nsp0 c471, .slice a472 nls0 c473] 26, .blk b75 [.slice none 0 0, .slice none 0 0, .slice none 0 0] 29, .blk b4 [.slice afe1 nfe1 cfe1, .slice afx1 nfx1 cfx1, .slice afy1 nfy1 cfy1] 46, .blk b1 [.int .i64 wd0, .int .i64 hi0, .bool wr0, .slice asp0 nsp0 csp0, .slice als0 nls0 cls0] 45, .rd kF asp0 nsp0 Xsp0, .rd kF als0 nls0 Xls0, .rd kF afe1 nfe1 Xfe1, .rd kF afx1 nfx1 Xfx1, .rd kF afy1 nfy1 Xfy1] := B.upd [5] rfl hU679
              clear hU679
              refine ⟨fun _ => R561, ?_⟩
              refine m_y (v := .bool false) 11 rfl (by kernel_rfl) rfl rfl (fun w' e' => y_assign rfl) ?_
              refine m_done (by kernel_rfl) (fun w682 e683 => ?_)
              replace B := B.ext0 e683
              clear e683
              clear B0_560 R561
              exact ⟨_, b649, Fits.eq ⟨rfl, rfl, rfl, rfl, rfl, rfl, rfl, rfl, trivial⟩, B.pick [0, 6, 7, 8, 9, 10, 11, 12, 13, 14, 15, 16, 17, 18, 19, 20, 21, 22, 23, 24, 25, 26] rfl rfl⟩
          · clear B; rintro _ w684 (⟨ρ685, b592, rfl, B⟩)
            refine W_seq ?_
            refine W_seq ?_
            refine W_region (by kernel_rfl) ?_
            refine s_y (v := .agg #[.slice none 0 0, .slice none 0 0, .slice none 0 0]) rfl (y_loadn (b := b592) (o := 0) (vs := [.slice none 0 0, .slice none 0 0, .slice none 0 0]) T12.agg_29_3 rfl rfl ((B.b 0 rfl).cells (o := 0) rfl)) ?_
            refine s_y (v := .agg #[.slice none 0 0, .slice none 0 0, .slice none 0 0]) rfl (y_loadn (b := b75) (o := 0) (vs := [.slice none 0 0, .slice none 0 0, .slice none 0 0]) T12.agg_29_3 rfl rfl ((B.b 14 rfl).cells (o := 0) rfl)) ?_
            refine s_k rfl (k_call T12.fn_39 (c_l_eqField (Rd.nil _ kF none) (Rd.nil _ kF none) (Rd.nil _ kF none) (Rd.nil _ kF none) (Rd.nil _ kF none) (Rd.nil _ kF none) (by omega) (by omega) (by omega)) rfl ?_)
            rintro _ w686 ⟨rfl, e687⟩
            replace B := B.ext0 e687
            clear e687
            refine s_y (v := .bool false) rfl (y_not rfl rfl) ?_
            refine s_y (v := .bool false) rfl (y_move rfl) ?_
            refine s_y (v := .bool false) rfl (y_move rfl) ?_
            refine s_y (v := .bool false) rfl (y_move rfl) ?_
            refine s_y (v := .bool false) rfl (y_bneq T12.bool_4 rfl rfl rfl) ?_
            refine s_y (v := .bool false) rfl (y_pick_f rfl rfl) ?_
            refine s_nil ?_
            refine W_if_f (by decide) rfl ?_
            refine W_skip ?_
            refine W_seq ?_
            refine W_region (by kernel_rfl) ?_
            refine s_y (v := .int .i64 1) rfl (y_assign rfl) ?_
            refine s_nil ?_
            refine W_seq ?_
            refine W_region (by kernel_rfl) ?_
            refine s_y (v := .agg #[.slice none 0 0, .slice none 0 0, .slice none 0 0]) rfl (y_loadn (b := b497) (o := 0) (vs := [.slice none 0 0, .slice none 0 0, .slice none 0 0]) T12.agg_29_3 rfl rfl ((B.b 11 rfl).cells (o := 0) rfl)) ?_
            refine s_y (v := .int .i64 1) rfl (y_move rfl) ?_
            refine s_k rfl (k_call T12.fn_46 (c_l_heldField (k := 1) (Rd.nil _ kF none : Rd _ kF none 0 (marks 1 0)) (Rd.nil _ kF none : Rd _ kF none 0 (marks (1 + ((0 : Nat) : Int)) 0)) (Rd.nil _ kF none : Rd _ kF none 0 (marks (1 + ((0 : Nat) : Int) + ((0 : Nat) : Int)) 0)) (by decide) (by decide) (by decide) (by omega) (by omega)) rfl ?_)
            rintro _ w688 ⟨rfl, e689⟩
            replace B := B.ext0 e689
            clear e689
            refine s_y (v := .int .i64 (1 + ((0 : Nat) : Int) + ((0 : Nat) : Int) + ((0 : Nat) : Int))) rfl (y_assign rfl) ?_
            refine s_nil ?_
            refine W_seq ?_
            refine W_seq ?_
            refine W_region (by kernel_rfl) ?_
            refine s_y (v := .int .i64 (1 + ((0 : Nat) : Int) + ((0 : Nat) : Int) + ((0 : Nat) : Int))) rfl (y_move rfl) ?_
            refine s_y (v := .bool false) rfl (y_lss rfl rfl (decide_eq_false hk557)) ?_
            refine s_nil ?_
            refine W_if_f (by decide) rfl ?_
            refine W_skip ?_
            refine W_seq ?_
            refine W_seq ?_
            refine W_region (by kernel_rfl) ?_
            refine s_y (v := .int .i64 (1 + ((0 : Nat) : Int) + ((0 : Nat) : Int) + ((0 : Nat) : Int))) rfl (y_move rfl) ?_
            refine s_y (v := .int .i64 (1 + ((0 : Nat) : Int) + ((0 : Nat) : Int) + ((0 : Nat) : Int))) rfl (y_move rfl) ?_
            refine s_y (v := .bool false) rfl (y_neq rfl rfl (decide_eq_false (fun hq => hq rfl))) ?_
            refine s_nil ?_
            refine W_if_f (by decide) rfl ?_
            refine W_skip ?_
            refine W_seq ?_
            refine W_region (by kernel_rfl) ?_
            refine s_y (v := .bool true) rfl (y_assign rfl) ?_
            refine s_nil ?_
            refine W_ret ?_
            refine ret1 (v := .bool true) rfl rfl rfl ⟨_, rfl, ?_⟩
            exact ⟨rfl, B.ext⟩
    · obtain rfl : v15 = .int .i64 (-1) := hv16.trans (congrArg _ (if_neg c17))
      refine s_y (v := .int .i64 (-1)) rfl (y_assign rfl) ?_
      refine s_nil ?_
      refine W_seq ?_
      refine W_seq ?_
      refine W_region (by kernel_rfl) ?_
      refine s_y (v := .int .i64 (-1)) rfl (y_move rfl) ?_
      have hk690 : (-1 : Int) < 0 := (by decide)
      refine s_y (v := .bool true) rfl (y_lss rfl rfl (decide_eq_true hk690)) ?_
      refine s_nil ?_
      refine W_if_t (by decide) rfl ?_
      refine W_seq ?_
      refine W_region (by kernel_rfl) ?_
      refine s_y (v := .bool true) rfl (y_assign rfl) ?_
      refine s_nil ?_
      refine W_ret ?_
      refine ret1 (v := .bool true) rfl rfl rfl ⟨_, rfl, ?_⟩
      exact ⟨rfl, B.ext⟩
  · obtain rfl : v9 = .int .i64 (-1) := hv10.trans (congrArg _ (if_neg c11))
    refine s_y (v := .int .i64 (-1)) rfl (y_assign rfl) ?_
    refine s_nil ?_
    refine W_seq ?_
    refine W_seq ?_
    refine W_region (by kernel_rfl) ?_
    refine s_y (v := .int .i64 (-1)) rfl (y_move rfl) ?_
    have hk691 : (-1 : Int) < 0 := (by decide)
    refine s_y (v := .bool true) rfl (y_lss rfl rfl (decide_eq_true hk691)) ?_
    refine s_nil ?_
    refine W_if_t (by decide) rfl ?_
    refine W_seq ?_
    refine W_region (by kernel_rfl) ?_
    refine s_y (v := .bool true) rfl (y_assign rfl) ?_
    refine s_nil ?_
    refine W_ret ?_
    refine ret1 (v := .bool true) rfl rfl rfl ⟨_, rfl, ?_⟩
    exact ⟨rfl, B.ext⟩
end Go.Proofs.Ytmcldploldaceaa
