/- Walks: what the functions under FnArrivals do (part 4). Printed by a program of this claim's author. -/
import Derived.Test.YtgohmocjjmkepaaArrivalsW2
set_option linter.unusedSimpArgs false
set_option linter.unusedVariables false
open Go.Wv
namespace Go.Proofs.Ytgohmocjjmkepaa
open Go.Proofs
namespace T32
theorem mx : Try.prog.follows .mixedOrders = true := by kernel_rfl
theorem agg_26_5 : aggB Try.prog 26 5 = true := by kernel_rfl
theorem agg_30_3 : aggB Try.prog 30 3 = true := by kernel_rfl
theorem agg_63_2 : aggB Try.prog 63 2 = true := by kernel_rfl
theorem fld_30_0_0 : fldB Try.prog 30 0 0 = true := by kernel_rfl
theorem fld_63_0_0 : fldB Try.prog 63 0 0 = true := by kernel_rfl
theorem fld_63_1_1 : fldB Try.prog 63 1 1 = true := by kernel_rfl
theorem fn_41 : fnB Try.prog 41 = true := by kernel_rfl
theorem fn_45 : fnB Try.prog 45 = true := by kernel_rfl
theorem fn_46 : fnB Try.prog 46 = true := by kernel_rfl
theorem fn_68 : fnB Try.prog 68 = true := by kernel_rfl
theorem fn_69 : fnB Try.prog 69 = true := by kernel_rfl
theorem fn_82 : fnB Try.prog 82 = true := by kernel_rfl
theorem fn_89 : fnB Try.prog 89 = true := by kernel_rfl
theorem fn_90 : fnB Try.prog 90 = true := by kernel_rfl
theorem one_2 : oneB Try.prog 2 = true := by kernel_rfl
theorem one_24 : oneB Try.prog 24 = true := by kernel_rfl
theorem one_34 : oneB Try.prog 34 = true := by kernel_rfl
theorem sl_24_34_1 : slB Try.prog 24 34 1 = true := by kernel_rfl
theorem sl_59_24_1 : slB Try.prog 59 24 1 = true := by kernel_rfl
theorem sl_64_63_2 : slB Try.prog 64 63 2 = true := by kernel_rfl
theorem slt_24 : SlT Try.prog 24 34 1 4 (.float .f32 0) := ⟨by kernel_rfl, by kernel_rfl, rfl, by decide⟩
theorem slt_59 : SlT Try.prog 59 24 1 24 (.slice none 0 0) := ⟨by kernel_rfl, by kernel_rfl, rfl, by decide⟩
theorem sz_24_1 : szB Try.prog 24 1 = true := by kernel_rfl
theorem sz_30_3 : szB Try.prog 30 3 = true := by kernel_rfl
theorem sz_63_2 : szB Try.prog 63 2 = true := by kernel_rfl
theorem zero_30 : zeroB Try.prog 30 (.agg #[.slice none 0 0, .slice none 0 0, .slice none 0 0]) := by unfold zeroB; kernel_rfl
theorem zero_63 : zeroB Try.prog 63 (.agg #[.int .i64 0, .int .i64 0]) := by unfold zeroB; kernel_rfl
end T32
set_option maxRecDepth 100000 in
set_option maxHeartbeats 4000000 in
theorem c_i_RunSources {wd : Int} {hi : Int} {wr : Bool} {asp : Option Addr} {nsp : Nat} {csp : Nat} {Xsp : List Nat} {als : Option Addr} {nls : Nat} {cls : Nat} {Xls : List Nat} {afe : Option Addr} {nfe : Nat} {cfe : Nat} {Xfe : List Nat} {afx : Option Addr} {nfx : Nat} {cfx : Nat} {Xfx : List Nat} {afy : Option Addr} {nfy : Nat} {cfy : Nat} {Xfy : List Nat} {aq : Option Addr} {nq : Nat} {cq : Nat} {Xq : List Src} {ap : Option Addr} {np : Nat} {cp : Nat} {Xp : List (Int × Int)} {fr : Int} {ct : Int} {w : World} (qsp : Rd w kF asp nsp Xsp) (qls : Rd w kF als nls Xls) (qfe : Rd w kF afe nfe Xfe) (qfx : Rd w kF afx nfx Xfx) (qfy : Rd w kF afy nfy Xfy) (qq : Rd w kS aq nq Xq) (qp : Rd w kP ap np Xp) (hbsp : nsp ≤ 9223372036854775806) (hbls : nls ≤ 9223372036854775806) (hbfe : nfe ≤ 9223372036854775806) (hbfx : nfx ≤ 9223372036854775806) (hbfy : nfy ≤ 9223372036854775806) (hfr : fr ≤ 9000000000000000000) (hwv : ∀ kq, 0 ≤ kq → kq < ct → ∀ i, 0 ≤ i → i < (nq : Int) → wavOK (gl Xq i).kd (gl Xq i).tt (gl Xq i).ln (gl Xq i).tn (fr + kq)) :
    Calls Try.prog 32 #[.agg #[.int .i64 wd, .int .i64 hi, .bool wr, .slice asp nsp csp, .slice als nls cls], .agg #[.slice afe nfe cfe, .slice afx nfx cfx, .slice afy nfy cfy], .slice aq nq cq, .slice ap np cp, .int .i64 fr, .int .i64 ct] w (Rt fun v w' => (rsB wd hi wr Xsp Xls Xfe Xfx Xfy Xq Xp fr ct = true ∧ ∃ (aO : Option Addr) (cO : Nat) (Zr : List (Option Addr × Nat × Nat)) (a1 : Option Addr) (c1 : Nat) (a2 : Option Addr) (c2 : Nat) (a3 : Option Addr) (c3 : Nat), v = .tuple #[.slice aO np cO, .agg #[.slice a1 nfe c1, .slice a2 nfx c2, .slice a3 nfy c3], .bool true] ∧ New w w' [.fam kF 34 allP Zr (rcs wd hi wr Xsp Xls Xq fr (Xfe, Xfx, Xfy) Xp np ct), .ow kL aO np cO 24 Zr, .ow kF a1 nfe c1 34 ((rsT wd hi wr Xsp Xls Xq fr (Xfe, Xfx, Xfy) (Int.toNat ct)).1), .ow kF a2 nfx c2 34 ((rsT wd hi wr Xsp Xls Xq fr (Xfe, Xfx, Xfy) (Int.toNat ct)).2.1), .ow kF a3 nfy c3 34 ((rsT wd hi wr Xsp Xls Xq fr (Xfe, Xfx, Xfy) (Int.toNat ct)).2.2)]) ∨ (rsB wd hi wr Xsp Xls Xfe Xfx Xfy Xq Xp fr ct = false ∧ v = .tuple #[.slice none 0 0, .agg #[.slice none 0 0, .slice none 0 0, .slice none 0 0], .bool false] ∧ Ext0 w w')) := by
  have hlsp := qsp.len
  have hlls := qls.len
  have hlfe := qfe.len
  have hlfx := qfx.len
  have hlfy := qfy.len
  have hlq := qq.len
  have hlp := qp.len
  have B : Bu w no w [.rd kF asp nsp Xsp, .rd kF als nls Xls, .rd kF afe nfe Xfe, .rd kF afx nfx Xfx, .rd kF afy nfy Xfy, .rd kS aq nq Xq, .rd kP ap np Xp] := Bu.ro (All.cons qsp (All.cons qls (All.cons qfe (All.cons qfx (All.cons qfy (All.cons qq (All.cons qp All.nil))))))) rfl
  refine calls_W (n := 91) Try.func32 rfl rfl (Nat.le_of_ble_eq_true rfl) ?_
  refine W_seq ?_
  refine W_region (by kernel_rfl) ?_
  refine s_k rfl (k_boxN (v := .agg #[.int .i64 wd, .int .i64 hi, .bool wr, .slice asp nsp csp, .slice als nls cls]) (cs := [.int .i64 wd, .int .i64 hi, .bool wr, .slice asp nsp csp, .slice als nls cls]) rfl rfl (fun b1 w2 hN3 => ?_))
  replace B := B.new1 hN3
  clear hN3
  refine s_k rfl (k_boxN (v := .agg #[.slice afe nfe cfe, .slice afx nfx cfx, .slice afy nfy cfy]) (cs := [.slice afe nfe cfe, .slice afx nfx cfx, .slice afy nfy cfy]) rfl rfl (fun b4 w5 hN6 => ?_))
  replace B := B.new1 hN6
  clear hN6
  refine s_y (v := .slice none 0 0) rfl (y_assign rfl) ?_
  refine s_k rfl (k_allocN (z := (.agg #[.slice none 0 0, .slice none 0 0, .slice none 0 0])) (cs := [.slice none 0 0, .slice none 0 0, .slice none 0 0]) T32.zero_30 rfl (fun b7 w8 hN9 => ?_))
  replace B := B.new1 hN9
  clear hN9
  refine s_y (v := .bool false) rfl (y_assign rfl) ?_
  refine s_nil ?_
  refine W_seq ?_
  refine W_seq ?_
  refine W_region (by kernel_rfl) ?_
  refine s_y (v := .agg #[.int .i64 wd, .int .i64 hi, .bool wr, .slice asp nsp csp, .slice als nls cls]) rfl (y_loadn (b := b1) (o := 0) (vs := [.int .i64 wd, .int .i64 hi, .bool wr, .slice asp nsp csp, .slice als nls cls]) T32.agg_26_5 rfl rfl ((B.b 2 rfl).cells (o := 0) rfl)) ?_
  refine s_y (v := .agg #[.slice afe nfe cfe, .slice afx nfx cfx, .slice afy nfy cfy]) rfl (y_loadn (b := b4) (o := 0) (vs := [.slice afe nfe cfe, .slice afx nfx cfx, .slice afy nfy cfy]) T32.agg_30_3 rfl rfl ((B.b 1 rfl).cells (o := 0) rfl)) ?_
  refine s_k rfl (k_call T32.fn_41 (c_i_IsField (B.r 3 rfl) (B.r 4 rfl) (B.r 5 rfl) (B.r 6 rfl) (B.r 7 rfl) (by omega) (by omega) (by omega) (by omega) (by omega)) rfl ?_)
  rintro v12 w10 ⟨hv13, e11⟩
  replace B := B.ext0 e11
  clear e11
  by_cases c14 : fieldB wd hi wr Xsp Xls Xfe Xfx Xfy = true
  · have hb15 := fieldB_b c14
    obtain rfl : v12 = .bool true := hv13.trans (congrArg Value.bool c14)
    refine s_y (v := .bool false) rfl (y_not rfl rfl) ?_
    refine s_y (v := .bool false) rfl (y_move rfl) ?_
    refine s_y (v := .agg #[.int .i64 wd, .int .i64 hi, .bool wr, .slice asp nsp csp, .slice als nls cls]) rfl (y_loadn (b := b1) (o := 0) (vs := [.int .i64 wd, .int .i64 hi, .bool wr, .slice asp nsp csp, .slice als nls cls]) T32.agg_26_5 rfl rfl ((B.b 2 rfl).cells (o := 0) rfl)) ?_
    refine s_y (v := .slice aq nq cq) rfl (y_move rfl) ?_
    refine s_k rfl (k_call T32.fn_45 (c_i_AreSources (B.r 3 rfl) (B.r 4 rfl) (B.r 8 rfl) (by omega) (by omega)) rfl ?_)
    rintro v18 w16 ⟨hv19, e17⟩
    replace B := B.ext0 e17
    clear e17
    by_cases c20 : areSrcB wd hi wr Xsp Xls Xq = true
    · have hb21 := areSrcB_b c20
      obtain rfl : v18 = .bool true := hv19.trans (congrArg Value.bool c20)
      refine s_y (v := .bool false) rfl (y_not rfl rfl) ?_
      refine s_y (v := .bool false) rfl (y_pick_f rfl rfl) ?_
      refine s_y (v := .bool false) rfl (y_move rfl) ?_
      refine s_y (v := .agg #[.int .i64 wd, .int .i64 hi, .bool wr, .slice asp nsp csp, .slice als nls cls]) rfl (y_loadn (b := b1) (o := 0) (vs := [.int .i64 wd, .int .i64 hi, .bool wr, .slice asp nsp csp, .slice als nls cls]) T32.agg_26_5 rfl rfl ((B.b 2 rfl).cells (o := 0) rfl)) ?_
      refine s_y (v := .slice ap np cp) rfl (y_move rfl) ?_
      refine s_k rfl (k_call T32.fn_46 (c_i_AreProbes (B.r 3 rfl) (B.r 4 rfl) (B.r 9 rfl) (by omega) (by omega)) rfl ?_)
      rintro v24 w22 ⟨hv25, e23⟩
      replace B := B.ext0 e23
      clear e23
      by_cases c26 : areProbesB wd hi Xsp Xls Xp = true
      · have hb27 := areProbesB_b c26
        obtain rfl : v24 = .bool true := hv25.trans (congrArg Value.bool c26)
        refine s_y (v := .bool false) rfl (y_not rfl rfl) ?_
        refine s_y (v := .bool false) rfl (y_pick_f rfl rfl) ?_
        refine s_y (v := .bool false) rfl (y_move rfl) ?_
        refine s_y (v := .int .i64 fr) rfl (y_move rfl) ?_
        refine s_y (v := .int .i64 ct) rfl (y_move rfl) ?_
        refine s_k rfl (k_call T32.fn_82 (c_i_areTicks (by omega)) rfl ?_)
        rintro v30 w28 ⟨hv31, e29⟩
        replace B := B.ext0 e29
        clear e29
        by_cases c32 : ticksB fr ct = true
        · have hb33 := ticksB_b c32
          obtain rfl : v30 = .bool true := hv31.trans (congrArg Value.bool c32)
          refine s_y (v := .bool false) rfl (y_not rfl rfl) ?_
          refine s_y (v := .bool false) rfl (y_pick_f rfl rfl) ?_
          refine s_nil ?_
          refine W_if_f (by decide) rfl ?_
          refine W_skip ?_
          refine W_seq ?_
          have B0_36 := B
          refine W_drawI (no) (fun ρ' w' => (∃ (ρ1 : Env) (b44 : Nat) (b59 : Nat) (a52 : Option Addr) (c53 : Nat) (a54 : Option Addr) (c55 : Nat) (a56 : Option Addr) (c57 : Nat), ρ' = updL ρ1 [(2, .slice aq nq cq), (3, .slice ap np cp), (4, .int .i64 fr), (5, .int .i64 ct), (6, .pointer (some ⟨b1, 0, none⟩)), (12, .slice none 0 0), (13, .pointer (some ⟨b7, 0, none⟩)), (14, .bool false), (15, .slice (some ⟨b44, 0, none⟩) ((((np : Nat) : Int)).toNat) ((((np : Nat) : Int)).toNat)), (16, .pointer (some ⟨b59, 0, none⟩))] ∧ Bu w no w' [.ow kL (some ⟨b44, 0, none⟩) ((((np : Nat) : Int)).toNat) ((((np : Nat) : Int)).toNat) 24 (List.replicate (((np : Nat) : Int)).toNat ((none, 0, 0) : Option Addr × Nat × Nat)), .blk b59 [.slice a52 nfe c53, .slice a54 nfx c55, .slice a56 nfy c57] 30, .ow kF a52 nfe c53 34 Xfe, .ow kF a54 nfx c55 34 Xfx, .ow kF a56 nfy c57 34 Xfy, .blk b7 [.slice none 0 0, .slice none 0 0, .slice none 0 0] 30, .blk b4 [.slice afe nfe cfe, .slice afx nfx cfx, .slice afy nfy cfy] 30, .blk b1 [.int .i64 wd, .int .i64 hi, .bool wr, .slice asp nsp csp, .slice als nls cls] 26, .rd kF asp nsp Xsp, .rd kF als nls Xls, .rd kF afe nfe Xfe, .rd kF afx nfx Xfx, .rd kF afy nfy Xfy, .rd kS aq nq Xq, .rd kP ap np Xp])) T32.mx (by kernel_rfl) (fun w34 e35 => ?_) ?_
          · have R37 := Ext.refl (no) w28
            replace R37 := R37.trans (Ext0.any e35)
            replace B := B.ext0 e35
            clear e35
            refine m_y (v := .slice ap np cp) 0 rfl (by kernel_rfl) rfl rfl (fun w' e' => y_move rfl) ?_
            refine m_y (v := .int .i64 ((np : Nat) : Int)) 1 rfl (by kernel_rfl) rfl rfl (fun w' e' => y_len T32.sl_64_63_2 rfl rfl) ?_
            refine m_y (v := .agg #[.slice afe nfe cfe, .slice afx nfx cfx, .slice afy nfy cfy]) 3 rfl (by kernel_rfl) rfl rfl (fun w' e' => y_loadn (b := b4) (o := 0) (vs := [.slice afe nfe cfe, .slice afx nfx cfx, .slice afy nfy cfy]) T32.agg_30_3 rfl rfl (((B0_36.b 1 rfl).ext0 e').cells (o := 0) rfl)) ?_
            refine m_three 2 4 5 (by kernel_rfl) rfl rfl rfl rfl rfl rfl rfl rfl rfl (fun w38 e39 => ?_) (fun w40 e41 => ?_) (fun w42 e43 => ?_)
            · replace R37 := R37.trans (Ext0.any e39)
              replace B := B.ext0 e39
              clear e39
              refine k_mkO (k := kL) (z0 := ((none, 0, 0) : Option Addr × Nat × Nat)) T32.slt_59 rfl rfl rfl (by omega) (by omega) (by omega) (fun b44 w45 hN46 => ?_)
              replace R37 := R37.trans (Ext0.any hN46.ext)
              replace B := B.new1 hN46
              clear hN46
              refine ⟨fun _ => R37, ?_⟩
              refine m_two 4 5 (by kernel_rfl) rfl rfl rfl rfl rfl rfl (fun w47 e48 => ?_) (fun w49 e50 => ?_)
              · replace R37 := R37.trans (Ext0.any e48)
                replace B := B.ext0 e48
                clear e48
                refine k_call T32.fn_68 (c_i_copyField (B.r 6 rfl) (B.r 7 rfl) (B.r 8 rfl) (by omega) (by omega) (by omega)) rfl ?_
                rintro _ w51 ⟨a52, c53, a54, c55, a56, c57, rfl, hN58⟩
                replace R37 := R37.trans (Ext0.any hN58.ext)
                replace B := B.new3 hN58
                clear hN58
                refine ⟨fun _ => R37, ?_⟩
                refine m_k 5 [6, 7] rfl (by kernel_rfl) rfl rfl (fun w62 e63 => ?_)
                replace R37 := R37.trans (Ext0.any e63)
                replace B := B.ext0 e63
                clear e63
                refine k_allocN (z := (.agg #[.slice none 0 0, .slice none 0 0, .slice none 0 0])) (cs := [.slice none 0 0, .slice none 0 0, .slice none 0 0]) T32.zero_30 rfl (fun b59 w60 hN61 => ?_)
                have nf64 : NotLt b59 _ := fun h => Nat.not_lt.2 (Nat.le_trans (Ext.size R37) hN61.ge) h
                replace R37 := R37.trans (Ext0.any hN61.ext)
                replace B := B.new1 hN61
                clear hN61
                refine ⟨fun _ => R37, ?_⟩
                refine m_y (v := .slice (some ⟨b44, 0, none⟩) ((((np : Nat) : Int)).toNat) ((((np : Nat) : Int)).toNat)) 6 rfl (by kernel_rfl) rfl rfl (fun w' e' => y_assign rfl) ?_
                refine m_kt 7 [] rfl (by kernel_rfl) rfl rfl (by kernel_rfl) (fun w68 e69 => ?_)
                replace R37 := R37.trans (Ext0.any e69)
                replace B := B.ext0 e69
                clear e69
                refine k_stB (v := .agg #[.slice a52 nfe c53, .slice a54 nfx c55, .slice a56 nfy c57]) (n := 3) (cs' := [.slice a52 nfe c53, .slice a54 nfx c55, .slice a56 nfy c57]) T32.sz_30_3 rfl rfl rfl (B.b 0 rfl) (by simp [Value.cells, Value.oneCell']) (Nat.le_of_ble_eq_true rfl) rfl (fun w66 hU67 => ?_)
                clear R37
                replace B : Bu w no w66 [.blk b59 [.slice a52 nfe c53, .slice a54 nfx c55, .slice a56 nfy c57] 30, .ow kF a52 nfe c53 34 Xfe, .ow kF a54 nfx c55 34 Xfx, .ow kF a56 nfy c57 34 Xfy, .ow kL (some ⟨b44, 0, none⟩) ((((np : Nat) : Int)).toNat) ((((np : Nat) : Int)).toNat) 24 (List.replicate (((np : Nat) : Int)).toNat ((none, 0, 0) : Option Addr × Nat × Nat)), .blk b7 [.slice none 0 0, .slice none 0 0, .slice none 0 0] 30, .blk b4 [.slice afe nfe cfe, .slice afx nfx cfx, .slice afy nfy cfy] 30, .blk b1 [.int .i64 wd, .int .i64 hi, .bool wr, .slice asp nsp csp, .slice als nls cls] 26, .rd kF asp nsp Xsp, .rd kF als nls Xls, .rd kF afe nfe Xfe, .rd kF afx nfx Xfx, .rd kF afy nfy Xfy, .rd kS aq nq Xq, .rd kP ap np Xp] := B.upd [0] rfl hU67
                clear hU67
                refine m_done (by kernel_rfl) (fun w70 e71 => ?_)
                replace B := B.ext0 e71
                clear e71
                clear B0_36
                exact ⟨_, b44, b59, a52, c53, a54, c55, a56, c57, Fits.eq ⟨rfl, rfl, rfl, rfl, rfl, rfl, rfl, rfl, rfl, rfl, trivial⟩, B.pick [4, 0, 1, 2, 3, 5, 6, 7, 8, 9, 10, 11, 12, 13, 14] rfl rfl⟩
              · replace R37 := R37.trans (Ext0.any e50)
                replace B := B.ext0 e50
                clear e50
                refine k_allocN (z := (.agg #[.slice none 0 0, .slice none 0 0, .slice none 0 0])) (cs := [.slice none 0 0, .slice none 0 0, .slice none 0 0]) T32.zero_30 rfl (fun b72 w73 hN74 => ?_)
                have nf75 : NotLt b72 _ := fun h => Nat.not_lt.2 (Nat.le_trans (Ext.size R37) hN74.ge) h
                replace R37 := R37.trans (Ext0.any hN74.ext)
                replace B := B.new1 hN74
                clear hN74
                refine ⟨fun _ => R37, ?_⟩
                refine m_k 4 [6, 7] rfl (by kernel_rfl) rfl rfl (fun w77 e78 => ?_)
                replace R37 := R37.trans (Ext0.any e78)
                replace B := B.ext0 e78
                clear e78
                refine k_call T32.fn_68 (c_i_copyField (B.r 7 rfl) (B.r 8 rfl) (B.r 9 rfl) (by omega) (by omega) (by omega)) rfl ?_
                rintro _ w79 ⟨a80, c81, a82, c83, a84, c85, rfl, hN86⟩
                replace R37 := R37.trans (Ext0.any hN86.ext)
                replace B := B.new3 hN86
                clear hN86
                refine ⟨fun _ => R37, ?_⟩
                refine m_y (v := .slice (some ⟨b44, 0, none⟩) ((((np : Nat) : Int)).toNat) ((((np : Nat) : Int)).toNat)) 6 rfl (by kernel_rfl) rfl rfl (fun w' e' => y_assign rfl) ?_
                refine m_kt 7 [] rfl (by kernel_rfl) rfl rfl (by kernel_rfl) (fun w89 e90 => ?_)
                replace R37 := R37.trans (Ext0.any e90)
                replace B := B.ext0 e90
                clear e90
                refine k_stB (v := .agg #[.slice a80 nfe c81, .slice a82 nfx c83, .slice a84 nfy c85]) (n := 3) (cs' := [.slice a80 nfe c81, .slice a82 nfx c83, .slice a84 nfy c85]) T32.sz_30_3 rfl rfl rfl (B.b 3 rfl) (by simp [Value.cells, Value.oneCell']) (Nat.le_of_ble_eq_true rfl) rfl (fun w87 hU88 => ?_)
                clear R37
                replace B : Bu w no w87 [.blk b72 [.slice a80 nfe c81, .slice a82 nfx c83, .slice a84 nfy c85] 30, .ow kF a80 nfe c81 34 Xfe, .ow kF a82 nfx c83 34 Xfx, .ow kF a84 nfy c85 34 Xfy, .ow kL (some ⟨b44, 0, none⟩) ((((np : Nat) : Int)).toNat) ((((np : Nat) : Int)).toNat) 24 (List.replicate (((np : Nat) : Int)).toNat ((none, 0, 0) : Option Addr × Nat × Nat)), .blk b7 [.slice none 0 0, .slice none 0 0, .slice none 0 0] 30, .blk b4 [.slice afe nfe cfe, .slice afx nfx cfx, .slice afy nfy cfy] 30, .blk b1 [.int .i64 wd, .int .i64 hi, .bool wr, .slice asp nsp csp, .slice als nls cls] 26, .rd kF asp nsp Xsp, .rd kF als nls Xls, .rd kF afe nfe Xfe, .rd kF afx nfx Xfx, .rd kF afy nfy Xfy, .rd kS aq nq Xq, .rd kP ap np Xp] := B.upd [3] rfl hU88
                clear hU88
                refine m_done (by kernel_rfl) (fun w91 e92 => ?_)
                replace B := B.ext0 e92
                clear e92
                clear B0_36
                exact ⟨_, b44, b72, a80, c81, a82, c83, a84, c85, Fits.eq ⟨rfl, rfl, rfl, rfl, rfl, rfl, rfl, rfl, rfl, rfl, trivial⟩, B.pick [4, 0, 1, 2, 3, 5, 6, 7, 8, 9, 10, 11, 12, 13, 14] rfl rfl⟩
            · replace R37 := R37.trans (Ext0.any e41)
              replace B := B.ext0 e41
              clear e41
              refine k_call T32.fn_68 (c_i_copyField (B.r 5 rfl) (B.r 6 rfl) (B.r 7 rfl) (by omega) (by omega) (by omega)) rfl ?_
              rintro _ w93 ⟨a94, c95, a96, c97, a98, c99, rfl, hN100⟩
              replace R37 := R37.trans (Ext0.any hN100.ext)
              replace B := B.new3 hN100
              clear hN100
              refine ⟨fun _ => R37, ?_⟩
              refine m_two 2 5 (by kernel_rfl) rfl rfl rfl rfl rfl rfl (fun w101 e102 => ?_) (fun w103 e104 => ?_)
              · replace R37 := R37.trans (Ext0.any e102)
                replace B := B.ext0 e102
                clear e102
                refine k_mkO (k := kL) (z0 := ((none, 0, 0) : Option Addr × Nat × Nat)) T32.slt_59 rfl rfl rfl (by omega) (by omega) (by omega) (fun b105 w106 hN107 => ?_)
                replace R37 := R37.trans (Ext0.any hN107.ext)
                replace B := B.new1 hN107
                clear hN107
                refine ⟨fun _ => R37, ?_⟩
                refine m_k 5 [6, 7] rfl (by kernel_rfl) rfl rfl (fun w111 e112 => ?_)
                replace R37 := R37.trans (Ext0.any e112)
                replace B := B.ext0 e112
                clear e112
                refine k_allocN (z := (.agg #[.slice none 0 0, .slice none 0 0, .slice none 0 0])) (cs := [.slice none 0 0, .slice none 0 0, .slice none 0 0]) T32.zero_30 rfl (fun b108 w109 hN110 => ?_)
                have nf113 : NotLt b108 _ := fun h => Nat.not_lt.2 (Nat.le_trans (Ext.size R37) hN110.ge) h
                replace R37 := R37.trans (Ext0.any hN110.ext)
                replace B := B.new1 hN110
                clear hN110
                refine ⟨fun _ => R37, ?_⟩
                refine m_y (v := .slice (some ⟨b105, 0, none⟩) ((((np : Nat) : Int)).toNat) ((((np : Nat) : Int)).toNat)) 6 rfl (by kernel_rfl) rfl rfl (fun w' e' => y_assign rfl) ?_
                refine m_kt 7 [] rfl (by kernel_rfl) rfl rfl (by kernel_rfl) (fun w117 e118 => ?_)
                replace R37 := R37.trans (Ext0.any e118)
                replace B := B.ext0 e118
                clear e118
                refine k_stB (v := .agg #[.slice a94 nfe c95, .slice a96 nfx c97, .slice a98 nfy c99]) (n := 3) (cs' := [.slice a94 nfe c95, .slice a96 nfx c97, .slice a98 nfy c99]) T32.sz_30_3 rfl rfl rfl (B.b 0 rfl) (by simp [Value.cells, Value.oneCell']) (Nat.le_of_ble_eq_true rfl) rfl (fun w115 hU116 => ?_)
                clear R37
                replace B : Bu w no w115 [.blk b108 [.slice a94 nfe c95, .slice a96 nfx c97, .slice a98 nfy c99] 30, .ow kL (some ⟨b105, 0, none⟩) ((((np : Nat) : Int)).toNat) ((((np : Nat) : Int)).toNat) 24 (List.replicate (((np : Nat) : Int)).toNat ((none, 0, 0) : Option Addr × Nat × Nat)), .ow kF a94 nfe c95 34 Xfe, .ow kF a96 nfx c97 34 Xfx, .ow kF a98 nfy c99 34 Xfy, .blk b7 [.slice none 0 0, .slice none 0 0, .slice none 0 0] 30, .blk b4 [.slice afe nfe cfe, .slice afx nfx cfx, .slice afy nfy cfy] 30, .blk b1 [.int .i64 wd, .int .i64 hi, .bool wr, .slice asp nsp csp, .slice als nls cls] 26, .rd kF asp nsp Xsp, .rd kF als nls Xls, .rd kF afe nfe Xfe, .rd kF afx nfx Xfx, .rd kF afy nfy Xfy, .rd kS aq nq Xq, .rd kP ap np Xp] := B.upd [0] rfl hU116
                clear hU116
                refine m_done (by kernel_rfl) (fun w119 e120 => ?_)
                replace B := B.ext0 e120
                clear e120
                clear B0_36
                exact ⟨_, b105, b108, a94, c95, a96, c97, a98, c99, Fits.eq ⟨rfl, rfl, rfl, rfl, rfl, rfl, rfl, rfl, rfl, rfl, trivial⟩, B.pick [1, 0, 2, 3, 4, 5, 6, 7, 8, 9, 10, 11, 12, 13, 14] rfl rfl⟩
              · replace R37 := R37.trans (Ext0.any e104)
                replace B := B.ext0 e104
                clear e104
                refine k_allocN (z := (.agg #[.slice none 0 0, .slice none 0 0, .slice none 0 0])) (cs := [.slice none 0 0, .slice none 0 0, .slice none 0 0]) T32.zero_30 rfl (fun b121 w122 hN123 => ?_)
                have nf124 : NotLt b121 _ := fun h => Nat.not_lt.2 (Nat.le_trans (Ext.size R37) hN123.ge) h
                replace R37 := R37.trans (Ext0.any hN123.ext)
                replace B := B.new1 hN123
                clear hN123
                refine ⟨fun _ => R37, ?_⟩
                refine m_k 2 [6, 7] rfl (by kernel_rfl) rfl rfl (fun w129 e130 => ?_)
                replace R37 := R37.trans (Ext0.any e130)
                replace B := B.ext0 e130
                clear e130
                refine k_mkO (k := kL) (z0 := ((none, 0, 0) : Option Addr × Nat × Nat)) T32.slt_59 rfl rfl rfl (by omega) (by omega) (by omega) (fun b126 w127 hN128 => ?_)
                replace R37 := R37.trans (Ext0.any hN128.ext)
                replace B := B.new1 hN128
                clear hN128
                refine ⟨fun _ => R37, ?_⟩
                refine m_y (v := .slice (some ⟨b126, 0, none⟩) ((((np : Nat) : Int)).toNat) ((((np : Nat) : Int)).toNat)) 6 rfl (by kernel_rfl) rfl rfl (fun w' e' => y_assign rfl) ?_
                refine m_kt 7 [] rfl (by kernel_rfl) rfl rfl (by kernel_rfl) (fun w133 e134 => ?_)
                replace R37 := R37.trans (Ext0.any e134)
                replace B := B.ext0 e134
                clear e134
                refine k_stB (v := .agg #[.slice a94 nfe c95, .slice a96 nfx c97, .slice a98 nfy c99]) (n := 3) (cs' := [.slice a94 nfe c95, .slice a96 nfx c97, .slice a98 nfy c99]) T32.sz_30_3 rfl rfl rfl (B.b 1 rfl) (by simp [Value.cells, Value.oneCell']) (Nat.le_of_ble_eq_true rfl) rfl (fun w131 hU132 => ?_)
                clear R37
                replace B : Bu w no w131 [.blk b121 [.slice a94 nfe c95, .slice a96 nfx c97, .slice a98 nfy c99] 30, .ow kL (some ⟨b126, 0, none⟩) ((((np : Nat) : Int)).toNat) ((((np : Nat) : Int)).toNat) 24 (List.replicate (((np : Nat) : Int)).toNat ((none, 0, 0) : Option Addr × Nat × Nat)), .ow kF a94 nfe c95 34 Xfe, .ow kF a96 nfx c97 34 Xfx, .ow kF a98 nfy c99 34 Xfy, .blk b7 [.slice none 0 0, .slice none 0 0, .slice none 0 0] 30, .blk b4 [.slice afe nfe cfe, .slice afx nfx cfx, .slice afy nfy cfy] 30, .blk b1 [.int .i64 wd, .int .i64 hi, .bool wr, .slice asp nsp csp, .slice als nls cls] 26, .rd kF asp nsp Xsp, .rd kF als nls Xls, .rd kF afe nfe Xfe, .rd kF afx nfx Xfx, .rd kF afy nfy Xfy, .rd kS aq nq Xq, .rd kP ap np Xp] := B.upd [1] rfl hU132
                clear hU132
                refine m_done (by kernel_rfl) (fun w135 e136 => ?_)
                replace B := B.ext0 e136
                clear e136
                clear B0_36
                exact ⟨_, b126, b121, a94, c95, a96, c97, a98, c99, Fits.eq ⟨rfl, rfl, rfl, rfl, rfl, rfl, rfl, rfl, rfl, rfl, trivial⟩, B.pick [1, 0, 2, 3, 4, 5, 6, 7, 8, 9, 10, 11, 12, 13, 14] rfl rfl⟩
            · replace R37 := R37.trans (Ext0.any e43)
              replace B := B.ext0 e43
              clear e43
              refine k_allocN (z := (.agg #[.slice none 0 0, .slice none 0 0, .slice none 0 0])) (cs := [.slice none 0 0, .slice none 0 0, .slice none 0 0]) T32.zero_30 rfl (fun b137 w138 hN139 => ?_)
              have nf140 : NotLt b137 _ := fun h => Nat.not_lt.2 (Nat.le_trans (Ext.size R37) hN139.ge) h
              replace R37 := R37.trans (Ext0.any hN139.ext)
              replace B := B.new1 hN139
              clear hN139
              refine ⟨fun _ => R37, ?_⟩
              refine m_two 2 4 (by kernel_rfl) rfl rfl rfl rfl rfl rfl (fun w142 e143 => ?_) (fun w144 e145 => ?_)
              · replace R37 := R37.trans (Ext0.any e143)
                replace B := B.ext0 e143
                clear e143
                refine k_mkO (k := kL) (z0 := ((none, 0, 0) : Option Addr × Nat × Nat)) T32.slt_59 rfl rfl rfl (by omega) (by omega) (by omega) (fun b146 w147 hN148 => ?_)
                replace R37 := R37.trans (Ext0.any hN148.ext)
                replace B := B.new1 hN148
                clear hN148
                refine ⟨fun _ => R37, ?_⟩
                refine m_k 4 [6, 7] rfl (by kernel_rfl) rfl rfl (fun w149 e150 => ?_)
                replace R37 := R37.trans (Ext0.any e150)
                replace B := B.ext0 e150
                clear e150
                refine k_call T32.fn_68 (c_i_copyField (B.r 7 rfl) (B.r 8 rfl) (B.r 9 rfl) (by omega) (by omega) (by omega)) rfl ?_
                rintro _ w151 ⟨a152, c153, a154, c155, a156, c157, rfl, hN158⟩
                replace R37 := R37.trans (Ext0.any hN158.ext)
                replace B := B.new3 hN158
                clear hN158
                refine ⟨fun _ => R37, ?_⟩
                refine m_y (v := .slice (some ⟨b146, 0, none⟩) ((((np : Nat) : Int)).toNat) ((((np : Nat) : Int)).toNat)) 6 rfl (by kernel_rfl) rfl rfl (fun w' e' => y_assign rfl) ?_
                refine m_kt 7 [] rfl (by kernel_rfl) rfl rfl (by kernel_rfl) (fun w161 e162 => ?_)
                replace R37 := R37.trans (Ext0.any e162)
                replace B := B.ext0 e162
                clear e162
                refine k_stB (v := .agg #[.slice a152 nfe c153, .slice a154 nfx c155, .slice a156 nfy c157]) (n := 3) (cs' := [.slice a152 nfe c153, .slice a154 nfx c155, .slice a156 nfy c157]) T32.sz_30_3 rfl rfl rfl (B.b 4 rfl) (by simp [Value.cells, Value.oneCell']) (Nat.le_of_ble_eq_true rfl) rfl (fun w159 hU160 => ?_)
                clear R37
                replace B : Bu w no w159 [.blk b137 [.slice a152 nfe c153, .slice a154 nfx c155, .slice a156 nfy c157] 30, .ow kF a152 nfe c153 34 Xfe, .ow kF a154 nfx c155 34 Xfx, .ow kF a156 nfy c157 34 Xfy, .ow kL (some ⟨b146, 0, none⟩) ((((np : Nat) : Int)).toNat) ((((np : Nat) : Int)).toNat) 24 (List.replicate (((np : Nat) : Int)).toNat ((none, 0, 0) : Option Addr × Nat × Nat)), .blk b7 [.slice none 0 0, .slice none 0 0, .slice none 0 0] 30, .blk b4 [.slice afe nfe cfe, .slice afx nfx cfx, .slice afy nfy cfy] 30, .blk b1 [.int .i64 wd, .int .i64 hi, .bool wr, .slice asp nsp csp, .slice als nls cls] 26, .rd kF asp nsp Xsp, .rd kF als nls Xls, .rd kF afe nfe Xfe, .rd kF afx nfx Xfx, .rd kF afy nfy Xfy, .rd kS aq nq Xq, .rd kP ap np Xp] := B.upd [4] rfl hU160
                clear hU160
                refine m_done (by kernel_rfl) (fun w163 e164 => ?_)
                replace B := B.ext0 e164
                clear e164
                clear B0_36
                exact ⟨_, b146, b137, a152, c153, a154, c155, a156, c157, Fits.eq ⟨rfl, rfl, rfl, rfl, rfl, rfl, rfl, rfl, rfl, rfl, trivial⟩, B.pick [4, 0, 1, 2, 3, 5, 6, 7, 8, 9, 10, 11, 12, 13, 14] rfl rfl⟩
              · replace R37 := R37.trans (Ext0.any e145)
                replace B := B.ext0 e145
                clear e145
                refine k_call T32.fn_68 (c_i_copyField (B.r 6 rfl) (B.r 7 rfl) (B.r 8 rfl) (by omega) (by omega) (by omega)) rfl ?_
                rintro _ w165 ⟨a166, c167, a168, c169, a170, c171, rfl, hN172⟩
                replace R37 := R37.trans (Ext0.any hN172.ext)
                replace B := B.new3 hN172
                clear hN172
                refine ⟨fun _ => R37, ?_⟩
                refine m_k 2 [6, 7] rfl (by kernel_rfl) rfl rfl (fun w176 e177 => ?_)
                replace R37 := R37.trans (Ext0.any e177)
                replace B := B.ext0 e177
                clear e177
                refine k_mkO (k := kL) (z0 := ((none, 0, 0) : Option Addr × Nat × Nat)) T32.slt_59 rfl rfl rfl (by omega) (by omega) (by omega) (fun b173 w174 hN175 => ?_)
                replace R37 := R37.trans (Ext0.any hN175.ext)
                replace B := B.new1 hN175
                clear hN175
                refine ⟨fun _ => R37, ?_⟩
                refine m_y (v := .slice (some ⟨b173, 0, none⟩) ((((np : Nat) : Int)).toNat) ((((np : Nat) : Int)).toNat)) 6 rfl (by kernel_rfl) rfl rfl (fun w' e' => y_assign rfl) ?_
                refine m_kt 7 [] rfl (by kernel_rfl) rfl rfl (by kernel_rfl) (fun w180 e181 => ?_)
                replace R37 := R37.trans (Ext0.any e181)
                replace B := B.ext0 e181
                clear e181
                refine k_stB (v := .agg #[.slice a166 nfe c167, .slice a168 nfx c169, .slice a170 nfy c171]) (n := 3) (cs' := [.slice a166 nfe c167, .slice a168 nfx c169, .slice a170 nfy c171]) T32.sz_30_3 rfl rfl rfl (B.b 4 rfl) (by simp [Value.cells, Value.oneCell']) (Nat.le_of_ble_eq_true rfl) rfl (fun w178 hU179 => ?_)
                clear R37
                replace B : Bu w no w178 [.blk b137 [.slice a166 nfe c167, .slice a168 nfx c169, .slice a170 nfy c171] 30, .ow kL (some ⟨b173, 0, none⟩) ((((np : Nat) : Int)).toNat) ((((np : Nat) : Int)).toNat) 24 (List.replicate (((np : Nat) : Int)).toNat ((none, 0, 0) : Option Addr × Nat × Nat)), .ow kF a166 nfe c167 34 Xfe, .ow kF a168 nfx c169 34 Xfx, .ow kF a170 nfy c171 34 Xfy, .blk b7 [.slice none 0 0, .slice none 0 0, .slice none 0 0] 30, .blk b4 [.slice afe nfe cfe, .slice afx nfx cfx, .slice afy nfy cfy] 30, .blk b1 [.int .i64 wd, .int .i64 hi, .bool wr, .slice asp nsp csp, .slice als nls cls] 26, .rd kF asp nsp Xsp, .rd kF als nls Xls, .rd kF afe nfe Xfe, .rd kF afx nfx Xfx, .rd kF afy nfy Xfy, .rd kS aq nq Xq, .rd kP ap np Xp] := B.upd [4] rfl hU179
                clear hU179
                refine m_done (by kernel_rfl) (fun w182 e183 => ?_)
                replace B := B.ext0 e183
                clear e183
                clear B0_36
                exact ⟨_, b173, b137, a166, c167, a168, c169, a170, c171, Fits.eq ⟨rfl, rfl, rfl, rfl, rfl, rfl, rfl, rfl, rfl, rfl, trivial⟩, B.pick [1, 0, 2, 3, 4, 5, 6, 7, 8, 9, 10, 11, 12, 13, 14] rfl rfl⟩
          · clear B; rintro _ w184 (⟨ρ185, b44, b59, a52, c53, a54, c55, a56, c57, rfl, B⟩)
            refine W_seq ?_
            refine W_seq ?_
            refine W_region (by kernel_rfl) ?_
            refine s_y (v := .int .i64 ct) rfl (y_move rfl) ?_
            refine s_y (v := .int .i64 0) rfl (y_move rfl) ?_
            refine s_nil ?_
            refine W_block ?_
            have hsrb := areSrc_src c20
            have hprb := areProbes_pr c26
            have hsrl := srcsB_b hsrb
            have hN186 := New.famNil w184 kF 34 ((((np : Nat) : Int)).toNat)
            replace B := B.new1 hN186
            clear hN186
            refine W_loop (fun ρ' w' => ∃ (ρ1 : Env) (k : Int) (A1 : Option Addr) (A2 : Option Addr) (A3 : Option Addr) (C1 : Nat) (C2 : Nat) (C3 : Nat) (Z : List (Option Addr × Nat × Nat)), ρ' = updL ρ1 [(2, .slice aq nq cq), (3, .slice ap np cp), (4, .int .i64 fr), (6, .pointer (some ⟨b1, 0, none⟩)), (12, .slice none 0 0), (13, .pointer (some ⟨b7, 0, none⟩)), (14, .bool false), (15, .slice (some ⟨b44, 0, none⟩) ((((np : Nat) : Int)).toNat) ((((np : Nat) : Int)).toNat)), (16, .pointer (some ⟨b59, 0, none⟩)), (48, .int .i64 ct), (49, .int .i64 k)] ∧ Bu w no w' [.ow kF A1 nfe C1 34 ((rsT wd hi wr Xsp Xls Xq fr (Xfe, Xfx, Xfy) (Int.toNat k)).1), .ow kF A2 nfx C2 34 ((rsT wd hi wr Xsp Xls Xq fr (Xfe, Xfx, Xfy) (Int.toNat k)).2.1), .ow kF A3 nfy C3 34 ((rsT wd hi wr Xsp Xls Xq fr (Xfe, Xfx, Xfy) (Int.toNat k)).2.2), .ow kL (some ⟨b44, 0, none⟩) ((((np : Nat) : Int)).toNat) ((((np : Nat) : Int)).toNat) 24 Z, .fam kF 34 allP Z (rcs wd hi wr Xsp Xls Xq fr (Xfe, Xfx, Xfy) Xp np k), .blk b59 [.slice A1 nfe C1, .slice A2 nfx C2, .slice A3 nfy C3] 30, .blk b7 [.slice none 0 0, .slice none 0 0, .slice none 0 0] 30, .blk b4 [.slice afe nfe cfe, .slice afx nfx cfx, .slice afy nfy cfy] 30, .blk b1 [.int .i64 wd, .int .i64 hi, .bool wr, .slice asp nsp csp, .slice als nls cls] 26, .rd kF asp nsp Xsp, .rd kF als nls Xls, .rd kF afe nfe Xfe, .rd kF afx nfx Xfx, .rd kF afy nfy Xfy, .rd kS aq nq Xq, .rd kP ap np Xp] ∧ (0 ≤ k) ∧ (k ≤ ct)) (fun ρ' _ => (ct - iv (ρ' 49)).toNat) ?_ ?_
            · replace B : Bu w no w184 [.fam kF 34 allP (List.replicate ((((np : Nat) : Int)).toNat) (none, 0, 0)) (List.replicate ((((np : Nat) : Int)).toNat) ([] : List Nat)), .ow kL (some ⟨b44, 0, none⟩) ((((np : Nat) : Int)).toNat) ((((np : Nat) : Int)).toNat) 24 (List.replicate (((np : Nat) : Int)).toNat ((none, 0, 0) : Option Addr × Nat × Nat)), .blk b59 [.slice a52 nfe c53, .slice a54 nfx c55, .slice a56 nfy c57] 30, .ow kF a52 nfe c53 34 ((rsT wd hi wr Xsp Xls Xq fr (Xfe, Xfx, Xfy) (Int.toNat 0)).1), .ow kF a54 nfx c55 34 Xfx, .ow kF a56 nfy c57 34 Xfy, .blk b7 [.slice none 0 0, .slice none 0 0, .slice none 0 0] 30, .blk b4 [.slice afe nfe cfe, .slice afx nfx cfx, .slice afy nfy cfy] 30, .blk b1 [.int .i64 wd, .int .i64 hi, .bool wr, .slice asp nsp csp, .slice als nls cls] 26, .rd kF asp nsp Xsp, .rd kF als nls Xls, .rd kF afe nfe Xfe, .rd kF afx nfx Xfx, .rd kF afy nfy Xfy, .rd kS aq nq Xq, .rd kP ap np Xp] := B.castX 3 rfl rfl rfl
              replace B : Bu w no w184 [.fam kF 34 allP (List.replicate ((((np : Nat) : Int)).toNat) (none, 0, 0)) (List.replicate ((((np : Nat) : Int)).toNat) ([] : List Nat)), .ow kL (some ⟨b44, 0, none⟩) ((((np : Nat) : Int)).toNat) ((((np : Nat) : Int)).toNat) 24 (List.replicate (((np : Nat) : Int)).toNat ((none, 0, 0) : Option Addr × Nat × Nat)), .blk b59 [.slice a52 nfe c53, .slice a54 nfx c55, .slice a56 nfy c57] 30, .ow kF a52 nfe c53 34 ((rsT wd hi wr Xsp Xls Xq fr (Xfe, Xfx, Xfy) (Int.toNat 0)).1), .ow kF a54 nfx c55 34 ((rsT wd hi wr Xsp Xls Xq fr (Xfe, Xfx, Xfy) (Int.toNat 0)).2.1), .ow kF a56 nfy c57 34 Xfy, .blk b7 [.slice none 0 0, .slice none 0 0, .slice none 0 0] 30, .blk b4 [.slice afe nfe cfe, .slice afx nfx cfx, .slice afy nfy cfy] 30, .blk b1 [.int .i64 wd, .int .i64 hi, .bool wr, .slice asp nsp csp, .slice als nls cls] 26, .rd kF asp nsp Xsp, .rd kF als nls Xls, .rd kF afe nfe Xfe, .rd kF afx nfx Xfx, .rd kF afy nfy Xfy, .rd kS aq nq Xq, .rd kP ap np Xp] := B.castX 4 rfl rfl rfl
              replace B : Bu w no w184 [.fam kF 34 allP (List.replicate ((((np : Nat) : Int)).toNat) (none, 0, 0)) (List.replicate ((((np : Nat) : Int)).toNat) ([] : List Nat)), .ow kL (some ⟨b44, 0, none⟩) ((((np : Nat) : Int)).toNat) ((((np : Nat) : Int)).toNat) 24 (List.replicate (((np : Nat) : Int)).toNat ((none, 0, 0) : Option Addr × Nat × Nat)), .blk b59 [.slice a52 nfe c53, .slice a54 nfx c55, .slice a56 nfy c57] 30, .ow kF a52 nfe c53 34 ((rsT wd hi wr Xsp Xls Xq fr (Xfe, Xfx, Xfy) (Int.toNat 0)).1), .ow kF a54 nfx c55 34 ((rsT wd hi wr Xsp Xls Xq fr (Xfe, Xfx, Xfy) (Int.toNat 0)).2.1), .ow kF a56 nfy c57 34 ((rsT wd hi wr Xsp Xls Xq fr (Xfe, Xfx, Xfy) (Int.toNat 0)).2.2), .blk b7 [.slice none 0 0, .slice none 0 0, .slice none 0 0] 30, .blk b4 [.slice afe nfe cfe, .slice afx nfx cfx, .slice afy nfy cfy] 30, .blk b1 [.int .i64 wd, .int .i64 hi, .bool wr, .slice asp nsp csp, .slice als nls cls] 26, .rd kF asp nsp Xsp, .rd kF als nls Xls, .rd kF afe nfe Xfe, .rd kF afx nfx Xfx, .rd kF afy nfy Xfy, .rd kS aq nq Xq, .rd kP ap np Xp] := B.castX 5 rfl rfl rfl
              replace B : Bu w no w184 [.fam kF 34 allP (List.replicate ((((np : Nat) : Int)).toNat) (none, 0, 0)) (rcs wd hi wr Xsp Xls Xq fr (Xfe, Xfx, Xfy) Xp np 0), .ow kL (some ⟨b44, 0, none⟩) ((((np : Nat) : Int)).toNat) ((((np : Nat) : Int)).toNat) 24 (List.replicate (((np : Nat) : Int)).toNat ((none, 0, 0) : Option Addr × Nat × Nat)), .blk b59 [.slice a52 nfe c53, .slice a54 nfx c55, .slice a56 nfy c57] 30, .ow kF a52 nfe c53 34 ((rsT wd hi wr Xsp Xls Xq fr (Xfe, Xfx, Xfy) (Int.toNat 0)).1), .ow kF a54 nfx c55 34 ((rsT wd hi wr Xsp Xls Xq fr (Xfe, Xfx, Xfy) (Int.toNat 0)).2.1), .ow kF a56 nfy c57 34 ((rsT wd hi wr Xsp Xls Xq fr (Xfe, Xfx, Xfy) (Int.toNat 0)).2.2), .blk b7 [.slice none 0 0, .slice none 0 0, .slice none 0 0] 30, .blk b4 [.slice afe nfe cfe, .slice afx nfx cfx, .slice afy nfy cfy] 30, .blk b1 [.int .i64 wd, .int .i64 hi, .bool wr, .slice asp nsp csp, .slice als nls cls] 26, .rd kF asp nsp Xsp, .rd kF als nls Xls, .rd kF afe nfe Xfe, .rd kF afx nfx Xfx, .rd kF afy nfy Xfy, .rd kS aq nq Xq, .rd kP ap np Xp] := B.castF 0 rfl (rcs_zero (by omega))
              exact ⟨_, 0, a52, a54, a56, c53, c55, c57, _, Fits.eq ⟨rfl, rfl, rfl, rfl, rfl, rfl, rfl, rfl, rfl, rfl, rfl, trivial⟩, (B.pick [3, 4, 5, 1, 0, 2, 6, 7, 8, 9, 10, 11, 12, 13, 14, 15] rfl rfl), (Int.le_refl _), (by omega)⟩
            · clear B; rintro _ w187 ⟨ρ188, k, A1, A2, A3, C1, C2, C3, Z, rfl, B, h0k, h1k⟩
              refine W_seq ?_
              refine W_region (by kernel_rfl) ?_
              by_cases c189 : k < ct
              · refine s_y (v := .bool true) rfl (y_lss rfl rfl (decide_eq_true c189)) ?_
                refine s_nil ?_
                refine W_seq ?_
                refine W_if_t (by decide) rfl ?_
                refine W_skip ?_
                refine W_seq ?_
                refine W_block ?_
                refine W_seq ?_
                refine W_region (by kernel_rfl) ?_
                refine s_y (v := .int .i64 k) rfl (y_move rfl) ?_
                refine s_y (v := .int .i64 k) rfl (y_assign rfl) ?_
                refine s_nil ?_
                refine W_seq ?_
                refine W_region (by kernel_rfl) ?_
                refine s_y (v := .agg #[.int .i64 wd, .int .i64 hi, .bool wr, .slice asp nsp csp, .slice als nls cls]) rfl (y_loadn (b := b1) (o := 0) (vs := [.int .i64 wd, .int .i64 hi, .bool wr, .slice asp nsp csp, .slice als nls cls]) T32.agg_26_5 rfl rfl ((B.b 8 rfl).cells (o := 0) rfl)) ?_
                refine s_y (v := .agg #[.slice A1 nfe C1, .slice A2 nfx C2, .slice A3 nfy C3]) rfl (y_loadn (b := b59) (o := 0) (vs := [.slice A1 nfe C1, .slice A2 nfx C2, .slice A3 nfy C3]) T32.agg_30_3 rfl rfl ((B.b 5 rfl).cells (o := 0) rfl)) ?_
                refine s_k rfl (k_call T32.fn_89 (c_i_stepped (B.r 9 rfl) (B.r 10 rfl) ((B.o 0 rfl).rd) ((B.o 1 rfl).rd) ((B.o 2 rfl).rd) (by omega) (by omega) (by omega) (by omega) (by omega) (by omega) (by omega) (by omega) (by omega)) rfl ?_)
                rintro _ w190 ⟨a191, c192, a193, c194, a195, c196, rfl, hN197⟩
                replace B := B.new3 hN197
                clear hN197
                refine s_k0 rfl (k_stB (v := .agg #[.slice a191 nfe c192, .slice a193 nfx c194, .slice a195 nfy c196]) (n := 3) (cs' := [.slice a191 nfe c192, .slice a193 nfx c194, .slice a195 nfy c196]) T32.sz_30_3 rfl rfl rfl (B.b 8 rfl) (by simp [Value.cells, Value.oneCell']) (Nat.le_of_ble_eq_true rfl) rfl (fun w198 hU199 => ?_))
                replace B : Bu w no w198 [.blk b59 [.slice a191 nfe c192, .slice a193 nfx c194, .slice a195 nfy c196] 30, .ow kF a191 nfe c192 34 (nwL wd hi wr Xsp Xls ((rsT wd hi wr Xsp Xls Xq fr (Xfe, Xfx, Xfy) (Int.toNat k)).1) (hxL wd hi wr ((rsT wd hi wr Xsp Xls Xq fr (Xfe, Xfx, Xfy) (Int.toNat k)).1) ((rsT wd hi wr Xsp Xls Xq fr (Xfe, Xfx, Xfy) (Int.toNat k)).2.1)) (hyL wd hi wr ((rsT wd hi wr Xsp Xls Xq fr (Xfe, Xfx, Xfy) (Int.toNat k)).1) ((rsT wd hi wr Xsp Xls Xq fr (Xfe, Xfx, Xfy) (Int.toNat k)).2.2))), .ow kF a193 nfx c194 34 (hxL wd hi wr ((rsT wd hi wr Xsp Xls Xq fr (Xfe, Xfx, Xfy) (Int.toNat k)).1) ((rsT wd hi wr Xsp Xls Xq fr (Xfe, Xfx, Xfy) (Int.toNat k)).2.1)), .ow kF a195 nfy c196 34 (hyL wd hi wr ((rsT wd hi wr Xsp Xls Xq fr (Xfe, Xfx, Xfy) (Int.toNat k)).1) ((rsT wd hi wr Xsp Xls Xq fr (Xfe, Xfx, Xfy) (Int.toNat k)).2.2)), .ow kF A1 nfe C1 34 ((rsT wd hi wr Xsp Xls Xq fr (Xfe, Xfx, Xfy) (Int.toNat k)).1), .ow kF A2 nfx C2 34 ((rsT wd hi wr Xsp Xls Xq fr (Xfe, Xfx, Xfy) (Int.toNat k)).2.1), .ow kF A3 nfy C3 34 ((rsT wd hi wr Xsp Xls Xq fr (Xfe, Xfx, Xfy) (Int.toNat k)).2.2), .ow kL (some ⟨b44, 0, none⟩) ((((np : Nat) : Int)).toNat) ((((np : Nat) : Int)).toNat) 24 Z, .fam kF 34 allP Z (rcs wd hi wr Xsp Xls Xq fr (Xfe, Xfx, Xfy) Xp np k), .blk b7 [.slice none 0 0, .slice none 0 0, .slice none 0 0] 30, .blk b4 [.slice afe nfe cfe, .slice afx nfx cfx, .slice afy nfy cfy] 30, .blk b1 [.int .i64 wd, .int .i64 hi, .bool wr, .slice asp nsp csp, .slice als nls cls] 26, .rd kF asp nsp Xsp, .rd kF als nls Xls, .rd kF afe nfe Xfe, .rd kF afx nfx Xfx, .rd kF afy nfy Xfy, .rd kS aq nq Xq, .rd kP ap np Xp] := B.upd [8] rfl hU199
                clear hU199
                refine s_nil ?_
                refine W_seq ?_
                refine W_region (by kernel_rfl) ?_
                refine s_y (v := .agg #[.int .i64 wd, .int .i64 hi, .bool wr, .slice asp nsp csp, .slice als nls cls]) rfl (y_loadn (b := b1) (o := 0) (vs := [.int .i64 wd, .int .i64 hi, .bool wr, .slice asp nsp csp, .slice als nls cls]) T32.agg_26_5 rfl rfl ((B.b 11 rfl).cells (o := 0) rfl)) ?_
                refine s_y (v := .slice aq nq cq) rfl (y_move rfl) ?_
                refine s_y (v := .int .i64 fr) rfl (y_move rfl) ?_
                refine s_y (v := .int .i64 k) rfl (y_move rfl) ?_
                refine s_y (v := .int .i64 (fr + k)) rfl (y_add rfl rfl rfl (by omega)) ?_
                have Bt := B.weakB 0 rfl
                refine s_k rfl (k_call T32.fn_90 (c_i_feed (by omega) (by omega) (by omega) (by omega) (by omega) (by omega) (by omega) (by omega) (fun i h0 h1 => srcsB_src hsrb h0 (by omega)) (hwv k h0k (by omega)) (Bt.all.pick [1, 0, 17] rfl) (Bt.pw.pick [1, 0, 17] rfl rfl)) rfl ?_)
                rintro _ w200 ⟨rfl, hU201⟩
                replace B : Bu w no w200 [.ow kF a191 nfe c192 34 (fedT wd hi (nwL wd hi wr Xsp Xls ((rsT wd hi wr Xsp Xls Xq fr (Xfe, Xfx, Xfy) (Int.toNat k)).1) (hxL wd hi wr ((rsT wd hi wr Xsp Xls Xq fr (Xfe, Xfx, Xfy) (Int.toNat k)).1) ((rsT wd hi wr Xsp Xls Xq fr (Xfe, Xfx, Xfy) (Int.toNat k)).2.1)) (hyL wd hi wr ((rsT wd hi wr Xsp Xls Xq fr (Xfe, Xfx, Xfy) (Int.toNat k)).1) ((rsT wd hi wr Xsp Xls Xq fr (Xfe, Xfx, Xfy) (Int.toNat k)).2.2))) Xq (fr + k) nq), .blk b59 [.slice a191 nfe c192, .slice a193 nfx c194, .slice a195 nfy c196] 30, .ow kF a193 nfx c194 34 (hxL wd hi wr ((rsT wd hi wr Xsp Xls Xq fr (Xfe, Xfx, Xfy) (Int.toNat k)).1) ((rsT wd hi wr Xsp Xls Xq fr (Xfe, Xfx, Xfy) (Int.toNat k)).2.1)), .ow kF a195 nfy c196 34 (hyL wd hi wr ((rsT wd hi wr Xsp Xls Xq fr (Xfe, Xfx, Xfy) (Int.toNat k)).1) ((rsT wd hi wr Xsp Xls Xq fr (Xfe, Xfx, Xfy) (Int.toNat k)).2.2)), .ow kF A1 nfe C1 34 ((rsT wd hi wr Xsp Xls Xq fr (Xfe, Xfx, Xfy) (Int.toNat k)).1), .ow kF A2 nfx C2 34 ((rsT wd hi wr Xsp Xls Xq fr (Xfe, Xfx, Xfy) (Int.toNat k)).2.1), .ow kF A3 nfy C3 34 ((rsT wd hi wr Xsp Xls Xq fr (Xfe, Xfx, Xfy) (Int.toNat k)).2.2), .ow kL (some ⟨b44, 0, none⟩) ((((np : Nat) : Int)).toNat) ((((np : Nat) : Int)).toNat) 24 Z, .fam kF 34 allP Z (rcs wd hi wr Xsp Xls Xq fr (Xfe, Xfx, Xfy) Xp np k), .blk b7 [.slice none 0 0, .slice none 0 0, .slice none 0 0] 30, .blk b4 [.slice afe nfe cfe, .slice afx nfx cfx, .slice afy nfy cfy] 30, .blk b1 [.int .i64 wd, .int .i64 hi, .bool wr, .slice asp nsp csp, .slice als nls cls] 26, .rd kF asp nsp Xsp, .rd kF als nls Xls, .rd kF afe nfe Xfe, .rd kF afx nfx Xfx, .rd kF afy nfy Xfy, .rd kS aq nq Xq, .rd kP ap np Xp] := B.upd [1] rfl hU201
                clear hU201
                refine s_nil ?_
                refine W_seq ?_
                refine W_region (by kernel_rfl) ?_
                refine s_y (v := .slice ap np cp) rfl (y_move rfl) ?_
                refine s_y (v := .int .i64 ((np : Nat) : Int)) rfl (y_len T32.sl_64_63_2 rfl rfl) ?_
                refine s_y (v := .int .i64 0) rfl (y_move rfl) ?_
                refine s_nil ?_
                refine W_block ?_
                replace B : Bu w no w200 [.ow kF a191 nfe c192 34 ((rsT wd hi wr Xsp Xls Xq fr (Xfe, Xfx, Xfy) (Int.toNat (k + 1))).1), .blk b59 [.slice a191 nfe c192, .slice a193 nfx c194, .slice a195 nfy c196] 30, .ow kF a193 nfx c194 34 (hxL wd hi wr ((rsT wd hi wr Xsp Xls Xq fr (Xfe, Xfx, Xfy) (Int.toNat k)).1) ((rsT wd hi wr Xsp Xls Xq fr (Xfe, Xfx, Xfy) (Int.toNat k)).2.1)), .ow kF a195 nfy c196 34 (hyL wd hi wr ((rsT wd hi wr Xsp Xls Xq fr (Xfe, Xfx, Xfy) (Int.toNat k)).1) ((rsT wd hi wr Xsp Xls Xq fr (Xfe, Xfx, Xfy) (Int.toNat k)).2.2)), .ow kF A1 nfe C1 34 ((rsT wd hi wr Xsp Xls Xq fr (Xfe, Xfx, Xfy) (Int.toNat k)).1), .ow kF A2 nfx C2 34 ((rsT wd hi wr Xsp Xls Xq fr (Xfe, Xfx, Xfy) (Int.toNat k)).2.1), .ow kF A3 nfy C3 34 ((rsT wd hi wr Xsp Xls Xq fr (Xfe, Xfx, Xfy) (Int.toNat k)).2.2), .ow kL (some ⟨b44, 0, none⟩) ((((np : Nat) : Int)).toNat) ((((np : Nat) : Int)).toNat) 24 Z, .fam kF 34 allP Z (rcs wd hi wr Xsp Xls Xq fr (Xfe, Xfx, Xfy) Xp np k), .blk b7 [.slice none 0 0, .slice none 0 0, .slice none 0 0] 30, .blk b4 [.slice afe nfe cfe, .slice afx nfx cfx, .slice afy nfy cfy] 30, .blk b1 [.int .i64 wd, .int .i64 hi, .bool wr, .slice asp nsp csp, .slice als nls cls] 26, .rd kF asp nsp Xsp, .rd kF als nls Xls, .rd kF afe nfe Xfe, .rd kF afx nfx Xfx, .rd kF afy nfy Xfy, .rd kS aq nq Xq, .rd kP ap np Xp] := B.castX 0 rfl rfl (rs_E h0k hlq)
                replace B : Bu w no w200 [.ow kF a191 nfe c192 34 ((rsT wd hi wr Xsp Xls Xq fr (Xfe, Xfx, Xfy) (Int.toNat (k + 1))).1), .blk b59 [.slice a191 nfe c192, .slice a193 nfx c194, .slice a195 nfy c196] 30, .ow kF a193 nfx c194 34 ((rsT wd hi wr Xsp Xls Xq fr (Xfe, Xfx, Xfy) (Int.toNat (k + 1))).2.1), .ow kF a195 nfy c196 34 (hyL wd hi wr ((rsT wd hi wr Xsp Xls Xq fr (Xfe, Xfx, Xfy) (Int.toNat k)).1) ((rsT wd hi wr Xsp Xls Xq fr (Xfe, Xfx, Xfy) (Int.toNat k)).2.2)), .ow kF A1 nfe C1 34 ((rsT wd hi wr Xsp Xls Xq fr (Xfe, Xfx, Xfy) (Int.toNat k)).1), .ow kF A2 nfx C2 34 ((rsT wd hi wr Xsp Xls Xq fr (Xfe, Xfx, Xfy) (Int.toNat k)).2.1), .ow kF A3 nfy C3 34 ((rsT wd hi wr Xsp Xls Xq fr (Xfe, Xfx, Xfy) (Int.toNat k)).2.2), .ow kL (some ⟨b44, 0, none⟩) ((((np : Nat) : Int)).toNat) ((((np : Nat) : Int)).toNat) 24 Z, .fam kF 34 allP Z (rcs wd hi wr Xsp Xls Xq fr (Xfe, Xfx, Xfy) Xp np k), .blk b7 [.slice none 0 0, .slice none 0 0, .slice none 0 0] 30, .blk b4 [.slice afe nfe cfe, .slice afx nfx cfx, .slice afy nfy cfy] 30, .blk b1 [.int .i64 wd, .int .i64 hi, .bool wr, .slice asp nsp csp, .slice als nls cls] 26, .rd kF asp nsp Xsp, .rd kF als nls Xls, .rd kF afe nfe Xfe, .rd kF afx nfx Xfx, .rd kF afy nfy Xfy, .rd kS aq nq Xq, .rd kP ap np Xp] := B.castX 2 rfl rfl (rs_X h0k)
                replace B : Bu w no w200 [.ow kF a191 nfe c192 34 ((rsT wd hi wr Xsp Xls Xq fr (Xfe, Xfx, Xfy) (Int.toNat (k + 1))).1), .blk b59 [.slice a191 nfe c192, .slice a193 nfx c194, .slice a195 nfy c196] 30, .ow kF a193 nfx c194 34 ((rsT wd hi wr Xsp Xls Xq fr (Xfe, Xfx, Xfy) (Int.toNat (k + 1))).2.1), .ow kF a195 nfy c196 34 ((rsT wd hi wr Xsp Xls Xq fr (Xfe, Xfx, Xfy) (Int.toNat (k + 1))).2.2), .ow kF A1 nfe C1 34 ((rsT wd hi wr Xsp Xls Xq fr (Xfe, Xfx, Xfy) (Int.toNat k)).1), .ow kF A2 nfx C2 34 ((rsT wd hi wr Xsp Xls Xq fr (Xfe, Xfx, Xfy) (Int.toNat k)).2.1), .ow kF A3 nfy C3 34 ((rsT wd hi wr Xsp Xls Xq fr (Xfe, Xfx, Xfy) (Int.toNat k)).2.2), .ow kL (some ⟨b44, 0, none⟩) ((((np : Nat) : Int)).toNat) ((((np : Nat) : Int)).toNat) 24 Z, .fam kF 34 allP Z (rcs wd hi wr Xsp Xls Xq fr (Xfe, Xfx, Xfy) Xp np k), .blk b7 [.slice none 0 0, .slice none 0 0, .slice none 0 0] 30, .blk b4 [.slice afe nfe cfe, .slice afx nfx cfx, .slice afy nfy cfy] 30, .blk b1 [.int .i64 wd, .int .i64 hi, .bool wr, .slice asp nsp csp, .slice als nls cls] 26, .rd kF asp nsp Xsp, .rd kF als nls Xls, .rd kF afe nfe Xfe, .rd kF afx nfx Xfx, .rd kF afy nfy Xfy, .rd kS aq nq Xq, .rd kP ap np Xp] := B.castX 3 rfl rfl (rs_Y h0k)
                refine W_loop (fun ρ' w' => ∃ (ρ1 : Env) (j : Int) (Z2 : List (Option Addr × Nat × Nat)), ρ' = updL ρ1 [(2, .slice aq nq cq), (3, .slice ap np cp), (4, .int .i64 fr), (6, .pointer (some ⟨b1, 0, none⟩)), (12, .slice none 0 0), (13, .pointer (some ⟨b7, 0, none⟩)), (14, .bool false), (15, .slice (some ⟨b44, 0, none⟩) ((((np : Nat) : Int)).toNat) ((((np : Nat) : Int)).toNat)), (16, .pointer (some ⟨b59, 0, none⟩)), (17, .int .i64 k), (48, .int .i64 ct), (49, .int .i64 k), (50, .bool true), (51, .int .i64 k), (52, .agg #[.int .i64 wd, .int .i64 hi, .bool wr, .slice asp nsp csp, .slice als nls cls]), (53, .agg #[.slice A1 nfe C1, .slice A2 nfx C2, .slice A3 nfy C3]), (54, .agg #[.slice a191 nfe c192, .slice a193 nfx c194, .slice a195 nfy c196]), (55, .agg #[.int .i64 wd, .int .i64 hi, .bool wr, .slice asp nsp csp, .slice als nls cls]), (56, .slice aq nq cq), (57, .int .i64 fr), (58, .int .i64 k), (59, .int .i64 (fr + k)), (61, .slice ap np cp), (62, .int .i64 ((np : Nat) : Int)), (63, .int .i64 j)] ∧ Bu w no w' [.ow kL (some ⟨b44, 0, none⟩) ((((np : Nat) : Int)).toNat) ((((np : Nat) : Int)).toNat) 24 Z2, .ow kF a191 nfe c192 34 ((rsT wd hi wr Xsp Xls Xq fr (Xfe, Xfx, Xfy) (Int.toNat (k + 1))).1), .blk b59 [.slice a191 nfe c192, .slice a193 nfx c194, .slice a195 nfy c196] 30, .ow kF a193 nfx c194 34 ((rsT wd hi wr Xsp Xls Xq fr (Xfe, Xfx, Xfy) (Int.toNat (k + 1))).2.1), .ow kF a195 nfy c196 34 ((rsT wd hi wr Xsp Xls Xq fr (Xfe, Xfx, Xfy) (Int.toNat (k + 1))).2.2), .ow kF A1 nfe C1 34 ((rsT wd hi wr Xsp Xls Xq fr (Xfe, Xfx, Xfy) (Int.toNat k)).1), .ow kF A2 nfx C2 34 ((rsT wd hi wr Xsp Xls Xq fr (Xfe, Xfx, Xfy) (Int.toNat k)).2.1), .ow kF A3 nfy C3 34 ((rsT wd hi wr Xsp Xls Xq fr (Xfe, Xfx, Xfy) (Int.toNat k)).2.2), .fam kF 34 allP Z2 (rcj wd hi wr Xsp Xls Xq fr (Xfe, Xfx, Xfy) Xp np k j), .blk b7 [.slice none 0 0, .slice none 0 0, .slice none 0 0] 30, .blk b4 [.slice afe nfe cfe, .slice afx nfx cfx, .slice afy nfy cfy] 30, .blk b1 [.int .i64 wd, .int .i64 hi, .bool wr, .slice asp nsp csp, .slice als nls cls] 26, .rd kF asp nsp Xsp, .rd kF als nls Xls, .rd kF afe nfe Xfe, .rd kF afx nfx Xfx, .rd kF afy nfy Xfy, .rd kS aq nq Xq, .rd kP ap np Xp] ∧ (0 ≤ j) ∧ (j ≤ (np : Int))) (fun ρ' _ => ((np : Int) - iv (ρ' 63)).toNat) ?_ ?_
                · replace B : Bu w no w200 [.ow kF a191 nfe c192 34 ((rsT wd hi wr Xsp Xls Xq fr (Xfe, Xfx, Xfy) (Int.toNat (k + 1))).1), .blk b59 [.slice a191 nfe c192, .slice a193 nfx c194, .slice a195 nfy c196] 30, .ow kF a193 nfx c194 34 ((rsT wd hi wr Xsp Xls Xq fr (Xfe, Xfx, Xfy) (Int.toNat (k + 1))).2.1), .ow kF a195 nfy c196 34 ((rsT wd hi wr Xsp Xls Xq fr (Xfe, Xfx, Xfy) (Int.toNat (k + 1))).2.2), .ow kF A1 nfe C1 34 ((rsT wd hi wr Xsp Xls Xq fr (Xfe, Xfx, Xfy) (Int.toNat k)).1), .ow kF A2 nfx C2 34 ((rsT wd hi wr Xsp Xls Xq fr (Xfe, Xfx, Xfy) (Int.toNat k)).2.1), .ow kF A3 nfy C3 34 ((rsT wd hi wr Xsp Xls Xq fr (Xfe, Xfx, Xfy) (Int.toNat k)).2.2), .ow kL (some ⟨b44, 0, none⟩) ((((np : Nat) : Int)).toNat) ((((np : Nat) : Int)).toNat) 24 Z, .fam kF 34 allP Z (rcj wd hi wr Xsp Xls Xq fr (Xfe, Xfx, Xfy) Xp np k 0), .blk b7 [.slice none 0 0, .slice none 0 0, .slice none 0 0] 30, .blk b4 [.slice afe nfe cfe, .slice afx nfx cfx, .slice afy nfy cfy] 30, .blk b1 [.int .i64 wd, .int .i64 hi, .bool wr, .slice asp nsp csp, .slice als nls cls] 26, .rd kF asp nsp Xsp, .rd kF als nls Xls, .rd kF afe nfe Xfe, .rd kF afx nfx Xfx, .rd kF afy nfy Xfy, .rd kS aq nq Xq, .rd kP ap np Xp] := B.castF 8 rfl rcj_zero
                  exact ⟨_, 0, _, Fits.eq ⟨rfl, rfl, rfl, rfl, rfl, rfl, rfl, rfl, rfl, rfl, rfl, rfl, rfl, rfl, rfl, rfl, rfl, rfl, rfl, rfl, rfl, rfl, rfl, rfl, rfl, trivial⟩, (B.pick [7, 0, 1, 2, 3, 4, 5, 6, 8, 9, 10, 11, 12, 13, 14, 15, 16, 17, 18] rfl rfl), (Int.le_refl _), (by omega)⟩
                · clear B; rintro _ w202 ⟨ρ203, j, Z2, rfl, B, h0j, h1j⟩
                  refine W_seq ?_
                  refine W_region (by kernel_rfl) ?_
                  by_cases c204 : j < ((np : Nat) : Int)
                  · refine s_y (v := .bool true) rfl (y_lss rfl rfl (decide_eq_true c204)) ?_
                    refine s_nil ?_
                    refine W_seq ?_
                    refine W_if_t (by decide) rfl ?_
                    refine W_skip ?_
                    refine W_seq ?_
                    refine W_block ?_
                    refine W_seq ?_
                    refine W_region (by kernel_rfl) ?_
                    refine s_y (v := .int .i64 j) rfl (y_move rfl) ?_
                    obtain ⟨a9, n9, c9, hz9⟩ : ∃ a n c, gl Z2 j = (a, n, c) := ⟨_, _, _, rfl⟩
                    have hzl := (B.o 0 rfl).len
                    have hU205 := Upd.split (B.f 8 rfl) (i := j) h0j (by omega) hz9
                    replace B : Bu w no w202 [.ow kF a9 n9 c9 34 (gl (rcj wd hi wr Xsp Xls Xq fr (Xfe, Xfx, Xfy) Xp np k j) j), .fam kF 34 (butP j) Z2 (rcj wd hi wr Xsp Xls Xq fr (Xfe, Xfx, Xfy) Xp np k j), .ow kL (some ⟨b44, 0, none⟩) ((((np : Nat) : Int)).toNat) ((((np : Nat) : Int)).toNat) 24 Z2, .ow kF a191 nfe c192 34 ((rsT wd hi wr Xsp Xls Xq fr (Xfe, Xfx, Xfy) (Int.toNat (k + 1))).1), .blk b59 [.slice a191 nfe c192, .slice a193 nfx c194, .slice a195 nfy c196] 30, .ow kF a193 nfx c194 34 ((rsT wd hi wr Xsp Xls Xq fr (Xfe, Xfx, Xfy) (Int.toNat (k + 1))).2.1), .ow kF a195 nfy c196 34 ((rsT wd hi wr Xsp Xls Xq fr (Xfe, Xfx, Xfy) (Int.toNat (k + 1))).2.2), .ow kF A1 nfe C1 34 ((rsT wd hi wr Xsp Xls Xq fr (Xfe, Xfx, Xfy) (Int.toNat k)).1), .ow kF A2 nfx C2 34 ((rsT wd hi wr Xsp Xls Xq fr (Xfe, Xfx, Xfy) (Int.toNat k)).2.1), .ow kF A3 nfy C3 34 ((rsT wd hi wr Xsp Xls Xq fr (Xfe, Xfx, Xfy) (Int.toNat k)).2.2), .blk b7 [.slice none 0 0, .slice none 0 0, .slice none 0 0] 30, .blk b4 [.slice afe nfe cfe, .slice afx nfx cfx, .slice afy nfy cfy] 30, .blk b1 [.int .i64 wd, .int .i64 hi, .bool wr, .slice asp nsp csp, .slice als nls cls] 26, .rd kF asp nsp Xsp, .rd kF als nls Xls, .rd kF afe nfe Xfe, .rd kF afx nfx Xfx, .rd kF afy nfy Xfy, .rd kS aq nq Xq, .rd kP ap np Xp] := B.upd [8] rfl hU205
                    clear hU205
                    have hn9 := rcj_len h0j (by omega) (B.o 0 rfl).len
                    have hpc := prB_cell (i := j) hprb h0j (by omega)
                    have hpb := cellB_b hpc
                    refine s_y (v := .pointer (some (sat ap ((j).toNat * 2)))) rfl (y_idx T32.sl_64_63_2 rfl rfl ((B.r 19 rfl).addr (by omega)) (by omega) (by omega)) ?_
                    have hR206 := Rd.atP (B.r 19 rfl) j (by omega) (by omega)
                    refine s_y (v := .agg #[.int .i64 ((gl Xp j).1), .int .i64 ((gl Xp j).2)]) rfl (y_loadR (vs := [.int .i64 ((gl Xp j).1), .int .i64 ((gl Xp j).2)]) T32.agg_63_2 rfl rfl (by decide) hR206) ?_
                    refine s_k rfl (k_allocN (z := (.agg #[.int .i64 0, .int .i64 0])) (cs := [.int .i64 0, .int .i64 0]) T32.zero_63 rfl (fun b207 w208 hN209 => ?_))
                    replace B := B.new1 hN209
                    clear hN209
                    refine s_y (v := .int .i64 j) rfl (y_assign rfl) ?_
                    refine s_k0 rfl (k_stB (v := .agg #[.int .i64 ((gl Xp j).1), .int .i64 ((gl Xp j).2)]) (n := 2) (cs' := [.int .i64 ((gl Xp j).1), .int .i64 ((gl Xp j).2)]) T32.sz_63_2 rfl rfl rfl (B.b 0 rfl) (by simp [Value.cells, Value.oneCell']) (Nat.le_of_ble_eq_true rfl) rfl (fun w210 hU211 => ?_))
                    replace B : Bu w no w210 [.blk b207 [.int .i64 ((gl Xp j).1), .int .i64 ((gl Xp j).2)] 63, .ow kF a9 n9 c9 34 (gl (rcj wd hi wr Xsp Xls Xq fr (Xfe, Xfx, Xfy) Xp np k j) j), .fam kF 34 (butP j) Z2 (rcj wd hi wr Xsp Xls Xq fr (Xfe, Xfx, Xfy) Xp np k j), .ow kL (some ⟨b44, 0, none⟩) ((((np : Nat) : Int)).toNat) ((((np : Nat) : Int)).toNat) 24 Z2, .ow kF a191 nfe c192 34 ((rsT wd hi wr Xsp Xls Xq fr (Xfe, Xfx, Xfy) (Int.toNat (k + 1))).1), .blk b59 [.slice a191 nfe c192, .slice a193 nfx c194, .slice a195 nfy c196] 30, .ow kF a193 nfx c194 34 ((rsT wd hi wr Xsp Xls Xq fr (Xfe, Xfx, Xfy) (Int.toNat (k + 1))).2.1), .ow kF a195 nfy c196 34 ((rsT wd hi wr Xsp Xls Xq fr (Xfe, Xfx, Xfy) (Int.toNat (k + 1))).2.2), .ow kF A1 nfe C1 34 ((rsT wd hi wr Xsp Xls Xq fr (Xfe, Xfx, Xfy) (Int.toNat k)).1), .ow kF A2 nfx C2 34 ((rsT wd hi wr Xsp Xls Xq fr (Xfe, Xfx, Xfy) (Int.toNat k)).2.1), .ow kF A3 nfy C3 34 ((rsT wd hi wr Xsp Xls Xq fr (Xfe, Xfx, Xfy) (Int.toNat k)).2.2), .blk b7 [.slice none 0 0, .slice none 0 0, .slice none 0 0] 30, .blk b4 [.slice afe nfe cfe, .slice afx nfx cfx, .slice afy nfy cfy] 30, .blk b1 [.int .i64 wd, .int .i64 hi, .bool wr, .slice asp nsp csp, .slice als nls cls] 26, .rd kF asp nsp Xsp, .rd kF als nls Xls, .rd kF afe nfe Xfe, .rd kF afx nfx Xfx, .rd kF afy nfy Xfy, .rd kS aq nq Xq, .rd kP ap np Xp] := B.upd [0] rfl hU211
                    clear hU211
                    refine s_nil ?_
                    have B0_216 := B
                    refine W_draw (inA a9) T32.mx (by kernel_rfl) (fun w214 e215 => ?_)
                    have R217 := Ext.refl (inA a9) w210
                    replace R217 := R217.trans (Ext0.any e215)
                    replace B := B.ext0 e215
                    clear e215
                    refine m_y (v := .slice (some ⟨b44, 0, none⟩) ((((np : Nat) : Int)).toNat) ((((np : Nat) : Int)).toNat)) 0 rfl (by kernel_rfl) rfl rfl (fun w' e' => y_move rfl) ?_
                    refine m_y (v := .int .i64 j) 1 rfl (by kernel_rfl) rfl rfl (fun w' e' => y_move rfl) ?_
                    refine m_y (v := .slice (some ⟨b44, 0, none⟩) ((((np : Nat) : Int)).toNat) ((((np : Nat) : Int)).toNat)) 2 rfl (by kernel_rfl) rfl rfl (fun w' e' => y_move rfl) ?_
                    refine m_y (v := .int .i64 j) 3 rfl (by kernel_rfl) rfl rfl (fun w' e' => y_move rfl) ?_
                    refine m_y (v := .pointer (some (sat (some ⟨b44, 0, none⟩) ((j).toNat * 1)))) 4 rfl (by kernel_rfl) rfl rfl (fun w' e' => y_idx T32.sl_59_24_1 rfl rfl ((B.o 3 rfl).rd.addr (by omega)) (by omega) (by omega)) ?_
                    have hR218 := Rd.atL (B0_216.o 3 rfl).rd j (by omega) (by omega) hz9
                    refine m_y (v := .slice a9 n9 c9) 5 rfl (by kernel_rfl) rfl rfl (fun w' e' => y_load T32.one_24 rfl ((B0_216.rowo 3 1 rfl rfl rfl rfl hR218 e' (fun _ h => h)).cell (i := 0) rfl)) ?_
                    refine m_y (v := .pointer (some ⟨b59, 0, none⟩)) 6 rfl (by kernel_rfl) rfl rfl (fun w' e' => y_fld (o := 0) T32.fld_30_0_0 rfl) ?_
                    refine m_y (v := .slice a191 nfe c192) 7 rfl (by kernel_rfl) rfl rfl (fun w' e' => y_load T32.one_24 rfl ((B0_216.bx 5 1 rfl rfl rfl rfl e' (fun _ h => h)).cell (j := 0) rfl)) ?_
                    refine m_y (v := .agg #[.int .i64 wd, .int .i64 hi, .bool wr, .slice asp nsp csp, .slice als nls cls]) 8 rfl (by kernel_rfl) rfl rfl (fun w' e' => y_loadn (b := b1) (o := 0) (vs := [.int .i64 wd, .int .i64 hi, .bool wr, .slice asp nsp csp, .slice als nls cls]) T32.agg_26_5 rfl rfl ((B0_216.bx 13 1 rfl rfl rfl rfl e' (fun _ h => h)).cells (o := 0) rfl)) ?_
                    refine m_y (v := .pointer (some ⟨b207, 0, none⟩)) 9 rfl (by kernel_rfl) rfl rfl (fun w' e' => y_fld (o := 0) T32.fld_63_0_0 rfl) ?_
                    refine m_y (v := .int .i64 ((gl Xp j).1)) 10 rfl (by kernel_rfl) rfl rfl (fun w' e' => y_load T32.one_2 rfl ((B0_216.bx 0 1 rfl rfl rfl rfl e' (fun _ h => h)).cell (j := 0) rfl)) ?_
                    refine m_y (v := .pointer (some ⟨b207, 1, none⟩)) 11 rfl (by kernel_rfl) rfl rfl (fun w' e' => y_fld (o := 0) T32.fld_63_1_1 rfl) ?_
                    refine m_y (v := .int .i64 ((gl Xp j).2)) 12 rfl (by kernel_rfl) rfl rfl (fun w' e' => y_load T32.one_2 rfl ((B0_216.bx 0 1 rfl rfl rfl rfl e' (fun _ h => h)).cell (j := 1) rfl)) ?_
                    refine m_k 13 [14, 15, 16, 17, 18, 19] rfl (by kernel_rfl) rfl rfl (fun w219 e220 => ?_)
                    replace R217 := R217.trans (Ext0.any e220)
                    replace B := B.ext0 e220
                    clear e220
                    refine k_call T32.fn_69 (c_i_at (by omega) (by omega) (by omega) (by omega) (by omega) (by omega) (by omega) (by omega)) rfl ?_
                    rintro _ w221 ⟨rfl, e222⟩
                    replace R217 := R217.trans (Ext0.any e222)
                    replace B := B.ext0 e222
                    clear e222
                    refine ⟨fun _ => R217, ?_⟩
                    have hat223 := atI_b (wd := wd) (hi := hi) (x := (gl Xp j).1) (y := (gl Xp j).2) (by omega) (by omega)
                    refine m_y (v := .pointer (some (sat a191 ((atI wd hi ((gl Xp j).1) ((gl Xp j).2)).toNat * 1)))) 14 rfl (by kernel_rfl) rfl rfl (fun w' e' => y_idx T32.sl_24_34_1 rfl rfl ((B.o 4 rfl).rd.addr (by omega)) (by omega) (by omega)) ?_
                    obtain ⟨r225, hr226, hR224⟩ := Rd.atF (B0_216.o 4 rfl).rd (atI wd hi ((gl Xp j).1) ((gl Xp j).2)) (by omega) (by omega)
                    refine m_y (v := .float .f32 r225) 15 rfl (by kernel_rfl) rfl rfl (fun w' e' => y_load T32.one_34 rfl ((B0_216.rowo 4 1 rfl rfl rfl rfl hR224 e' (fun _ h => h)).cell (i := 0) rfl)) ?_
                    refine m_k 16 [17, 18, 19] rfl (by kernel_rfl) rfl rfl (fun w230 e231 => ?_)
                    replace R217 := R217.trans (Ext0.any e231)
                    replace B := B.ext0 e231
                    clear e231
                    refine k_bsliceO (k := kF) (n := 1) (cells := #[.float .f32 r225]) (X := [el ((rsT wd hi wr Xsp Xls Xq fr (Xfe, Xfx, Xfy) (Int.toNat (k + 1))).1) (atI wd hi ((gl Xp j).1) ((gl Xp j).2))]) T32.slt_24 (by decide) (by first | rfl | kernel_rfl) (reps_cons (c := [.float .f32 r225]) ⟨_, rfl, hr226⟩ (rfl : Reps kF [] [])) rfl (fun b227 w228 hN229 => ?_)
                    replace R217 := R217.trans (Ext0.any hN229.ext)
                    replace B := B.new1 hN229
                    clear hN229
                    refine ⟨fun _ => R217, ?_⟩
                    refine m_k 17 [18, 19] rfl (by kernel_rfl) rfl rfl (fun w236 e237 => ?_)
                    replace R217 := R217.trans (Ext0.any e237)
                    replace B := B.ext0 e237
                    clear e237
                    refine k_appO (k := kF) T32.slt_24 rfl rfl rfl (B.o 2 rfl) (B.o 0 rfl).rd (by omega) (by unfold maxLen; omega) (fun a232 c233 w234 hU235 => ?_)
                    replace R217 := R217.trans hU235.atA
                    replace B : Bu w no w234 [.ow kF a232 (n9 + 1) c233 34 ((gl (rcj wd hi wr Xsp Xls Xq fr (Xfe, Xfx, Xfy) Xp np k j) j) ++ ([el ((rsT wd hi wr Xsp Xls Xq fr (Xfe, Xfx, Xfy) (Int.toNat (k + 1))).1) (atI wd hi ((gl Xp j).1) ((gl Xp j).2))])), .ow kF (some ⟨b227, 0, none⟩) 1 1 34 ([el ((rsT wd hi wr Xsp Xls Xq fr (Xfe, Xfx, Xfy) (Int.toNat (k + 1))).1) (atI wd hi ((gl Xp j).1) ((gl Xp j).2))]), .blk b207 [.int .i64 ((gl Xp j).1), .int .i64 ((gl Xp j).2)] 63, .fam kF 34 (butP j) Z2 (rcj wd hi wr Xsp Xls Xq fr (Xfe, Xfx, Xfy) Xp np k j), .ow kL (some ⟨b44, 0, none⟩) ((((np : Nat) : Int)).toNat) ((((np : Nat) : Int)).toNat) 24 Z2, .ow kF a191 nfe c192 34 ((rsT wd hi wr Xsp Xls Xq fr (Xfe, Xfx, Xfy) (Int.toNat (k + 1))).1), .blk b59 [.slice a191 nfe c192, .slice a193 nfx c194, .slice a195 nfy c196] 30, .ow kF a193 nfx c194 34 ((rsT wd hi wr Xsp Xls Xq fr (Xfe, Xfx, Xfy) (Int.toNat (k + 1))).2.1), .ow kF a195 nfy c196 34 ((rsT wd hi wr Xsp Xls Xq fr (Xfe, Xfx, Xfy) (Int.toNat (k + 1))).2.2), .ow kF A1 nfe C1 34 ((rsT wd hi wr Xsp Xls Xq fr (Xfe, Xfx, Xfy) (Int.toNat k)).1), .ow kF A2 nfx C2 34 ((rsT wd hi wr Xsp Xls Xq fr (Xfe, Xfx, Xfy) (Int.toNat k)).2.1), .ow kF A3 nfy C3 34 ((rsT wd hi wr Xsp Xls Xq fr (Xfe, Xfx, Xfy) (Int.toNat k)).2.2), .blk b7 [.slice none 0 0, .slice none 0 0, .slice none 0 0] 30, .blk b4 [.slice afe nfe cfe, .slice afx nfx cfx, .slice afy nfy cfy] 30, .blk b1 [.int .i64 wd, .int .i64 hi, .bool wr, .slice asp nsp csp, .slice als nls cls] 26, .rd kF asp nsp Xsp, .rd kF als nls Xls, .rd kF afe nfe Xfe, .rd kF afx nfx Xfx, .rd kF afy nfy Xfy, .rd kS aq nq Xq, .rd kP ap np Xp] := B.upd [2] rfl hU235
                    clear hU235
                    refine ⟨fun _ => R217, ?_⟩
                    refine m_y (v := .pointer (some (sat (some ⟨b44, 0, none⟩) ((j).toNat * 1)))) 18 rfl (by kernel_rfl) rfl rfl (fun w' e' => y_idx T32.sl_59_24_1 rfl rfl ((B.o 4 rfl).rd.addr (by omega)) (by omega) (by omega)) ?_
                    refine m_kt 19 [] rfl (by kernel_rfl) rfl rfl (by kernel_rfl) (fun w240 e241 => ?_)
                    replace R217 := R217.trans (Ext0.any e241)
                    replace B := B.ext0 e241
                    clear e241
                    refine k_stO (k := kL) (i := j) (j := 0) (x' := (a232, n9 + 1, c233)) (new := [.slice a232 (n9 + 1) c233]) T32.sz_24_1 rfl rfl rfl rfl rfl (by simp [Value.oneCell']) (by decide) (B.o 4 rfl) (by omega) (by omega) (by decide) (by rintro q rfl; rfl) (fun w238 hU239 => ?_)
                    clear R217
                    replace B : Bu w no w238 [.ow kL (some ⟨b44, 0, none⟩) ((((np : Nat) : Int)).toNat) ((((np : Nat) : Int)).toNat) 24 (pl Z2 j (a232, n9 + 1, c233)), .ow kF a232 (n9 + 1) c233 34 ((gl (rcj wd hi wr Xsp Xls Xq fr (Xfe, Xfx, Xfy) Xp np k j) j) ++ ([el ((rsT wd hi wr Xsp Xls Xq fr (Xfe, Xfx, Xfy) (Int.toNat (k + 1))).1) (atI wd hi ((gl Xp j).1) ((gl Xp j).2))])), .ow kF (some ⟨b227, 0, none⟩) 1 1 34 ([el ((rsT wd hi wr Xsp Xls Xq fr (Xfe, Xfx, Xfy) (Int.toNat (k + 1))).1) (atI wd hi ((gl Xp j).1) ((gl Xp j).2))]), .blk b207 [.int .i64 ((gl Xp j).1), .int .i64 ((gl Xp j).2)] 63, .fam kF 34 (butP j) Z2 (rcj wd hi wr Xsp Xls Xq fr (Xfe, Xfx, Xfy) Xp np k j), .ow kF a191 nfe c192 34 ((rsT wd hi wr Xsp Xls Xq fr (Xfe, Xfx, Xfy) (Int.toNat (k + 1))).1), .blk b59 [.slice a191 nfe c192, .slice a193 nfx c194, .slice a195 nfy c196] 30, .ow kF a193 nfx c194 34 ((rsT wd hi wr Xsp Xls Xq fr (Xfe, Xfx, Xfy) (Int.toNat (k + 1))).2.1), .ow kF a195 nfy c196 34 ((rsT wd hi wr Xsp Xls Xq fr (Xfe, Xfx, Xfy) (Int.toNat (k + 1))).2.2), .ow kF A1 nfe C1 34 ((rsT wd hi wr Xsp Xls Xq fr (Xfe, Xfx, Xfy) (Int.toNat k)).1), .ow kF A2 nfx C2 34 ((rsT wd hi wr Xsp Xls Xq fr (Xfe, Xfx, Xfy) (Int.toNat k)).2.1), .ow kF A3 nfy C3 34 ((rsT wd hi wr Xsp Xls Xq fr (Xfe, Xfx, Xfy) (Int.toNat k)).2.2), .blk b7 [.slice none 0 0, .slice none 0 0, .slice none 0 0] 30, .blk b4 [.slice afe nfe cfe, .slice afx nfx cfx, .slice afy nfy cfy] 30, .blk b1 [.int .i64 wd, .int .i64 hi, .bool wr, .slice asp nsp csp, .slice als nls cls] 26, .rd kF asp nsp Xsp, .rd kF als nls Xls, .rd kF afe nfe Xfe, .rd kF afx nfx Xfx, .rd kF afy nfy Xfy, .rd kS aq nq Xq, .rd kP ap np Xp] := B.upd [4] rfl hU239
                    clear hU239
                    refine m_done (by kernel_rfl) (fun w242 e243 => ?_)
                    replace B := B.ext0 e243
                    clear e243
                    clear B0_216
                    refine W_region (by kernel_rfl) ?_
                    refine s_y (v := .int .i64 (j + 1)) rfl (y_add rfl rfl rfl (by omega)) ?_
                    refine s_y (v := .int .i64 (j + 1)) rfl (y_move rfl) ?_
                    refine s_nil ?_
                    have hU244 := Upd.join B 1 4 rfl rfl rfl
                    replace B : Bu w no w242 [.fam kF 34 allP (pl Z2 j (a232, n9 + 1, c233)) (pl (rcj wd hi wr Xsp Xls Xq fr (Xfe, Xfx, Xfy) Xp np k j) j ((gl (rcj wd hi wr Xsp Xls Xq fr (Xfe, Xfx, Xfy) Xp np k j) j) ++ ([el ((rsT wd hi wr Xsp Xls Xq fr (Xfe, Xfx, Xfy) (Int.toNat (k + 1))).1) (atI wd hi ((gl Xp j).1) ((gl Xp j).2))]))), .ow kL (some ⟨b44, 0, none⟩) ((((np : Nat) : Int)).toNat) ((((np : Nat) : Int)).toNat) 24 (pl Z2 j (a232, n9 + 1, c233)), .ow kF (some ⟨b227, 0, none⟩) 1 1 34 ([el ((rsT wd hi wr Xsp Xls Xq fr (Xfe, Xfx, Xfy) (Int.toNat (k + 1))).1) (atI wd hi ((gl Xp j).1) ((gl Xp j).2))]), .blk b207 [.int .i64 ((gl Xp j).1), .int .i64 ((gl Xp j).2)] 63, .ow kF a191 nfe c192 34 ((rsT wd hi wr Xsp Xls Xq fr (Xfe, Xfx, Xfy) (Int.toNat (k + 1))).1), .blk b59 [.slice a191 nfe c192, .slice a193 nfx c194, .slice a195 nfy c196] 30, .ow kF a193 nfx c194 34 ((rsT wd hi wr Xsp Xls Xq fr (Xfe, Xfx, Xfy) (Int.toNat (k + 1))).2.1), .ow kF a195 nfy c196 34 ((rsT wd hi wr Xsp Xls Xq fr (Xfe, Xfx, Xfy) (Int.toNat (k + 1))).2.2), .ow kF A1 nfe C1 34 ((rsT wd hi wr Xsp Xls Xq fr (Xfe, Xfx, Xfy) (Int.toNat k)).1), .ow kF A2 nfx C2 34 ((rsT wd hi wr Xsp Xls Xq fr (Xfe, Xfx, Xfy) (Int.toNat k)).2.1), .ow kF A3 nfy C3 34 ((rsT wd hi wr Xsp Xls Xq fr (Xfe, Xfx, Xfy) (Int.toNat k)).2.2), .blk b7 [.slice none 0 0, .slice none 0 0, .slice none 0 0] 30, .blk b4 [.slice afe nfe cfe, .slice afx nfx cfx, .slice afy nfy cfy] 30, .blk b1 [.int .i64 wd, .int .i64 hi, .bool wr, .slice asp nsp csp, .slice als nls cls] 26, .rd kF asp nsp Xsp, .rd kF als nls Xls, .rd kF afe nfe Xfe, .rd kF afx nfx Xfx, .rd kF afy nfy Xfy, .rd kS aq nq Xq, .rd kP ap np Xp] := B.upd [1, 4] rfl hU244
                    clear hU244
                    replace B : Bu w no w242 [.fam kF 34 allP (pl Z2 j (a232, n9 + 1, c233)) (rcj wd hi wr Xsp Xls Xq fr (Xfe, Xfx, Xfy) Xp np k (j + 1)), .ow kL (some ⟨b44, 0, none⟩) ((((np : Nat) : Int)).toNat) ((((np : Nat) : Int)).toNat) 24 (pl Z2 j (a232, n9 + 1, c233)), .ow kF (some ⟨b227, 0, none⟩) 1 1 34 ([el ((rsT wd hi wr Xsp Xls Xq fr (Xfe, Xfx, Xfy) (Int.toNat (k + 1))).1) (atI wd hi ((gl Xp j).1) ((gl Xp j).2))]), .blk b207 [.int .i64 ((gl Xp j).1), .int .i64 ((gl Xp j).2)] 63, .ow kF a191 nfe c192 34 ((rsT wd hi wr Xsp Xls Xq fr (Xfe, Xfx, Xfy) (Int.toNat (k + 1))).1), .blk b59 [.slice a191 nfe c192, .slice a193 nfx c194, .slice a195 nfy c196] 30, .ow kF a193 nfx c194 34 ((rsT wd hi wr Xsp Xls Xq fr (Xfe, Xfx, Xfy) (Int.toNat (k + 1))).2.1), .ow kF a195 nfy c196 34 ((rsT wd hi wr Xsp Xls Xq fr (Xfe, Xfx, Xfy) (Int.toNat (k + 1))).2.2), .ow kF A1 nfe C1 34 ((rsT wd hi wr Xsp Xls Xq fr (Xfe, Xfx, Xfy) (Int.toNat k)).1), .ow kF A2 nfx C2 34 ((rsT wd hi wr Xsp Xls Xq fr (Xfe, Xfx, Xfy) (Int.toNat k)).2.1), .ow kF A3 nfy C3 34 ((rsT wd hi wr Xsp Xls Xq fr (Xfe, Xfx, Xfy) (Int.toNat k)).2.2), .blk b7 [.slice none 0 0, .slice none 0 0, .slice none 0 0] 30, .blk b4 [.slice afe nfe cfe, .slice afx nfx cfx, .slice afy nfy cfy] 30, .blk b1 [.int .i64 wd, .int .i64 hi, .bool wr, .slice asp nsp csp, .slice als nls cls] 26, .rd kF asp nsp Xsp, .rd kF als nls Xls, .rd kF afe nfe Xfe, .rd kF afx nfx Xfx, .rd kF afy nfy Xfy, .rd kS aq nq Xq, .rd kP ap np Xp] := B.castF 0 rfl (rcj_step h0k h0j (by omega) rfl)
                    refine ⟨⟨_, j + 1, _, Fits.eq ⟨rfl, rfl, rfl, rfl, rfl, rfl, rfl, rfl, rfl, rfl, rfl, rfl, rfl, rfl, rfl, rfl, rfl, rfl, rfl, rfl, rfl, rfl, rfl, rfl, rfl, trivial⟩, (B.pick [1, 4, 5, 6, 7, 8, 9, 10, 0, 11, 12, 13, 14, 15, 16, 17, 18, 19, 20] rfl rfl), (by omega), (by omega)⟩, ?_⟩
                    show ((np : Int) - (j + 1)).toNat < ((np : Int) - j).toNat
                    omega
                  · refine s_y (v := .bool false) rfl (y_lss rfl rfl (decide_eq_false c204)) ?_
                    refine s_nil ?_
                    refine W_seq ?_
                    refine W_if_f (by decide) rfl ?_
                    refine W_exit ?_
                    replace B : Bu w no w202 [.ow kL (some ⟨b44, 0, none⟩) ((((np : Nat) : Int)).toNat) ((((np : Nat) : Int)).toNat) 24 Z2, .ow kF a191 nfe c192 34 ((rsT wd hi wr Xsp Xls Xq fr (Xfe, Xfx, Xfy) (Int.toNat (k + 1))).1), .blk b59 [.slice a191 nfe c192, .slice a193 nfx c194, .slice a195 nfy c196] 30, .ow kF a193 nfx c194 34 ((rsT wd hi wr Xsp Xls Xq fr (Xfe, Xfx, Xfy) (Int.toNat (k + 1))).2.1), .ow kF a195 nfy c196 34 ((rsT wd hi wr Xsp Xls Xq fr (Xfe, Xfx, Xfy) (Int.toNat (k + 1))).2.2), .ow kF A1 nfe C1 34 ((rsT wd hi wr Xsp Xls Xq fr (Xfe, Xfx, Xfy) (Int.toNat k)).1), .ow kF A2 nfx C2 34 ((rsT wd hi wr Xsp Xls Xq fr (Xfe, Xfx, Xfy) (Int.toNat k)).2.1), .ow kF A3 nfy C3 34 ((rsT wd hi wr Xsp Xls Xq fr (Xfe, Xfx, Xfy) (Int.toNat k)).2.2), .fam kF 34 allP Z2 (rcs wd hi wr Xsp Xls Xq fr (Xfe, Xfx, Xfy) Xp np (k + 1)), .blk b7 [.slice none 0 0, .slice none 0 0, .slice none 0 0] 30, .blk b4 [.slice afe nfe cfe, .slice afx nfx cfx, .slice afy nfy cfy] 30, .blk b1 [.int .i64 wd, .int .i64 hi, .bool wr, .slice asp nsp csp, .slice als nls cls] 26, .rd kF asp nsp Xsp, .rd kF als nls Xls, .rd kF afe nfe Xfe, .rd kF afx nfx Xfx, .rd kF afy nfy Xfy, .rd kS aq nq Xq, .rd kP ap np Xp] := B.castF 8 rfl (rcj_end (by omega))
                    refine W_region (by kernel_rfl) ?_
                    refine s_y (v := .int .i64 (k + 1)) rfl (y_add rfl rfl rfl (by omega)) ?_
                    refine s_y (v := .int .i64 (k + 1)) rfl (y_move rfl) ?_
                    refine s_nil ?_
                    refine ⟨⟨_, k + 1, a191, a193, a195, c192, c194, c196, _, Fits.eq ⟨rfl, rfl, rfl, rfl, rfl, rfl, rfl, rfl, rfl, rfl, rfl, trivial⟩, (B.pick [1, 3, 4, 0, 8, 2, 9, 10, 11, 12, 13, 14, 15, 16, 17, 18] rfl rfl), (by omega), (by omega)⟩, ?_⟩
                    show (ct - (k + 1)).toNat < (ct - k).toNat
                    omega
              · refine s_y (v := .bool false) rfl (y_lss rfl rfl (decide_eq_false c189)) ?_
                refine s_nil ?_
                refine W_seq ?_
                refine W_if_f (by decide) rfl ?_
                refine W_exit ?_
                have hkc : k = ct := by omega
                refine W_seq ?_
                have B0_249 := B
                refine W_draw (at1 b7) T32.mx (by kernel_rfl) (fun w247 e248 => ?_)
                have R250 := Ext.refl (at1 b7) w187
                replace R250 := R250.trans (Ext0.any e248)
                replace B := B.ext0 e248
                clear e248
                refine m_y (v := .slice (some ⟨b44, 0, none⟩) ((((np : Nat) : Int)).toNat) ((((np : Nat) : Int)).toNat)) 0 rfl (by kernel_rfl) rfl rfl (fun w' e' => y_move rfl) ?_
                refine m_y (v := .agg #[.slice A1 nfe C1, .slice A2 nfx C2, .slice A3 nfy C3]) 1 rfl (by kernel_rfl) rfl rfl (fun w' e' => y_loadn (b := b59) (o := 0) (vs := [.slice A1 nfe C1, .slice A2 nfx C2, .slice A3 nfy C3]) T32.agg_30_3 rfl rfl ((B0_249.bx 5 6 rfl rfl rfl rfl e' (fun _ h => h)).cells (o := 0) rfl)) ?_
                refine m_y (v := .slice (some ⟨b44, 0, none⟩) ((((np : Nat) : Int)).toNat) ((((np : Nat) : Int)).toNat)) 2 rfl (by kernel_rfl) rfl rfl (fun w' e' => y_assign rfl) ?_
                refine m_k 3 [4] rfl (by kernel_rfl) rfl rfl (fun w253 e254 => ?_)
                replace R250 := R250.trans (Ext0.any e254)
                replace B := B.ext0 e254
                clear e254
                refine k_stB (v := .agg #[.slice A1 nfe C1, .slice A2 nfx C2, .slice A3 nfy C3]) (n := 3) (cs' := [.slice A1 nfe C1, .slice A2 nfx C2, .slice A3 nfy C3]) T32.sz_30_3 rfl rfl rfl (B.b 6 rfl) (by simp [Value.cells, Value.oneCell']) (Nat.le_of_ble_eq_true rfl) rfl (fun w251 hU252 => ?_)
                replace R250 := R250.trans hU252.at1
                replace B : Bu w no w251 [.blk b7 [.slice A1 nfe C1, .slice A2 nfx C2, .slice A3 nfy C3] 30, .ow kF A1 nfe C1 34 ((rsT wd hi wr Xsp Xls Xq fr (Xfe, Xfx, Xfy) (Int.toNat k)).1), .ow kF A2 nfx C2 34 ((rsT wd hi wr Xsp Xls Xq fr (Xfe, Xfx, Xfy) (Int.toNat k)).2.1), .ow kF A3 nfy C3 34 ((rsT wd hi wr Xsp Xls Xq fr (Xfe, Xfx, Xfy) (Int.toNat k)).2.2), .ow kL (some ⟨b44, 0, none⟩) ((((np : Nat) : Int)).toNat) ((((np : Nat) : Int)).toNat) 24 Z, .fam kF 34 allP Z (rcs wd hi wr Xsp Xls Xq fr (Xfe, Xfx, Xfy) Xp np k), .blk b59 [.slice A1 nfe C1, .slice A2 nfx C2, .slice A3 nfy C3] 30, .blk b4 [.slice afe nfe cfe, .slice afx nfx cfx, .slice afy nfy cfy] 30, .blk b1 [.int .i64 wd, .int .i64 hi, .bool wr, .slice asp nsp csp, .slice als nls cls] 26, .rd kF asp nsp Xsp, .rd kF als nls Xls, .rd kF afe nfe Xfe, .rd kF afx nfx Xfx, .rd kF afy nfy Xfy, .rd kS aq nq Xq, .rd kP ap np Xp] := B.upd [6] rfl hU252
                clear hU252
                refine ⟨fun _ => R250, ?_⟩
                refine m_y (v := .bool true) 4 rfl (by kernel_rfl) rfl rfl (fun w' e' => y_assign rfl) ?_
                refine m_done (by kernel_rfl) (fun w255 e256 => ?_)
                replace B := B.ext0 e256
                clear e256
                clear B0_249 R250
                refine W_ret ?_
                refine ret3 (v1 := .slice (some ⟨b44, 0, none⟩) ((((np : Nat) : Int)).toNat) ((((np : Nat) : Int)).toNat)) (v2 := .agg #[.slice A1 nfe C1, .slice A2 nfx C2, .slice A3 nfy C3]) (v3 := .bool true) rfl rfl rfl rfl rfl ⟨_, [.slice A1 nfe C1, .slice A2 nfx C2, .slice A3 nfy C3], _, rfl, (B.b 0 rfl), T32.agg_30_3, rfl⟩ rfl ⟨_, rfl, ?_⟩
                have hcond : rsB wd hi wr Xsp Xls Xfe Xfx Xfy Xq Xp fr ct = true := by simp only [rsB, c14, c20, c26, c32, (decide_eq_false c189), Bool.and_true, Bool.true_and, Bool.and_false, Bool.false_and, Bool.not_true, Bool.not_false, Bool.or_true, Bool.true_or, Bool.or_false, Bool.false_or]
                replace B : Bu w no w255 [.blk b7 [.slice A1 nfe C1, .slice A2 nfx C2, .slice A3 nfy C3] 30, .ow kF A1 nfe C1 34 ((rsT wd hi wr Xsp Xls Xq fr (Xfe, Xfx, Xfy) (Int.toNat ct)).1), .ow kF A2 nfx C2 34 ((rsT wd hi wr Xsp Xls Xq fr (Xfe, Xfx, Xfy) (Int.toNat k)).2.1), .ow kF A3 nfy C3 34 ((rsT wd hi wr Xsp Xls Xq fr (Xfe, Xfx, Xfy) (Int.toNat k)).2.2), .ow kL (some ⟨b44, 0, none⟩) ((((np : Nat) : Int)).toNat) ((((np : Nat) : Int)).toNat) 24 Z, .fam kF 34 allP Z (rcs wd hi wr Xsp Xls Xq fr (Xfe, Xfx, Xfy) Xp np k), .blk b59 [.slice A1 nfe C1, .slice A2 nfx C2, .slice A3 nfy C3] 30, .blk b4 [.slice afe nfe cfe, .slice afx nfx cfx, .slice afy nfy cfy] 30, .blk b1 [.int .i64 wd, .int .i64 hi, .bool wr, .slice asp nsp csp, .slice als nls cls] 26, .rd kF asp nsp Xsp, .rd kF als nls Xls, .rd kF afe nfe Xfe, .rd kF afx nfx Xfx, .rd kF afy nfy Xfy, .rd kS aq nq Xq, .rd kP ap np Xp] := B.castX 1 rfl rfl (congrArg (fun q => (rsT wd hi wr Xsp Xls Xq fr (Xfe, Xfx, Xfy) (Int.toNat q)).1) hkc)
                replace B : Bu w no w255 [.blk b7 [.slice A1 nfe C1, .slice A2 nfx C2, .slice A3 nfy C3] 30, .ow kF A1 nfe C1 34 ((rsT wd hi wr Xsp Xls Xq fr (Xfe, Xfx, Xfy) (Int.toNat ct)).1), .ow kF A2 nfx C2 34 ((rsT wd hi wr Xsp Xls Xq fr (Xfe, Xfx, Xfy) (Int.toNat ct)).2.1), .ow kF A3 nfy C3 34 ((rsT wd hi wr Xsp Xls Xq fr (Xfe, Xfx, Xfy) (Int.toNat k)).2.2), .ow kL (some ⟨b44, 0, none⟩) ((((np : Nat) : Int)).toNat) ((((np : Nat) : Int)).toNat) 24 Z, .fam kF 34 allP Z (rcs wd hi wr Xsp Xls Xq fr (Xfe, Xfx, Xfy) Xp np k), .blk b59 [.slice A1 nfe C1, .slice A2 nfx C2, .slice A3 nfy C3] 30, .blk b4 [.slice afe nfe cfe, .slice afx nfx cfx, .slice afy nfy cfy] 30, .blk b1 [.int .i64 wd, .int .i64 hi, .bool wr, .slice asp nsp csp, .slice als nls cls] 26, .rd kF asp nsp Xsp, .rd kF als nls Xls, .rd kF afe nfe Xfe, .rd kF afx nfx Xfx, .rd kF afy nfy Xfy, .rd kS aq nq Xq, .rd kP ap np Xp] := B.castX 2 rfl rfl (congrArg (fun q => (rsT wd hi wr Xsp Xls Xq fr (Xfe, Xfx, Xfy) (Int.toNat q)).2.1) hkc)
                replace B : Bu w no w255 [.blk b7 [.slice A1 nfe C1, .slice A2 nfx C2, .slice A3 nfy C3] 30, .ow kF A1 nfe C1 34 ((rsT wd hi wr Xsp Xls Xq fr (Xfe, Xfx, Xfy) (Int.toNat ct)).1), .ow kF A2 nfx C2 34 ((rsT wd hi wr Xsp Xls Xq fr (Xfe, Xfx, Xfy) (Int.toNat ct)).2.1), .ow kF A3 nfy C3 34 ((rsT wd hi wr Xsp Xls Xq fr (Xfe, Xfx, Xfy) (Int.toNat ct)).2.2), .ow kL (some ⟨b44, 0, none⟩) ((((np : Nat) : Int)).toNat) ((((np : Nat) : Int)).toNat) 24 Z, .fam kF 34 allP Z (rcs wd hi wr Xsp Xls Xq fr (Xfe, Xfx, Xfy) Xp np k), .blk b59 [.slice A1 nfe C1, .slice A2 nfx C2, .slice A3 nfy C3] 30, .blk b4 [.slice afe nfe cfe, .slice afx nfx cfx, .slice afy nfy cfy] 30, .blk b1 [.int .i64 wd, .int .i64 hi, .bool wr, .slice asp nsp csp, .slice als nls cls] 26, .rd kF asp nsp Xsp, .rd kF als nls Xls, .rd kF afe nfe Xfe, .rd kF afx nfx Xfx, .rd kF afy nfy Xfy, .rd kS aq nq Xq, .rd kP ap np Xp] := B.castX 3 rfl rfl (congrArg (fun q => (rsT wd hi wr Xsp Xls Xq fr (Xfe, Xfx, Xfy) (Int.toNat q)).2.2) hkc)
                replace B : Bu w no w255 [.blk b7 [.slice A1 nfe C1, .slice A2 nfx C2, .slice A3 nfy C3] 30, .ow kF A1 nfe C1 34 ((rsT wd hi wr Xsp Xls Xq fr (Xfe, Xfx, Xfy) (Int.toNat ct)).1), .ow kF A2 nfx C2 34 ((rsT wd hi wr Xsp Xls Xq fr (Xfe, Xfx, Xfy) (Int.toNat ct)).2.1), .ow kF A3 nfy C3 34 ((rsT wd hi wr Xsp Xls Xq fr (Xfe, Xfx, Xfy) (Int.toNat ct)).2.2), .ow kL (some ⟨b44, 0, none⟩) ((((np : Nat) : Int)).toNat) ((((np : Nat) : Int)).toNat) 24 Z, .fam kF 34 allP Z (rcs wd hi wr Xsp Xls Xq fr (Xfe, Xfx, Xfy) Xp np ct), .blk b59 [.slice A1 nfe C1, .slice A2 nfx C2, .slice A3 nfy C3] 30, .blk b4 [.slice afe nfe cfe, .slice afx nfx cfx, .slice afy nfy cfy] 30, .blk b1 [.int .i64 wd, .int .i64 hi, .bool wr, .slice asp nsp csp, .slice als nls cls] 26, .rd kF asp nsp Xsp, .rd kF als nls Xls, .rd kF afe nfe Xfe, .rd kF afx nfx Xfx, .rd kF afy nfy Xfy, .rd kS aq nq Xq, .rd kP ap np Xp] := B.castF 5 rfl (congrArg (rcs wd hi wr Xsp Xls Xq fr (Xfe, Xfx, Xfy) Xp np) hkc)
                replace B : Bu w no w255 [.blk b7 [.slice A1 nfe C1, .slice A2 nfx C2, .slice A3 nfy C3] 30, .ow kF A1 nfe C1 34 ((rsT wd hi wr Xsp Xls Xq fr (Xfe, Xfx, Xfy) (Int.toNat ct)).1), .ow kF A2 nfx C2 34 ((rsT wd hi wr Xsp Xls Xq fr (Xfe, Xfx, Xfy) (Int.toNat ct)).2.1), .ow kF A3 nfy C3 34 ((rsT wd hi wr Xsp Xls Xq fr (Xfe, Xfx, Xfy) (Int.toNat ct)).2.2), .ow kL (some ⟨b44, 0, none⟩) np ((((np : Nat) : Int)).toNat) 24 Z, .fam kF 34 allP Z (rcs wd hi wr Xsp Xls Xq fr (Xfe, Xfx, Xfy) Xp np ct), .blk b59 [.slice A1 nfe C1, .slice A2 nfx C2, .slice A3 nfy C3] 30, .blk b4 [.slice afe nfe cfe, .slice afx nfx cfx, .slice afy nfy cfy] 30, .blk b1 [.int .i64 wd, .int .i64 hi, .bool wr, .slice asp nsp csp, .slice als nls cls] 26, .rd kF asp nsp Xsp, .rd kF als nls Xls, .rd kF afe nfe Xfe, .rd kF afx nfx Xfx, .rd kF afy nfy Xfy, .rd kS aq nq Xq, .rd kP ap np Xp] := B.castX 4 rfl (by omega) rfl
                exact .inl ⟨hcond, ⟨_, _, _, _, _, _, _, _, _, rfl, B.give [5, 4, 1, 2, 3] rfl rfl rfl⟩⟩
        · obtain rfl : v30 = .bool false := hv31.trans (congrArg Value.bool (Bool.eq_false_iff.2 c32))
          refine s_y (v := .bool true) rfl (y_not rfl rfl) ?_
          refine s_y (v := .bool true) rfl (y_pick_f rfl rfl) ?_
          refine s_nil ?_
          refine W_if_t (by decide) rfl ?_
          refine W_seq ?_
          refine W_region (by kernel_rfl) ?_
          refine s_y (v := .agg #[.slice none 0 0, .slice none 0 0, .slice none 0 0]) rfl (y_build (cells := #[.slice none 0 0, .slice none 0 0, .slice none 0 0]) (by kernel_rfl)) ?_
          refine s_y (v := .slice none 0 0) rfl (y_assign rfl) ?_
          refine s_k0 rfl (k_stB (v := .agg #[.slice none 0 0, .slice none 0 0, .slice none 0 0]) (n := 3) (cs' := [.slice none 0 0, .slice none 0 0, .slice none 0 0]) T32.sz_30_3 rfl rfl rfl (B.b 0 rfl) (by simp [Value.cells, Value.oneCell']) (Nat.le_of_ble_eq_true rfl) rfl (fun w257 hU258 => ?_))
          replace B : Bu w no w257 [.blk b7 [.slice none 0 0, .slice none 0 0, .slice none 0 0] 30, .blk b4 [.slice afe nfe cfe, .slice afx nfx cfx, .slice afy nfy cfy] 30, .blk b1 [.int .i64 wd, .int .i64 hi, .bool wr, .slice asp nsp csp, .slice als nls cls] 26, .rd kF asp nsp Xsp, .rd kF als nls Xls, .rd kF afe nfe Xfe, .rd kF afx nfx Xfx, .rd kF afy nfy Xfy, .rd kS aq nq Xq, .rd kP ap np Xp] := B.upd [0] rfl hU258
          clear hU258
          refine s_y (v := .bool false) rfl (y_assign rfl) ?_
          refine s_nil ?_
          refine W_ret ?_
          refine ret3 (v1 := .slice none 0 0) (v2 := .agg #[.slice none 0 0, .slice none 0 0, .slice none 0 0]) (v3 := .bool false) rfl rfl rfl rfl rfl ⟨_, [.slice none 0 0, .slice none 0 0, .slice none 0 0], _, rfl, (B.b 0 rfl), T32.agg_30_3, rfl⟩ rfl ⟨_, rfl, ?_⟩
          exact .inr ⟨by simp only [rsB, c14, c20, c26, (Bool.eq_false_iff.2 c32), Bool.and_true, Bool.true_and, Bool.and_false, Bool.false_and, Bool.not_true, Bool.not_false, Bool.or_true, Bool.true_or, Bool.or_false, Bool.false_or], rfl, B.ext⟩
      · obtain rfl : v24 = .bool false := hv25.trans (congrArg Value.bool (Bool.eq_false_iff.2 c26))
        refine s_y (v := .bool true) rfl (y_not rfl rfl) ?_
        refine s_y (v := .bool true) rfl (y_pick_f rfl rfl) ?_
        refine s_y (v := .bool true) rfl (y_move rfl) ?_
        refine s_skip rfl ?_
        refine s_skip rfl ?_
        refine s_skip rfl ?_
        refine s_skip rfl ?_
        refine s_y (v := .bool true) rfl (y_pick_t rfl rfl) ?_
        refine s_nil ?_
        refine W_if_t (by decide) rfl ?_
        refine W_seq ?_
        refine W_region (by kernel_rfl) ?_
        refine s_y (v := .agg #[.slice none 0 0, .slice none 0 0, .slice none 0 0]) rfl (y_build (cells := #[.slice none 0 0, .slice none 0 0, .slice none 0 0]) (by kernel_rfl)) ?_
        refine s_y (v := .slice none 0 0) rfl (y_assign rfl) ?_
        refine s_k0 rfl (k_stB (v := .agg #[.slice none 0 0, .slice none 0 0, .slice none 0 0]) (n := 3) (cs' := [.slice none 0 0, .slice none 0 0, .slice none 0 0]) T32.sz_30_3 rfl rfl rfl (B.b 0 rfl) (by simp [Value.cells, Value.oneCell']) (Nat.le_of_ble_eq_true rfl) rfl (fun w259 hU260 => ?_))
        replace B : Bu w no w259 [.blk b7 [.slice none 0 0, .slice none 0 0, .slice none 0 0] 30, .blk b4 [.slice afe nfe cfe, .slice afx nfx cfx, .slice afy nfy cfy] 30, .blk b1 [.int .i64 wd, .int .i64 hi, .bool wr, .slice asp nsp csp, .slice als nls cls] 26, .rd kF asp nsp Xsp, .rd kF als nls Xls, .rd kF afe nfe Xfe, .rd kF afx nfx Xfx, .rd kF afy nfy Xfy, .rd kS aq nq Xq, .rd kP ap np Xp] := B.upd [0] rfl hU260
        clear hU260
        refine s_y (v := .bool false) rfl (y_assign rfl) ?_
        refine s_nil ?_
        refine W_ret ?_
        refine ret3 (v1 := .slice none 0 0) (v2 := .agg #[.slice none 0 0, .slice none 0 0, .slice none 0 0]) (v3 := .bool false) rfl rfl rfl rfl rfl ⟨_, [.slice none 0 0, .slice none 0 0, .slice none 0 0], _, rfl, (B.b 0 rfl), T32.agg_30_3, rfl⟩ rfl ⟨_, rfl, ?_⟩
        exact .inr ⟨by simp only [rsB, c14, c20, (Bool.eq_false_iff.2 c26), Bool.and_true, Bool.true_and, Bool.and_false, Bool.false_and, Bool.not_true, Bool.not_false, Bool.or_true, Bool.true_or, Bool.or_false, Bool.false_or], rfl, B.ext⟩
    · obtain rfl : v18 = .bool false := hv19.trans (congrArg Value.bool (Bool.eq_false_iff.2 c20))
      refine s_y (v := .bool true) rfl (y_not rfl rfl) ?_
      refine s_y (v := .bool true) rfl (y_pick_f rfl rfl) ?_
      refine s_y (v := .bool true) rfl (y_move rfl) ?_
      refine s_skip rfl ?_
      refine s_skip rfl ?_
      refine s_skip rfl ?_
      refine s_skip rfl ?_
      refine s_y (v := .bool true) rfl (y_pick_t rfl rfl) ?_
      refine s_y (v := .bool true) rfl (y_move rfl) ?_
      refine s_skip rfl ?_
      refine s_skip rfl ?_
      refine s_skip rfl ?_
      refine s_skip rfl ?_
      refine s_y (v := .bool true) rfl (y_pick_t rfl rfl) ?_
      refine s_nil ?_
      refine W_if_t (by decide) rfl ?_
      refine W_seq ?_
      refine W_region (by kernel_rfl) ?_
      refine s_y (v := .agg #[.slice none 0 0, .slice none 0 0, .slice none 0 0]) rfl (y_build (cells := #[.slice none 0 0, .slice none 0 0, .slice none 0 0]) (by kernel_rfl)) ?_
      refine s_y (v := .slice none 0 0) rfl (y_assign rfl) ?_
      refine s_k0 rfl (k_stB (v := .agg #[.slice none 0 0, .slice none 0 0, .slice none 0 0]) (n := 3) (cs' := [.slice none 0 0, .slice none 0 0, .slice none 0 0]) T32.sz_30_3 rfl rfl rfl (B.b 0 rfl) (by simp [Value.cells, Value.oneCell']) (Nat.le_of_ble_eq_true rfl) rfl (fun w261 hU262 => ?_))
      replace B : Bu w no w261 [.blk b7 [.slice none 0 0, .slice none 0 0, .slice none 0 0] 30, .blk b4 [.slice afe nfe cfe, .slice afx nfx cfx, .slice afy nfy cfy] 30, .blk b1 [.int .i64 wd, .int .i64 hi, .bool wr, .slice asp nsp csp, .slice als nls cls] 26, .rd kF asp nsp Xsp, .rd kF als nls Xls, .rd kF afe nfe Xfe, .rd kF afx nfx Xfx, .rd kF afy nfy Xfy, .rd kS aq nq Xq, .rd kP ap np Xp] := B.upd [0] rfl hU262
      clear hU262
      refine s_y (v := .bool false) rfl (y_assign rfl) ?_
      refine s_nil ?_
      refine W_ret ?_
      refine ret3 (v1 := .slice none 0 0) (v2 := .agg #[.slice none 0 0, .slice none 0 0, .slice none 0 0]) (v3 := .bool false) rfl rfl rfl rfl rfl ⟨_, [.slice none 0 0, .slice none 0 0, .slice none 0 0], _, rfl, (B.b 0 rfl), T32.agg_30_3, rfl⟩ rfl ⟨_, rfl, ?_⟩
      exact .inr ⟨by simp only [rsB, c14, (Bool.eq_false_iff.2 c20), Bool.and_true, Bool.true_and, Bool.and_false, Bool.false_and, Bool.not_true, Bool.not_false, Bool.or_true, Bool.true_or, Bool.or_false, Bool.false_or], rfl, B.ext⟩
  · obtain rfl : v12 = .bool false := hv13.trans (congrArg Value.bool (Bool.eq_false_iff.2 c14))
    refine s_y (v := .bool true) rfl (y_not rfl rfl) ?_
    refine s_y (v := .bool true) rfl (y_move rfl) ?_
    refine s_skip rfl ?_
    refine s_skip rfl ?_
    refine s_skip rfl ?_
    refine s_skip rfl ?_
    refine s_y (v := .bool true) rfl (y_pick_t rfl rfl) ?_
    refine s_y (v := .bool true) rfl (y_move rfl) ?_
    refine s_skip rfl ?_
    refine s_skip rfl ?_
    refine s_skip rfl ?_
    refine s_skip rfl ?_
    refine s_y (v := .bool true) rfl (y_pick_t rfl rfl) ?_
    refine s_y (v := .bool true) rfl (y_move rfl) ?_
    refine s_skip rfl ?_
    refine s_skip rfl ?_
    refine s_skip rfl ?_
    refine s_skip rfl ?_
    refine s_y (v := .bool true) rfl (y_pick_t rfl rfl) ?_
    refine s_nil ?_
    refine W_if_t (by decide) rfl ?_
    refine W_seq ?_
    refine W_region (by kernel_rfl) ?_
    refine s_y (v := .agg #[.slice none 0 0, .slice none 0 0, .slice none 0 0]) rfl (y_build (cells := #[.slice none 0 0, .slice none 0 0, .slice none 0 0]) (by kernel_rfl)) ?_
    refine s_y (v := .slice none 0 0) rfl (y_assign rfl) ?_
    refine s_k0 rfl (k_stB (v := .agg #[.slice none 0 0, .slice none 0 0, .slice none 0 0]) (n := 3) (cs' := [.slice none 0 0, .slice none 0 0, .slice none 0 0]) T32.sz_30_3 rfl rfl rfl (B.b 0 rfl) (by simp [Value.cells, Value.oneCell']) (Nat.le_of_ble_eq_true rfl) rfl (fun w263 hU264 => ?_))
    replace B : Bu w no w263 [.blk b7 [.slice none 0 0, .slice none 0 0, .slice none 0 0] 30, .blk b4 [.slice afe nfe cfe, .slice afx nfx cfx, .slice afy nfy cfy] 30, .blk b1 [.int .i64 wd, .int .i64 hi, .bool wr, .slice asp nsp csp, .slice als nls cls] 26, .rd kF asp nsp Xsp, .rd kF als nls Xls, .rd kF afe nfe Xfe, .rd kF afx nfx Xfx, .rd kF afy nfy Xfy, .rd kS aq nq Xq, .rd kP ap np Xp] := B.upd [0] rfl hU264
    clear hU264
    refine s_y (v := .bool false) rfl (y_assign rfl) ?_
    refine s_nil ?_
    refine W_ret ?_
    refine ret3 (v1 := .slice none 0 0) (v2 := .agg #[.slice none 0 0, .slice none 0 0, .slice none 0 0]) (v3 := .bool false) rfl rfl rfl rfl rfl ⟨_, [.slice none 0 0, .slice none 0 0, .slice none 0 0], _, rfl, (B.b 0 rfl), T32.agg_30_3, rfl⟩ rfl ⟨_, rfl, ?_⟩
    exact .inr ⟨by simp only [rsB, (Bool.eq_false_iff.2 c14), Bool.and_true, Bool.true_and, Bool.and_false, Bool.false_and, Bool.not_true, Bool.not_false, Bool.or_true, Bool.true_or, Bool.or_false, Bool.false_or], rfl, B.ext⟩
namespace T25
theorem mx : Try.prog.follows .mixedOrders = true := by kernel_rfl
theorem agg_44_6 : aggB Try.prog 44 6 = true := by kernel_rfl
theorem fn_27 : fnB Try.prog 27 = true := by kernel_rfl
theorem fn_82 : fnB Try.prog 82 = true := by kernel_rfl
theorem fn_83 : fnB Try.prog 83 = true := by kernel_rfl
theorem slt_24 : SlT Try.prog 24 34 1 4 (.float .f32 0) := ⟨by kernel_rfl, by kernel_rfl, rfl, by decide⟩
end T25
set_option maxRecDepth 100000 in
set_option maxHeartbeats 4000000 in
theorem c_i_WaveList {kd : Int} {tt : Int} {ln : Int} {tn : Nat} {TN : Nat} {sz : Nat} {SZ : Nat} {sd : Int} {fr : Int} {ct : Int} {w : World} (htn : Cn .f32 tn TN) (hsz : Cn .f32 sz SZ) (hfr : fr ≤ 9000000000000000000) (hok : ∀ kq, 0 ≤ kq → kq < ct → wavOK kd tt ln TN (fr + kq)) :
    Calls Try.prog 25 #[.agg #[.int .i64 kd, .int .i64 tt, .int .i64 ln, .float .f32 tn, .float .f32 sz, .int .i64 sd], .int .i64 fr, .int .i64 ct] w (Rt fun v w' => ((validW kd tt ln TN sd && ticksB fr ct) = true ∧ ∃ (a1 : Option Addr) (c1 : Nat), v = .tuple #[.slice a1 (Int.toNat ct) c1, .bool true] ∧ New w w' [.ow kF a1 (Int.toNat ct) c1 34 (tab ct (fun kq => wavT kd tt ln TN SZ sd (fr + kq)))]) ∨ ((validW kd tt ln TN sd && ticksB fr ct) = false ∧ v = .tuple #[.slice none 0 0, .bool false] ∧ Ext0 w w')) := by
  have B : Bu w no w [] := Bu.ro All.nil rfl
  refine calls_W (n := 34) Try.func25 rfl rfl (Nat.le_of_ble_eq_true rfl) ?_
  refine W_seq ?_
  refine W_region (by kernel_rfl) ?_
  refine s_k rfl (k_boxN (v := .agg #[.int .i64 kd, .int .i64 tt, .int .i64 ln, .float .f32 tn, .float .f32 sz, .int .i64 sd]) (cs := [.int .i64 kd, .int .i64 tt, .int .i64 ln, .float .f32 tn, .float .f32 sz, .int .i64 sd]) rfl rfl (fun b1 w2 hN3 => ?_))
  replace B := B.new1 hN3
  clear hN3
  refine s_y (v := .slice none 0 0) rfl (y_assign rfl) ?_
  refine s_y (v := .bool false) rfl (y_assign rfl) ?_
  refine s_nil ?_
  refine W_seq ?_
  refine W_seq ?_
  refine W_region (by kernel_rfl) ?_
  refine s_y (v := .agg #[.int .i64 kd, .int .i64 tt, .int .i64 ln, .float .f32 tn, .float .f32 sz, .int .i64 sd]) rfl (y_loadn (b := b1) (o := 0) (vs := [.int .i64 kd, .int .i64 tt, .int .i64 ln, .float .f32 tn, .float .f32 sz, .int .i64 sd]) T25.agg_44_6 rfl rfl ((B.b 0 rfl).cells (o := 0) rfl)) ?_
  refine s_k rfl (k_call T25.fn_27 (c_i_ValidWave htn hsz) rfl ?_)
  rintro v6 w4 ⟨hv7, e5⟩
  replace B := B.ext0 e5
  clear e5
  by_cases c8 : validW kd tt ln TN sd = true
  · have hb9 := validW_b c8
    obtain rfl : v6 = .bool true := hv7.trans (congrArg Value.bool c8)
    refine s_y (v := .bool false) rfl (y_not rfl rfl) ?_
    refine s_y (v := .bool false) rfl (y_move rfl) ?_
    refine s_y (v := .int .i64 fr) rfl (y_move rfl) ?_
    refine s_y (v := .int .i64 ct) rfl (y_move rfl) ?_
    refine s_k rfl (k_call T25.fn_82 (c_i_areTicks (by omega)) rfl ?_)
    rintro v12 w10 ⟨hv13, e11⟩
    replace B := B.ext0 e11
    clear e11
    by_cases c14 : ticksB fr ct = true
    · have hb15 := ticksB_b c14
      obtain rfl : v12 = .bool true := hv13.trans (congrArg Value.bool c14)
      refine s_y (v := .bool false) rfl (y_not rfl rfl) ?_
      refine s_y (v := .bool false) rfl (y_pick_f rfl rfl) ?_
      refine s_nil ?_
      refine W_if_f (by decide) rfl ?_
      refine W_skip ?_
      refine W_seq ?_
      refine W_region (by kernel_rfl) ?_
      refine s_k rfl (k_bsliceO (k := kF) (n := 0) (cells := #[]) (X := []) T25.slt_24 (by decide) (by first | rfl | kernel_rfl) (rfl : Reps kF [] []) rfl (fun b16 w17 hN18 => ?_))
      replace B := B.new1 hN18
      clear hN18
      refine s_y (v := .slice (some ⟨b16, 0, none⟩) 0 0) rfl (y_assign rfl) ?_
      refine s_nil ?_
      refine W_seq ?_
      refine W_seq ?_
      refine W_region (by kernel_rfl) ?_
      refine s_y (v := .int .i64 ct) rfl (y_move rfl) ?_
      refine s_y (v := .int .i64 0) rfl (y_move rfl) ?_
      refine s_nil ?_
      refine W_block ?_
      refine W_loop (fun ρ' w' => ∃ (ρ1 : Env) (k : Int) (a0 : Option Addr) (cc0 : Nat) (nn0 : Nat), ρ' = updL ρ1 [(1, .int .i64 fr), (3, .pointer (some ⟨b1, 0, none⟩)), (6, .slice none 0 0), (7, .bool false), (8, .slice a0 nn0 cc0), (20, .int .i64 ct), (21, .int .i64 k)] ∧ Bu w no w' [.ow kF a0 nn0 cc0 34 (tab k (fun kq => wavT kd tt ln TN SZ sd (fr + kq))), .blk b1 [.int .i64 kd, .int .i64 tt, .int .i64 ln, .float .f32 tn, .float .f32 sz, .int .i64 sd] 44] ∧ (0 ≤ k) ∧ (k ≤ ct)) (fun ρ' _ => (ct - iv (ρ' 21)).toNat) ?_ ?_
      · replace B : Bu w no w17 [.ow kF (some ⟨b16, 0, none⟩) 0 0 34 (tab 0 (fun kq => wavT kd tt ln TN SZ sd (fr + kq))), .blk b1 [.int .i64 kd, .int .i64 tt, .int .i64 ln, .float .f32 tn, .float .f32 sz, .int .i64 sd] 44] := B.castX 0 rfl rfl rfl
        exact ⟨_, 0, (some ⟨b16, 0, none⟩), 0, 0, Fits.eq ⟨rfl, rfl, rfl, rfl, rfl, rfl, rfl, trivial⟩, B, (Int.le_refl _), (by omega)⟩
      · clear B; rintro _ w19 ⟨ρ20, k, a0, cc0, nn0, rfl, B, h0k, h1k⟩
        have hnn0 := (B.o 0 rfl).len
        rw [tab_length] at hnn0
        refine W_seq ?_
        refine W_region (by kernel_rfl) ?_
        by_cases c21 : k < ct
        · refine s_y (v := .bool true) rfl (y_lss rfl rfl (decide_eq_true c21)) ?_
          refine s_nil ?_
          refine W_seq ?_
          refine W_if_t (by decide) rfl ?_
          refine W_skip ?_
          refine W_seq ?_
          refine W_block ?_
          refine W_seq ?_
          refine W_region (by kernel_rfl) ?_
          refine s_y (v := .int .i64 k) rfl (y_move rfl) ?_
          refine s_y (v := .int .i64 k) rfl (y_assign rfl) ?_
          refine s_nil ?_
          refine W_region (by kernel_rfl) ?_
          refine s_y (v := .slice a0 nn0 cc0) rfl (y_move rfl) ?_
          refine s_y (v := .agg #[.int .i64 kd, .int .i64 tt, .int .i64 ln, .float .f32 tn, .float .f32 sz, .int .i64 sd]) rfl (y_loadn (b := b1) (o := 0) (vs := [.int .i64 kd, .int .i64 tt, .int .i64 ln, .float .f32 tn, .float .f32 sz, .int .i64 sd]) T25.agg_44_6 rfl rfl ((B.b 1 rfl).cells (o := 0) rfl)) ?_
          refine s_y (v := .int .i64 fr) rfl (y_move rfl) ?_
          refine s_y (v := .int .i64 k) rfl (y_move rfl) ?_
          refine s_y (v := .int .i64 (fr + k)) rfl (y_add rfl rfl rfl (by omega)) ?_
          refine s_k rfl (k_call T25.fn_83 (c_i_waveAt htn hsz (by omega) (by omega) (by omega) (by omega) (by omega) (by omega) (by omega) (by omega) (by omega) (by omega) (hok k (by omega) (by omega))) rfl ?_)
          rintro _ w22 ⟨⟨r24, rfl, hr25⟩, e23⟩
          replace B := B.ext0 e23
          clear e23
          refine s_k rfl (k_bsliceO (k := kF) (n := 1) (cells := #[.float .f32 r24]) (X := [wavT kd tt ln TN SZ sd (fr + k)]) T25.slt_24 (by decide) (by first | rfl | kernel_rfl) (reps_cons (c := [.float .f32 r24]) ⟨_, rfl, hr25⟩ (rfl : Reps kF [] [])) rfl (fun b26 w27 hN28 => ?_))
          replace B := B.new1 hN28
          clear hN28
          refine s_k rfl (k_appO (k := kF) T25.slt_24 rfl rfl rfl (B.o 1 rfl) (B.o 0 rfl).rd (by omega) (by unfold maxLen; omega) (fun a29 c30 w31 hU32 => ?_))
          replace B : Bu w no w31 [.ow kF a29 (nn0 + 1) c30 34 ((tab k (fun kq => wavT kd tt ln TN SZ sd (fr + kq))) ++ ([wavT kd tt ln TN SZ sd (fr + k)])), .ow kF (some ⟨b26, 0, none⟩) 1 1 34 ([wavT kd tt ln TN SZ sd (fr + k)]), .blk b1 [.int .i64 kd, .int .i64 tt, .int .i64 ln, .float .f32 tn, .float .f32 sz, .int .i64 sd] 44] := B.upd [1] rfl hU32
          clear hU32
          refine s_y (v := .slice a29 (nn0 + 1) c30) rfl (y_assign rfl) ?_
          refine s_nil ?_
          refine W_region (by kernel_rfl) ?_
          refine s_y (v := .int .i64 (k + 1)) rfl (y_add rfl rfl rfl (by omega)) ?_
          refine s_y (v := .int .i64 (k + 1)) rfl (y_move rfl) ?_
          refine s_nil ?_
          replace B : Bu w no w31 [.ow kF a29 (nn0 + 1) c30 34 (tab (k + 1) (fun kq => wavT kd tt ln TN SZ sd (fr + kq))), .ow kF (some ⟨b26, 0, none⟩) 1 1 34 ([wavT kd tt ln TN SZ sd (fr + k)]), .blk b1 [.int .i64 kd, .int .i64 tt, .int .i64 ln, .float .f32 tn, .float .f32 sz, .int .i64 sd] 44] := B.castX 0 rfl rfl (tab_snoc (g := fun kq => wavT kd tt ln TN SZ sd (fr + kq)) (by omega) rfl)
          refine ⟨⟨_, k + 1, a29, c30, nn0 + 1, Fits.eq ⟨rfl, rfl, rfl, rfl, rfl, rfl, rfl, trivial⟩, (B.pick [0, 2] rfl rfl), (by omega), (by omega)⟩, ?_⟩
          show (ct - (k + 1)).toNat < (ct - k).toNat
          omega
        · refine s_y (v := .bool false) rfl (y_lss rfl rfl (decide_eq_false c21)) ?_
          refine s_nil ?_
          refine W_seq ?_
          refine W_if_f (by decide) rfl ?_
          refine W_exit ?_
          refine W_seq ?_
          refine W_region (by kernel_rfl) ?_
          refine s_y (v := .slice a0 nn0 cc0) rfl (y_move rfl) ?_
          refine s_y (v := .slice a0 nn0 cc0) rfl (y_assign rfl) ?_
          refine s_y (v := .bool true) rfl (y_assign rfl) ?_
          refine s_nil ?_
          refine W_ret ?_
          refine ret2 (v1 := .slice a0 nn0 cc0) (v2 := .bool true) rfl rfl rfl rfl rfl ⟨_, rfl, ?_⟩
          have hcond : (validW kd tt ln TN sd && ticksB fr ct) = true := by simp only [c8, c14, (decide_eq_false c21), Bool.and_true, Bool.true_and, Bool.and_false, Bool.false_and, Bool.not_true, Bool.not_false, Bool.or_true, Bool.true_or, Bool.or_false, Bool.false_or]
          obtain rfl : ct = k := by omega
          replace B : Bu w no w19 [.ow kF a0 (Int.toNat ct) cc0 34 (tab ct (fun kq => wavT kd tt ln TN SZ sd (fr + kq))), .blk b1 [.int .i64 kd, .int .i64 tt, .int .i64 ln, .float .f32 tn, .float .f32 sz, .int .i64 sd] 44] := B.castX 0 rfl (by omega) rfl
          exact .inl ⟨hcond, ⟨_, _, (by rw [(show nn0 = Int.toNat ct from (by omega))]), B.give [0] rfl rfl rfl⟩⟩
    · obtain rfl : v12 = .bool false := hv13.trans (congrArg Value.bool (Bool.eq_false_iff.2 c14))
      refine s_y (v := .bool true) rfl (y_not rfl rfl) ?_
      refine s_y (v := .bool true) rfl (y_pick_f rfl rfl) ?_
      refine s_nil ?_
      refine W_if_t (by decide) rfl ?_
      refine W_seq ?_
      refine W_region (by kernel_rfl) ?_
      refine s_y (v := .slice none 0 0) rfl (y_assign rfl) ?_
      refine s_y (v := .bool false) rfl (y_assign rfl) ?_
      refine s_nil ?_
      refine W_ret ?_
      refine ret2 (v1 := .slice none 0 0) (v2 := .bool false) rfl rfl rfl rfl rfl ⟨_, rfl, ?_⟩
      exact .inr ⟨by simp only [c8, (Bool.eq_false_iff.2 c14), Bool.and_true, Bool.true_and, Bool.and_false, Bool.false_and, Bool.not_true, Bool.not_false, Bool.or_true, Bool.true_or, Bool.or_false, Bool.false_or], rfl, B.ext⟩
  · obtain rfl : v6 = .bool false := hv7.trans (congrArg Value.bool (Bool.eq_false_iff.2 c8))
    refine s_y (v := .bool true) rfl (y_not rfl rfl) ?_
    refine s_y (v := .bool true) rfl (y_move rfl) ?_
    refine s_skip rfl ?_
    refine s_skip rfl ?_
    refine s_skip rfl ?_
    refine s_skip rfl ?_
    refine s_y (v := .bool true) rfl (y_pick_t rfl rfl) ?_
    refine s_nil ?_
    refine W_if_t (by decide) rfl ?_
    refine W_seq ?_
    refine W_region (by kernel_rfl) ?_
    refine s_y (v := .slice none 0 0) rfl (y_assign rfl) ?_
    refine s_y (v := .bool false) rfl (y_assign rfl) ?_
    refine s_nil ?_
    refine W_ret ?_
    refine ret2 (v1 := .slice none 0 0) (v2 := .bool false) rfl rfl rfl rfl rfl ⟨_, rfl, ?_⟩
    exact .inr ⟨by simp only [(Bool.eq_false_iff.2 c8), Bool.and_true, Bool.true_and, Bool.and_false, Bool.false_and, Bool.not_true, Bool.not_false, Bool.or_true, Bool.true_or, Bool.or_false, Bool.false_or], rfl, B.ext⟩
namespace T87
theorem mx : Try.prog.follows .mixedOrders = true := by kernel_rfl
theorem f64b_129 : f64bitsB Try.prog 129 := ⟨_, Try.func129, by kernel_rfl, by kernel_rfl, by kernel_rfl, by kernel_rfl⟩
theorem int_2_i64 : Try.prog.underlying 2 = some (.int .i64) := by kernel_rfl
theorem und_129 : (Try.prog.underlying 129).isSome = true := by kernel_rfl
end T87
set_option maxRecDepth 100000 in
set_option maxHeartbeats 4000000 in
theorem c_m_Signbit {x : Nat} {X : Nat} {w : World} (hx : Cn .f64 x X) (hn : nanb .f64 X = false) :
    Calls Try.prog 87 #[.float .f64 x] w (Rt fun v w' => v = .bool (sgnB X) ∧ Ext0 w w') := by
  have B : Bu w no w [] := Bu.ro All.nil rfl
  refine calls_W (n := 7) Try.func87 rfl rfl (Nat.le_of_ble_eq_true rfl) ?_
  refine W_seq ?_
  refine W_region (by kernel_rfl) ?_
  refine s_y (v := .bool false) rfl (y_assign rfl) ?_
  refine s_nil ?_
  refine W_seq ?_
  refine W_region (by kernel_rfl) ?_
  refine s_y (v := .float .f64 x) rfl (y_move rfl) ?_
  refine s_k rfl (k_f64bits T87.f64b_129 rfl ?_)
  refine s_y (v := .int .i64 (IntKind.i64.wrap ((x : Nat) : Int))) rfl (y_ii T87.und_129 T87.int_2_i64 rfl rfl) ?_
  by_cases c1 : (IntKind.i64.wrap ((x : Nat) : Int)) < 0
  · refine s_y (v := .bool true) rfl (y_lss rfl rfl (decide_eq_true c1)) ?_
    refine s_y (v := .bool true) rfl (y_assign rfl) ?_
    refine s_nil ?_
    refine W_ret ?_
    refine ret1 (v := .bool true) rfl rfl rfl ⟨_, rfl, ?_⟩
    exact ⟨congrArg Value.bool ((by unfold sgnB; rw [← sgn_can hx hn]; exact (decide_eq_true c1).symm)), B.ext⟩
  · refine s_y (v := .bool false) rfl (y_lss rfl rfl (decide_eq_false c1)) ?_
    refine s_y (v := .bool false) rfl (y_assign rfl) ?_
    refine s_nil ?_
    refine W_ret ?_
    refine ret1 (v := .bool false) rfl rfl rfl ⟨_, rfl, ?_⟩
    exact ⟨congrArg Value.bool ((by unfold sgnB; rw [← sgn_can hx hn]; exact (decide_eq_false c1).symm)), B.ext⟩
namespace T29
theorem mx : Try.prog.follows .mixedOrders = true := by kernel_rfl
theorem bool_4 : Try.prog.underlying 4 = some .bool := by kernel_rfl
theorem flt_53_f64 : Try.prog.underlying 53 = some (.float .f64) := by kernel_rfl
theorem fn_87 : fnB Try.prog 87 = true := by kernel_rfl
theorem und_34 : (Try.prog.underlying 34).isSome = true := by kernel_rfl
end T29
set_option maxRecDepth 100000 in
set_option maxHeartbeats 4000000 in
theorem c_i_SameNumber {x : Nat} {X : Nat} {y : Nat} {Y : Nat} {w : World} (hx : Cn .f32 x X) (hy : Cn .f32 y Y) :
    Calls Try.prog 29 #[.float .f32 x, .float .f32 y] w (Rt fun v w' => v = .bool (sameN X Y) ∧ Ext0 w w') := by
  have B : Bu w no w [] := Bu.ro All.nil rfl
  refine calls_W (n := 33) Try.func29 rfl rfl (Nat.le_of_ble_eq_true rfl) ?_
  refine W_seq ?_
  refine W_region (by kernel_rfl) ?_
  refine s_y (v := .bool false) rfl (y_assign rfl) ?_
  refine s_nil ?_
  refine W_seq ?_
  refine W_seq ?_
  refine W_region (by kernel_rfl) ?_
  refine s_y (v := .float .f32 x) rfl (y_move rfl) ?_
  refine s_y (v := .float .f32 x) rfl (y_move rfl) ?_
  by_cases c1 : fne .f32 X X = true
  · refine s_y (v := .bool true) rfl (y_fneq rfl rfl (fneC hx hx c1)) ?_
    refine s_y (v := .bool true) rfl (y_move rfl) ?_
    refine s_skip rfl ?_
    refine s_skip rfl ?_
    refine s_skip rfl ?_
    refine s_y (v := .bool true) rfl (y_pick_t rfl rfl) ?_
    refine s_nil ?_
    refine W_if_t (by decide) rfl ?_
    refine W_seq ?_
    refine W_region (by kernel_rfl) ?_
    refine s_y (v := .float .f32 x) rfl (y_move rfl) ?_
    refine s_y (v := .float .f32 x) rfl (y_move rfl) ?_
    refine s_y (v := .bool true) rfl (y_fneq rfl rfl (fneC hx hx c1)) ?_
    refine s_y (v := .bool true) rfl (y_move rfl) ?_
    refine s_y (v := .float .f32 y) rfl (y_move rfl) ?_
    refine s_y (v := .float .f32 y) rfl (y_move rfl) ?_
    by_cases c2 : fne .f32 Y Y = true
    · refine s_y (v := .bool true) rfl (y_fneq rfl rfl (fneC hy hy c2)) ?_
      refine s_y (v := .bool true) rfl (y_pick_t rfl rfl) ?_
      refine s_y (v := .bool true) rfl (y_assign rfl) ?_
      refine s_nil ?_
      refine W_ret ?_
      refine ret1 (v := .bool true) rfl rfl rfl ⟨_, rfl, ?_⟩
      exact ⟨congrArg Value.bool (by simp [sameN, *]), B.ext⟩
    · refine s_y (v := .bool false) rfl (y_fneq rfl rfl (fneC hy hy (Bool.eq_false_iff.2 c2))) ?_
      refine s_y (v := .bool false) rfl (y_pick_t rfl rfl) ?_
      refine s_y (v := .bool false) rfl (y_assign rfl) ?_
      refine s_nil ?_
      refine W_ret ?_
      refine ret1 (v := .bool false) rfl rfl rfl ⟨_, rfl, ?_⟩
      exact ⟨congrArg Value.bool (by simp [sameN, *]), B.ext⟩
  · refine s_y (v := .bool false) rfl (y_fneq rfl rfl (fneC hx hx (Bool.eq_false_iff.2 c1))) ?_
    refine s_y (v := .bool false) rfl (y_move rfl) ?_
    refine s_y (v := .float .f32 y) rfl (y_move rfl) ?_
    refine s_y (v := .float .f32 y) rfl (y_move rfl) ?_
    by_cases c3 : fne .f32 Y Y = true
    · refine s_y (v := .bool true) rfl (y_fneq rfl rfl (fneC hy hy c3)) ?_
      refine s_y (v := .bool true) rfl (y_pick_f rfl rfl) ?_
      refine s_nil ?_
      refine W_if_t (by decide) rfl ?_
      refine W_seq ?_
      refine W_region (by kernel_rfl) ?_
      refine s_y (v := .float .f32 x) rfl (y_move rfl) ?_
      refine s_y (v := .float .f32 x) rfl (y_move rfl) ?_
      refine s_y (v := .bool false) rfl (y_fneq rfl rfl (fneC hx hx (Bool.eq_false_iff.2 c1))) ?_
      refine s_y (v := .bool false) rfl (y_move rfl) ?_
      refine s_skip rfl ?_
      refine s_skip rfl ?_
      refine s_skip rfl ?_
      refine s_y (v := .bool false) rfl (y_pick_f rfl rfl) ?_
      refine s_y (v := .bool false) rfl (y_assign rfl) ?_
      refine s_nil ?_
      refine W_ret ?_
      refine ret1 (v := .bool false) rfl rfl rfl ⟨_, rfl, ?_⟩
      exact ⟨congrArg Value.bool (by simp [sameN, *]), B.ext⟩
    · refine s_y (v := .bool false) rfl (y_fneq rfl rfl (fneC hy hy (Bool.eq_false_iff.2 c3))) ?_
      refine s_y (v := .bool false) rfl (y_pick_f rfl rfl) ?_
      refine s_nil ?_
      refine W_if_f (by decide) rfl ?_
      refine W_skip ?_
      refine W_seq ?_
      refine W_region (by kernel_rfl) ?_
      refine s_y (v := .float .f32 x) rfl (y_move rfl) ?_
      refine s_y (v := .float .f32 y) rfl (y_move rfl) ?_
      by_cases c4 : feq .f32 X Y = true
      · refine s_y (v := .bool true) rfl (y_feql rfl rfl (feqC hx hy c4)) ?_
        refine s_y (v := .bool true) rfl (y_move rfl) ?_
        refine s_y (v := .float .f32 x) rfl (y_move rfl) ?_
        refine s_n rfl (n_wide T29.und_34 T29.flt_53_f64 rfl) ?_
        rintro _ w7 e8 ⟨r5, rfl, hr6⟩
        replace B := B.ext0 e8
        clear e8
        have hc9 := wideC hr6 hx
        refine s_k rfl (k_call T29.fn_87 (c_m_Signbit hc9 (widen_ok c1)) rfl ?_)
        rintro v12 w10 ⟨hv13, e11⟩
        replace B := B.ext0 e11
        clear e11
        by_cases c14 : sgnB (widen X) = true
        · obtain rfl : v12 = .bool true := hv13.trans (congrArg Value.bool c14)
          refine s_y (v := .float .f32 y) rfl (y_move rfl) ?_
          refine s_n rfl (n_wide T29.und_34 T29.flt_53_f64 rfl) ?_
          rintro _ w17 e18 ⟨r15, rfl, hr16⟩
          replace B := B.ext0 e18
          clear e18
          have hc19 := wideC hr16 hy
          refine s_k rfl (k_call T29.fn_87 (c_m_Signbit hc19 (widen_ok c3)) rfl ?_)
          rintro v22 w20 ⟨hv23, e21⟩
          replace B := B.ext0 e21
          clear e21
          by_cases c24 : sgnB (widen Y) = true
          · obtain rfl : v22 = .bool true := hv23.trans (congrArg Value.bool c24)
            refine s_y (v := .bool true) rfl (y_beql T29.bool_4 rfl rfl rfl) ?_
            refine s_y (v := .bool true) rfl (y_pick_t rfl rfl) ?_
            refine s_y (v := .bool true) rfl (y_assign rfl) ?_
            refine s_nil ?_
            refine W_ret ?_
            refine ret1 (v := .bool true) rfl rfl rfl ⟨_, rfl, ?_⟩
            exact ⟨congrArg Value.bool (by simp [sameN, *]), B.ext⟩
          · obtain rfl : v22 = .bool false := hv23.trans (congrArg Value.bool (Bool.eq_false_iff.2 c24))
            refine s_y (v := .bool false) rfl (y_beql T29.bool_4 rfl rfl rfl) ?_
            refine s_y (v := .bool false) rfl (y_pick_t rfl rfl) ?_
            refine s_y (v := .bool false) rfl (y_assign rfl) ?_
            refine s_nil ?_
            refine W_ret ?_
            refine ret1 (v := .bool false) rfl rfl rfl ⟨_, rfl, ?_⟩
            exact ⟨congrArg Value.bool (by simp [sameN, *]), B.ext⟩
        · obtain rfl : v12 = .bool false := hv13.trans (congrArg Value.bool (Bool.eq_false_iff.2 c14))
          refine s_y (v := .float .f32 y) rfl (y_move rfl) ?_
          refine s_n rfl (n_wide T29.und_34 T29.flt_53_f64 rfl) ?_
          rintro _ w27 e28 ⟨r25, rfl, hr26⟩
          replace B := B.ext0 e28
          clear e28
          have hc29 := wideC hr26 hy
          refine s_k rfl (k_call T29.fn_87 (c_m_Signbit hc29 (widen_ok c3)) rfl ?_)
          rintro v32 w30 ⟨hv33, e31⟩
          replace B := B.ext0 e31
          clear e31
          by_cases c34 : sgnB (widen Y) = true
          · obtain rfl : v32 = .bool true := hv33.trans (congrArg Value.bool c34)
            refine s_y (v := .bool false) rfl (y_beql T29.bool_4 rfl rfl rfl) ?_
            refine s_y (v := .bool false) rfl (y_pick_t rfl rfl) ?_
            refine s_y (v := .bool false) rfl (y_assign rfl) ?_
            refine s_nil ?_
            refine W_ret ?_
            refine ret1 (v := .bool false) rfl rfl rfl ⟨_, rfl, ?_⟩
            exact ⟨congrArg Value.bool (by simp [sameN, *]), B.ext⟩
          · obtain rfl : v32 = .bool false := hv33.trans (congrArg Value.bool (Bool.eq_false_iff.2 c34))
            refine s_y (v := .bool true) rfl (y_beql T29.bool_4 rfl rfl rfl) ?_
            refine s_y (v := .bool true) rfl (y_pick_t rfl rfl) ?_
            refine s_y (v := .bool true) rfl (y_assign rfl) ?_
            refine s_nil ?_
            refine W_ret ?_
            refine ret1 (v := .bool true) rfl rfl rfl ⟨_, rfl, ?_⟩
            exact ⟨congrArg Value.bool (by simp [sameN, *]), B.ext⟩
      · refine s_y (v := .bool false) rfl (y_feql rfl rfl (feqC hx hy (Bool.eq_false_iff.2 c4))) ?_
        refine s_y (v := .bool false) rfl (y_move rfl) ?_
        refine s_skip rfl ?_
        refine s_skip rfl ?_
        refine s_skip rfl ?_
        refine s_skip rfl ?_
        refine s_skip rfl ?_
        refine s_skip rfl ?_
        refine s_skip rfl ?_
        refine s_y (v := .bool false) rfl (y_pick_f rfl rfl) ?_
        refine s_y (v := .bool false) rfl (y_assign rfl) ?_
        refine s_nil ?_
        refine W_ret ?_
        refine ret1 (v := .bool false) rfl rfl rfl ⟨_, rfl, ?_⟩
        exact ⟨congrArg Value.bool (by simp [sameN, *]), B.ext⟩
namespace T33
theorem mx : Try.prog.follows .mixedOrders = true := by kernel_rfl
theorem fn_29 : fnB Try.prog 29 = true := by kernel_rfl
theorem one_34 : oneB Try.prog 34 = true := by kernel_rfl
theorem sl_24_34_1 : slB Try.prog 24 34 1 = true := by kernel_rfl
end T33
set_option maxRecDepth 100000 in
set_option maxHeartbeats 4000000 in
theorem c_l_r8Same {ap : Option Addr} {np : Nat} {cp : Nat} {Xp : List Nat} {aq : Option Addr} {nq : Nat} {cq : Nat} {Xq : List Nat} {w : World} (qp : Rd w kF ap np Xp) (qq : Rd w kF aq nq Xq) (gp : np ≤ 9223372036854775807) (gq : nq ≤ 9223372036854775807) :
    Calls Try.prog 33 #[.slice ap np cp, .slice aq nq cq] w (Rt fun v w' => v = .bool (sameL Xp Xq) ∧ Ext0 w w') := by
  have hlp := qp.len
  have hlq := qq.len
  have B : Bu w no w [.rd kF ap np Xp, .rd kF aq nq Xq] := Bu.ro (All.cons qp (All.cons qq All.nil)) rfl
  refine calls_W (n := 27) Try.func33 rfl rfl (Nat.le_of_ble_eq_true rfl) ?_
  refine W_seq ?_
  refine W_region (by kernel_rfl) ?_
  refine s_y (v := .bool false) rfl (y_assign rfl) ?_
  refine s_nil ?_
  refine W_seq ?_
  refine W_seq ?_
  refine W_region (by kernel_rfl) ?_
  refine s_y (v := .slice ap np cp) rfl (y_move rfl) ?_
  refine s_y (v := .int .i64 ((np : Nat) : Int)) rfl (y_len T33.sl_24_34_1 rfl rfl) ?_
  refine s_y (v := .slice aq nq cq) rfl (y_move rfl) ?_
  refine s_y (v := .int .i64 ((nq : Nat) : Int)) rfl (y_len T33.sl_24_34_1 rfl rfl) ?_
  by_cases c1 : ((np : Nat) : Int) ≠ ((nq : Nat) : Int)
  · refine s_y (v := .bool true) rfl (y_neq rfl rfl (decide_eq_true c1)) ?_
    refine s_nil ?_
    refine W_if_t (by decide) rfl ?_
    refine W_seq ?_
    refine W_region (by kernel_rfl) ?_
    refine s_y (v := .bool false) rfl (y_assign rfl) ?_
    refine s_nil ?_
    refine W_ret ?_
    refine ret1 (v := .bool false) rfl rfl rfl ⟨_, rfl, ?_⟩
    exact ⟨congrArg Value.bool ((sameL_n (by omega)).symm), B.ext⟩
  · refine s_y (v := .bool false) rfl (y_neq rfl rfl (decide_eq_false c1)) ?_
    refine s_nil ?_
    refine W_if_f (by decide) rfl ?_
    refine W_skip ?_
    refine W_seq ?_
    refine W_seq ?_
    refine W_region (by kernel_rfl) ?_
    refine s_y (v := .int .i64 0) rfl (y_assign rfl) ?_
    refine s_nil ?_
    refine W_block ?_
    refine W_loop (fun ρ' w' => ∃ (ρ1 : Env) (k : Int), ρ' = updL ρ1 [(0, .slice ap np cp), (1, .slice aq nq cq), (5, .int .i64 k)] ∧ Bu w no w' [.rd kF ap np Xp, .rd kF aq nq Xq] ∧ (0 ≤ k) ∧ (k ≤ (np : Int)) ∧ (∀ i, 0 ≤ i → i < k → sameN (el Xp i) (el Xq i) = true)) (fun ρ' _ => ((np : Int) - iv (ρ' 5)).toNat) ?_ ?_
    · exact ⟨_, 0, Fits.eq ⟨rfl, rfl, rfl, trivial⟩, B, (Int.le_refl _), (by omega), (by intro i h0 h1; omega)⟩
    · clear B; rintro _ w2 ⟨ρ3, k, rfl, B, h0k, h1k, hq⟩
      refine W_seq ?_
      refine W_seq ?_
      refine W_region (by kernel_rfl) ?_
      refine s_y (v := .int .i64 k) rfl (y_move rfl) ?_
      refine s_y (v := .slice ap np cp) rfl (y_move rfl) ?_
      refine s_y (v := .int .i64 ((np : Nat) : Int)) rfl (y_len T33.sl_24_34_1 rfl rfl) ?_
      by_cases c4 : k < ((np : Nat) : Int)
      · refine s_y (v := .bool true) rfl (y_lss rfl rfl (decide_eq_true c4)) ?_
        refine s_nil ?_
        refine W_if_t (by decide) rfl ?_
        refine W_skip ?_
        refine W_seq ?_
        refine W_block ?_
        refine W_seq ?_
        have B0_9 := B
        refine W_draw (no) T33.mx (by kernel_rfl) (fun w7 e8 => ?_)
        have R10 := Ext.refl (no) w2
        replace R10 := R10.trans (Ext0.any e8)
        replace B := B.ext0 e8
        clear e8
        refine m_y (v := .slice ap np cp) 0 rfl (by kernel_rfl) rfl rfl (fun w' e' => y_move rfl) ?_
        refine m_y (v := .int .i64 k) 1 rfl (by kernel_rfl) rfl rfl (fun w' e' => y_move rfl) ?_
        refine m_y (v := .pointer (some (sat ap ((k).toNat * 1)))) 2 rfl (by kernel_rfl) rfl rfl (fun w' e' => y_idx T33.sl_24_34_1 rfl rfl ((B.r 0 rfl).addr (by omega)) (by omega) (by omega)) ?_
        obtain ⟨r12, hr13, hR11⟩ := Rd.atF (B0_9.r 0 rfl) k (by omega) (by omega)
        refine m_y (v := .float .f32 r12) 3 rfl (by kernel_rfl) rfl rfl (fun w' e' => y_load T33.one_34 rfl ((hR11.ext0 e').cell (i := 0) rfl)) ?_
        refine m_y (v := .slice aq nq cq) 4 rfl (by kernel_rfl) rfl rfl (fun w' e' => y_move rfl) ?_
        refine m_y (v := .int .i64 k) 5 rfl (by kernel_rfl) rfl rfl (fun w' e' => y_move rfl) ?_
        refine m_y (v := .pointer (some (sat aq ((k).toNat * 1)))) 6 rfl (by kernel_rfl) rfl rfl (fun w' e' => y_idx T33.sl_24_34_1 rfl rfl ((B.r 1 rfl).addr (by omega)) (by omega) (by omega)) ?_
        obtain ⟨r15, hr16, hR14⟩ := Rd.atF (B0_9.r 1 rfl) k (by omega) (by omega)
        refine m_y (v := .float .f32 r15) 7 rfl (by kernel_rfl) rfl rfl (fun w' e' => y_load T33.one_34 rfl ((hR14.ext0 e').cell (i := 0) rfl)) ?_
        refine m_k 8 [9] rfl (by kernel_rfl) rfl rfl (fun w17 e18 => ?_)
        replace R10 := R10.trans (Ext0.any e18)
        replace B := B.ext0 e18
        clear e18
        refine k_call T33.fn_29 (c_i_SameNumber hr13 hr16) rfl ?_
        rintro v21 w19 ⟨hv22, e20⟩
        replace R10 := R10.trans (Ext0.any e20)
        replace B := B.ext0 e20
        clear e20
        refine ⟨fun _ => R10, ?_⟩
        by_cases c23 : sameN (el Xp k) (el Xq k) = true
        · obtain rfl : v21 = .bool true := hv22.trans (congrArg Value.bool c23)
          refine m_y (v := .bool false) 9 rfl (by kernel_rfl) rfl rfl (fun w' e' => y_not rfl rfl) ?_
          refine m_done (by kernel_rfl) (fun w24 e25 => ?_)
          replace B := B.ext0 e25
          clear e25
          clear B0_9 R10
          refine W_if_f (by decide) rfl ?_
          refine W_skip ?_
          refine W_region (by kernel_rfl) ?_
          refine s_y (v := .int .i64 k) rfl (y_move rfl) ?_
          refine s_y (v := .int .i64 (k + 1)) rfl (y_add rfl rfl rfl (by omega)) ?_
          refine s_y (v := .int .i64 (k + 1)) rfl (y_assign rfl) ?_
          refine s_nil ?_
          refine ⟨⟨_, k + 1, Fits.eq ⟨rfl, rfl, rfl, trivial⟩, B, (by omega), (by omega), (fun i h0 h1 => if e : i = k then (by subst e; assumption) else hq i h0 (by omega))⟩, ?_⟩
          show ((np : Int) - (k + 1)).toNat < ((np : Int) - k).toNat
          omega
        · obtain rfl : v21 = .bool false := hv22.trans (congrArg Value.bool (Bool.eq_false_iff.2 c23))
          refine m_y (v := .bool true) 9 rfl (by kernel_rfl) rfl rfl (fun w' e' => y_not rfl rfl) ?_
          refine m_done (by kernel_rfl) (fun w26 e27 => ?_)
          replace B := B.ext0 e27
          clear e27
          clear B0_9 R10
          refine W_if_t (by decide) rfl ?_
          refine W_seq ?_
          refine W_region (by kernel_rfl) ?_
          refine s_y (v := .bool false) rfl (y_assign rfl) ?_
          refine s_nil ?_
          refine W_ret ?_
          refine ret1 (v := .bool false) rfl rfl rfl ⟨_, rfl, ?_⟩
          exact ⟨congrArg Value.bool ((sameL_no (i := k) (by omega) (by omega) (by assumption)).symm), B.ext⟩
      · refine s_y (v := .bool false) rfl (y_lss rfl rfl (decide_eq_false c4)) ?_
        refine s_nil ?_
        refine W_if_f (by decide) rfl ?_
        refine W_exit ?_
        refine W_seq ?_
        refine W_region (by kernel_rfl) ?_
        refine s_y (v := .bool true) rfl (y_assign rfl) ?_
        refine s_nil ?_
        refine W_ret ?_
        refine ret1 (v := .bool true) rfl rfl rfl ⟨_, rfl, ?_⟩
        exact ⟨congrArg Value.bool ((sameL_yes (by omega) (fun i h0 h1 => hq i h0 (by omega))).symm), B.ext⟩
namespace T34
theorem mx : Try.prog.follows .mixedOrders = true := by kernel_rfl
end T34
set_option maxRecDepth 100000 in
set_option maxHeartbeats 4000000 in
theorem c_l_r8Way {a : Int} {b : Int} {sd : Int} {wr : Bool} {w : World} (h1 : 0 ≤ a) (h2 : a ≤ 1000) (h3 : 0 ≤ b) (h4 : b ≤ 1000) (h5 : 0 ≤ sd) (h6 : sd ≤ 1000) :
    Calls Try.prog 34 #[.int .i64 a, .int .i64 b, .int .i64 sd, .bool wr] w (Rt fun v w' => v = .int .i64 (wayI wr a b sd) ∧ Ext0 w w') := by
  have B : Bu w no w [] := Bu.ro All.nil rfl
  refine calls_W (n := 24) Try.func34 rfl rfl (Nat.le_of_ble_eq_true rfl) ?_
  refine W_seq ?_
  refine W_region (by kernel_rfl) ?_
  refine s_y (v := .int .i64 0) rfl (y_assign rfl) ?_
  refine s_nil ?_
  refine W_seq ?_
  refine W_region (by kernel_rfl) ?_
  refine s_y (v := .int .i64 a) rfl (y_move rfl) ?_
  refine s_y (v := .int .i64 b) rfl (y_move rfl) ?_
  refine s_y (v := .int .i64 (a - b)) rfl (y_sub rfl rfl rfl (by omega)) ?_
  refine s_y (v := .int .i64 b) rfl (y_move rfl) ?_
  refine s_y (v := .int .i64 a) rfl (y_move rfl) ?_
  refine s_y (v := .int .i64 (b - a)) rfl (y_sub rfl rfl rfl (by omega)) ?_
  refine s_y (v := .int .i64 (max (a - b) (b - a))) rfl (y_max2 rfl rfl rfl) ?_
  refine s_y (v := .int .i64 (max (a - b) (b - a))) rfl (y_assign rfl) ?_
  refine s_nil ?_
  refine W_seq ?_
  refine W_seq ?_
  refine W_region (by kernel_rfl) ?_
  refine s_y (v := .bool wr) rfl (y_move rfl) ?_
  refine s_nil ?_
  cases wr
  · refine W_if_f (by decide) rfl ?_
    refine W_skip ?_
    refine W_seq ?_
    refine W_region (by kernel_rfl) ?_
    refine s_y (v := .int .i64 (max (a - b) (b - a))) rfl (y_move rfl) ?_
    refine s_y (v := .int .i64 (max (a - b) (b - a))) rfl (y_assign rfl) ?_
    refine s_nil ?_
    refine W_ret ?_
    refine ret1 (v := .int .i64 (max (a - b) (b - a))) rfl rfl rfl ⟨_, rfl, ?_⟩
    exact ⟨congrArg (Value.int .i64) ((by simp [wayI])), B.ext⟩
  · refine W_if_t (by decide) rfl ?_
    refine W_seq ?_
    refine W_region (by kernel_rfl) ?_
    refine s_y (v := .int .i64 (max (a - b) (b - a))) rfl (y_move rfl) ?_
    refine s_y (v := .int .i64 sd) rfl (y_move rfl) ?_
    refine s_y (v := .int .i64 (max (a - b) (b - a))) rfl (y_move rfl) ?_
    refine s_y (v := .int .i64 (sd - (max (a - b) (b - a)))) rfl (y_sub rfl rfl rfl (by omega)) ?_
    refine s_y (v := .int .i64 (min (max (a - b) (b - a)) (sd - (max (a - b) (b - a))))) rfl (y_min2 rfl rfl rfl) ?_
    refine s_y (v := .int .i64 (min (max (a - b) (b - a)) (sd - (max (a - b) (b - a))))) rfl (y_assign rfl) ?_
    refine s_nil ?_
    refine W_ret ?_
    refine ret1 (v := .int .i64 (min (max (a - b) (b - a)) (sd - (max (a - b) (b - a))))) rfl rfl rfl ⟨_, rfl, ?_⟩
    exact ⟨congrArg (Value.int .i64) ((by simp [wayI])), B.ext⟩
namespace T91
theorem mx : Try.prog.follows .mixedOrders = true := by kernel_rfl
end T91
set_option maxRecDepth 100000 in
set_option maxHeartbeats 4000000 in
theorem c_i_size {x : Nat} {X : Nat} {w : World} (hx : Cn .f32 x X) :
    Calls Try.prog 91 #[.float .f32 x] w (Rt fun v w' => (∃ r, v = .float .f32 r ∧ Cn .f32 r (szX X)) ∧ Ext0 w w') := by
  have B : Bu w no w [] := Bu.ro All.nil rfl
  refine calls_W (n := 10) Try.func91 rfl rfl (Nat.le_of_ble_eq_true rfl) ?_
  refine W_seq ?_
  refine W_region (by kernel_rfl) ?_
  refine s_y (v := .float .f32 0) rfl (y_assign rfl) ?_
  refine s_nil ?_
  refine W_seq ?_
  refine W_seq ?_
  refine W_region (by kernel_rfl) ?_
  refine s_y (v := .float .f32 x) rfl (y_move rfl) ?_
  by_cases c1 : flt .f32 X 0 = true
  · refine s_y (v := .bool true) rfl (y_flss rfl rfl (fltC hx (cnLit (k := .f32) (t := 0) (by kernel_rfl) (by kernel_rfl)) c1)) ?_
    refine s_nil ?_
    refine W_if_t (by decide) rfl ?_
    refine W_seq ?_
    refine W_region (by kernel_rfl) ?_
    refine s_y (v := .float .f32 x) rfl (y_move rfl) ?_
    refine s_y (v := .float .f32 (Op.negFloat .f32 x)) rfl (y_fneg rfl) ?_
    refine s_y (v := .float .f32 (Op.negFloat .f32 x)) rfl (y_assign rfl) ?_
    refine s_nil ?_
    refine W_ret ?_
    refine ret1 (v := .float .f32 (Op.negFloat .f32 x)) rfl rfl rfl ⟨_, rfl, ?_⟩
    exact ⟨⟨_, rfl, cnT (negC hx) (by simp [szX, *])⟩, B.ext⟩
  · refine s_y (v := .bool false) rfl (y_flss rfl rfl (fltC hx (cnLit (k := .f32) (t := 0) (by kernel_rfl) (by kernel_rfl)) (Bool.eq_false_iff.2 c1))) ?_
    refine s_nil ?_
    refine W_if_f (by decide) rfl ?_
    refine W_skip ?_
    refine W_seq ?_
    refine W_seq ?_
    refine W_region (by kernel_rfl) ?_
    refine s_y (v := .float .f32 x) rfl (y_move rfl) ?_
    by_cases c2 : feq .f32 X 0 = true
    · refine s_y (v := .bool true) rfl (y_feql rfl rfl (feqC hx (cnLit (k := .f32) (t := 0) (by kernel_rfl) (by kernel_rfl)) c2)) ?_
      refine s_nil ?_
      refine W_if_t (by decide) rfl ?_
      refine W_seq ?_
      refine W_region (by kernel_rfl) ?_
      refine s_y (v := .float .f32 0) rfl (y_assign rfl) ?_
      refine s_nil ?_
      refine W_ret ?_
      refine ret1 (v := .float .f32 0) rfl rfl rfl ⟨_, rfl, ?_⟩
      exact ⟨⟨_, rfl, cnT (cnLit (k := .f32) (t := 0) (by kernel_rfl) (by kernel_rfl)) (by simp [szX, *])⟩, B.ext⟩
    · refine s_y (v := .bool false) rfl (y_feql rfl rfl (feqC hx (cnLit (k := .f32) (t := 0) (by kernel_rfl) (by kernel_rfl)) (Bool.eq_false_iff.2 c2))) ?_
      refine s_nil ?_
      refine W_if_f (by decide) rfl ?_
      refine W_skip ?_
      refine W_seq ?_
      refine W_region (by kernel_rfl) ?_
      refine s_y (v := .float .f32 x) rfl (y_move rfl) ?_
      refine s_y (v := .float .f32 x) rfl (y_assign rfl) ?_
      refine s_nil ?_
      refine W_ret ?_
      refine ret1 (v := .float .f32 x) rfl rfl rfl ⟨_, rfl, ?_⟩
      exact ⟨⟨_, rfl, cnT hx (by simp [szX, *])⟩, B.ext⟩
namespace T35
theorem mx : Try.prog.follows .mixedOrders = true := by kernel_rfl
theorem fn_85 : fnB Try.prog 85 = true := by kernel_rfl
theorem fn_91 : fnB Try.prog 91 = true := by kernel_rfl
theorem one_34 : oneB Try.prog 34 = true := by kernel_rfl
theorem sl_24_34_1 : slB Try.prog 24 34 1 = true := by kernel_rfl
end T35
set_option maxRecDepth 100000 in
set_option maxHeartbeats 4000000 in
theorem c_i_ArrivalOf {aa : Option Addr} {na : Nat} {ca : Nat} {Xa : List Nat} {lv : Nat} {LV : Nat} {w : World} (qa : Rd w kF aa na Xa) (hlv : Cn .f32 lv LV) (ga : na ≤ 9223372036854775807) :
    Calls Try.prog 35 #[.slice aa na ca, .float .f32 lv] w (Rt fun v w' => (decide (0 ≤ arrI Xa LV) = true ∧ v = .tuple #[.int .i64 (arrI Xa LV), .bool true] ∧ Ext0 w w') ∨ (decide (0 ≤ arrI Xa LV) = false ∧ v = .tuple #[.int .i64 0, .bool false] ∧ Ext0 w w')) := by
  have hla := qa.len
  have B : Bu w no w [.rd kF aa na Xa] := Bu.ro (All.cons qa All.nil) rfl
  refine calls_W (n := 34) Try.func35 rfl rfl (Nat.le_of_ble_eq_true rfl) ?_
  refine W_seq ?_
  refine W_region (by kernel_rfl) ?_
  refine s_y (v := .int .i64 0) rfl (y_assign rfl) ?_
  refine s_y (v := .bool false) rfl (y_assign rfl) ?_
  refine s_nil ?_
  refine W_seq ?_
  refine W_seq ?_
  refine W_region (by kernel_rfl) ?_
  refine s_y (v := .slice aa na ca) rfl (y_move rfl) ?_
  refine s_y (v := .int .i64 ((na : Nat) : Int)) rfl (y_len T35.sl_24_34_1 rfl rfl) ?_
  by_cases c1 : 64 < ((na : Nat) : Int)
  · refine s_y (v := .bool true) rfl (y_gtr rfl rfl (decide_eq_true c1)) ?_
    refine s_y (v := .bool true) rfl (y_move rfl) ?_
    refine s_skip rfl ?_
    refine s_skip rfl ?_
    refine s_skip rfl ?_
    refine s_y (v := .bool true) rfl (y_pick_t rfl rfl) ?_
    refine s_y (v := .bool true) rfl (y_move rfl) ?_
    refine s_skip rfl ?_
    refine s_skip rfl ?_
    refine s_skip rfl ?_
    refine s_y (v := .bool true) rfl (y_pick_t rfl rfl) ?_
    refine s_nil ?_
    refine W_if_t (by decide) rfl ?_
    refine W_seq ?_
    refine W_region (by kernel_rfl) ?_
    refine s_y (v := .int .i64 0) rfl (y_assign rfl) ?_
    refine s_y (v := .bool false) rfl (y_assign rfl) ?_
    refine s_nil ?_
    refine W_ret ?_
    refine ret2 (v1 := .int .i64 0) (v2 := .bool false) rfl rfl rfl rfl rfl ⟨_, rfl, ?_⟩
    exact .inr ⟨(by rw [arr_n (by first | exact arrOk_len (by omega) | exact arrOk_fin (by assumption) | exact arrOk_gt (by assumption))]; rfl), rfl, B.ext⟩
  · refine s_y (v := .bool false) rfl (y_gtr rfl rfl (decide_eq_false c1)) ?_
    refine s_y (v := .bool false) rfl (y_move rfl) ?_
    refine s_y (v := .float .f32 lv) rfl (y_move rfl) ?_
    refine s_k rfl (k_call T35.fn_85 (c_i_IsFinite hlv) rfl ?_)
    rintro v4 w2 ⟨hv5, e3⟩
    replace B := B.ext0 e3
    clear e3
    by_cases c6 : finB LV = true
    · obtain rfl : v4 = .bool true := hv5.trans (congrArg Value.bool c6)
      refine s_y (v := .bool false) rfl (y_not rfl rfl) ?_
      refine s_y (v := .bool false) rfl (y_pick_f rfl rfl) ?_
      refine s_y (v := .bool false) rfl (y_move rfl) ?_
      refine s_y (v := .float .f32 lv) rfl (y_move rfl) ?_
      by_cases c7 : fgt .f32 LV 0 = true
      · refine s_y (v := .bool true) rfl (y_fgtr rfl rfl (fgtC hlv (cnLit (k := .f32) (t := 0) (by kernel_rfl) (by kernel_rfl)) c7)) ?_
        refine s_y (v := .bool false) rfl (y_not rfl rfl) ?_
        refine s_y (v := .bool false) rfl (y_pick_f rfl rfl) ?_
        refine s_nil ?_
        refine W_if_f (by decide) rfl ?_
        refine W_skip ?_
        refine W_seq ?_
        refine W_seq ?_
        refine W_region (by kernel_rfl) ?_
        refine s_y (v := .slice aa na ca) rfl (y_move rfl) ?_
        refine s_y (v := .int .i64 ((na : Nat) : Int)) rfl (y_len T35.sl_24_34_1 rfl rfl) ?_
        refine s_y (v := .int .i64 0) rfl (y_move rfl) ?_
        refine s_nil ?_
        refine W_block ?_
        refine W_loop (fun ρ' w' => ∃ (ρ1 : Env) (k : Int), ρ' = updL ρ1 [(1, .float .f32 lv), (21, .slice aa na ca), (22, .int .i64 ((na : Nat) : Int)), (23, .int .i64 k)] ∧ Bu w no w' [.rd kF aa na Xa] ∧ (0 ≤ k) ∧ (k ≤ (na : Int)) ∧ (arrI Xa LV = firstGe Xa LV ((na : Int) - k).toNat k)) (fun ρ' _ => ((na : Int) - iv (ρ' 23)).toNat) ?_ ?_
        · exact ⟨_, 0, Fits.eq ⟨rfl, rfl, rfl, rfl, trivial⟩, B, (Int.le_refl _), (by omega), (arr_start (arrOk_i (by omega) c6 c7) (by omega))⟩
        · clear B; rintro _ w8 ⟨ρ9, k, rfl, B, h0k, h1k, hM⟩
          refine W_seq ?_
          refine W_region (by kernel_rfl) ?_
          by_cases c10 : k < ((na : Nat) : Int)
          · refine s_y (v := .bool true) rfl (y_lss rfl rfl (decide_eq_true c10)) ?_
            refine s_nil ?_
            refine W_seq ?_
            refine W_if_t (by decide) rfl ?_
            refine W_skip ?_
            refine W_seq ?_
            refine W_block ?_
            refine W_seq ?_
            refine W_region (by kernel_rfl) ?_
            refine s_y (v := .int .i64 k) rfl (y_move rfl) ?_
            refine s_y (v := .pointer (some (sat aa ((k).toNat * 1)))) rfl (y_idx T35.sl_24_34_1 rfl rfl ((B.r 0 rfl).addr (by omega)) (by omega) (by omega)) ?_
            obtain ⟨r12, hr13, hR11⟩ := Rd.atF (B.r 0 rfl) k (by omega) (by omega)
            refine s_y (v := .float .f32 r12) rfl (y_load T35.one_34 rfl (hR11.cell (i := 0) rfl)) ?_
            refine s_y (v := .int .i64 k) rfl (y_assign rfl) ?_
            refine s_y (v := .float .f32 r12) rfl (y_assign rfl) ?_
            refine s_nil ?_
            refine W_seq ?_
            refine W_region (by kernel_rfl) ?_
            refine s_y (v := .float .f32 r12) rfl (y_move rfl) ?_
            refine s_k rfl (k_call T35.fn_91 (c_i_size hr13) rfl ?_)
            rintro _ w14 ⟨⟨r16, rfl, hr17⟩, e15⟩
            replace B := B.ext0 e15
            clear e15
            refine s_y (v := .float .f32 lv) rfl (y_move rfl) ?_
            by_cases c18 : fge .f32 (szX (el Xa k)) LV = true
            · refine s_y (v := .bool true) rfl (y_fgeq rfl rfl (fgeC hr17 hlv c18)) ?_
              refine s_nil ?_
              refine W_if_t (by decide) rfl ?_
              refine W_seq ?_
              refine W_region (by kernel_rfl) ?_
              refine s_y (v := .int .i64 k) rfl (y_move rfl) ?_
              refine s_y (v := .int .i64 k) rfl (y_assign rfl) ?_
              refine s_y (v := .bool true) rfl (y_assign rfl) ?_
              refine s_nil ?_
              refine W_ret ?_
              refine ret2 (v1 := .int .i64 k) (v2 := .bool true) rfl rfl rfl rfl rfl ⟨_, rfl, ?_⟩
              have hcond : decide (0 ≤ arrI Xa LV) = true := (by rw [arr_k (by omega) hM (by assumption)]; exact decide_eq_true h0k)
              exact .inl ⟨hcond, ⟨(by rw [arr_k (by omega) hM (by assumption)]), B.ext⟩⟩
            · refine s_y (v := .bool false) rfl (y_fgeq rfl rfl (fgeC hr17 hlv (Bool.eq_false_iff.2 c18))) ?_
              refine s_nil ?_
              refine W_if_f (by decide) rfl ?_
              refine W_skip ?_
              refine W_region (by kernel_rfl) ?_
              refine s_y (v := .int .i64 (k + 1)) rfl (y_add rfl rfl rfl (by omega)) ?_
              refine s_y (v := .int .i64 (k + 1)) rfl (y_move rfl) ?_
              refine s_nil ?_
              refine ⟨⟨_, k + 1, Fits.eq ⟨rfl, rfl, rfl, rfl, trivial⟩, B, (by omega), (by omega), (arr_step (by omega) hM (by assumption))⟩, ?_⟩
              show ((na : Int) - (k + 1)).toNat < ((na : Int) - k).toNat
              omega
          · refine s_y (v := .bool false) rfl (y_lss rfl rfl (decide_eq_false c10)) ?_
            refine s_nil ?_
            refine W_seq ?_
            refine W_if_f (by decide) rfl ?_
            refine W_exit ?_
            refine W_seq ?_
            refine W_region (by kernel_rfl) ?_
            refine s_y (v := .int .i64 0) rfl (y_assign rfl) ?_
            refine s_y (v := .bool false) rfl (y_assign rfl) ?_
            refine s_nil ?_
            refine W_ret ?_
            refine ret2 (v1 := .int .i64 0) (v2 := .bool false) rfl rfl rfl rfl rfl ⟨_, rfl, ?_⟩
            exact .inr ⟨(by rw [arr_0 (by omega) hM]; rfl), rfl, B.ext⟩
      · refine s_y (v := .bool false) rfl (y_fgtr rfl rfl (fgtC hlv (cnLit (k := .f32) (t := 0) (by kernel_rfl) (by kernel_rfl)) (Bool.eq_false_iff.2 c7))) ?_
        refine s_y (v := .bool true) rfl (y_not rfl rfl) ?_
        refine s_y (v := .bool true) rfl (y_pick_f rfl rfl) ?_
        refine s_nil ?_
        refine W_if_t (by decide) rfl ?_
        refine W_seq ?_
        refine W_region (by kernel_rfl) ?_
        refine s_y (v := .int .i64 0) rfl (y_assign rfl) ?_
        refine s_y (v := .bool false) rfl (y_assign rfl) ?_
        refine s_nil ?_
        refine W_ret ?_
        refine ret2 (v1 := .int .i64 0) (v2 := .bool false) rfl rfl rfl rfl rfl ⟨_, rfl, ?_⟩
        exact .inr ⟨(by rw [arr_n (by first | exact arrOk_len (by omega) | exact arrOk_fin (by assumption) | exact arrOk_gt (by assumption))]; rfl), rfl, B.ext⟩
    · obtain rfl : v4 = .bool false := hv5.trans (congrArg Value.bool (Bool.eq_false_iff.2 c6))
      refine s_y (v := .bool true) rfl (y_not rfl rfl) ?_
      refine s_y (v := .bool true) rfl (y_pick_f rfl rfl) ?_
      refine s_y (v := .bool true) rfl (y_move rfl) ?_
      refine s_skip rfl ?_
      refine s_skip rfl ?_
      refine s_skip rfl ?_
      refine s_y (v := .bool true) rfl (y_pick_t rfl rfl) ?_
      refine s_nil ?_
      refine W_if_t (by decide) rfl ?_
      refine W_seq ?_
      refine W_region (by kernel_rfl) ?_
      refine s_y (v := .int .i64 0) rfl (y_assign rfl) ?_
      refine s_y (v := .bool false) rfl (y_assign rfl) ?_
      refine s_nil ?_
      refine W_ret ?_
      refine ret2 (v1 := .int .i64 0) (v2 := .bool false) rfl rfl rfl rfl rfl ⟨_, rfl, ?_⟩
      exact .inr ⟨(by rw [arr_n (by first | exact arrOk_len (by omega) | exact arrOk_fin (by assumption) | exact arrOk_gt (by assumption))]; rfl), rfl, B.ext⟩
end Go.Proofs.Ytgohmocjjmkepaa
