/- Walks: what the functions under FnEnergies do (part 3). Printed by a program of this claim's author. -/
import Derived.Test.YtgohmocjjmkepaaEnergiesW1
set_option linter.unusedSimpArgs false
set_option linter.unusedVariables false
open Go.Wv
namespace Go.Proofs.Ytgohmocjjmkepaa
open Go.Proofs
namespace T97
theorem mx : Try.prog.follows .mixedOrders = true := by kernel_rfl
theorem one_34 : oneB Try.prog 34 = true := by kernel_rfl
theorem sl_24_34_1 : slB Try.prog 24 34 1 = true := by kernel_rfl
theorem slt_24 : SlT Try.prog 24 34 1 4 (.float .f32 0) := ⟨by kernel_rfl, by kernel_rfl, rfl, by decide⟩
end T97
set_option maxRecDepth 100000 in
set_option maxHeartbeats 4000000 in
theorem c_i_both {aa : Option Addr} {na : Nat} {ca : Nat} {Xa : List Nat} {ab : Option Addr} {nb : Nat} {cb : Nat} {Xb : List Nat} {f : Nat} {us xs : List Value} {FM : Nat → Nat → Nat} {w : World} (qa : Rd w kF aa na Xa) (qb : Rd w kF ab nb Xb) (hfB : fnB Try.prog f = true) (hF : ∀ r R r2 R2 {w1}, Ext0 w w1 → Cn .f32 r R → Cn .f32 r2 R2 → Calls Try.prog f (us ++ ([.float .f32 r, .float .f32 r2] : List Value) ++ xs).toArray w1 (Rt fun v w2 => (∃ q, v = .float .f32 q ∧ Cn .f32 q (FM R R2)) ∧ Ext0 w1 w2)) (hab : nb = na) (hb : na ≤ 1048576) :
    Calls Try.prog 97 #[.slice aa na ca, .slice ab nb cb, .func (.func f) us.toArray xs.toArray] w (Rt fun v w' => ∃ (a1 : Option Addr) (c1 : Nat), v = .slice a1 na c1 ∧ New w w' [.ow kF a1 na c1 34 (zipL na FM Xa Xb)]) := by
  have hla := qa.len
  have hlb := qb.len
  have B : Bu w no w [.rd kF aa na Xa, .rd kF ab nb Xb] := Bu.ro (All.cons qa (All.cons qb All.nil)) rfl
  refine calls_W (n := 30) Try.func97 rfl rfl (Nat.le_of_ble_eq_true rfl) ?_
  refine W_seq ?_
  refine W_region (by kernel_rfl) ?_
  refine s_y (v := .slice none 0 0) rfl (y_assign rfl) ?_
  refine s_nil ?_
  refine W_seq ?_
  refine W_region (by kernel_rfl) ?_
  refine s_k rfl (k_bsliceO (k := kF) (n := 0) (cells := #[]) (X := []) T97.slt_24 (by decide) (by first | rfl | kernel_rfl) (rfl : Reps kF [] []) rfl (fun b1 w2 hN3 => ?_))
  replace B := B.new1 hN3
  clear hN3
  refine s_y (v := .slice (some ⟨b1, 0, none⟩) 0 0) rfl (y_assign rfl) ?_
  refine s_nil ?_
  refine W_seq ?_
  refine W_seq ?_
  refine W_region (by kernel_rfl) ?_
  refine s_y (v := .slice aa na ca) rfl (y_move rfl) ?_
  refine s_y (v := .int .i64 ((na : Nat) : Int)) rfl (y_len T97.sl_24_34_1 rfl rfl) ?_
  refine s_y (v := .int .i64 0) rfl (y_move rfl) ?_
  refine s_nil ?_
  refine W_block ?_
  refine W_loop (fun ρ' w' => ∃ (ρ1 : Env) (k : Int) (a0 : Option Addr) (cc0 : Nat) (nn0 : Nat), ρ' = updL ρ1 [(1, .slice ab nb cb), (2, .func (.func f) us.toArray xs.toArray), (6, .slice none 0 0), (7, .slice a0 nn0 cc0), (11, .slice aa na ca), (12, .int .i64 ((na : Nat) : Int)), (13, .int .i64 k)] ∧ Bu w no w' [.ow kF a0 nn0 cc0 34 (tab k (fun i => FM (el Xa i) (el Xb i))), .rd kF aa na Xa, .rd kF ab nb Xb] ∧ (0 ≤ k) ∧ (k ≤ (na : Int))) (fun ρ' _ => ((na : Int) - iv (ρ' 13)).toNat) ?_ ?_
  · replace B : Bu w no w2 [.ow kF (some ⟨b1, 0, none⟩) 0 0 34 (tab 0 (fun i => FM (el Xa i) (el Xb i))), .rd kF aa na Xa, .rd kF ab nb Xb] := B.castX 0 rfl rfl rfl
    exact ⟨_, 0, (some ⟨b1, 0, none⟩), 0, 0, Fits.eq ⟨rfl, rfl, rfl, rfl, rfl, rfl, rfl, trivial⟩, B, (Int.le_refl _), (by omega)⟩
  · clear B; rintro _ w4 ⟨ρ5, k, a0, cc0, nn0, rfl, B, h0k, h1k⟩
    have hnn0 := (B.o 0 rfl).len
    rw [tab_length] at hnn0
    refine W_seq ?_
    refine W_region (by kernel_rfl) ?_
    by_cases c6 : k < ((na : Nat) : Int)
    · refine s_y (v := .bool true) rfl (y_lss rfl rfl (decide_eq_true c6)) ?_
      refine s_nil ?_
      refine W_seq ?_
      refine W_if_t (by decide) rfl ?_
      refine W_skip ?_
      refine W_seq ?_
      refine W_block ?_
      refine W_seq ?_
      refine W_region (by kernel_rfl) ?_
      refine s_y (v := .int .i64 k) rfl (y_move rfl) ?_
      refine s_y (v := .pointer (some (sat aa ((k).toNat * 1)))) rfl (y_idx T97.sl_24_34_1 rfl rfl ((B.r 1 rfl).addr (by omega)) (by omega) (by omega)) ?_
      obtain ⟨r8, hr9, hR7⟩ := Rd.atF (B.r 1 rfl) k (by omega) (by omega)
      refine s_y (v := .float .f32 r8) rfl (y_load T97.one_34 rfl (hR7.cell (i := 0) rfl)) ?_
      refine s_y (v := .int .i64 k) rfl (y_assign rfl) ?_
      refine s_y (v := .float .f32 r8) rfl (y_assign rfl) ?_
      refine s_nil ?_
      refine W_region (by kernel_rfl) ?_
      refine s_y (v := .slice a0 nn0 cc0) rfl (y_move rfl) ?_
      refine s_y (v := .func (.func f) us.toArray xs.toArray) rfl (y_move rfl) ?_
      refine s_y (v := .float .f32 r8) rfl (y_move rfl) ?_
      refine s_y (v := .slice ab nb cb) rfl (y_move rfl) ?_
      refine s_y (v := .int .i64 k) rfl (y_move rfl) ?_
      refine s_y (v := .pointer (some (sat ab ((k).toNat * 1)))) rfl (y_idx T97.sl_24_34_1 rfl rfl ((B.r 2 rfl).addr (by omega)) (by omega) (by omega)) ?_
      obtain ⟨r11, hr12, hR10⟩ := Rd.atF (B.r 2 rfl) k (by omega) (by omega)
      refine s_y (v := .float .f32 r11) rfl (y_load T97.one_34 rfl (hR10.cell (i := 0) rfl)) ?_
      refine s_k rfl (k_callv hfB rfl (hF r8 (el Xa k) r11 (el Xb k) B.ext hr9 hr12) rfl ?_)
      rintro _ w13 ⟨⟨r15, rfl, hr16⟩, e14⟩
      replace B := B.ext0 e14
      clear e14
      refine s_k rfl (k_bsliceO (k := kF) (n := 1) (cells := #[.float .f32 r15]) (X := [FM (el Xa k) (el Xb k)]) T97.slt_24 (by decide) (by first | rfl | kernel_rfl) (reps_cons (c := [.float .f32 r15]) ⟨_, rfl, hr16⟩ (rfl : Reps kF [] [])) rfl (fun b17 w18 hN19 => ?_))
      replace B := B.new1 hN19
      clear hN19
      refine s_k rfl (k_appO (k := kF) T97.slt_24 rfl rfl rfl (B.o 1 rfl) (B.o 0 rfl).rd (by omega) (by unfold maxLen; omega) (fun a20 c21 w22 hU23 => ?_))
      replace B : Bu w no w22 [.ow kF a20 (nn0 + 1) c21 34 ((tab k (fun i => FM (el Xa i) (el Xb i))) ++ ([FM (el Xa k) (el Xb k)])), .ow kF (some ⟨b17, 0, none⟩) 1 1 34 ([FM (el Xa k) (el Xb k)]), .rd kF aa na Xa, .rd kF ab nb Xb] := B.upd [1] rfl hU23
      clear hU23
      refine s_y (v := .slice a20 (nn0 + 1) c21) rfl (y_assign rfl) ?_
      refine s_nil ?_
      refine W_region (by kernel_rfl) ?_
      refine s_y (v := .int .i64 (k + 1)) rfl (y_add rfl rfl rfl (by omega)) ?_
      refine s_y (v := .int .i64 (k + 1)) rfl (y_move rfl) ?_
      refine s_nil ?_
      replace B : Bu w no w22 [.ow kF a20 (nn0 + 1) c21 34 (tab (k + 1) (fun i => FM (el Xa i) (el Xb i))), .ow kF (some ⟨b17, 0, none⟩) 1 1 34 ([FM (el Xa k) (el Xb k)]), .rd kF aa na Xa, .rd kF ab nb Xb] := B.castX 0 rfl rfl (tab_snoc (g := fun i => FM (el Xa i) (el Xb i)) (by omega) rfl)
      refine ⟨⟨_, k + 1, a20, c21, nn0 + 1, Fits.eq ⟨rfl, rfl, rfl, rfl, rfl, rfl, rfl, trivial⟩, (B.pick [0, 2, 3] rfl rfl), (by omega), (by omega)⟩, ?_⟩
      show ((na : Int) - (k + 1)).toNat < ((na : Int) - k).toNat
      omega
    · refine s_y (v := .bool false) rfl (y_lss rfl rfl (decide_eq_false c6)) ?_
      refine s_nil ?_
      refine W_seq ?_
      refine W_if_f (by decide) rfl ?_
      refine W_exit ?_
      refine W_seq ?_
      refine W_region (by kernel_rfl) ?_
      refine s_y (v := .slice a0 nn0 cc0) rfl (y_move rfl) ?_
      refine s_y (v := .slice a0 nn0 cc0) rfl (y_assign rfl) ?_
      refine s_nil ?_
      refine W_ret ?_
      refine ret1 (v := .slice a0 nn0 cc0) rfl rfl rfl ⟨_, rfl, ?_⟩
      obtain rfl : k = (na : Int) := by omega
      replace B : Bu w no w4 [.ow kF a0 na cc0 34 (zipL na FM Xa Xb), .rd kF aa na Xa, .rd kF ab nb Xb] := B.castX 0 rfl (by omega) rfl
      exact ⟨_, _, (by rw [(show nn0 = na from (by omega))]), B.give [0] rfl rfl rfl⟩
namespace T40
theorem mx : Try.prog.follows .mixedOrders = true := by kernel_rfl
theorem agg_26_5 : aggB Try.prog 26 5 = true := by kernel_rfl
theorem agg_30_3 : aggB Try.prog 30 3 = true := by kernel_rfl
theorem fld_30_0_0 : fldB Try.prog 30 0 0 = true := by kernel_rfl
theorem fld_30_1_1 : fldB Try.prog 30 1 1 = true := by kernel_rfl
theorem fld_30_2_2 : fldB Try.prog 30 2 2 = true := by kernel_rfl
theorem fn_41 : fnB Try.prog 41 = true := by kernel_rfl
theorem fn_70 : fnB Try.prog 70 = true := by kernel_rfl
theorem fn_96 : fnB Try.prog 96 = true := by kernel_rfl
theorem fn_97 : fnB Try.prog 97 = true := by kernel_rfl
theorem one_24 : oneB Try.prog 24 = true := by kernel_rfl
theorem sz_30_3 : szB Try.prog 30 3 = true := by kernel_rfl
theorem zero_30 : zeroB Try.prog 30 (.agg #[.slice none 0 0, .slice none 0 0, .slice none 0 0]) := by unfold zeroB; kernel_rfl
end T40
set_option maxRecDepth 100000 in
set_option maxHeartbeats 4000000 in
theorem c_i_ScaleField {wd : Int} {hi : Int} {wr : Bool} {asp : Option Addr} {nsp : Nat} {csp : Nat} {Xsp : List Nat} {als : Option Addr} {nls : Nat} {cls : Nat} {Xls : List Nat} {afe : Option Addr} {nfe : Nat} {cfe : Nat} {Xfe : List Nat} {afx : Option Addr} {nfx : Nat} {cfx : Nat} {Xfx : List Nat} {afy : Option Addr} {nfy : Nat} {cfy : Nat} {Xfy : List Nat} {sv : Nat} {S : Nat} {w : World} (qsp : Rd w kF asp nsp Xsp) (qls : Rd w kF als nls Xls) (qfe : Rd w kF afe nfe Xfe) (qfx : Rd w kF afx nfx Xfx) (qfy : Rd w kF afy nfy Xfy) (hsv : Cn .f32 sv S) (hbsp : nsp ≤ 9223372036854775806) (hbls : nls ≤ 9223372036854775806) (hbfe : nfe ≤ 9223372036854775806) (hbfx : nfx ≤ 9223372036854775806) (hbfy : nfy ≤ 9223372036854775806) :
    Calls Try.prog 40 #[.agg #[.int .i64 wd, .int .i64 hi, .bool wr, .slice asp nsp csp, .slice als nls cls], .agg #[.slice afe nfe cfe, .slice afx nfx cfx, .slice afy nfy cfy], .float .f32 sv] w (Rt fun v w' => (sclB wd hi wr Xsp Xls Xfe Xfx Xfy S = true ∧ ∃ (a1 : Option Addr) (c1 : Nat) (a2 : Option Addr) (c2 : Nat) (a3 : Option Addr) (c3 : Nat), v = .tuple #[.agg #[.slice a1 ((wd * hi).toNat) c1, .slice a2 ((wd * hi).toNat) c2, .slice a3 ((wd * hi).toNat) c3], .bool true] ∧ New w w' [.ow kF a1 ((wd * hi).toNat) c1 34 (mulL (wd * hi) Xfe S), .ow kF a2 ((wd * hi).toNat) c2 34 (mulL (wd * hi) Xfx S), .ow kF a3 ((wd * hi).toNat) c3 34 (mulL (wd * hi) Xfy S)]) ∨ (sclB wd hi wr Xsp Xls Xfe Xfx Xfy S = false ∧ v = .tuple #[.agg #[.slice none 0 0, .slice none 0 0, .slice none 0 0], .bool false] ∧ Ext0 w w')) := by
  have hlsp := qsp.len
  have hlls := qls.len
  have hlfe := qfe.len
  have hlfx := qfx.len
  have hlfy := qfy.len
  have B : Bu w no w [.rd kF asp nsp Xsp, .rd kF als nls Xls, .rd kF afe nfe Xfe, .rd kF afx nfx Xfx, .rd kF afy nfy Xfy] := Bu.ro (All.cons qsp (All.cons qls (All.cons qfe (All.cons qfx (All.cons qfy All.nil))))) rfl
  refine calls_W (n := 38) Try.func40 rfl rfl (Nat.le_of_ble_eq_true rfl) ?_
  refine W_seq ?_
  refine W_region (by kernel_rfl) ?_
  refine s_k rfl (k_boxN (v := .agg #[.int .i64 wd, .int .i64 hi, .bool wr, .slice asp nsp csp, .slice als nls cls]) (cs := [.int .i64 wd, .int .i64 hi, .bool wr, .slice asp nsp csp, .slice als nls cls]) rfl rfl (fun b1 w2 hN3 => ?_))
  replace B := B.new1 hN3
  clear hN3
  refine s_k rfl (k_boxN (v := .agg #[.slice afe nfe cfe, .slice afx nfx cfx, .slice afy nfy cfy]) (cs := [.slice afe nfe cfe, .slice afx nfx cfx, .slice afy nfy cfy]) rfl rfl (fun b4 w5 hN6 => ?_))
  replace B := B.new1 hN6
  clear hN6
  refine s_k rfl (k_boxN (v := .float .f32 sv) (cs := [.float .f32 sv]) rfl rfl (fun b7 w8 hN9 => ?_))
  replace B := B.new1 hN9
  clear hN9
  refine s_k rfl (k_allocN (z := (.agg #[.slice none 0 0, .slice none 0 0, .slice none 0 0])) (cs := [.slice none 0 0, .slice none 0 0, .slice none 0 0]) T40.zero_30 rfl (fun b10 w11 hN12 => ?_))
  replace B := B.new1 hN12
  clear hN12
  refine s_y (v := .bool false) rfl (y_assign rfl) ?_
  refine s_nil ?_
  refine W_seq ?_
  refine W_seq ?_
  refine W_region (by kernel_rfl) ?_
  refine s_y (v := .agg #[.int .i64 wd, .int .i64 hi, .bool wr, .slice asp nsp csp, .slice als nls cls]) rfl (y_loadn (b := b1) (o := 0) (vs := [.int .i64 wd, .int .i64 hi, .bool wr, .slice asp nsp csp, .slice als nls cls]) T40.agg_26_5 rfl rfl ((B.b 3 rfl).cells (o := 0) rfl)) ?_
  refine s_y (v := .agg #[.slice afe nfe cfe, .slice afx nfx cfx, .slice afy nfy cfy]) rfl (y_loadn (b := b4) (o := 0) (vs := [.slice afe nfe cfe, .slice afx nfx cfx, .slice afy nfy cfy]) T40.agg_30_3 rfl rfl ((B.b 2 rfl).cells (o := 0) rfl)) ?_
  refine s_k rfl (k_call T40.fn_41 (c_i_IsField (B.r 4 rfl) (B.r 5 rfl) (B.r 6 rfl) (B.r 7 rfl) (B.r 8 rfl) (by omega) (by omega) (by omega) (by omega) (by omega)) rfl ?_)
  rintro v15 w13 ⟨hv16, e14⟩
  replace B := B.ext0 e14
  clear e14
  by_cases c17 : fieldB wd hi wr Xsp Xls Xfe Xfx Xfy = true
  · have hb18 := fieldB_b c17
    obtain rfl : v15 = .bool true := hv16.trans (congrArg Value.bool c17)
    refine s_y (v := .bool false) rfl (y_not rfl rfl) ?_
    refine s_nil ?_
    refine W_if_f (by decide) rfl ?_
    refine W_skip ?_
    refine W_seq ?_
    refine W_region (by kernel_rfl) ?_
    refine s_y (v := .func (.func 96) #[] #[.pointer (some ⟨b7, 0, none⟩)]) rfl (y_func rfl rfl) ?_
    refine s_y (v := .func (.func 96) #[] #[.pointer (some ⟨b7, 0, none⟩)]) rfl (y_assign rfl) ?_
    refine s_nil ?_
    refine W_seq ?_
    have B0_23 := B
    refine W_draw (at1 b10) T40.mx (by kernel_rfl) (fun w21 e22 => ?_)
    have R24 := Ext.refl (at1 b10) w13
    replace R24 := R24.trans (Ext0.any e22)
    replace B := B.ext0 e22
    clear e22
    refine m_y (v := .agg #[.int .i64 wd, .int .i64 hi, .bool wr, .slice asp nsp csp, .slice als nls cls]) 0 rfl (by kernel_rfl) rfl rfl (fun w' e' => y_loadn (b := b1) (o := 0) (vs := [.int .i64 wd, .int .i64 hi, .bool wr, .slice asp nsp csp, .slice als nls cls]) T40.agg_26_5 rfl rfl ((B0_23.bx 3 0 rfl rfl rfl rfl e' (fun _ h => h)).cells (o := 0) rfl)) ?_
    refine m_y (v := .pointer (some ⟨b4, 0, none⟩)) 1 rfl (by kernel_rfl) rfl rfl (fun w' e' => y_fld (o := 0) T40.fld_30_0_0 rfl) ?_
    refine m_y (v := .slice afe nfe cfe) 2 rfl (by kernel_rfl) rfl rfl (fun w' e' => y_load T40.one_24 rfl ((B0_23.bx 2 0 rfl rfl rfl rfl e' (fun _ h => h)).cell (j := 0) rfl)) ?_
    refine m_y (v := .pointer (some ⟨b4, 0, none⟩)) 3 rfl (by kernel_rfl) rfl rfl (fun w' e' => y_fld (o := 0) T40.fld_30_0_0 rfl) ?_
    refine m_y (v := .slice afe nfe cfe) 4 rfl (by kernel_rfl) rfl rfl (fun w' e' => y_load T40.one_24 rfl ((B0_23.bx 2 0 rfl rfl rfl rfl e' (fun _ h => h)).cell (j := 0) rfl)) ?_
    refine m_y (v := .func (.func 96) #[] #[.pointer (some ⟨b7, 0, none⟩)]) 5 rfl (by kernel_rfl) rfl rfl (fun w' e' => y_move rfl) ?_
    refine m_y (v := .pointer (some ⟨b4, 1, none⟩)) 7 rfl (by kernel_rfl) rfl rfl (fun w' e' => y_fld (o := 0) T40.fld_30_1_1 rfl) ?_
    refine m_y (v := .slice afx nfx cfx) 8 rfl (by kernel_rfl) rfl rfl (fun w' e' => y_load T40.one_24 rfl ((B0_23.bx 2 0 rfl rfl rfl rfl e' (fun _ h => h)).cell (j := 1) rfl)) ?_
    refine m_y (v := .pointer (some ⟨b4, 1, none⟩)) 9 rfl (by kernel_rfl) rfl rfl (fun w' e' => y_fld (o := 0) T40.fld_30_1_1 rfl) ?_
    refine m_y (v := .slice afx nfx cfx) 10 rfl (by kernel_rfl) rfl rfl (fun w' e' => y_load T40.one_24 rfl ((B0_23.bx 2 0 rfl rfl rfl rfl e' (fun _ h => h)).cell (j := 1) rfl)) ?_
    refine m_y (v := .func (.func 96) #[] #[.pointer (some ⟨b7, 0, none⟩)]) 11 rfl (by kernel_rfl) rfl rfl (fun w' e' => y_move rfl) ?_
    refine m_y (v := .pointer (some ⟨b4, 2, none⟩)) 13 rfl (by kernel_rfl) rfl rfl (fun w' e' => y_fld (o := 0) T40.fld_30_2_2 rfl) ?_
    refine m_y (v := .slice afy nfy cfy) 14 rfl (by kernel_rfl) rfl rfl (fun w' e' => y_load T40.one_24 rfl ((B0_23.bx 2 0 rfl rfl rfl rfl e' (fun _ h => h)).cell (j := 2) rfl)) ?_
    refine m_y (v := .pointer (some ⟨b4, 2, none⟩)) 15 rfl (by kernel_rfl) rfl rfl (fun w' e' => y_fld (o := 0) T40.fld_30_2_2 rfl) ?_
    refine m_y (v := .slice afy nfy cfy) 16 rfl (by kernel_rfl) rfl rfl (fun w' e' => y_load T40.one_24 rfl ((B0_23.bx 2 0 rfl rfl rfl rfl e' (fun _ h => h)).cell (j := 2) rfl)) ?_
    refine m_y (v := .func (.func 96) #[] #[.pointer (some ⟨b7, 0, none⟩)]) 17 rfl (by kernel_rfl) rfl rfl (fun w' e' => y_move rfl) ?_
    refine m_k 6 [12, 18, 19, 20, 21, 22, 23, 24] rfl (by kernel_rfl) rfl rfl (fun w25 e26 => ?_)
    replace R24 := R24.trans (Ext0.any e26)
    replace B := B.ext0 e26
    clear e26
    refine k_call T40.fn_97 (c_i_both (f := 96) (us := []) (xs := [.pointer (some ⟨b7, 0, none⟩)]) (FM := (fun a _ => fop .mul .f32 a S)) (B.r 6 rfl) (B.r 6 rfl) T40.fn_96 (fun r R r2 R2 w1 he h1 h2 => (c_i_ScaleField_1 h1 h2 hsv ((B.b 1 rfl).sl.ext0 he))) rfl (by omega)) rfl ?_
    rintro _ w27 ⟨a28, c29, rfl, hN30⟩
    replace R24 := R24.trans (Ext0.any hN30.ext)
    replace B := B.new1 hN30
    clear hN30
    refine ⟨fun _ => R24, ?_⟩
    refine m_k 12 [18, 19, 20, 21, 22, 23, 24] rfl (by kernel_rfl) rfl rfl (fun w31 e32 => ?_)
    replace R24 := R24.trans (Ext0.any e32)
    replace B := B.ext0 e32
    clear e32
    refine k_call T40.fn_97 (c_i_both (f := 96) (us := []) (xs := [.pointer (some ⟨b7, 0, none⟩)]) (FM := (fun a _ => fop .mul .f32 a S)) (B.r 8 rfl) (B.r 8 rfl) T40.fn_96 (fun r R r2 R2 w1 he h1 h2 => (c_i_ScaleField_1 h1 h2 hsv ((B.b 2 rfl).sl.ext0 he))) rfl (by omega)) rfl ?_
    rintro _ w33 ⟨a34, c35, rfl, hN36⟩
    replace R24 := R24.trans (Ext0.any hN36.ext)
    replace B := B.new1 hN36
    clear hN36
    refine ⟨fun _ => R24, ?_⟩
    refine m_k 18 [19, 20, 21, 22, 23, 24] rfl (by kernel_rfl) rfl rfl (fun w37 e38 => ?_)
    replace R24 := R24.trans (Ext0.any e38)
    replace B := B.ext0 e38
    clear e38
    refine k_call T40.fn_97 (c_i_both (f := 96) (us := []) (xs := [.pointer (some ⟨b7, 0, none⟩)]) (FM := (fun a _ => fop .mul .f32 a S)) (B.r 10 rfl) (B.r 10 rfl) T40.fn_96 (fun r R r2 R2 w1 he h1 h2 => (c_i_ScaleField_1 h1 h2 hsv ((B.b 3 rfl).sl.ext0 he))) rfl (by omega)) rfl ?_
    rintro _ w39 ⟨a40, c41, rfl, hN42⟩
    replace R24 := R24.trans (Ext0.any hN42.ext)
    replace B := B.new1 hN42
    clear hN42
    refine ⟨fun _ => R24, ?_⟩
    refine m_y (v := .agg #[.slice a28 nfe c29, .slice a34 nfx c35, .slice a40 nfy c41]) 19 rfl (by kernel_rfl) rfl rfl (fun w' e' => y_build (cells := #[.slice a28 nfe c29, .slice a34 nfx c35, .slice a40 nfy c41]) (by kernel_rfl)) ?_
    refine m_k 20 [21, 22, 23, 24] rfl (by kernel_rfl) rfl rfl (fun w43 e44 => ?_)
    replace R24 := R24.trans (Ext0.any e44)
    replace B := B.ext0 e44
    clear e44
    refine k_call T40.fn_70 (c_i_validField (B.r 7 rfl) (B.r 8 rfl) ((B.o 2 rfl).rd) ((B.o 1 rfl).rd) ((B.o 0 rfl).rd) (by omega) (by omega) (by omega) (by omega) (by omega)) rfl ?_
    rintro v47 w45 hx46
    by_cases c48 : fieldB wd hi wr Xsp Xls (zipL nfe (fun a _ => fop .mul .f32 a S) Xfe Xfe) (zipL nfx (fun a _ => fop .mul .f32 a S) Xfx Xfx) (zipL nfy (fun a _ => fop .mul .f32 a S) Xfy Xfy) = true
    · have hb49 := fieldB_b c48
      obtain ⟨rfl, e50⟩ := (hx46.resolve_right (fun hz => by rw [c48] at hz; cases hz.1)).2
      clear hx46
      replace R24 := R24.trans (Ext0.any e50)
      replace B := B.ext0 e50
      clear e50
      refine ⟨fun _ => R24, ?_⟩
      refine m_y (v := .agg #[.slice a28 nfe c29, .slice a34 nfx c35, .slice a40 nfy c41]) 21 rfl (by kernel_rfl) rfl rfl (fun w' e' => y_extract rfl rfl) ?_
      refine m_y (v := .bool true) 22 rfl (by kernel_rfl) rfl rfl (fun w' e' => y_extract rfl rfl) ?_
      refine m_k 23 [24] rfl (by kernel_rfl) rfl rfl (fun w53 e54 => ?_)
      replace R24 := R24.trans (Ext0.any e54)
      replace B := B.ext0 e54
      clear e54
      refine k_stB (v := .agg #[.slice a28 nfe c29, .slice a34 nfx c35, .slice a40 nfy c41]) (n := 3) (cs' := [.slice a28 nfe c29, .slice a34 nfx c35, .slice a40 nfy c41]) T40.sz_30_3 rfl rfl rfl (B.b 3 rfl) (by simp [Value.cells, Value.oneCell']) (Nat.le_of_ble_eq_true rfl) rfl (fun w51 hU52 => ?_)
      replace R24 := R24.trans hU52.at1
      replace B : Bu w no w51 [.blk b10 [.slice a28 nfe c29, .slice a34 nfx c35, .slice a40 nfy c41] 30, .ow kF a40 nfy c41 34 (zipL nfy (fun a _ => fop .mul .f32 a S) Xfy Xfy), .ow kF a34 nfx c35 34 (zipL nfx (fun a _ => fop .mul .f32 a S) Xfx Xfx), .ow kF a28 nfe c29 34 (zipL nfe (fun a _ => fop .mul .f32 a S) Xfe Xfe), .blk b7 [.float .f32 sv] 34, .blk b4 [.slice afe nfe cfe, .slice afx nfx cfx, .slice afy nfy cfy] 30, .blk b1 [.int .i64 wd, .int .i64 hi, .bool wr, .slice asp nsp csp, .slice als nls cls] 26, .rd kF asp nsp Xsp, .rd kF als nls Xls, .rd kF afe nfe Xfe, .rd kF afx nfx Xfx, .rd kF afy nfy Xfy] := B.upd [3] rfl hU52
      clear hU52
      refine ⟨fun _ => R24, ?_⟩
      refine m_y (v := .bool true) 24 rfl (by kernel_rfl) rfl rfl (fun w' e' => y_assign rfl) ?_
      refine m_done (by kernel_rfl) (fun w55 e56 => ?_)
      replace B := B.ext0 e56
      clear e56
      clear B0_23 R24
      refine W_ret ?_
      refine ret2 (v1 := .agg #[.slice a28 nfe c29, .slice a34 nfx c35, .slice a40 nfy c41]) (v2 := .bool true) rfl rfl rfl ⟨_, [.slice a28 nfe c29, .slice a34 nfx c35, .slice a40 nfy c41], _, rfl, (B.b 0 rfl), T40.agg_30_3, rfl⟩ rfl ⟨_, rfl, ?_⟩
      have hlast := (sclB_i (by omega) (by omega) (by omega)).trans c48
      have hcond : sclB wd hi wr Xsp Xls Xfe Xfx Xfy S = true := by simp only [sclB, hlast, c17, c48, Bool.and_true, Bool.true_and, Bool.and_false, Bool.false_and, Bool.not_true, Bool.not_false, Bool.or_true, Bool.true_or, Bool.or_false, Bool.false_or]
      replace B : Bu w no w55 [.blk b10 [.slice a28 nfe c29, .slice a34 nfx c35, .slice a40 nfy c41] 30, .ow kF a40 nfy c41 34 (zipL nfy (fun a _ => fop .mul .f32 a S) Xfy Xfy), .ow kF a34 nfx c35 34 (zipL nfx (fun a _ => fop .mul .f32 a S) Xfx Xfx), .ow kF a28 ((wd * hi).toNat) c29 34 (mulL (wd * hi) Xfe S), .blk b7 [.float .f32 sv] 34, .blk b4 [.slice afe nfe cfe, .slice afx nfx cfx, .slice afy nfy cfy] 30, .blk b1 [.int .i64 wd, .int .i64 hi, .bool wr, .slice asp nsp csp, .slice als nls cls] 26, .rd kF asp nsp Xsp, .rd kF als nls Xls, .rd kF afe nfe Xfe, .rd kF afx nfx Xfx, .rd kF afy nfy Xfy] := B.castX 3 rfl (by omega) (congrArg (fun q => mulL q _ _) (by omega))
      replace B : Bu w no w55 [.blk b10 [.slice a28 nfe c29, .slice a34 nfx c35, .slice a40 nfy c41] 30, .ow kF a40 nfy c41 34 (zipL nfy (fun a _ => fop .mul .f32 a S) Xfy Xfy), .ow kF a34 ((wd * hi).toNat) c35 34 (mulL (wd * hi) Xfx S), .ow kF a28 ((wd * hi).toNat) c29 34 (mulL (wd * hi) Xfe S), .blk b7 [.float .f32 sv] 34, .blk b4 [.slice afe nfe cfe, .slice afx nfx cfx, .slice afy nfy cfy] 30, .blk b1 [.int .i64 wd, .int .i64 hi, .bool wr, .slice asp nsp csp, .slice als nls cls] 26, .rd kF asp nsp Xsp, .rd kF als nls Xls, .rd kF afe nfe Xfe, .rd kF afx nfx Xfx, .rd kF afy nfy Xfy] := B.castX 2 rfl (by omega) (congrArg (fun q => mulL q _ _) (by omega))
      replace B : Bu w no w55 [.blk b10 [.slice a28 nfe c29, .slice a34 nfx c35, .slice a40 nfy c41] 30, .ow kF a40 ((wd * hi).toNat) c41 34 (mulL (wd * hi) Xfy S), .ow kF a34 ((wd * hi).toNat) c35 34 (mulL (wd * hi) Xfx S), .ow kF a28 ((wd * hi).toNat) c29 34 (mulL (wd * hi) Xfe S), .blk b7 [.float .f32 sv] 34, .blk b4 [.slice afe nfe cfe, .slice afx nfx cfx, .slice afy nfy cfy] 30, .blk b1 [.int .i64 wd, .int .i64 hi, .bool wr, .slice asp nsp csp, .slice als nls cls] 26, .rd kF asp nsp Xsp, .rd kF als nls Xls, .rd kF afe nfe Xfe, .rd kF afx nfx Xfx, .rd kF afy nfy Xfy] := B.castX 1 rfl (by omega) (congrArg (fun q => mulL q _ _) (by omega))
      exact .inl ⟨hcond, ⟨_, _, _, _, _, _, (by rw [(show nfe = (wd * hi).toNat from (by omega)), (show nfx = (wd * hi).toNat from (by omega)), (show nfy = (wd * hi).toNat from (by omega))]), B.give [3, 2, 1] rfl rfl rfl⟩⟩
    · obtain ⟨_, rfl, e57⟩ := hx46.resolve_left (fun hz => c48 hz.1)
      clear hx46
      replace R24 := R24.trans (Ext0.any e57)
      replace B := B.ext0 e57
      clear e57
      refine ⟨fun _ => R24, ?_⟩
      refine m_y (v := .agg #[.slice none 0 0, .slice none 0 0, .slice none 0 0]) 21 rfl (by kernel_rfl) rfl rfl (fun w' e' => y_extract rfl rfl) ?_
      refine m_y (v := .bool false) 22 rfl (by kernel_rfl) rfl rfl (fun w' e' => y_extract rfl rfl) ?_
      refine m_k 23 [24] rfl (by kernel_rfl) rfl rfl (fun w60 e61 => ?_)
      replace R24 := R24.trans (Ext0.any e61)
      replace B := B.ext0 e61
      clear e61
      refine k_stB (v := .agg #[.slice none 0 0, .slice none 0 0, .slice none 0 0]) (n := 3) (cs' := [.slice none 0 0, .slice none 0 0, .slice none 0 0]) T40.sz_30_3 rfl rfl rfl (B.b 3 rfl) (by simp [Value.cells, Value.oneCell']) (Nat.le_of_ble_eq_true rfl) rfl (fun w58 hU59 => ?_)
      replace R24 := R24.trans hU59.at1
      replace B : Bu w no w58 [.blk b10 [.slice none 0 0, .slice none 0 0, .slice none 0 0] 30, .ow kF a40 nfy c41 34 (zipL nfy (fun a _ => fop .mul .f32 a S) Xfy Xfy), .ow kF a34 nfx c35 34 (zipL nfx (fun a _ => fop .mul .f32 a S) Xfx Xfx), .ow kF a28 nfe c29 34 (zipL nfe (fun a _ => fop .mul .f32 a S) Xfe Xfe), .blk b7 [.float .f32 sv] 34, .blk b4 [.slice afe nfe cfe, .slice afx nfx cfx, .slice afy nfy cfy] 30, .blk b1 [.int .i64 wd, .int .i64 hi, .bool wr, .slice asp nsp csp, .slice als nls cls] 26, .rd kF asp nsp Xsp, .rd kF als nls Xls, .rd kF afe nfe Xfe, .rd kF afx nfx Xfx, .rd kF afy nfy Xfy] := B.upd [3] rfl hU59
      clear hU59
      refine ⟨fun _ => R24, ?_⟩
      refine m_y (v := .bool false) 24 rfl (by kernel_rfl) rfl rfl (fun w' e' => y_assign rfl) ?_
      refine m_done (by kernel_rfl) (fun w62 e63 => ?_)
      replace B := B.ext0 e63
      clear e63
      clear B0_23 R24
      refine W_ret ?_
      refine ret2 (v1 := .agg #[.slice none 0 0, .slice none 0 0, .slice none 0 0]) (v2 := .bool false) rfl rfl rfl ⟨_, [.slice none 0 0, .slice none 0 0, .slice none 0 0], _, rfl, (B.b 0 rfl), T40.agg_30_3, rfl⟩ rfl ⟨_, rfl, ?_⟩
      have hlast := (sclB_i (by omega) (by omega) (by omega)).trans (Bool.eq_false_iff.2 c48)
      exact .inr ⟨by simp only [sclB, hlast, c17, (Bool.eq_false_iff.2 c48), Bool.and_true, Bool.true_and, Bool.and_false, Bool.false_and, Bool.not_true, Bool.not_false, Bool.or_true, Bool.true_or, Bool.or_false, Bool.false_or], rfl, B.ext⟩
  · obtain rfl : v15 = .bool false := hv16.trans (congrArg Value.bool (Bool.eq_false_iff.2 c17))
    refine s_y (v := .bool true) rfl (y_not rfl rfl) ?_
    refine s_nil ?_
    refine W_if_t (by decide) rfl ?_
    refine W_seq ?_
    refine W_region (by kernel_rfl) ?_
    refine s_y (v := .agg #[.slice none 0 0, .slice none 0 0, .slice none 0 0]) rfl (y_build (cells := #[.slice none 0 0, .slice none 0 0, .slice none 0 0]) (by kernel_rfl)) ?_
    refine s_k0 rfl (k_stB (v := .agg #[.slice none 0 0, .slice none 0 0, .slice none 0 0]) (n := 3) (cs' := [.slice none 0 0, .slice none 0 0, .slice none 0 0]) T40.sz_30_3 rfl rfl rfl (B.b 0 rfl) (by simp [Value.cells, Value.oneCell']) (Nat.le_of_ble_eq_true rfl) rfl (fun w64 hU65 => ?_))
    replace B : Bu w no w64 [.blk b10 [.slice none 0 0, .slice none 0 0, .slice none 0 0] 30, .blk b7 [.float .f32 sv] 34, .blk b4 [.slice afe nfe cfe, .slice afx nfx cfx, .slice afy nfy cfy] 30, .blk b1 [.int .i64 wd, .int .i64 hi, .bool wr, .slice asp nsp csp, .slice als nls cls] 26, .rd kF asp nsp Xsp, .rd kF als nls Xls, .rd kF afe nfe Xfe, .rd kF afx nfx Xfx, .rd kF afy nfy Xfy] := B.upd [0] rfl hU65
    clear hU65
    refine s_y (v := .bool false) rfl (y_assign rfl) ?_
    refine s_nil ?_
    refine W_ret ?_
    refine ret2 (v1 := .agg #[.slice none 0 0, .slice none 0 0, .slice none 0 0]) (v2 := .bool false) rfl rfl rfl ⟨_, [.slice none 0 0, .slice none 0 0, .slice none 0 0], _, rfl, (B.b 0 rfl), T40.agg_30_3, rfl⟩ rfl ⟨_, rfl, ?_⟩
    exact .inr ⟨by simp only [sclB, (Bool.eq_false_iff.2 c17), Bool.and_true, Bool.true_and, Bool.and_false, Bool.false_and, Bool.not_true, Bool.not_false, Bool.or_true, Bool.true_or, Bool.or_false, Bool.false_or], rfl, B.ext⟩
namespace T6
theorem mx : Try.prog.follows .mixedOrders = true := by kernel_rfl
theorem agg_26_5 : aggB Try.prog 26 5 = true := by kernel_rfl
theorem agg_30_3 : aggB Try.prog 30 3 = true := by kernel_rfl
theorem bool_4 : Try.prog.underlying 4 = some .bool := by kernel_rfl
theorem fld_26_0_0 : fldB Try.prog 26 0 0 = true := by kernel_rfl
theorem fld_26_1_1 : fldB Try.prog 26 1 1 = true := by kernel_rfl
theorem fld_26_2_2 : fldB Try.prog 26 2 2 = true := by kernel_rfl
theorem fld_30_0_0 : fldB Try.prog 30 0 0 = true := by kernel_rfl
theorem fld_30_1_1 : fldB Try.prog 30 1 1 = true := by kernel_rfl
theorem flt_53_f64 : Try.prog.underlying 53 = some (.float .f64) := by kernel_rfl
theorem fn_16 : fnB Try.prog 16 = true := by kernel_rfl
theorem fn_22 : fnB Try.prog 22 = true := by kernel_rfl
theorem fn_24 : fnB Try.prog 24 = true := by kernel_rfl
theorem fn_31 : fnB Try.prog 31 = true := by kernel_rfl
theorem fn_36 : fnB Try.prog 36 = true := by kernel_rfl
theorem fn_37 : fnB Try.prog 37 = true := by kernel_rfl
theorem fn_38 : fnB Try.prog 38 = true := by kernel_rfl
theorem fn_39 : fnB Try.prog 39 = true := by kernel_rfl
theorem fn_40 : fnB Try.prog 40 = true := by kernel_rfl
theorem fn_41 : fnB Try.prog 41 = true := by kernel_rfl
theorem one_2 : oneB Try.prog 2 = true := by kernel_rfl
theorem one_24 : oneB Try.prog 24 = true := by kernel_rfl
theorem one_34 : oneB Try.prog 34 = true := by kernel_rfl
theorem one_4 : oneB Try.prog 4 = true := by kernel_rfl
theorem sl_24_34_1 : slB Try.prog 24 34 1 = true := by kernel_rfl
theorem sz_26_5 : szB Try.prog 26 5 = true := by kernel_rfl
theorem sz_30_3 : szB Try.prog 30 3 = true := by kernel_rfl
theorem und_34 : (Try.prog.underlying 34).isSome = true := by kernel_rfl
theorem zero_26 : zeroB Try.prog 26 (.agg #[.int .i64 0, .int .i64 0, .bool false, .slice none 0 0, .slice none 0 0]) := by unfold zeroB; kernel_rfl
theorem zero_30 : zeroB Try.prog 30 (.agg #[.slice none 0 0, .slice none 0 0, .slice none 0 0]) := by unfold zeroB; kernel_rfl
end T6
set_option maxRecDepth 100000 in
set_option maxHeartbeats 20000000 in
theorem c_FnEnergies {a0 : Option Addr} {n0 : Nat} {c0 : Nat} {X0 : List Nat} {a1 : Option Addr} {n1 : Nat} {c1 : Nat} {X1 : List Nat} {w : World} (q0 : Rd w kY a0 n0 X0) (q1 : Rd w kY a1 n1 X1) (g0 : n0 ≤ 9223372036854775807) (g1 : n1 ≤ 9223372036854775807) :
    Calls Try.prog 6 #[.slice a0 n0 c0, .slice a1 n1 c1] w (Rt fun v w' => v = .bool true ∧ Ext0 w w') := by
  have hl0 := q0.len
  have hl1 := q1.len
  have B : Bu w no w [.rd kY a0 n0 X0, .rd kY a1 n1 X1] := Bu.ro (All.cons q0 (All.cons q1 All.nil)) rfl
  refine calls_W (n := 235) Try.func6 rfl rfl (Nat.le_of_ble_eq_true rfl) ?_
  refine W_seq ?_
  refine W_region (by kernel_rfl) ?_
  refine s_y (v := .bool false) rfl (y_assign rfl) ?_
  refine s_nil ?_
  refine W_seq ?_
  refine W_seq ?_
  refine W_region (by kernel_rfl) ?_
  refine s_y (v := .slice a0 n0 c0) rfl (y_move rfl) ?_
  refine s_y (v := .slice a1 n1 c1) rfl (y_move rfl) ?_
  refine s_k rfl (k_call T6.fn_22 (c_l_r8Long (B.r 0 rfl) (B.r 1 rfl) (by first | exact lenle (by assumption) | exact lenle6 (by assumption) | exact le256 (by assumption) | exact le2566 (by assumption) | omega) (by first | exact lenle (by assumption) | exact lenle6 (by assumption) | exact le256 (by assumption) | exact le2566 (by assumption) | omega)) rfl ?_)
  rintro v3 w1 ⟨hv4, e2⟩
  replace B := B.ext0 e2
  clear e2
  by_cases c5 : (decide (48 < (n0 : Int)) || decide (48 < (n1 : Int))) = true
  · obtain rfl : v3 = .bool true := hv4.trans (congrArg Value.bool c5)
    refine s_nil ?_
    refine W_if_t (by decide) rfl ?_
    refine W_seq ?_
    refine W_region (by kernel_rfl) ?_
    refine s_y (v := .bool true) rfl (y_assign rfl) ?_
    refine s_nil ?_
    refine W_ret ?_
    refine ret1 (v := .bool true) rfl rfl rfl ⟨_, rfl, ?_⟩
    exact ⟨rfl, B.ext⟩
  · obtain rfl : v3 = .bool false := hv4.trans (congrArg Value.bool (Bool.eq_false_iff.2 c5))
    refine s_nil ?_
    refine W_if_f (by decide) rfl ?_
    refine W_skip ?_
    refine W_seq ?_
    refine W_region (by kernel_rfl) ?_
    refine s_y (v := .slice a0 n0 c0) rfl (y_move rfl) ?_
    refine s_k rfl (k_call T6.fn_31 (c_s_R8Sheet (B.r 0 rfl)) rfl ?_)
    rintro _ w6 ⟨v8, v9, vb10, a11, c12, c13, Z14, a15, c16, c17, Z18, rfl, hp19, hp20, hp21, hp22, hN7⟩
    replace B := B.new2 hN7
    clear hN7
    have hl23 := (B.o 0 rfl).len
    have hl24 := (B.o 1 rfl).len
    obtain ⟨⟨⟨⟨hv25, hv26⟩, hv27, hv28⟩, hv29, hv30⟩, hv31, hv32⟩ := validS_b hp21
    refine s_k rfl (k_allocN (z := (.agg #[.int .i64 0, .int .i64 0, .bool false, .slice none 0 0, .slice none 0 0])) (cs := [.int .i64 0, .int .i64 0, .bool false, .slice none 0 0, .slice none 0 0]) T6.zero_26 rfl (fun b33 w34 hN35 => ?_))
    replace B := B.new1 hN35
    clear hN35
    refine s_k0 rfl (k_stB (v := .agg #[.int .i64 v8, .int .i64 v9, .bool vb10, .slice a11 c12 c13, .slice a15 c16 c17]) (n := 5) (cs' := [.int .i64 v8, .int .i64 v9, .bool vb10, .slice a11 c12 c13, .slice a15 c16 c17]) T6.sz_26_5 rfl rfl rfl (B.b 0 rfl) (by simp [Value.cells, Value.oneCell']) (Nat.le_of_ble_eq_true rfl) rfl (fun w36 hU37 => ?_))
    replace B : Bu w no w36 [.blk b33 [.int .i64 v8, .int .i64 v9, .bool vb10, .slice a11 c12 c13, .slice a15 c16 c17] 26, .ow kF a11 c12 c13 34 Z14, .ow kF a15 c16 c17 34 Z18, .rd kY a0 n0 X0, .rd kY a1 n1 X1] := B.upd [0] rfl hU37
    clear hU37
    refine s_nil ?_
    refine W_seq ?_
    refine W_region (by kernel_rfl) ?_
    refine s_y (v := .slice a1 n1 c1) rfl (y_move rfl) ?_
    refine s_y (v := .agg #[.int .i64 v8, .int .i64 v9, .bool vb10, .slice a11 c12 c13, .slice a15 c16 c17]) rfl (y_loadn (b := b33) (o := 0) (vs := [.int .i64 v8, .int .i64 v9, .bool vb10, .slice a11 c12 c13, .slice a15 c16 c17]) T6.agg_26_5 rfl rfl ((B.b 0 rfl).cells (o := 0) rfl)) ?_
    refine s_k rfl (k_call T6.fn_36 (c_s_R8Field (B.r 4 rfl) ((B.o 1 rfl).rd) ((B.o 2 rfl).rd) (by first | assumption | omega) (by first | assumption | omega) (by first | assumption | omega) (by first | assumption | omega) (by omega) (by first | exact lenle (by assumption) | exact lenle6 (by assumption) | exact le256 (by assumption) | exact le2566 (by assumption) | omega) (by first | exact lenle (by assumption) | exact lenle6 (by assumption) | exact le256 (by assumption) | exact le2566 (by assumption) | omega)) rfl ?_)
    rintro _ w38 ⟨a40, c41, c42, Z43, a44, c45, c46, Z47, a48, c49, c50, Z51, rfl, hp52, hp53, hN39⟩
    replace B := B.new3 hN39
    clear hN39
    have hl54 := (B.o 0 rfl).len
    have hl55 := (B.o 1 rfl).len
    have hl56 := (B.o 2 rfl).len
    obtain ⟨⟨hv57, hv58, hv59⟩, _⟩ := fieldB_b hp52
    have hv60 : c41 ≤ 256 := by omega
    have hv61 : c45 ≤ 256 := by omega
    have hv62 : c49 ≤ 256 := by omega
    refine s_k rfl (k_allocN (z := (.agg #[.slice none 0 0, .slice none 0 0, .slice none 0 0])) (cs := [.slice none 0 0, .slice none 0 0, .slice none 0 0]) T6.zero_30 rfl (fun b63 w64 hN65 => ?_))
    replace B := B.new1 hN65
    clear hN65
    refine s_k0 rfl (k_stB (v := .agg #[.slice a40 c41 c42, .slice a44 c45 c46, .slice a48 c49 c50]) (n := 3) (cs' := [.slice a40 c41 c42, .slice a44 c45 c46, .slice a48 c49 c50]) T6.sz_30_3 rfl rfl rfl (B.b 0 rfl) (by simp [Value.cells, Value.oneCell']) (Nat.le_of_ble_eq_true rfl) rfl (fun w66 hU67 => ?_))
    replace B : Bu w no w66 [.blk b63 [.slice a40 c41 c42, .slice a44 c45 c46, .slice a48 c49 c50] 30, .ow kF a40 c41 c42 34 Z43, .ow kF a44 c45 c46 34 Z47, .ow kF a48 c49 c50 34 Z51, .blk b33 [.int .i64 v8, .int .i64 v9, .bool vb10, .slice a11 c12 c13, .slice a15 c16 c17] 26, .ow kF a11 c12 c13 34 Z14, .ow kF a15 c16 c17 34 Z18, .rd kY a0 n0 X0, .rd kY a1 n1 X1] := B.upd [0] rfl hU67
    clear hU67
    refine s_nil ?_
    refine W_seq ?_
    refine W_region (by kernel_rfl) ?_
    refine s_y (v := .slice a1 n1 c1) rfl (y_move rfl) ?_
    refine s_y (v := .pointer (some ⟨b33, 0, none⟩)) rfl (y_fld (o := 0) T6.fld_26_0_0 rfl) ?_
    refine s_y (v := .int .i64 v8) rfl (y_load T6.one_2 rfl ((B.b 4 rfl).cell (j := 0) rfl)) ?_
    refine s_y (v := .int .i64 (v8 - 2)) rfl (y_sub rfl rfl rfl (by omega)) ?_
    refine s_k rfl (k_call T6.fn_24 (c_l_r8At (B.r 8 rfl) (by omega) (by omega) (by first | exact lenle (by assumption) | exact lenle6 (by assumption) | exact le256 (by assumption) | exact le2566 (by assumption) | omega)) rfl ?_)
    rintro _ w68 ⟨u70, rfl, hp71, e69⟩
    replace B := B.ext0 e69
    clear e69
    have hb72 := r8A_b X1 40 (show 1 ≤ (v8 - 2) by omega)
    rw [← hp71] at hb72
    refine s_y (v := .int .i64 (1 + u70)) rfl (y_add rfl rfl rfl (by omega)) ?_
    refine s_y (v := .int .i64 (1 + u70)) rfl (y_assign rfl) ?_
    refine s_nil ?_
    refine W_seq ?_
    refine W_region (by kernel_rfl) ?_
    refine s_y (v := .slice a1 n1 c1) rfl (y_move rfl) ?_
    refine s_y (v := .pointer (some ⟨b33, 1, none⟩)) rfl (y_fld (o := 0) T6.fld_26_1_1 rfl) ?_
    refine s_y (v := .int .i64 v9) rfl (y_load T6.one_2 rfl ((B.b 4 rfl).cell (j := 1) rfl)) ?_
    refine s_y (v := .int .i64 (v9 - 2)) rfl (y_sub rfl rfl rfl (by omega)) ?_
    refine s_k rfl (k_call T6.fn_24 (c_l_r8At (B.r 8 rfl) (by omega) (by omega) (by first | exact lenle (by assumption) | exact lenle6 (by assumption) | exact le256 (by assumption) | exact le2566 (by assumption) | omega)) rfl ?_)
    rintro _ w73 ⟨u75, rfl, hp76, e74⟩
    replace B := B.ext0 e74
    clear e74
    have hb77 := r8A_b X1 41 (show 1 ≤ (v9 - 2) by omega)
    rw [← hp76] at hb77
    refine s_y (v := .int .i64 (1 + u75)) rfl (y_add rfl rfl rfl (by omega)) ?_
    refine s_y (v := .int .i64 (1 + u75)) rfl (y_assign rfl) ?_
    refine s_nil ?_
    refine W_seq ?_
    refine W_region (by kernel_rfl) ?_
    refine s_y (v := .agg #[.int .i64 v8, .int .i64 v9, .bool vb10, .slice a11 c12 c13, .slice a15 c16 c17]) rfl (y_loadn (b := b33) (o := 0) (vs := [.int .i64 v8, .int .i64 v9, .bool vb10, .slice a11 c12 c13, .slice a15 c16 c17]) T6.agg_26_5 rfl rfl ((B.b 4 rfl).cells (o := 0) rfl)) ?_
    refine s_y (v := .agg #[.slice a40 c41 c42, .slice a44 c45 c46, .slice a48 c49 c50]) rfl (y_loadn (b := b63) (o := 0) (vs := [.slice a40 c41 c42, .slice a44 c45 c46, .slice a48 c49 c50]) T6.agg_30_3 rfl rfl ((B.b 0 rfl).cells (o := 0) rfl)) ?_
    refine s_y (v := .int .i64 (1 + u70)) rfl (y_move rfl) ?_
    refine s_y (v := .int .i64 (1 + u75)) rfl (y_move rfl) ?_
    refine s_k rfl (k_call T6.fn_16 (c_i_PutValue ((B.o 5 rfl).rd) ((B.o 6 rfl).rd) ((B.o 1 rfl).rd) ((B.o 2 rfl).rd) ((B.o 3 rfl).rd) (cnLit (k := .f32) (t := 1069547520) (by kernel_rfl) (by kernel_rfl)) (by first | exact lenle (by assumption) | exact lenle6 (by assumption) | exact le256 (by assumption) | exact le2566 (by assumption) | omega) (by first | exact lenle (by assumption) | exact lenle6 (by assumption) | exact le256 (by assumption) | exact le2566 (by assumption) | omega) (by first | exact lenle (by assumption) | exact lenle6 (by assumption) | exact le256 (by assumption) | exact le2566 (by assumption) | omega) (by first | exact lenle (by assumption) | exact lenle6 (by assumption) | exact le256 (by assumption) | exact le2566 (by assumption) | omega) (by first | exact lenle (by assumption) | exact lenle6 (by assumption) | exact le256 (by assumption) | exact le2566 (by assumption) | omega)) rfl ?_)
    rintro v80 w78 hx79
    have hk81 : putB v8 v9 vb10 Z14 Z18 Z43 Z47 Z51 (1 + u70) (1 + u75) 1069547520 = true := (put_ok hp52 (by omega) (by omega))
    obtain ⟨a82, c83, a84, c85, a86, c87, rfl, hN88⟩ := (hx79.resolve_right (fun hz => by rw [hk81] at hz; cases hz.1)).2
    clear hx79
    replace B := B.new3 hN88
    clear hN88
    refine s_y (v := .tuple #[.agg #[.slice a82 c41 c83, .slice a84 c45 c85, .slice a86 c49 c87], .bool true]) rfl (y_move rfl) ?_
    refine s_y (v := .agg #[.slice a82 c41 c83, .slice a84 c45 c85, .slice a86 c49 c87]) rfl (y_extract rfl rfl) ?_
    refine s_y (v := .bool true) rfl (y_extract rfl rfl) ?_
    refine s_k rfl (k_allocN (z := (.agg #[.slice none 0 0, .slice none 0 0, .slice none 0 0])) (cs := [.slice none 0 0, .slice none 0 0, .slice none 0 0]) T6.zero_30 rfl (fun b89 w90 hN91 => ?_))
    replace B := B.new1 hN91
    clear hN91
    refine s_k0 rfl (k_stB (v := .agg #[.slice a82 c41 c83, .slice a84 c45 c85, .slice a86 c49 c87]) (n := 3) (cs' := [.slice a82 c41 c83, .slice a84 c45 c85, .slice a86 c49 c87]) T6.sz_30_3 rfl rfl rfl (B.b 0 rfl) (by simp [Value.cells, Value.oneCell']) (Nat.le_of_ble_eq_true rfl) rfl (fun w92 hU93 => ?_))
    replace B : Bu w no w92 [.blk b89 [.slice a82 c41 c83, .slice a84 c45 c85, .slice a86 c49 c87] 30, .ow kF a82 c41 c83 34 (put Z43 ((1 + u70) + v8 * (1 + u75)) 1069547520), .ow kF a84 c45 c85 34 Z47, .ow kF a86 c49 c87 34 Z51, .blk b63 [.slice a40 c41 c42, .slice a44 c45 c46, .slice a48 c49 c50] 30, .ow kF a40 c41 c42 34 Z43, .ow kF a44 c45 c46 34 Z47, .ow kF a48 c49 c50 34 Z51, .blk b33 [.int .i64 v8, .int .i64 v9, .bool vb10, .slice a11 c12 c13, .slice a15 c16 c17] 26, .ow kF a11 c12 c13 34 Z14, .ow kF a15 c16 c17 34 Z18, .rd kY a0 n0 X0, .rd kY a1 n1 X1] := B.upd [0] rfl hU93
    clear hU93
    refine s_y (v := .bool true) rfl (y_assign rfl) ?_
    refine s_nil ?_
    refine W_seq ?_
    refine W_region (by kernel_rfl) ?_
    refine s_y (v := .agg #[.int .i64 v8, .int .i64 v9, .bool vb10, .slice a11 c12 c13, .slice a15 c16 c17]) rfl (y_loadn (b := b33) (o := 0) (vs := [.int .i64 v8, .int .i64 v9, .bool vb10, .slice a11 c12 c13, .slice a15 c16 c17]) T6.agg_26_5 rfl rfl ((B.b 8 rfl).cells (o := 0) rfl)) ?_
    refine s_y (v := .agg #[.slice a82 c41 c83, .slice a84 c45 c85, .slice a86 c49 c87]) rfl (y_loadn (b := b89) (o := 0) (vs := [.slice a82 c41 c83, .slice a84 c45 c85, .slice a86 c49 c87]) T6.agg_30_3 rfl rfl ((B.b 0 rfl).cells (o := 0) rfl)) ?_
    refine s_y (v := .int .i64 (1 + u70)) rfl (y_move rfl) ?_
    refine s_y (v := .int .i64 (1 + u75)) rfl (y_move rfl) ?_
    refine s_k rfl (k_call T6.fn_37 (c_i_ValueAt ((B.o 9 rfl).rd) ((B.o 10 rfl).rd) ((B.o 1 rfl).rd) ((B.o 2 rfl).rd) ((B.o 3 rfl).rd) (by first | exact lenle (by assumption) | exact lenle6 (by assumption) | exact le256 (by assumption) | exact le2566 (by assumption) | omega) (by first | exact lenle (by assumption) | exact lenle6 (by assumption) | exact le256 (by assumption) | exact le2566 (by assumption) | omega) (by first | exact lenle (by assumption) | exact lenle6 (by assumption) | exact le256 (by assumption) | exact le2566 (by assumption) | omega) (by first | exact lenle (by assumption) | exact lenle6 (by assumption) | exact le256 (by assumption) | exact le2566 (by assumption) | omega) (by first | exact lenle (by assumption) | exact lenle6 (by assumption) | exact le256 (by assumption) | exact le2566 (by assumption) | omega)) rfl ?_)
    rintro v96 w94 hx95
    have hk97 : valB v8 v9 vb10 Z14 Z18 (put Z43 ((1 + u70) + v8 * (1 + u75)) 1069547520) Z47 Z51 (1 + u70) (1 + u75) = true := (put_val hk81)
    obtain ⟨r98, rfl, hr99, e100⟩ := (hx95.resolve_right (fun hz => by rw [hk97] at hz; cases hz.1)).2
    clear hx95
    replace B := B.ext0 e100
    clear e100
    refine s_y (v := .tuple #[.float .f32 r98, .bool true]) rfl (y_move rfl) ?_
    refine s_y (v := .float .f32 r98) rfl (y_extract rfl rfl) ?_
    refine s_y (v := .bool true) rfl (y_extract rfl rfl) ?_
    refine s_y (v := .float .f32 r98) rfl (y_assign rfl) ?_
    refine s_y (v := .bool true) rfl (y_assign rfl) ?_
    refine s_nil ?_
    refine W_seq ?_
    refine W_region (by kernel_rfl) ?_
    refine s_y (v := .agg #[.int .i64 v8, .int .i64 v9, .bool vb10, .slice a11 c12 c13, .slice a15 c16 c17]) rfl (y_loadn (b := b33) (o := 0) (vs := [.int .i64 v8, .int .i64 v9, .bool vb10, .slice a11 c12 c13, .slice a15 c16 c17]) T6.agg_26_5 rfl rfl ((B.b 8 rfl).cells (o := 0) rfl)) ?_
    refine s_y (v := .agg #[.slice a40 c41 c42, .slice a44 c45 c46, .slice a48 c49 c50]) rfl (y_loadn (b := b63) (o := 0) (vs := [.slice a40 c41 c42, .slice a44 c45 c46, .slice a48 c49 c50]) T6.agg_30_3 rfl rfl ((B.b 4 rfl).cells (o := 0) rfl)) ?_
    refine s_k rfl (k_call T6.fn_38 (c_i_PeakOf ((B.o 9 rfl).rd) ((B.o 10 rfl).rd) ((B.o 5 rfl).rd) ((B.o 6 rfl).rd) ((B.o 7 rfl).rd) (by first | exact lenle (by assumption) | exact lenle6 (by assumption) | exact le256 (by assumption) | exact le2566 (by assumption) | omega) (by first | exact lenle (by assumption) | exact lenle6 (by assumption) | exact le256 (by assumption) | exact le2566 (by assumption) | omega) (by first | exact lenle (by assumption) | exact lenle6 (by assumption) | exact le256 (by assumption) | exact le2566 (by assumption) | omega) (by first | exact lenle (by assumption) | exact lenle6 (by assumption) | exact le256 (by assumption) | exact le2566 (by assumption) | omega) (by first | exact lenle (by assumption) | exact lenle6 (by assumption) | exact le256 (by assumption) | exact le2566 (by assumption) | omega)) rfl ?_)
    rintro v103 w101 hx102
    have hpk := pki_b hp52 hp53
    have hk104 : peakB v8 v9 vb10 Z14 Z18 Z43 Z47 Z51 = true := (pk_ok hp52 hp53)
    obtain ⟨r105, rfl, hr106, e107⟩ := (hx102.resolve_right (fun hz => by rw [hk104] at hz; cases hz.1)).2
    clear hx102
    replace B := B.ext0 e107
    clear e107
    refine s_y (v := .tuple #[.int .i64 (peakI Z43 Z43.length), .float .f32 r105, .bool true]) rfl (y_move rfl) ?_
    refine s_y (v := .int .i64 (peakI Z43 Z43.length)) rfl (y_extract rfl rfl) ?_
    refine s_y (v := .float .f32 r105) rfl (y_extract rfl rfl) ?_
    refine s_y (v := .bool true) rfl (y_extract rfl rfl) ?_
    refine s_y (v := .int .i64 (peakI Z43 Z43.length)) rfl (y_assign rfl) ?_
    refine s_y (v := .float .f32 r105) rfl (y_assign rfl) ?_
    refine s_y (v := .bool true) rfl (y_assign rfl) ?_
    refine s_nil ?_
    refine W_seq ?_
    refine W_region (by kernel_rfl) ?_
    refine s_y (v := .agg #[.int .i64 v8, .int .i64 v9, .bool vb10, .slice a11 c12 c13, .slice a15 c16 c17]) rfl (y_loadn (b := b33) (o := 0) (vs := [.int .i64 v8, .int .i64 v9, .bool vb10, .slice a11 c12 c13, .slice a15 c16 c17]) T6.agg_26_5 rfl rfl ((B.b 8 rfl).cells (o := 0) rfl)) ?_
    refine s_y (v := .agg #[.slice a40 c41 c42, .slice a44 c45 c46, .slice a48 c49 c50]) rfl (y_loadn (b := b63) (o := 0) (vs := [.slice a40 c41 c42, .slice a44 c45 c46, .slice a48 c49 c50]) T6.agg_30_3 rfl rfl ((B.b 4 rfl).cells (o := 0) rfl)) ?_
    refine s_k rfl (k_call T6.fn_39 (c_i_EnergyOf ((B.o 9 rfl).rd) ((B.o 10 rfl).rd) ((B.o 5 rfl).rd) ((B.o 6 rfl).rd) ((B.o 7 rfl).rd) (by first | exact lenle (by assumption) | exact lenle6 (by assumption) | exact le256 (by assumption) | exact le2566 (by assumption) | omega) (by first | exact lenle (by assumption) | exact lenle6 (by assumption) | exact le256 (by assumption) | exact le2566 (by assumption) | omega) (by first | exact lenle (by assumption) | exact lenle6 (by assumption) | exact le256 (by assumption) | exact le2566 (by assumption) | omega) (by first | exact lenle (by assumption) | exact lenle6 (by assumption) | exact le256 (by assumption) | exact le2566 (by assumption) | omega) (by first | exact lenle (by assumption) | exact lenle6 (by assumption) | exact le256 (by assumption) | exact le2566 (by assumption) | omega) (en_ok1 hp52 hp53)) rfl ?_)
    rintro v110 w108 hx109
    obtain ⟨r111, rfl, hr112, e113⟩ := (hx109.resolve_right (fun hz => by rw [hp52] at hz; cases hz.1)).2
    clear hx109
    replace B := B.ext0 e113
    clear e113
    refine s_y (v := .tuple #[.float .f32 r111, .bool true]) rfl (y_move rfl) ?_
    refine s_y (v := .float .f32 r111) rfl (y_extract rfl rfl) ?_
    refine s_y (v := .bool true) rfl (y_extract rfl rfl) ?_
    refine s_y (v := .float .f32 r111) rfl (y_assign rfl) ?_
    refine s_y (v := .bool true) rfl (y_assign rfl) ?_
    refine s_nil ?_
    refine W_seq ?_
    refine W_region (by kernel_rfl) ?_
    refine s_y (v := .agg #[.int .i64 v8, .int .i64 v9, .bool vb10, .slice a11 c12 c13, .slice a15 c16 c17]) rfl (y_loadn (b := b33) (o := 0) (vs := [.int .i64 v8, .int .i64 v9, .bool vb10, .slice a11 c12 c13, .slice a15 c16 c17]) T6.agg_26_5 rfl rfl ((B.b 8 rfl).cells (o := 0) rfl)) ?_
    refine s_y (v := .agg #[.slice a40 c41 c42, .slice a44 c45 c46, .slice a48 c49 c50]) rfl (y_loadn (b := b63) (o := 0) (vs := [.slice a40 c41 c42, .slice a44 c45 c46, .slice a48 c49 c50]) T6.agg_30_3 rfl rfl ((B.b 4 rfl).cells (o := 0) rfl)) ?_
    refine s_k rfl (k_call T6.fn_40 (c_i_ScaleField ((B.o 9 rfl).rd) ((B.o 10 rfl).rd) ((B.o 5 rfl).rd) ((B.o 6 rfl).rd) ((B.o 7 rfl).rd) (cnLit (k := .f32) (t := 1073741824) (by kernel_rfl) (by kernel_rfl)) (by first | exact lenle (by assumption) | exact lenle6 (by assumption) | exact le256 (by assumption) | exact le2566 (by assumption) | omega) (by first | exact lenle (by assumption) | exact lenle6 (by assumption) | exact le256 (by assumption) | exact le2566 (by assumption) | omega) (by first | exact lenle (by assumption) | exact lenle6 (by assumption) | exact le256 (by assumption) | exact le2566 (by assumption) | omega) (by first | exact lenle (by assumption) | exact lenle6 (by assumption) | exact le256 (by assumption) | exact le2566 (by assumption) | omega) (by first | exact lenle (by assumption) | exact lenle6 (by assumption) | exact le256 (by assumption) | exact le2566 (by assumption) | omega)) rfl ?_)
    rintro v116 w114 hx115
    have hk117 : sclB v8 v9 vb10 Z14 Z18 Z43 Z47 Z51 1073741824 = true := (scl2_ok hp52 hp53)
    obtain ⟨a118, c119, a120, c121, a122, c123, rfl, hN124⟩ := (hx115.resolve_right (fun hz => by rw [hk117] at hz; cases hz.1)).2
    clear hx115
    replace B := B.new3 hN124
    clear hN124
    refine s_y (v := .tuple #[.agg #[.slice a118 ((v8 * v9).toNat) c119, .slice a120 ((v8 * v9).toNat) c121, .slice a122 ((v8 * v9).toNat) c123], .bool true]) rfl (y_move rfl) ?_
    refine s_y (v := .agg #[.slice a118 ((v8 * v9).toNat) c119, .slice a120 ((v8 * v9).toNat) c121, .slice a122 ((v8 * v9).toNat) c123]) rfl (y_extract rfl rfl) ?_
    refine s_y (v := .bool true) rfl (y_extract rfl rfl) ?_
    refine s_k rfl (k_allocN (z := (.agg #[.slice none 0 0, .slice none 0 0, .slice none 0 0])) (cs := [.slice none 0 0, .slice none 0 0, .slice none 0 0]) T6.zero_30 rfl (fun b125 w126 hN127 => ?_))
    replace B := B.new1 hN127
    clear hN127
    refine s_k0 rfl (k_stB (v := .agg #[.slice a118 ((v8 * v9).toNat) c119, .slice a120 ((v8 * v9).toNat) c121, .slice a122 ((v8 * v9).toNat) c123]) (n := 3) (cs' := [.slice a118 ((v8 * v9).toNat) c119, .slice a120 ((v8 * v9).toNat) c121, .slice a122 ((v8 * v9).toNat) c123]) T6.sz_30_3 rfl rfl rfl (B.b 0 rfl) (by simp [Value.cells, Value.oneCell']) (Nat.le_of_ble_eq_true rfl) rfl (fun w128 hU129 => ?_))
    replace B : Bu w no w128 [.blk b125 [.slice a118 ((v8 * v9).toNat) c119, .slice a120 ((v8 * v9).toNat) c121, .slice a122 ((v8 * v9).toNat) c123] 30, .ow kF a118 ((v8 * v9).toNat) c119 34 (mulL (v8 * v9) Z43 1073741824), .ow kF a120 ((v8 * v9).toNat) c121 34 (mulL (v8 * v9) Z47 1073741824), .ow kF a122 ((v8 * v9).toNat) c123 34 (mulL (v8 * v9) Z51 1073741824), .blk b89 [.slice a82 c41 c83, .slice a84 c45 c85, .slice a86 c49 c87] 30, .ow kF a82 c41 c83 34 (put Z43 ((1 + u70) + v8 * (1 + u75)) 1069547520), .ow kF a84 c45 c85 34 Z47, .ow kF a86 c49 c87 34 Z51, .blk b63 [.slice a40 c41 c42, .slice a44 c45 c46, .slice a48 c49 c50] 30, .ow kF a40 c41 c42 34 Z43, .ow kF a44 c45 c46 34 Z47, .ow kF a48 c49 c50 34 Z51, .blk b33 [.int .i64 v8, .int .i64 v9, .bool vb10, .slice a11 c12 c13, .slice a15 c16 c17] 26, .ow kF a11 c12 c13 34 Z14, .ow kF a15 c16 c17 34 Z18, .rd kY a0 n0 X0, .rd kY a1 n1 X1] := B.upd [0] rfl hU129
    clear hU129
    refine s_y (v := .bool true) rfl (y_assign rfl) ?_
    refine s_nil ?_
    refine W_seq ?_
    refine W_region (by kernel_rfl) ?_
    refine s_y (v := .agg #[.int .i64 v8, .int .i64 v9, .bool vb10, .slice a11 c12 c13, .slice a15 c16 c17]) rfl (y_loadn (b := b33) (o := 0) (vs := [.int .i64 v8, .int .i64 v9, .bool vb10, .slice a11 c12 c13, .slice a15 c16 c17]) T6.agg_26_5 rfl rfl ((B.b 12 rfl).cells (o := 0) rfl)) ?_
    refine s_y (v := .agg #[.slice a118 ((v8 * v9).toNat) c119, .slice a120 ((v8 * v9).toNat) c121, .slice a122 ((v8 * v9).toNat) c123]) rfl (y_loadn (b := b125) (o := 0) (vs := [.slice a118 ((v8 * v9).toNat) c119, .slice a120 ((v8 * v9).toNat) c121, .slice a122 ((v8 * v9).toNat) c123]) T6.agg_30_3 rfl rfl ((B.b 0 rfl).cells (o := 0) rfl)) ?_
    refine s_k rfl (k_call T6.fn_39 (c_i_EnergyOf ((B.o 13 rfl).rd) ((B.o 14 rfl).rd) ((B.o 1 rfl).rd) ((B.o 2 rfl).rd) ((B.o 3 rfl).rd) (by first | exact lenle (by assumption) | exact lenle6 (by assumption) | exact le256 (by assumption) | exact le2566 (by assumption) | omega) (by first | exact lenle (by assumption) | exact lenle6 (by assumption) | exact le256 (by assumption) | exact le2566 (by assumption) | omega) (by first | exact lenle (by assumption) | exact lenle6 (by assumption) | exact le256 (by assumption) | exact le2566 (by assumption) | omega) (by first | exact lenle (by assumption) | exact lenle6 (by assumption) | exact le256 (by assumption) | exact le2566 (by assumption) | omega) (by first | exact lenle (by assumption) | exact lenle6 (by assumption) | exact le256 (by assumption) | exact le2566 (by assumption) | omega) (en_ok2 hp52 hp53)) rfl ?_)
    rintro v132 w130 hx131
    have hk133 : fieldB v8 v9 vb10 Z14 Z18 (mulL (v8 * v9) Z43 1073741824) (mulL (v8 * v9) Z47 1073741824) (mulL (v8 * v9) Z51 1073741824) = true := (scl_field hk117)
    obtain ⟨r134, rfl, hr135, e136⟩ := (hx131.resolve_right (fun hz => by rw [hk133] at hz; cases hz.1)).2
    clear hx131
    replace B := B.ext0 e136
    clear e136
    refine s_y (v := .tuple #[.float .f32 r134, .bool true]) rfl (y_move rfl) ?_
    refine s_y (v := .float .f32 r134) rfl (y_extract rfl rfl) ?_
    refine s_y (v := .bool true) rfl (y_extract rfl rfl) ?_
    refine s_y (v := .float .f32 r134) rfl (y_assign rfl) ?_
    refine s_y (v := .bool true) rfl (y_assign rfl) ?_
    refine s_nil ?_
    refine W_seq ?_
    refine W_seq ?_
    refine W_region (by kernel_rfl) ?_
    refine s_y (v := .bool true) rfl (y_move rfl) ?_
    refine s_y (v := .bool false) rfl (y_not rfl rfl) ?_
    refine s_y (v := .bool false) rfl (y_move rfl) ?_
    refine s_y (v := .bool true) rfl (y_move rfl) ?_
    refine s_y (v := .bool false) rfl (y_not rfl rfl) ?_
    refine s_y (v := .bool false) rfl (y_pick_f rfl rfl) ?_
    refine s_y (v := .bool false) rfl (y_move rfl) ?_
    refine s_y (v := .bool true) rfl (y_move rfl) ?_
    refine s_y (v := .bool false) rfl (y_not rfl rfl) ?_
    refine s_y (v := .bool false) rfl (y_pick_f rfl rfl) ?_
    refine s_y (v := .bool false) rfl (y_move rfl) ?_
    refine s_y (v := .bool true) rfl (y_move rfl) ?_
    refine s_y (v := .bool false) rfl (y_not rfl rfl) ?_
    refine s_y (v := .bool false) rfl (y_pick_f rfl rfl) ?_
    refine s_y (v := .bool false) rfl (y_move rfl) ?_
    refine s_y (v := .bool true) rfl (y_move rfl) ?_
    refine s_y (v := .bool false) rfl (y_not rfl rfl) ?_
    refine s_y (v := .bool false) rfl (y_pick_f rfl rfl) ?_
    refine s_y (v := .bool false) rfl (y_move rfl) ?_
    refine s_y (v := .bool true) rfl (y_move rfl) ?_
    refine s_y (v := .bool false) rfl (y_not rfl rfl) ?_
    refine s_y (v := .bool false) rfl (y_pick_f rfl rfl) ?_
    refine s_y (v := .bool false) rfl (y_move rfl) ?_
    refine s_y (v := .float .f32 r98) rfl (y_move rfl) ?_
    have hk137 : ¬ (fne .f32 (el (put Z43 ((1 + u70) + v8 * (1 + u75)) 1069547520) (atI v8 v9 (1 + u70) (1 + u75))) 1069547520 = true) := (put_at hp52 (by omega) (by omega) fin_15)
    refine s_y (v := .bool false) rfl (y_fneq rfl rfl (fneC hr99 (cnLit (k := .f32) (t := 1069547520) (by kernel_rfl) (by kernel_rfl)) (Bool.eq_false_iff.2 hk137))) ?_
    refine s_y (v := .bool false) rfl (y_pick_f rfl rfl) ?_
    refine s_y (v := .bool false) rfl (y_move rfl) ?_
    refine s_y (v := .float .f32 r134) rfl (y_move rfl) ?_
    refine s_y (v := .float .f32 r111) rfl (y_move rfl) ?_
    refine s_n rfl (n_arith (by decide) rfl rfl) ?_
    rintro _ w141 e142 ⟨r139, rfl, hr140⟩
    replace B := B.ext0 e142
    clear e142
    have hc143 := fopC hr140 (cnLit (k := .f32) (t := 1082130432) (by kernel_rfl) (by kernel_rfl)) hr112
    have hk144 : ¬ (fne .f32 (narrow (enT (mulL (v8 * v9) Z43 1073741824) (mulL (v8 * v9) Z47 1073741824) (mulL (v8 * v9) Z51 1073741824))) (fop .mul .f32 1082130432 (narrow (enT Z43 Z47 Z51))) = true) := (en_four hp52 hp53)
    refine s_y (v := .bool false) rfl (y_fneq rfl rfl (fneC hr135 hc143 (Bool.eq_false_iff.2 hk144))) ?_
    refine s_y (v := .bool false) rfl (y_pick_f rfl rfl) ?_
    refine s_y (v := .bool false) rfl (y_move rfl) ?_
    refine s_y (v := .pointer (some ⟨b63, 0, none⟩)) rfl (y_fld (o := 0) T6.fld_30_0_0 rfl) ?_
    refine s_y (v := .slice a40 c41 c42) rfl (y_load T6.one_24 rfl ((B.b 8 rfl).cell (j := 0) rfl)) ?_
    refine s_y (v := .int .i64 (peakI Z43 Z43.length)) rfl (y_move rfl) ?_
    refine s_y (v := .pointer (some (sat a40 ((peakI Z43 Z43.length).toNat * 1)))) rfl (y_idx T6.sl_24_34_1 rfl rfl ((B.o 9 rfl).rd.addr (by omega)) (by omega) (by omega)) ?_
    obtain ⟨r146, hr147, hR145⟩ := Rd.atF (B.o 9 rfl).rd (peakI Z43 Z43.length) (by omega) (by omega)
    refine s_y (v := .float .f32 r146) rfl (y_load T6.one_34 rfl (hR145.cell (i := 0) rfl)) ?_
    refine s_y (v := .float .f32 r105) rfl (y_move rfl) ?_
    have hk148 : ¬ (fne .f32 (el Z43 (peakI Z43 Z43.length)) (el Z43 (peakI Z43 Z43.length)) = true) := (pk_self hp52 hp53)
    refine s_y (v := .bool false) rfl (y_fneq rfl rfl (fneC hr147 hr106 (Bool.eq_false_iff.2 hk148))) ?_
    refine s_y (v := .bool false) rfl (y_pick_f rfl rfl) ?_
    refine s_y (v := .bool false) rfl (y_move rfl) ?_
    refine s_y (v := .float .f32 r111) rfl (y_move rfl) ?_
    refine s_n rfl (n_wide T6.und_34 T6.flt_53_f64 rfl) ?_
    rintro _ w151 e152 ⟨r149, rfl, hr150⟩
    replace B := B.ext0 e152
    clear e152
    have hc153 := wideC hr150 hr112
    refine s_y (v := .float .f32 r105) rfl (y_move rfl) ?_
    refine s_n rfl (n_wide T6.und_34 T6.flt_53_f64 rfl) ?_
    rintro _ w156 e157 ⟨r154, rfl, hr155⟩
    replace B := B.ext0 e157
    clear e157
    have hc158 := wideC hr155 hr106
    refine s_y (v := .float .f32 r105) rfl (y_move rfl) ?_
    refine s_n rfl (n_wide T6.und_34 T6.flt_53_f64 rfl) ?_
    rintro _ w161 e162 ⟨r159, rfl, hr160⟩
    replace B := B.ext0 e162
    clear e162
    have hc163 := wideC hr160 hr106
    refine s_n rfl (n_arith (by decide) rfl rfl) ?_
    rintro _ w167 e168 ⟨r165, rfl, hr166⟩
    replace B := B.ext0 e168
    clear e168
    have hc169 := fopC hr166 hc158 hc163
    refine s_n rfl (n_arith (by decide) rfl rfl) ?_
    rintro _ w173 e174 ⟨r171, rfl, hr172⟩
    replace B := B.ext0 e174
    clear e174
    have hc175 := fopC hr172 hc169 (cnLit (k := .f64) (t := 4562254508917369340) (by kernel_rfl) (by kernel_rfl))
    have hk176 : ¬ (flt .f64 (widen (narrow (enT Z43 Z47 Z51))) (fop .sub .f64 (fop .mul .f64 (widen (el Z43 (peakI Z43 Z43.length))) (widen (el Z43 (peakI Z43 Z43.length)))) 4562254508917369340) = true) := (en_peak hp52 hp53)
    refine s_y (v := .bool false) rfl (y_flss rfl rfl (fltC hc153 hc175 (Bool.eq_false_iff.2 hk176))) ?_
    refine s_y (v := .bool false) rfl (y_pick_f rfl rfl) ?_
    refine s_y (v := .bool false) rfl (y_move rfl) ?_
    refine s_y (v := .agg #[.int .i64 v8, .int .i64 v9, .bool vb10, .slice a11 c12 c13, .slice a15 c16 c17]) rfl (y_loadn (b := b33) (o := 0) (vs := [.int .i64 v8, .int .i64 v9, .bool vb10, .slice a11 c12 c13, .slice a15 c16 c17]) T6.agg_26_5 rfl rfl ((B.b 12 rfl).cells (o := 0) rfl)) ?_
    refine s_y (v := .agg #[.slice a40 c41 c42, .slice a44 c45 c46, .slice a48 c49 c50]) rfl (y_loadn (b := b63) (o := 0) (vs := [.slice a40 c41 c42, .slice a44 c45 c46, .slice a48 c49 c50]) T6.agg_30_3 rfl rfl ((B.b 8 rfl).cells (o := 0) rfl)) ?_
    refine s_k rfl (k_call T6.fn_41 (c_i_IsField ((B.o 13 rfl).rd) ((B.o 14 rfl).rd) ((B.o 9 rfl).rd) ((B.o 10 rfl).rd) ((B.o 11 rfl).rd) (by first | exact lenle (by assumption) | exact lenle6 (by assumption) | exact le256 (by assumption) | exact le2566 (by assumption) | omega) (by first | exact lenle (by assumption) | exact lenle6 (by assumption) | exact le256 (by assumption) | exact le2566 (by assumption) | omega) (by first | exact lenle (by assumption) | exact lenle6 (by assumption) | exact le256 (by assumption) | exact le2566 (by assumption) | omega) (by first | exact lenle (by assumption) | exact lenle6 (by assumption) | exact le256 (by assumption) | exact le2566 (by assumption) | omega) (by first | exact lenle (by assumption) | exact lenle6 (by assumption) | exact le256 (by assumption) | exact le2566 (by assumption) | omega)) rfl ?_)
    rintro v179 w177 ⟨hv180, e178⟩
    replace B := B.ext0 e178
    clear e178
    obtain rfl : v179 = .bool true := hv180.trans (congrArg Value.bool hp52)
    refine s_y (v := .bool false) rfl (y_not rfl rfl) ?_
    refine s_y (v := .bool false) rfl (y_pick_f rfl rfl) ?_
    refine s_nil ?_
    refine W_if_f (by decide) rfl ?_
    refine W_skip ?_
    refine W_seq ?_
    refine W_seq ?_
    refine W_region (by kernel_rfl) ?_
    refine s_y (v := .int .i64 0) rfl (y_assign rfl) ?_
    refine s_nil ?_
    refine W_block ?_
    have hcell := row_lt (wd := v8) (hi := v9) (a := 1 + u70) (b := 1 + u75) (by omega) (by omega) (by omega) (by omega)
    refine W_loop (fun ρ' w' => ∃ (ρ1 : Env) (ki : Int), ρ' = updL ρ1 [(5, .pointer (some ⟨b33, 0, none⟩)), (6, .pointer (some ⟨b63, 0, none⟩)), (7, .int .i64 (1 + u70)), (8, .int .i64 (1 + u75)), (9, .pointer (some ⟨b89, 0, none⟩)), (14, .float .f32 r105), (22, .int .i64 ki)] ∧ Bu w no w' [.blk b125 [.slice a118 ((v8 * v9).toNat) c119, .slice a120 ((v8 * v9).toNat) c121, .slice a122 ((v8 * v9).toNat) c123] 30, .ow kF a118 ((v8 * v9).toNat) c119 34 (mulL (v8 * v9) Z43 1073741824), .ow kF a120 ((v8 * v9).toNat) c121 34 (mulL (v8 * v9) Z47 1073741824), .ow kF a122 ((v8 * v9).toNat) c123 34 (mulL (v8 * v9) Z51 1073741824), .blk b89 [.slice a82 c41 c83, .slice a84 c45 c85, .slice a86 c49 c87] 30, .ow kF a82 c41 c83 34 (put Z43 ((1 + u70) + v8 * (1 + u75)) 1069547520), .ow kF a84 c45 c85 34 Z47, .ow kF a86 c49 c87 34 Z51, .blk b63 [.slice a40 c41 c42, .slice a44 c45 c46, .slice a48 c49 c50] 30, .ow kF a40 c41 c42 34 Z43, .ow kF a44 c45 c46 34 Z47, .ow kF a48 c49 c50 34 Z51, .blk b33 [.int .i64 v8, .int .i64 v9, .bool vb10, .slice a11 c12 c13, .slice a15 c16 c17] 26, .ow kF a11 c12 c13 34 Z14, .ow kF a15 c16 c17 34 Z18, .rd kY a0 n0 X0, .rd kY a1 n1 X1] ∧ (0 ≤ ki) ∧ (ki ≤ ((c41 : Nat) : Int))) (fun ρ' _ => (((c41 : Nat) : Int) - iv (ρ' 22)).toNat) ?_ ?_
    · exact ⟨_, 0, Fits.eq ⟨rfl, rfl, rfl, rfl, rfl, rfl, rfl, trivial⟩, B, (Int.le_refl _), (by omega)⟩
    · clear B; rintro _ w181 ⟨ρ182, ki, rfl, B, h0ki, h1ki⟩
      refine W_seq ?_
      refine W_seq ?_
      refine W_region (by kernel_rfl) ?_
      refine s_y (v := .int .i64 ki) rfl (y_move rfl) ?_
      refine s_y (v := .pointer (some ⟨b63, 0, none⟩)) rfl (y_fld (o := 0) T6.fld_30_0_0 rfl) ?_
      refine s_y (v := .slice a40 c41 c42) rfl (y_load T6.one_24 rfl ((B.b 8 rfl).cell (j := 0) rfl)) ?_
      refine s_y (v := .int .i64 ((c41 : Nat) : Int)) rfl (y_len T6.sl_24_34_1 rfl rfl) ?_
      by_cases c183 : ki < ((c41 : Nat) : Int)
      · refine s_y (v := .bool true) rfl (y_lss rfl rfl (decide_eq_true c183)) ?_
        refine s_nil ?_
        refine W_if_t (by decide) rfl ?_
        refine W_skip ?_
        refine W_seq ?_
        refine W_block ?_
        refine W_seq ?_
        have B0_188 := B
        refine W_draw (no) T6.mx (by kernel_rfl) (fun w186 e187 => ?_)
        have R189 := Ext.refl (no) w181
        replace R189 := R189.trans (Ext0.any e187)
        replace B := B.ext0 e187
        clear e187
        refine m_y (v := .int .i64 ki) 0 rfl (by kernel_rfl) rfl rfl (fun w' e' => y_move rfl) ?_
        refine m_y (v := .int .i64 (1 + u70)) 1 rfl (by kernel_rfl) rfl rfl (fun w' e' => y_move rfl) ?_
        refine m_y (v := .pointer (some ⟨b33, 0, none⟩)) 2 rfl (by kernel_rfl) rfl rfl (fun w' e' => y_fld (o := 0) T6.fld_26_0_0 rfl) ?_
        refine m_y (v := .int .i64 v8) 3 rfl (by kernel_rfl) rfl rfl (fun w' e' => y_load T6.one_2 rfl (((B0_188.b 12 rfl).ext0 e').cell (j := 0) rfl)) ?_
        refine m_y (v := .int .i64 (1 + u75)) 4 rfl (by kernel_rfl) rfl rfl (fun w' e' => y_move rfl) ?_
        have hm190 := mulb (a := v8) (b := 1 + u75) (by omega) (by omega) (by omega) (by omega)
        refine m_y (v := .int .i64 (v8 * (1 + u75))) 5 rfl (by kernel_rfl) rfl rfl (fun w' e' => y_mul rfl rfl rfl (by omega)) ?_
        refine m_y (v := .int .i64 ((1 + u70) + (v8 * (1 + u75)))) 6 rfl (by kernel_rfl) rfl rfl (fun w' e' => y_add rfl rfl rfl (by omega)) ?_
        by_cases c191 : ki ≠ ((1 + u70) + (v8 * (1 + u75)))
        · refine m_y (v := .bool true) 7 rfl (by kernel_rfl) rfl rfl (fun w' e' => y_neq rfl rfl (decide_eq_true c191)) ?_
          refine m_y (v := .bool true) 8 rfl (by kernel_rfl) rfl rfl (fun w' e' => y_move rfl) ?_
          refine m_y (v := .pointer (some ⟨b89, 0, none⟩)) 9 rfl (by kernel_rfl) rfl rfl (fun w' e' => y_fld (o := 0) T6.fld_30_0_0 rfl) ?_
          refine m_y (v := .slice a82 c41 c83) 10 rfl (by kernel_rfl) rfl rfl (fun w' e' => y_load T6.one_24 rfl (((B0_188.b 4 rfl).ext0 e').cell (j := 0) rfl)) ?_
          refine m_y (v := .int .i64 ki) 11 rfl (by kernel_rfl) rfl rfl (fun w' e' => y_move rfl) ?_
          refine m_y (v := .pointer (some (sat a82 ((ki).toNat * 1)))) 12 rfl (by kernel_rfl) rfl rfl (fun w' e' => y_idx T6.sl_24_34_1 rfl rfl ((B.o 5 rfl).rd.addr (by omega)) (by omega) (by omega)) ?_
          obtain ⟨r193, hr194, hR192⟩ := Rd.atF (B0_188.o 5 rfl).rd ki (by omega) (by omega)
          refine m_y (v := .float .f32 r193) 13 rfl (by kernel_rfl) rfl rfl (fun w' e' => y_load T6.one_34 rfl ((hR192.ext0 e').cell (i := 0) rfl)) ?_
          refine m_y (v := .pointer (some ⟨b63, 0, none⟩)) 14 rfl (by kernel_rfl) rfl rfl (fun w' e' => y_fld (o := 0) T6.fld_30_0_0 rfl) ?_
          refine m_y (v := .slice a40 c41 c42) 15 rfl (by kernel_rfl) rfl rfl (fun w' e' => y_load T6.one_24 rfl (((B0_188.b 8 rfl).ext0 e').cell (j := 0) rfl)) ?_
          refine m_y (v := .int .i64 ki) 16 rfl (by kernel_rfl) rfl rfl (fun w' e' => y_move rfl) ?_
          refine m_y (v := .pointer (some (sat a40 ((ki).toNat * 1)))) 17 rfl (by kernel_rfl) rfl rfl (fun w' e' => y_idx T6.sl_24_34_1 rfl rfl ((B.o 9 rfl).rd.addr (by omega)) (by omega) (by omega)) ?_
          obtain ⟨r196, hr197, hR195⟩ := Rd.atF (B0_188.o 9 rfl).rd ki (by omega) (by omega)
          refine m_y (v := .float .f32 r196) 18 rfl (by kernel_rfl) rfl rfl (fun w' e' => y_load T6.one_34 rfl ((hR195.ext0 e').cell (i := 0) rfl)) ?_
          have hk198 : ¬ (fne .f32 (el (put Z43 ((1 + u70) + v8 * (1 + u75)) 1069547520) ki) (el Z43 ki) = true) := (put_other (n := Int.toNat (v8 * v9)) (by omega) (by omega) (by omega) (by omega) c191 (hp53.1 ki (by omega) (by omega)).1)
          refine m_y (v := .bool false) 19 rfl (by kernel_rfl) rfl rfl (fun w' e' => y_fneq rfl rfl (fneC hr194 hr197 (Bool.eq_false_iff.2 hk198))) ?_
          refine m_y (v := .bool false) 20 rfl (by kernel_rfl) rfl rfl (fun w' e' => y_pick_t rfl rfl) ?_
          refine m_y (v := .bool false) 21 rfl (by kernel_rfl) rfl rfl (fun w' e' => y_move rfl) ?_
          refine m_y (v := .pointer (some ⟨b89, 1, none⟩)) 22 rfl (by kernel_rfl) rfl rfl (fun w' e' => y_fld (o := 0) T6.fld_30_1_1 rfl) ?_
          refine m_y (v := .slice a84 c45 c85) 23 rfl (by kernel_rfl) rfl rfl (fun w' e' => y_load T6.one_24 rfl (((B0_188.b 4 rfl).ext0 e').cell (j := 1) rfl)) ?_
          refine m_y (v := .int .i64 ki) 24 rfl (by kernel_rfl) rfl rfl (fun w' e' => y_move rfl) ?_
          refine m_y (v := .pointer (some (sat a84 ((ki).toNat * 1)))) 25 rfl (by kernel_rfl) rfl rfl (fun w' e' => y_idx T6.sl_24_34_1 rfl rfl ((B.o 6 rfl).rd.addr (by omega)) (by omega) (by omega)) ?_
          obtain ⟨r200, hr201, hR199⟩ := Rd.atF (B0_188.o 6 rfl).rd ki (by omega) (by omega)
          refine m_y (v := .float .f32 r200) 26 rfl (by kernel_rfl) rfl rfl (fun w' e' => y_load T6.one_34 rfl ((hR199.ext0 e').cell (i := 0) rfl)) ?_
          refine m_y (v := .pointer (some ⟨b63, 1, none⟩)) 27 rfl (by kernel_rfl) rfl rfl (fun w' e' => y_fld (o := 0) T6.fld_30_1_1 rfl) ?_
          refine m_y (v := .slice a44 c45 c46) 28 rfl (by kernel_rfl) rfl rfl (fun w' e' => y_load T6.one_24 rfl (((B0_188.b 8 rfl).ext0 e').cell (j := 1) rfl)) ?_
          refine m_y (v := .int .i64 ki) 29 rfl (by kernel_rfl) rfl rfl (fun w' e' => y_move rfl) ?_
          refine m_y (v := .pointer (some (sat a44 ((ki).toNat * 1)))) 30 rfl (by kernel_rfl) rfl rfl (fun w' e' => y_idx T6.sl_24_34_1 rfl rfl ((B.o 10 rfl).rd.addr (by omega)) (by omega) (by omega)) ?_
          obtain ⟨r203, hr204, hR202⟩ := Rd.atF (B0_188.o 10 rfl).rd ki (by omega) (by omega)
          refine m_y (v := .float .f32 r203) 31 rfl (by kernel_rfl) rfl rfl (fun w' e' => y_load T6.one_34 rfl ((hR202.ext0 e').cell (i := 0) rfl)) ?_
          have hk205 : ¬ (fne .f32 (el Z47 ki) (el Z47 ki) = true) := (fne_fin (hp53.2.1 ki (by omega) (by omega)).1)
          refine m_y (v := .bool false) 32 rfl (by kernel_rfl) rfl rfl (fun w' e' => y_fneq rfl rfl (fneC hr201 hr204 (Bool.eq_false_iff.2 hk205))) ?_
          refine m_y (v := .bool false) 33 rfl (by kernel_rfl) rfl rfl (fun w' e' => y_pick_f rfl rfl) ?_
          refine m_y (v := .bool false) 34 rfl (by kernel_rfl) rfl rfl (fun w' e' => y_move rfl) ?_
          refine m_y (v := .pointer (some ⟨b63, 0, none⟩)) 35 rfl (by kernel_rfl) rfl rfl (fun w' e' => y_fld (o := 0) T6.fld_30_0_0 rfl) ?_
          refine m_y (v := .slice a40 c41 c42) 36 rfl (by kernel_rfl) rfl rfl (fun w' e' => y_load T6.one_24 rfl (((B0_188.b 8 rfl).ext0 e').cell (j := 0) rfl)) ?_
          refine m_y (v := .int .i64 ki) 37 rfl (by kernel_rfl) rfl rfl (fun w' e' => y_move rfl) ?_
          refine m_y (v := .pointer (some (sat a40 ((ki).toNat * 1)))) 38 rfl (by kernel_rfl) rfl rfl (fun w' e' => y_idx T6.sl_24_34_1 rfl rfl ((B.o 9 rfl).rd.addr (by omega)) (by omega) (by omega)) ?_
          obtain ⟨r207, hr208, hR206⟩ := Rd.atF (B0_188.o 9 rfl).rd ki (by omega) (by omega)
          refine m_y (v := .float .f32 r207) 39 rfl (by kernel_rfl) rfl rfl (fun w' e' => y_load T6.one_34 rfl ((hR206.ext0 e').cell (i := 0) rfl)) ?_
          refine m_y (v := .float .f32 r105) 40 rfl (by kernel_rfl) rfl rfl (fun w' e' => y_move rfl) ?_
          by_cases c209 : fgt .f32 (el Z43 ki) (el Z43 (peakI Z43 Z43.length)) = true
          · refine m_y (v := .bool true) 41 rfl (by kernel_rfl) rfl rfl (fun w' e' => y_fgtr rfl rfl (fgtC hr208 hr106 c209)) ?_
            refine m_y (v := .bool true) 42 rfl (by kernel_rfl) rfl rfl (fun w' e' => y_move rfl) ?_
            refine m_y (v := .pointer (some ⟨b63, 0, none⟩)) 43 rfl (by kernel_rfl) rfl rfl (fun w' e' => y_fld (o := 0) T6.fld_30_0_0 rfl) ?_
            refine m_y (v := .slice a40 c41 c42) 44 rfl (by kernel_rfl) rfl rfl (fun w' e' => y_load T6.one_24 rfl (((B0_188.b 8 rfl).ext0 e').cell (j := 0) rfl)) ?_
            refine m_y (v := .int .i64 ki) 45 rfl (by kernel_rfl) rfl rfl (fun w' e' => y_move rfl) ?_
            refine m_y (v := .pointer (some (sat a40 ((ki).toNat * 1)))) 46 rfl (by kernel_rfl) rfl rfl (fun w' e' => y_idx T6.sl_24_34_1 rfl rfl ((B.o 9 rfl).rd.addr (by omega)) (by omega) (by omega)) ?_
            obtain ⟨r211, hr212, hR210⟩ := Rd.atF (B0_188.o 9 rfl).rd ki (by omega) (by omega)
            refine m_y (v := .float .f32 r211) 47 rfl (by kernel_rfl) rfl rfl (fun w' e' => y_load T6.one_34 rfl ((hR210.ext0 e').cell (i := 0) rfl)) ?_
            refine m_y (v := .float .f32 r105) 48 rfl (by kernel_rfl) rfl rfl (fun w' e' => y_move rfl) ?_
            refine m_y (v := .float .f32 (Op.negFloat .f32 r105)) 49 rfl (by kernel_rfl) rfl rfl (fun w' e' => y_fneg rfl) ?_
            have hk213 : ¬ (fgt .f32 (el Z43 ki) (fneg .f32 (el Z43 (peakI Z43 Z43.length))) = true) := (pk_no1 hp52 hp53 (by omega) (by omega) c209)
            refine m_y (v := .bool false) 50 rfl (by kernel_rfl) rfl rfl (fun w' e' => y_fgtr rfl rfl (fgtC hr212 (negC hr106) (Bool.eq_false_iff.2 hk213))) ?_
            refine m_y (v := .bool false) 51 rfl (by kernel_rfl) rfl rfl (fun w' e' => y_pick_t rfl rfl) ?_
            refine m_y (v := .bool false) 52 rfl (by kernel_rfl) rfl rfl (fun w' e' => y_pick_f rfl rfl) ?_
            refine m_y (v := .bool false) 53 rfl (by kernel_rfl) rfl rfl (fun w' e' => y_move rfl) ?_
            refine m_y (v := .pointer (some ⟨b63, 0, none⟩)) 54 rfl (by kernel_rfl) rfl rfl (fun w' e' => y_fld (o := 0) T6.fld_30_0_0 rfl) ?_
            refine m_y (v := .slice a40 c41 c42) 55 rfl (by kernel_rfl) rfl rfl (fun w' e' => y_load T6.one_24 rfl (((B0_188.b 8 rfl).ext0 e').cell (j := 0) rfl)) ?_
            refine m_y (v := .int .i64 ki) 56 rfl (by kernel_rfl) rfl rfl (fun w' e' => y_move rfl) ?_
            refine m_y (v := .pointer (some (sat a40 ((ki).toNat * 1)))) 57 rfl (by kernel_rfl) rfl rfl (fun w' e' => y_idx T6.sl_24_34_1 rfl rfl ((B.o 9 rfl).rd.addr (by omega)) (by omega) (by omega)) ?_
            obtain ⟨r215, hr216, hR214⟩ := Rd.atF (B0_188.o 9 rfl).rd ki (by omega) (by omega)
            refine m_y (v := .float .f32 r215) 58 rfl (by kernel_rfl) rfl rfl (fun w' e' => y_load T6.one_34 rfl ((hR214.ext0 e').cell (i := 0) rfl)) ?_
            refine m_y (v := .float .f32 (Op.negFloat .f32 r215)) 59 rfl (by kernel_rfl) rfl rfl (fun w' e' => y_fneg rfl) ?_
            refine m_y (v := .float .f32 r105) 60 rfl (by kernel_rfl) rfl rfl (fun w' e' => y_move rfl) ?_
            by_cases c217 : fgt .f32 (fneg .f32 (el Z43 ki)) (el Z43 (peakI Z43 Z43.length)) = true
            · refine m_y (v := .bool true) 61 rfl (by kernel_rfl) rfl rfl (fun w' e' => y_fgtr rfl rfl (fgtC (negC hr216) hr106 c217)) ?_
              refine m_y (v := .bool true) 62 rfl (by kernel_rfl) rfl rfl (fun w' e' => y_move rfl) ?_
              refine m_y (v := .pointer (some ⟨b63, 0, none⟩)) 63 rfl (by kernel_rfl) rfl rfl (fun w' e' => y_fld (o := 0) T6.fld_30_0_0 rfl) ?_
              refine m_y (v := .slice a40 c41 c42) 64 rfl (by kernel_rfl) rfl rfl (fun w' e' => y_load T6.one_24 rfl (((B0_188.b 8 rfl).ext0 e').cell (j := 0) rfl)) ?_
              refine m_y (v := .int .i64 ki) 65 rfl (by kernel_rfl) rfl rfl (fun w' e' => y_move rfl) ?_
              refine m_y (v := .pointer (some (sat a40 ((ki).toNat * 1)))) 66 rfl (by kernel_rfl) rfl rfl (fun w' e' => y_idx T6.sl_24_34_1 rfl rfl ((B.o 9 rfl).rd.addr (by omega)) (by omega) (by omega)) ?_
              obtain ⟨r219, hr220, hR218⟩ := Rd.atF (B0_188.o 9 rfl).rd ki (by omega) (by omega)
              refine m_y (v := .float .f32 r219) 67 rfl (by kernel_rfl) rfl rfl (fun w' e' => y_load T6.one_34 rfl ((hR218.ext0 e').cell (i := 0) rfl)) ?_
              refine m_y (v := .float .f32 (Op.negFloat .f32 r219)) 68 rfl (by kernel_rfl) rfl rfl (fun w' e' => y_fneg rfl) ?_
              refine m_y (v := .float .f32 r105) 69 rfl (by kernel_rfl) rfl rfl (fun w' e' => y_move rfl) ?_
              refine m_y (v := .float .f32 (Op.negFloat .f32 r105)) 70 rfl (by kernel_rfl) rfl rfl (fun w' e' => y_fneg rfl) ?_
              have hk221 : ¬ (fgt .f32 (fneg .f32 (el Z43 ki)) (fneg .f32 (el Z43 (peakI Z43 Z43.length))) = true) := (pk_no2 hp52 hp53 (by omega) (by omega) c217)
              refine m_y (v := .bool false) 71 rfl (by kernel_rfl) rfl rfl (fun w' e' => y_fgtr rfl rfl (fgtC (negC hr220) (negC hr106) (Bool.eq_false_iff.2 hk221))) ?_
              refine m_y (v := .bool false) 72 rfl (by kernel_rfl) rfl rfl (fun w' e' => y_pick_t rfl rfl) ?_
              refine m_y (v := .bool false) 73 rfl (by kernel_rfl) rfl rfl (fun w' e' => y_pick_f rfl rfl) ?_
              refine m_done (by kernel_rfl) (fun w222 e223 => ?_)
              replace B := B.ext0 e223
              clear e223
              clear B0_188 R189
              refine W_if_f (by decide) rfl ?_
              refine W_skip ?_
              refine W_region (by kernel_rfl) ?_
              refine s_y (v := .int .i64 ki) rfl (y_move rfl) ?_
              refine s_y (v := .int .i64 (ki + 1)) rfl (y_add rfl rfl rfl (by omega)) ?_
              refine s_y (v := .int .i64 (ki + 1)) rfl (y_assign rfl) ?_
              refine s_nil ?_
              refine ⟨⟨_, ki + 1, Fits.eq ⟨rfl, rfl, rfl, rfl, rfl, rfl, rfl, trivial⟩, B, (by omega), (by omega)⟩, ?_⟩
              show (((c41 : Nat) : Int) - (ki + 1)).toNat < (((c41 : Nat) : Int) - ki).toNat
              omega
            · refine m_y (v := .bool false) 61 rfl (by kernel_rfl) rfl rfl (fun w' e' => y_fgtr rfl rfl (fgtC (negC hr216) hr106 (Bool.eq_false_iff.2 c217))) ?_
              refine m_y (v := .bool false) 62 rfl (by kernel_rfl) rfl rfl (fun w' e' => y_move rfl) ?_
              refine m_skip 63 rfl (by kernel_rfl) rfl ?_
              refine m_skip 64 rfl (by kernel_rfl) rfl ?_
              refine m_skip 65 rfl (by kernel_rfl) rfl ?_
              refine m_skip 66 rfl (by kernel_rfl) rfl ?_
              refine m_skip 67 rfl (by kernel_rfl) rfl ?_
              refine m_skip 68 rfl (by kernel_rfl) rfl ?_
              refine m_skip 69 rfl (by kernel_rfl) rfl ?_
              refine m_skip 70 rfl (by kernel_rfl) rfl ?_
              refine m_skip 71 rfl (by kernel_rfl) rfl ?_
              refine m_y (v := .bool false) 72 rfl (by kernel_rfl) rfl rfl (fun w' e' => y_pick_f rfl rfl) ?_
              refine m_y (v := .bool false) 73 rfl (by kernel_rfl) rfl rfl (fun w' e' => y_pick_f rfl rfl) ?_
              refine m_done (by kernel_rfl) (fun w224 e225 => ?_)
              replace B := B.ext0 e225
              clear e225
              clear B0_188 R189
              refine W_if_f (by decide) rfl ?_
              refine W_skip ?_
              refine W_region (by kernel_rfl) ?_
              refine s_y (v := .int .i64 ki) rfl (y_move rfl) ?_
              refine s_y (v := .int .i64 (ki + 1)) rfl (y_add rfl rfl rfl (by omega)) ?_
              refine s_y (v := .int .i64 (ki + 1)) rfl (y_assign rfl) ?_
              refine s_nil ?_
              refine ⟨⟨_, ki + 1, Fits.eq ⟨rfl, rfl, rfl, rfl, rfl, rfl, rfl, trivial⟩, B, (by omega), (by omega)⟩, ?_⟩
              show (((c41 : Nat) : Int) - (ki + 1)).toNat < (((c41 : Nat) : Int) - ki).toNat
              omega
          · refine m_y (v := .bool false) 41 rfl (by kernel_rfl) rfl rfl (fun w' e' => y_fgtr rfl rfl (fgtC hr208 hr106 (Bool.eq_false_iff.2 c209))) ?_
            refine m_y (v := .bool false) 42 rfl (by kernel_rfl) rfl rfl (fun w' e' => y_move rfl) ?_
            refine m_skip 43 rfl (by kernel_rfl) rfl ?_
            refine m_skip 44 rfl (by kernel_rfl) rfl ?_
            refine m_skip 45 rfl (by kernel_rfl) rfl ?_
            refine m_skip 46 rfl (by kernel_rfl) rfl ?_
            refine m_skip 47 rfl (by kernel_rfl) rfl ?_
            refine m_skip 48 rfl (by kernel_rfl) rfl ?_
            refine m_skip 49 rfl (by kernel_rfl) rfl ?_
            refine m_skip 50 rfl (by kernel_rfl) rfl ?_
            refine m_y (v := .bool false) 51 rfl (by kernel_rfl) rfl rfl (fun w' e' => y_pick_f rfl rfl) ?_
            refine m_y (v := .bool false) 52 rfl (by kernel_rfl) rfl rfl (fun w' e' => y_pick_f rfl rfl) ?_
            refine m_y (v := .bool false) 53 rfl (by kernel_rfl) rfl rfl (fun w' e' => y_move rfl) ?_
            refine m_y (v := .pointer (some ⟨b63, 0, none⟩)) 54 rfl (by kernel_rfl) rfl rfl (fun w' e' => y_fld (o := 0) T6.fld_30_0_0 rfl) ?_
            refine m_y (v := .slice a40 c41 c42) 55 rfl (by kernel_rfl) rfl rfl (fun w' e' => y_load T6.one_24 rfl (((B0_188.b 8 rfl).ext0 e').cell (j := 0) rfl)) ?_
            refine m_y (v := .int .i64 ki) 56 rfl (by kernel_rfl) rfl rfl (fun w' e' => y_move rfl) ?_
            refine m_y (v := .pointer (some (sat a40 ((ki).toNat * 1)))) 57 rfl (by kernel_rfl) rfl rfl (fun w' e' => y_idx T6.sl_24_34_1 rfl rfl ((B.o 9 rfl).rd.addr (by omega)) (by omega) (by omega)) ?_
            obtain ⟨r227, hr228, hR226⟩ := Rd.atF (B0_188.o 9 rfl).rd ki (by omega) (by omega)
            refine m_y (v := .float .f32 r227) 58 rfl (by kernel_rfl) rfl rfl (fun w' e' => y_load T6.one_34 rfl ((hR226.ext0 e').cell (i := 0) rfl)) ?_
            refine m_y (v := .float .f32 (Op.negFloat .f32 r227)) 59 rfl (by kernel_rfl) rfl rfl (fun w' e' => y_fneg rfl) ?_
            refine m_y (v := .float .f32 r105) 60 rfl (by kernel_rfl) rfl rfl (fun w' e' => y_move rfl) ?_
            by_cases c229 : fgt .f32 (fneg .f32 (el Z43 ki)) (el Z43 (peakI Z43 Z43.length)) = true
            · refine m_y (v := .bool true) 61 rfl (by kernel_rfl) rfl rfl (fun w' e' => y_fgtr rfl rfl (fgtC (negC hr228) hr106 c229)) ?_
              refine m_y (v := .bool true) 62 rfl (by kernel_rfl) rfl rfl (fun w' e' => y_move rfl) ?_
              refine m_y (v := .pointer (some ⟨b63, 0, none⟩)) 63 rfl (by kernel_rfl) rfl rfl (fun w' e' => y_fld (o := 0) T6.fld_30_0_0 rfl) ?_
              refine m_y (v := .slice a40 c41 c42) 64 rfl (by kernel_rfl) rfl rfl (fun w' e' => y_load T6.one_24 rfl (((B0_188.b 8 rfl).ext0 e').cell (j := 0) rfl)) ?_
              refine m_y (v := .int .i64 ki) 65 rfl (by kernel_rfl) rfl rfl (fun w' e' => y_move rfl) ?_
              refine m_y (v := .pointer (some (sat a40 ((ki).toNat * 1)))) 66 rfl (by kernel_rfl) rfl rfl (fun w' e' => y_idx T6.sl_24_34_1 rfl rfl ((B.o 9 rfl).rd.addr (by omega)) (by omega) (by omega)) ?_
              obtain ⟨r231, hr232, hR230⟩ := Rd.atF (B0_188.o 9 rfl).rd ki (by omega) (by omega)
              refine m_y (v := .float .f32 r231) 67 rfl (by kernel_rfl) rfl rfl (fun w' e' => y_load T6.one_34 rfl ((hR230.ext0 e').cell (i := 0) rfl)) ?_
              refine m_y (v := .float .f32 (Op.negFloat .f32 r231)) 68 rfl (by kernel_rfl) rfl rfl (fun w' e' => y_fneg rfl) ?_
              refine m_y (v := .float .f32 r105) 69 rfl (by kernel_rfl) rfl rfl (fun w' e' => y_move rfl) ?_
              refine m_y (v := .float .f32 (Op.negFloat .f32 r105)) 70 rfl (by kernel_rfl) rfl rfl (fun w' e' => y_fneg rfl) ?_
              have hk233 : ¬ (fgt .f32 (fneg .f32 (el Z43 ki)) (fneg .f32 (el Z43 (peakI Z43 Z43.length))) = true) := (pk_no2 hp52 hp53 (by omega) (by omega) c229)
              refine m_y (v := .bool false) 71 rfl (by kernel_rfl) rfl rfl (fun w' e' => y_fgtr rfl rfl (fgtC (negC hr232) (negC hr106) (Bool.eq_false_iff.2 hk233))) ?_
              refine m_y (v := .bool false) 72 rfl (by kernel_rfl) rfl rfl (fun w' e' => y_pick_t rfl rfl) ?_
              refine m_y (v := .bool false) 73 rfl (by kernel_rfl) rfl rfl (fun w' e' => y_pick_f rfl rfl) ?_
              refine m_done (by kernel_rfl) (fun w234 e235 => ?_)
              replace B := B.ext0 e235
              clear e235
              clear B0_188 R189
              refine W_if_f (by decide) rfl ?_
              refine W_skip ?_
              refine W_region (by kernel_rfl) ?_
              refine s_y (v := .int .i64 ki) rfl (y_move rfl) ?_
              refine s_y (v := .int .i64 (ki + 1)) rfl (y_add rfl rfl rfl (by omega)) ?_
              refine s_y (v := .int .i64 (ki + 1)) rfl (y_assign rfl) ?_
              refine s_nil ?_
              refine ⟨⟨_, ki + 1, Fits.eq ⟨rfl, rfl, rfl, rfl, rfl, rfl, rfl, trivial⟩, B, (by omega), (by omega)⟩, ?_⟩
              show (((c41 : Nat) : Int) - (ki + 1)).toNat < (((c41 : Nat) : Int) - ki).toNat
              omega
            · refine m_y (v := .bool false) 61 rfl (by kernel_rfl) rfl rfl (fun w' e' => y_fgtr rfl rfl (fgtC (negC hr228) hr106 (Bool.eq_false_iff.2 c229))) ?_
              refine m_y (v := .bool false) 62 rfl (by kernel_rfl) rfl rfl (fun w' e' => y_move rfl) ?_
              refine m_skip 63 rfl (by kernel_rfl) rfl ?_
              refine m_skip 64 rfl (by kernel_rfl) rfl ?_
              refine m_skip 65 rfl (by kernel_rfl) rfl ?_
              refine m_skip 66 rfl (by kernel_rfl) rfl ?_
              refine m_skip 67 rfl (by kernel_rfl) rfl ?_
              refine m_skip 68 rfl (by kernel_rfl) rfl ?_
              refine m_skip 69 rfl (by kernel_rfl) rfl ?_
              refine m_skip 70 rfl (by kernel_rfl) rfl ?_
              refine m_skip 71 rfl (by kernel_rfl) rfl ?_
              refine m_y (v := .bool false) 72 rfl (by kernel_rfl) rfl rfl (fun w' e' => y_pick_f rfl rfl) ?_
              refine m_y (v := .bool false) 73 rfl (by kernel_rfl) rfl rfl (fun w' e' => y_pick_f rfl rfl) ?_
              refine m_done (by kernel_rfl) (fun w236 e237 => ?_)
              replace B := B.ext0 e237
              clear e237
              clear B0_188 R189
              refine W_if_f (by decide) rfl ?_
              refine W_skip ?_
              refine W_region (by kernel_rfl) ?_
              refine s_y (v := .int .i64 ki) rfl (y_move rfl) ?_
              refine s_y (v := .int .i64 (ki + 1)) rfl (y_add rfl rfl rfl (by omega)) ?_
              refine s_y (v := .int .i64 (ki + 1)) rfl (y_assign rfl) ?_
              refine s_nil ?_
              refine ⟨⟨_, ki + 1, Fits.eq ⟨rfl, rfl, rfl, rfl, rfl, rfl, rfl, trivial⟩, B, (by omega), (by omega)⟩, ?_⟩
              show (((c41 : Nat) : Int) - (ki + 1)).toNat < (((c41 : Nat) : Int) - ki).toNat
              omega
        · refine m_y (v := .bool false) 7 rfl (by kernel_rfl) rfl rfl (fun w' e' => y_neq rfl rfl (decide_eq_false c191)) ?_
          refine m_y (v := .bool false) 8 rfl (by kernel_rfl) rfl rfl (fun w' e' => y_move rfl) ?_
          refine m_skip 9 rfl (by kernel_rfl) rfl ?_
          refine m_skip 10 rfl (by kernel_rfl) rfl ?_
          refine m_skip 11 rfl (by kernel_rfl) rfl ?_
          refine m_skip 12 rfl (by kernel_rfl) rfl ?_
          refine m_skip 13 rfl (by kernel_rfl) rfl ?_
          refine m_skip 14 rfl (by kernel_rfl) rfl ?_
          refine m_skip 15 rfl (by kernel_rfl) rfl ?_
          refine m_skip 16 rfl (by kernel_rfl) rfl ?_
          refine m_skip 17 rfl (by kernel_rfl) rfl ?_
          refine m_skip 18 rfl (by kernel_rfl) rfl ?_
          refine m_skip 19 rfl (by kernel_rfl) rfl ?_
          refine m_y (v := .bool false) 20 rfl (by kernel_rfl) rfl rfl (fun w' e' => y_pick_f rfl rfl) ?_
          refine m_y (v := .bool false) 21 rfl (by kernel_rfl) rfl rfl (fun w' e' => y_move rfl) ?_
          refine m_y (v := .pointer (some ⟨b89, 1, none⟩)) 22 rfl (by kernel_rfl) rfl rfl (fun w' e' => y_fld (o := 0) T6.fld_30_1_1 rfl) ?_
          refine m_y (v := .slice a84 c45 c85) 23 rfl (by kernel_rfl) rfl rfl (fun w' e' => y_load T6.one_24 rfl (((B0_188.b 4 rfl).ext0 e').cell (j := 1) rfl)) ?_
          refine m_y (v := .int .i64 ki) 24 rfl (by kernel_rfl) rfl rfl (fun w' e' => y_move rfl) ?_
          refine m_y (v := .pointer (some (sat a84 ((ki).toNat * 1)))) 25 rfl (by kernel_rfl) rfl rfl (fun w' e' => y_idx T6.sl_24_34_1 rfl rfl ((B.o 6 rfl).rd.addr (by omega)) (by omega) (by omega)) ?_
          obtain ⟨r239, hr240, hR238⟩ := Rd.atF (B0_188.o 6 rfl).rd ki (by omega) (by omega)
          refine m_y (v := .float .f32 r239) 26 rfl (by kernel_rfl) rfl rfl (fun w' e' => y_load T6.one_34 rfl ((hR238.ext0 e').cell (i := 0) rfl)) ?_
          refine m_y (v := .pointer (some ⟨b63, 1, none⟩)) 27 rfl (by kernel_rfl) rfl rfl (fun w' e' => y_fld (o := 0) T6.fld_30_1_1 rfl) ?_
          refine m_y (v := .slice a44 c45 c46) 28 rfl (by kernel_rfl) rfl rfl (fun w' e' => y_load T6.one_24 rfl (((B0_188.b 8 rfl).ext0 e').cell (j := 1) rfl)) ?_
          refine m_y (v := .int .i64 ki) 29 rfl (by kernel_rfl) rfl rfl (fun w' e' => y_move rfl) ?_
          refine m_y (v := .pointer (some (sat a44 ((ki).toNat * 1)))) 30 rfl (by kernel_rfl) rfl rfl (fun w' e' => y_idx T6.sl_24_34_1 rfl rfl ((B.o 10 rfl).rd.addr (by omega)) (by omega) (by omega)) ?_
          obtain ⟨r242, hr243, hR241⟩ := Rd.atF (B0_188.o 10 rfl).rd ki (by omega) (by omega)
          refine m_y (v := .float .f32 r242) 31 rfl (by kernel_rfl) rfl rfl (fun w' e' => y_load T6.one_34 rfl ((hR241.ext0 e').cell (i := 0) rfl)) ?_
          have hk244 : ¬ (fne .f32 (el Z47 ki) (el Z47 ki) = true) := (fne_fin (hp53.2.1 ki (by omega) (by omega)).1)
          refine m_y (v := .bool false) 32 rfl (by kernel_rfl) rfl rfl (fun w' e' => y_fneq rfl rfl (fneC hr240 hr243 (Bool.eq_false_iff.2 hk244))) ?_
          refine m_y (v := .bool false) 33 rfl (by kernel_rfl) rfl rfl (fun w' e' => y_pick_f rfl rfl) ?_
          refine m_y (v := .bool false) 34 rfl (by kernel_rfl) rfl rfl (fun w' e' => y_move rfl) ?_
          refine m_y (v := .pointer (some ⟨b63, 0, none⟩)) 35 rfl (by kernel_rfl) rfl rfl (fun w' e' => y_fld (o := 0) T6.fld_30_0_0 rfl) ?_
          refine m_y (v := .slice a40 c41 c42) 36 rfl (by kernel_rfl) rfl rfl (fun w' e' => y_load T6.one_24 rfl (((B0_188.b 8 rfl).ext0 e').cell (j := 0) rfl)) ?_
          refine m_y (v := .int .i64 ki) 37 rfl (by kernel_rfl) rfl rfl (fun w' e' => y_move rfl) ?_
          refine m_y (v := .pointer (some (sat a40 ((ki).toNat * 1)))) 38 rfl (by kernel_rfl) rfl rfl (fun w' e' => y_idx T6.sl_24_34_1 rfl rfl ((B.o 9 rfl).rd.addr (by omega)) (by omega) (by omega)) ?_
          obtain ⟨r246, hr247, hR245⟩ := Rd.atF (B0_188.o 9 rfl).rd ki (by omega) (by omega)
          refine m_y (v := .float .f32 r246) 39 rfl (by kernel_rfl) rfl rfl (fun w' e' => y_load T6.one_34 rfl ((hR245.ext0 e').cell (i := 0) rfl)) ?_
          refine m_y (v := .float .f32 r105) 40 rfl (by kernel_rfl) rfl rfl (fun w' e' => y_move rfl) ?_
          by_cases c248 : fgt .f32 (el Z43 ki) (el Z43 (peakI Z43 Z43.length)) = true
          · refine m_y (v := .bool true) 41 rfl (by kernel_rfl) rfl rfl (fun w' e' => y_fgtr rfl rfl (fgtC hr247 hr106 c248)) ?_
            refine m_y (v := .bool true) 42 rfl (by kernel_rfl) rfl rfl (fun w' e' => y_move rfl) ?_
            refine m_y (v := .pointer (some ⟨b63, 0, none⟩)) 43 rfl (by kernel_rfl) rfl rfl (fun w' e' => y_fld (o := 0) T6.fld_30_0_0 rfl) ?_
            refine m_y (v := .slice a40 c41 c42) 44 rfl (by kernel_rfl) rfl rfl (fun w' e' => y_load T6.one_24 rfl (((B0_188.b 8 rfl).ext0 e').cell (j := 0) rfl)) ?_
            refine m_y (v := .int .i64 ki) 45 rfl (by kernel_rfl) rfl rfl (fun w' e' => y_move rfl) ?_
            refine m_y (v := .pointer (some (sat a40 ((ki).toNat * 1)))) 46 rfl (by kernel_rfl) rfl rfl (fun w' e' => y_idx T6.sl_24_34_1 rfl rfl ((B.o 9 rfl).rd.addr (by omega)) (by omega) (by omega)) ?_
            obtain ⟨r250, hr251, hR249⟩ := Rd.atF (B0_188.o 9 rfl).rd ki (by omega) (by omega)
            refine m_y (v := .float .f32 r250) 47 rfl (by kernel_rfl) rfl rfl (fun w' e' => y_load T6.one_34 rfl ((hR249.ext0 e').cell (i := 0) rfl)) ?_
            refine m_y (v := .float .f32 r105) 48 rfl (by kernel_rfl) rfl rfl (fun w' e' => y_move rfl) ?_
            refine m_y (v := .float .f32 (Op.negFloat .f32 r105)) 49 rfl (by kernel_rfl) rfl rfl (fun w' e' => y_fneg rfl) ?_
            have hk252 : ¬ (fgt .f32 (el Z43 ki) (fneg .f32 (el Z43 (peakI Z43 Z43.length))) = true) := (pk_no1 hp52 hp53 (by omega) (by omega) c248)
            refine m_y (v := .bool false) 50 rfl (by kernel_rfl) rfl rfl (fun w' e' => y_fgtr rfl rfl (fgtC hr251 (negC hr106) (Bool.eq_false_iff.2 hk252))) ?_
            refine m_y (v := .bool false) 51 rfl (by kernel_rfl) rfl rfl (fun w' e' => y_pick_t rfl rfl) ?_
            refine m_y (v := .bool false) 52 rfl (by kernel_rfl) rfl rfl (fun w' e' => y_pick_f rfl rfl) ?_
            refine m_y (v := .bool false) 53 rfl (by kernel_rfl) rfl rfl (fun w' e' => y_move rfl) ?_
            refine m_y (v := .pointer (some ⟨b63, 0, none⟩)) 54 rfl (by kernel_rfl) rfl rfl (fun w' e' => y_fld (o := 0) T6.fld_30_0_0 rfl) ?_
            refine m_y (v := .slice a40 c41 c42) 55 rfl (by kernel_rfl) rfl rfl (fun w' e' => y_load T6.one_24 rfl (((B0_188.b 8 rfl).ext0 e').cell (j := 0) rfl)) ?_
            refine m_y (v := .int .i64 ki) 56 rfl (by kernel_rfl) rfl rfl (fun w' e' => y_move rfl) ?_
            refine m_y (v := .pointer (some (sat a40 ((ki).toNat * 1)))) 57 rfl (by kernel_rfl) rfl rfl (fun w' e' => y_idx T6.sl_24_34_1 rfl rfl ((B.o 9 rfl).rd.addr (by omega)) (by omega) (by omega)) ?_
            obtain ⟨r254, hr255, hR253⟩ := Rd.atF (B0_188.o 9 rfl).rd ki (by omega) (by omega)
            refine m_y (v := .float .f32 r254) 58 rfl (by kernel_rfl) rfl rfl (fun w' e' => y_load T6.one_34 rfl ((hR253.ext0 e').cell (i := 0) rfl)) ?_
            refine m_y (v := .float .f32 (Op.negFloat .f32 r254)) 59 rfl (by kernel_rfl) rfl rfl (fun w' e' => y_fneg rfl) ?_
            refine m_y (v := .float .f32 r105) 60 rfl (by kernel_rfl) rfl rfl (fun w' e' => y_move rfl) ?_
            by_cases c256 : fgt .f32 (fneg .f32 (el Z43 ki)) (el Z43 (peakI Z43 Z43.length)) = true
            · refine m_y (v := .bool true) 61 rfl (by kernel_rfl) rfl rfl (fun w' e' => y_fgtr rfl rfl (fgtC (negC hr255) hr106 c256)) ?_
              refine m_y (v := .bool true) 62 rfl (by kernel_rfl) rfl rfl (fun w' e' => y_move rfl) ?_
              refine m_y (v := .pointer (some ⟨b63, 0, none⟩)) 63 rfl (by kernel_rfl) rfl rfl (fun w' e' => y_fld (o := 0) T6.fld_30_0_0 rfl) ?_
              refine m_y (v := .slice a40 c41 c42) 64 rfl (by kernel_rfl) rfl rfl (fun w' e' => y_load T6.one_24 rfl (((B0_188.b 8 rfl).ext0 e').cell (j := 0) rfl)) ?_
              refine m_y (v := .int .i64 ki) 65 rfl (by kernel_rfl) rfl rfl (fun w' e' => y_move rfl) ?_
              refine m_y (v := .pointer (some (sat a40 ((ki).toNat * 1)))) 66 rfl (by kernel_rfl) rfl rfl (fun w' e' => y_idx T6.sl_24_34_1 rfl rfl ((B.o 9 rfl).rd.addr (by omega)) (by omega) (by omega)) ?_
              obtain ⟨r258, hr259, hR257⟩ := Rd.atF (B0_188.o 9 rfl).rd ki (by omega) (by omega)
              refine m_y (v := .float .f32 r258) 67 rfl (by kernel_rfl) rfl rfl (fun w' e' => y_load T6.one_34 rfl ((hR257.ext0 e').cell (i := 0) rfl)) ?_
              refine m_y (v := .float .f32 (Op.negFloat .f32 r258)) 68 rfl (by kernel_rfl) rfl rfl (fun w' e' => y_fneg rfl) ?_
              refine m_y (v := .float .f32 r105) 69 rfl (by kernel_rfl) rfl rfl (fun w' e' => y_move rfl) ?_
              refine m_y (v := .float .f32 (Op.negFloat .f32 r105)) 70 rfl (by kernel_rfl) rfl rfl (fun w' e' => y_fneg rfl) ?_
              have hk260 : ¬ (fgt .f32 (fneg .f32 (el Z43 ki)) (fneg .f32 (el Z43 (peakI Z43 Z43.length))) = true) := (pk_no2 hp52 hp53 (by omega) (by omega) c256)
              refine m_y (v := .bool false) 71 rfl (by kernel_rfl) rfl rfl (fun w' e' => y_fgtr rfl rfl (fgtC (negC hr259) (negC hr106) (Bool.eq_false_iff.2 hk260))) ?_
              refine m_y (v := .bool false) 72 rfl (by kernel_rfl) rfl rfl (fun w' e' => y_pick_t rfl rfl) ?_
              refine m_y (v := .bool false) 73 rfl (by kernel_rfl) rfl rfl (fun w' e' => y_pick_f rfl rfl) ?_
              refine m_done (by kernel_rfl) (fun w261 e262 => ?_)
              replace B := B.ext0 e262
              clear e262
              clear B0_188 R189
              refine W_if_f (by decide) rfl ?_
              refine W_skip ?_
              refine W_region (by kernel_rfl) ?_
              refine s_y (v := .int .i64 ki) rfl (y_move rfl) ?_
              refine s_y (v := .int .i64 (ki + 1)) rfl (y_add rfl rfl rfl (by omega)) ?_
              refine s_y (v := .int .i64 (ki + 1)) rfl (y_assign rfl) ?_
              refine s_nil ?_
              refine ⟨⟨_, ki + 1, Fits.eq ⟨rfl, rfl, rfl, rfl, rfl, rfl, rfl, trivial⟩, B, (by omega), (by omega)⟩, ?_⟩
              show (((c41 : Nat) : Int) - (ki + 1)).toNat < (((c41 : Nat) : Int) - ki).toNat
              omega
            · refine m_y (v := .bool false) 61 rfl (by kernel_rfl) rfl rfl (fun w' e' => y_fgtr rfl rfl (fgtC (negC hr255) hr106 (Bool.eq_false_iff.2 c256))) ?_
              refine m_y (v := .bool false) 62 rfl (by kernel_rfl) rfl rfl (fun w' e' => y_move rfl) ?_
              refine m_skip 63 rfl (by kernel_rfl) rfl ?_
              refine m_skip 64 rfl (by kernel_rfl) rfl ?_
              refine m_skip 65 rfl (by kernel_rfl) rfl ?_
              refine m_skip 66 rfl (by kernel_rfl) rfl ?_
              refine m_skip 67 rfl (by kernel_rfl) rfl ?_
              refine m_skip 68 rfl (by kernel_rfl) rfl ?_
              refine m_skip 69 rfl (by kernel_rfl) rfl ?_
              refine m_skip 70 rfl (by kernel_rfl) rfl ?_
              refine m_skip 71 rfl (by kernel_rfl) rfl ?_
              refine m_y (v := .bool false) 72 rfl (by kernel_rfl) rfl rfl (fun w' e' => y_pick_f rfl rfl) ?_
              refine m_y (v := .bool false) 73 rfl (by kernel_rfl) rfl rfl (fun w' e' => y_pick_f rfl rfl) ?_
              refine m_done (by kernel_rfl) (fun w263 e264 => ?_)
              replace B := B.ext0 e264
              clear e264
              clear B0_188 R189
              refine W_if_f (by decide) rfl ?_
              refine W_skip ?_
              refine W_region (by kernel_rfl) ?_
              refine s_y (v := .int .i64 ki) rfl (y_move rfl) ?_
              refine s_y (v := .int .i64 (ki + 1)) rfl (y_add rfl rfl rfl (by omega)) ?_
              refine s_y (v := .int .i64 (ki + 1)) rfl (y_assign rfl) ?_
              refine s_nil ?_
              refine ⟨⟨_, ki + 1, Fits.eq ⟨rfl, rfl, rfl, rfl, rfl, rfl, rfl, trivial⟩, B, (by omega), (by omega)⟩, ?_⟩
              show (((c41 : Nat) : Int) - (ki + 1)).toNat < (((c41 : Nat) : Int) - ki).toNat
              omega
          · refine m_y (v := .bool false) 41 rfl (by kernel_rfl) rfl rfl (fun w' e' => y_fgtr rfl rfl (fgtC hr247 hr106 (Bool.eq_false_iff.2 c248))) ?_
            refine m_y (v := .bool false) 42 rfl (by kernel_rfl) rfl rfl (fun w' e' => y_move rfl) ?_
            refine m_skip 43 rfl (by kernel_rfl) rfl ?_
            refine m_skip 44 rfl (by kernel_rfl) rfl ?_
            refine m_skip 45 rfl (by kernel_rfl) rfl ?_
            refine m_skip 46 rfl (by kernel_rfl) rfl ?_
            refine m_skip 47 rfl (by kernel_rfl) rfl ?_
            refine m_skip 48 rfl (by kernel_rfl) rfl ?_
            refine m_skip 49 rfl (by kernel_rfl) rfl ?_
            refine m_skip 50 rfl (by kernel_rfl) rfl ?_
            refine m_y (v := .bool false) 51 rfl (by kernel_rfl) rfl rfl (fun w' e' => y_pick_f rfl rfl) ?_
            refine m_y (v := .bool false) 52 rfl (by kernel_rfl) rfl rfl (fun w' e' => y_pick_f rfl rfl) ?_
            refine m_y (v := .bool false) 53 rfl (by kernel_rfl) rfl rfl (fun w' e' => y_move rfl) ?_
            refine m_y (v := .pointer (some ⟨b63, 0, none⟩)) 54 rfl (by kernel_rfl) rfl rfl (fun w' e' => y_fld (o := 0) T6.fld_30_0_0 rfl) ?_
            refine m_y (v := .slice a40 c41 c42) 55 rfl (by kernel_rfl) rfl rfl (fun w' e' => y_load T6.one_24 rfl (((B0_188.b 8 rfl).ext0 e').cell (j := 0) rfl)) ?_
            refine m_y (v := .int .i64 ki) 56 rfl (by kernel_rfl) rfl rfl (fun w' e' => y_move rfl) ?_
            refine m_y (v := .pointer (some (sat a40 ((ki).toNat * 1)))) 57 rfl (by kernel_rfl) rfl rfl (fun w' e' => y_idx T6.sl_24_34_1 rfl rfl ((B.o 9 rfl).rd.addr (by omega)) (by omega) (by omega)) ?_
            obtain ⟨r266, hr267, hR265⟩ := Rd.atF (B0_188.o 9 rfl).rd ki (by omega) (by omega)
            refine m_y (v := .float .f32 r266) 58 rfl (by kernel_rfl) rfl rfl (fun w' e' => y_load T6.one_34 rfl ((hR265.ext0 e').cell (i := 0) rfl)) ?_
            refine m_y (v := .float .f32 (Op.negFloat .f32 r266)) 59 rfl (by kernel_rfl) rfl rfl (fun w' e' => y_fneg rfl) ?_
            refine m_y (v := .float .f32 r105) 60 rfl (by kernel_rfl) rfl rfl (fun w' e' => y_move rfl) ?_
            by_cases c268 : fgt .f32 (fneg .f32 (el Z43 ki)) (el Z43 (peakI Z43 Z43.length)) = true
            · refine m_y (v := .bool true) 61 rfl (by kernel_rfl) rfl rfl (fun w' e' => y_fgtr rfl rfl (fgtC (negC hr267) hr106 c268)) ?_
              refine m_y (v := .bool true) 62 rfl (by kernel_rfl) rfl rfl (fun w' e' => y_move rfl) ?_
              refine m_y (v := .pointer (some ⟨b63, 0, none⟩)) 63 rfl (by kernel_rfl) rfl rfl (fun w' e' => y_fld (o := 0) T6.fld_30_0_0 rfl) ?_
              refine m_y (v := .slice a40 c41 c42) 64 rfl (by kernel_rfl) rfl rfl (fun w' e' => y_load T6.one_24 rfl (((B0_188.b 8 rfl).ext0 e').cell (j := 0) rfl)) ?_
              refine m_y (v := .int .i64 ki) 65 rfl (by kernel_rfl) rfl rfl (fun w' e' => y_move rfl) ?_
              refine m_y (v := .pointer (some (sat a40 ((ki).toNat * 1)))) 66 rfl (by kernel_rfl) rfl rfl (fun w' e' => y_idx T6.sl_24_34_1 rfl rfl ((B.o 9 rfl).rd.addr (by omega)) (by omega) (by omega)) ?_
              obtain ⟨r270, hr271, hR269⟩ := Rd.atF (B0_188.o 9 rfl).rd ki (by omega) (by omega)
              refine m_y (v := .float .f32 r270) 67 rfl (by kernel_rfl) rfl rfl (fun w' e' => y_load T6.one_34 rfl ((hR269.ext0 e').cell (i := 0) rfl)) ?_
              refine m_y (v := .float .f32 (Op.negFloat .f32 r270)) 68 rfl (by kernel_rfl) rfl rfl (fun w' e' => y_fneg rfl) ?_
              refine m_y (v := .float .f32 r105) 69 rfl (by kernel_rfl) rfl rfl (fun w' e' => y_move rfl) ?_
              refine m_y (v := .float .f32 (Op.negFloat .f32 r105)) 70 rfl (by kernel_rfl) rfl rfl (fun w' e' => y_fneg rfl) ?_
              have hk272 : ¬ (fgt .f32 (fneg .f32 (el Z43 ki)) (fneg .f32 (el Z43 (peakI Z43 Z43.length))) = true) := (pk_no2 hp52 hp53 (by omega) (by omega) c268)
              refine m_y (v := .bool false) 71 rfl (by kernel_rfl) rfl rfl (fun w' e' => y_fgtr rfl rfl (fgtC (negC hr271) (negC hr106) (Bool.eq_false_iff.2 hk272))) ?_
              refine m_y (v := .bool false) 72 rfl (by kernel_rfl) rfl rfl (fun w' e' => y_pick_t rfl rfl) ?_
              refine m_y (v := .bool false) 73 rfl (by kernel_rfl) rfl rfl (fun w' e' => y_pick_f rfl rfl) ?_
              refine m_done (by kernel_rfl) (fun w273 e274 => ?_)
              replace B := B.ext0 e274
              clear e274
              clear B0_188 R189
              refine W_if_f (by decide) rfl ?_
              refine W_skip ?_
              refine W_region (by kernel_rfl) ?_
              refine s_y (v := .int .i64 ki) rfl (y_move rfl) ?_
              refine s_y (v := .int .i64 (ki + 1)) rfl (y_add rfl rfl rfl (by omega)) ?_
              refine s_y (v := .int .i64 (ki + 1)) rfl (y_assign rfl) ?_
              refine s_nil ?_
              refine ⟨⟨_, ki + 1, Fits.eq ⟨rfl, rfl, rfl, rfl, rfl, rfl, rfl, trivial⟩, B, (by omega), (by omega)⟩, ?_⟩
              show (((c41 : Nat) : Int) - (ki + 1)).toNat < (((c41 : Nat) : Int) - ki).toNat
              omega
            · refine m_y (v := .bool false) 61 rfl (by kernel_rfl) rfl rfl (fun w' e' => y_fgtr rfl rfl (fgtC (negC hr267) hr106 (Bool.eq_false_iff.2 c268))) ?_
              refine m_y (v := .bool false) 62 rfl (by kernel_rfl) rfl rfl (fun w' e' => y_move rfl) ?_
              refine m_skip 63 rfl (by kernel_rfl) rfl ?_
              refine m_skip 64 rfl (by kernel_rfl) rfl ?_
              refine m_skip 65 rfl (by kernel_rfl) rfl ?_
              refine m_skip 66 rfl (by kernel_rfl) rfl ?_
              refine m_skip 67 rfl (by kernel_rfl) rfl ?_
              refine m_skip 68 rfl (by kernel_rfl) rfl ?_
              refine m_skip 69 rfl (by kernel_rfl) rfl ?_
              refine m_skip 70 rfl (by kernel_rfl) rfl ?_
              refine m_skip 71 rfl (by kernel_rfl) rfl ?_
              refine m_y (v := .bool false) 72 rfl (by kernel_rfl) rfl rfl (fun w' e' => y_pick_f rfl rfl) ?_
              refine m_y (v := .bool false) 73 rfl (by kernel_rfl) rfl rfl (fun w' e' => y_pick_f rfl rfl) ?_
              refine m_done (by kernel_rfl) (fun w275 e276 => ?_)
              replace B := B.ext0 e276
              clear e276
              clear B0_188 R189
              refine W_if_f (by decide) rfl ?_
              refine W_skip ?_
              refine W_region (by kernel_rfl) ?_
              refine s_y (v := .int .i64 ki) rfl (y_move rfl) ?_
              refine s_y (v := .int .i64 (ki + 1)) rfl (y_add rfl rfl rfl (by omega)) ?_
              refine s_y (v := .int .i64 (ki + 1)) rfl (y_assign rfl) ?_
              refine s_nil ?_
              refine ⟨⟨_, ki + 1, Fits.eq ⟨rfl, rfl, rfl, rfl, rfl, rfl, rfl, trivial⟩, B, (by omega), (by omega)⟩, ?_⟩
              show (((c41 : Nat) : Int) - (ki + 1)).toNat < (((c41 : Nat) : Int) - ki).toNat
              omega
      · refine s_y (v := .bool false) rfl (y_lss rfl rfl (decide_eq_false c183)) ?_
        refine s_nil ?_
        refine W_if_f (by decide) rfl ?_
        refine W_exit ?_
        refine W_seq ?_
        refine W_region (by kernel_rfl) ?_
        refine s_y (v := .agg #[.int .i64 v8, .int .i64 v9, .bool vb10, .slice a11 c12 c13, .slice a15 c16 c17]) rfl (y_loadn (b := b33) (o := 0) (vs := [.int .i64 v8, .int .i64 v9, .bool vb10, .slice a11 c12 c13, .slice a15 c16 c17]) T6.agg_26_5 rfl rfl ((B.b 12 rfl).cells (o := 0) rfl)) ?_
        refine s_y (v := .agg #[.slice a40 c41 c42, .slice a44 c45 c46, .slice a48 c49 c50]) rfl (y_loadn (b := b63) (o := 0) (vs := [.slice a40 c41 c42, .slice a44 c45 c46, .slice a48 c49 c50]) T6.agg_30_3 rfl rfl ((B.b 8 rfl).cells (o := 0) rfl)) ?_
        cases vb10
        · refine s_k rfl (k_call T6.fn_16 (c_i_PutValue ((B.o 13 rfl).rd) ((B.o 14 rfl).rd) ((B.o 9 rfl).rd) ((B.o 10 rfl).rd) ((B.o 11 rfl).rd) (cnLit (k := .f32) (t := 1065353216) (by kernel_rfl) (by kernel_rfl)) (by first | exact lenle (by assumption) | exact lenle6 (by assumption) | exact le256 (by assumption) | exact le2566 (by assumption) | omega) (by first | exact lenle (by assumption) | exact lenle6 (by assumption) | exact le256 (by assumption) | exact le2566 (by assumption) | omega) (by first | exact lenle (by assumption) | exact lenle6 (by assumption) | exact le256 (by assumption) | exact le2566 (by assumption) | omega) (by first | exact lenle (by assumption) | exact lenle6 (by assumption) | exact le256 (by assumption) | exact le2566 (by assumption) | omega) (by first | exact lenle (by assumption) | exact lenle6 (by assumption) | exact le256 (by assumption) | exact le2566 (by assumption) | omega)) rfl ?_)
          rintro v279 w277 hx278
          have hk280 : ¬ (putB v8 v9 false Z14 Z18 Z43 Z47 Z51 0 0 1065353216 = true) := (put_corner rfl one_ne)
          obtain ⟨_, rfl, e281⟩ := hx278.resolve_left (fun hz => hk280 hz.1)
          clear hx278
          replace B := B.ext0 e281
          clear e281
          refine s_y (v := .tuple #[.agg #[.slice none 0 0, .slice none 0 0, .slice none 0 0], .bool false]) rfl (y_move rfl) ?_
          refine s_y (v := .agg #[.slice none 0 0, .slice none 0 0, .slice none 0 0]) rfl (y_extract rfl rfl) ?_
          refine s_y (v := .bool false) rfl (y_extract rfl rfl) ?_
          refine s_k rfl (k_allocN (z := (.agg #[.slice none 0 0, .slice none 0 0, .slice none 0 0])) (cs := [.slice none 0 0, .slice none 0 0, .slice none 0 0]) T6.zero_30 rfl (fun b282 w283 hN284 => ?_))
          replace B := B.new1 hN284
          clear hN284
          refine s_k0 rfl (k_stB (v := .agg #[.slice none 0 0, .slice none 0 0, .slice none 0 0]) (n := 3) (cs' := [.slice none 0 0, .slice none 0 0, .slice none 0 0]) T6.sz_30_3 rfl rfl rfl (B.b 0 rfl) (by simp [Value.cells, Value.oneCell']) (Nat.le_of_ble_eq_true rfl) rfl (fun w285 hU286 => ?_))
          replace B : Bu w no w285 [.blk b282 [.slice none 0 0, .slice none 0 0, .slice none 0 0] 30, .blk b125 [.slice a118 ((v8 * v9).toNat) c119, .slice a120 ((v8 * v9).toNat) c121, .slice a122 ((v8 * v9).toNat) c123] 30, .ow kF a118 ((v8 * v9).toNat) c119 34 (mulL (v8 * v9) Z43 1073741824), .ow kF a120 ((v8 * v9).toNat) c121 34 (mulL (v8 * v9) Z47 1073741824), .ow kF a122 ((v8 * v9).toNat) c123 34 (mulL (v8 * v9) Z51 1073741824), .blk b89 [.slice a82 c41 c83, .slice a84 c45 c85, .slice a86 c49 c87] 30, .ow kF a82 c41 c83 34 (put Z43 ((1 + u70) + v8 * (1 + u75)) 1069547520), .ow kF a84 c45 c85 34 Z47, .ow kF a86 c49 c87 34 Z51, .blk b63 [.slice a40 c41 c42, .slice a44 c45 c46, .slice a48 c49 c50] 30, .ow kF a40 c41 c42 34 Z43, .ow kF a44 c45 c46 34 Z47, .ow kF a48 c49 c50 34 Z51, .blk b33 [.int .i64 v8, .int .i64 v9, .bool false, .slice a11 c12 c13, .slice a15 c16 c17] 26, .ow kF a11 c12 c13 34 Z14, .ow kF a15 c16 c17 34 Z18, .rd kY a0 n0 X0, .rd kY a1 n1 X1] := B.upd [0] rfl hU286
          clear hU286
          refine s_y (v := .bool false) rfl (y_assign rfl) ?_
          refine s_nil ?_
          refine W_seq ?_
          refine W_region (by kernel_rfl) ?_
          refine s_y (v := .bool false) rfl (y_move rfl) ?_
          refine s_y (v := .pointer (some ⟨b33, 2, none⟩)) rfl (y_fld (o := 0) T6.fld_26_2_2 rfl) ?_
          refine s_y (v := .bool false) rfl (y_load T6.one_4 rfl ((B.b 13 rfl).cell (j := 2) rfl)) ?_
          refine s_y (v := .bool true) rfl (y_beql T6.bool_4 rfl rfl rfl) ?_
          refine s_y (v := .bool true) rfl (y_assign rfl) ?_
          refine s_nil ?_
          refine W_ret ?_
          refine ret1 (v := .bool true) rfl rfl rfl ⟨_, rfl, ?_⟩
          exact ⟨rfl, B.ext⟩
        · refine s_k rfl (k_call T6.fn_16 (c_i_PutValue ((B.o 13 rfl).rd) ((B.o 14 rfl).rd) ((B.o 9 rfl).rd) ((B.o 10 rfl).rd) ((B.o 11 rfl).rd) (cnLit (k := .f32) (t := 1065353216) (by kernel_rfl) (by kernel_rfl)) (by first | exact lenle (by assumption) | exact lenle6 (by assumption) | exact le256 (by assumption) | exact le2566 (by assumption) | omega) (by first | exact lenle (by assumption) | exact lenle6 (by assumption) | exact le256 (by assumption) | exact le2566 (by assumption) | omega) (by first | exact lenle (by assumption) | exact lenle6 (by assumption) | exact le256 (by assumption) | exact le2566 (by assumption) | omega) (by first | exact lenle (by assumption) | exact lenle6 (by assumption) | exact le256 (by assumption) | exact le2566 (by assumption) | omega) (by first | exact lenle (by assumption) | exact lenle6 (by assumption) | exact le256 (by assumption) | exact le2566 (by assumption) | omega)) rfl ?_)
          rintro v289 w287 hx288
          have hk290 : putB v8 v9 true Z14 Z18 Z43 Z47 Z51 0 0 1065353216 = true := (put_joined hp52)
          obtain ⟨a291, c292, a293, c294, a295, c296, rfl, hN297⟩ := (hx288.resolve_right (fun hz => by rw [hk290] at hz; cases hz.1)).2
          clear hx288
          replace B := B.new3 hN297
          clear hN297
          refine s_y (v := .tuple #[.agg #[.slice a291 c41 c292, .slice a293 c45 c294, .slice a295 c49 c296], .bool true]) rfl (y_move rfl) ?_
          refine s_y (v := .agg #[.slice a291 c41 c292, .slice a293 c45 c294, .slice a295 c49 c296]) rfl (y_extract rfl rfl) ?_
          refine s_y (v := .bool true) rfl (y_extract rfl rfl) ?_
          refine s_k rfl (k_allocN (z := (.agg #[.slice none 0 0, .slice none 0 0, .slice none 0 0])) (cs := [.slice none 0 0, .slice none 0 0, .slice none 0 0]) T6.zero_30 rfl (fun b298 w299 hN300 => ?_))
          replace B := B.new1 hN300
          clear hN300
          refine s_k0 rfl (k_stB (v := .agg #[.slice a291 c41 c292, .slice a293 c45 c294, .slice a295 c49 c296]) (n := 3) (cs' := [.slice a291 c41 c292, .slice a293 c45 c294, .slice a295 c49 c296]) T6.sz_30_3 rfl rfl rfl (B.b 0 rfl) (by simp [Value.cells, Value.oneCell']) (Nat.le_of_ble_eq_true rfl) rfl (fun w301 hU302 => ?_))
          replace B : Bu w no w301 [.blk b298 [.slice a291 c41 c292, .slice a293 c45 c294, .slice a295 c49 c296] 30, .ow kF a291 c41 c292 34 (put Z43 (0 + v8 * 0) 1065353216), .ow kF a293 c45 c294 34 Z47, .ow kF a295 c49 c296 34 Z51, .blk b125 [.slice a118 ((v8 * v9).toNat) c119, .slice a120 ((v8 * v9).toNat) c121, .slice a122 ((v8 * v9).toNat) c123] 30, .ow kF a118 ((v8 * v9).toNat) c119 34 (mulL (v8 * v9) Z43 1073741824), .ow kF a120 ((v8 * v9).toNat) c121 34 (mulL (v8 * v9) Z47 1073741824), .ow kF a122 ((v8 * v9).toNat) c123 34 (mulL (v8 * v9) Z51 1073741824), .blk b89 [.slice a82 c41 c83, .slice a84 c45 c85, .slice a86 c49 c87] 30, .ow kF a82 c41 c83 34 (put Z43 ((1 + u70) + v8 * (1 + u75)) 1069547520), .ow kF a84 c45 c85 34 Z47, .ow kF a86 c49 c87 34 Z51, .blk b63 [.slice a40 c41 c42, .slice a44 c45 c46, .slice a48 c49 c50] 30, .ow kF a40 c41 c42 34 Z43, .ow kF a44 c45 c46 34 Z47, .ow kF a48 c49 c50 34 Z51, .blk b33 [.int .i64 v8, .int .i64 v9, .bool true, .slice a11 c12 c13, .slice a15 c16 c17] 26, .ow kF a11 c12 c13 34 Z14, .ow kF a15 c16 c17 34 Z18, .rd kY a0 n0 X0, .rd kY a1 n1 X1] := B.upd [0] rfl hU302
          clear hU302
          refine s_y (v := .bool true) rfl (y_assign rfl) ?_
          refine s_nil ?_
          refine W_seq ?_
          refine W_region (by kernel_rfl) ?_
          refine s_y (v := .bool true) rfl (y_move rfl) ?_
          refine s_y (v := .pointer (some ⟨b33, 2, none⟩)) rfl (y_fld (o := 0) T6.fld_26_2_2 rfl) ?_
          refine s_y (v := .bool true) rfl (y_load T6.one_4 rfl ((B.b 16 rfl).cell (j := 2) rfl)) ?_
          refine s_y (v := .bool true) rfl (y_beql T6.bool_4 rfl rfl rfl) ?_
          refine s_y (v := .bool true) rfl (y_assign rfl) ?_
          refine s_nil ?_
          refine W_ret ?_
          refine ret1 (v := .bool true) rfl rfl rfl ⟨_, rfl, ?_⟩
          exact ⟨rfl, B.ext⟩
end Go.Proofs.Ytgohmocjjmkepaa
