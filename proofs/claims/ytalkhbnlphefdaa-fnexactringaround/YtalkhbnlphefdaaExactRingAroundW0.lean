/- Walks: what the functions under FnExactRingAround do (part 1). Printed by a program of this claim's author. -/
import Derived.Test.YtalkhbnlphefdaaBw1
set_option linter.unusedSimpArgs false
set_option linter.unusedVariables false
open Go.Wv
namespace Go.Proofs.Ytalkhbnlphefdaa
open Go.Proofs
namespace T22
theorem mx : Try.prog.follows .mixedOrders = true := by kernel_rfl
theorem fn_68 : fnB Try.prog 68 = true := by kernel_rfl
theorem fn_69 : fnB Try.prog 69 = true := by kernel_rfl
theorem fn_70 : fnB Try.prog 70 = true := by kernel_rfl
theorem sl_29_33_2 : slB Try.prog 29 33 2 = true := by kernel_rfl
theorem slt_29 : SlT Try.prog 29 33 2 16 (.agg #[.int .i64 0, .int .i64 0]) := ⟨by kernel_rfl, by kernel_rfl, rfl, by decide⟩
end T22
set_option maxRecDepth 100000 in
set_option maxHeartbeats 4000000 in
theorem c_s_RingAround {wd : Int} {hi : Int} {wr : Bool} {asp : Option Addr} {nsp : Nat} {csp : Nat} {Xsp : List Nat} {als : Option Addr} {nls : Nat} {cls : Nat} {Xls : List Nat} {x : Int} {y : Int} {far : Int} {w : World} (qsp : Rd w kF asp nsp Xsp) (qls : Rd w kF als nls Xls) (hbsp : nsp ≤ 9223372036854775806) (hbls : nls ≤ 9223372036854775806) :
    Calls Try.prog 22 #[.agg #[.int .i64 wd, .int .i64 hi, .bool wr, .slice asp nsp csp, .slice als nls cls], .int .i64 x, .int .i64 y, .int .i64 far] w (Rt fun v w' => (ringB wd hi Xsp Xls x y far = true ∧ ∃ (a1 : Option Addr) (c1 : Nat), v = .tuple #[.slice a1 (List.length (ringL wd hi x y far)) c1, .bool true] ∧ New w w' [.ow kP a1 (List.length (ringL wd hi x y far)) c1 33 (ringL wd hi x y far)]) ∨ (ringB wd hi Xsp Xls x y far = false ∧ v = .tuple #[.slice none 0 0, .bool false] ∧ Ext0 w w')) := by
  have hlsp := qsp.len
  have hlls := qls.len
  have B : Bu w no w [.rd kF asp nsp Xsp, .rd kF als nls Xls] := Bu.ro (All.cons qsp (All.cons qls All.nil)) rfl
  refine calls_W (n := 90) Try.func22 rfl rfl (Nat.le_of_ble_eq_true rfl) ?_
  refine W_seq ?_
  refine W_region (by kernel_rfl) ?_
  refine s_k rfl (k_boxN (v := .agg #[.int .i64 wd, .int .i64 hi, .bool wr, .slice asp nsp csp, .slice als nls cls]) (cs := [.int .i64 wd, .int .i64 hi, .bool wr, .slice asp nsp csp, .slice als nls cls]) rfl rfl (fun b1 w2 hN3 => ?_))
  replace B := B.new1 hN3
  clear hN3
  refine s_y (v := .slice none 0 0) rfl (y_assign rfl) ?_
  refine s_y (v := .bool false) rfl (y_assign rfl) ?_
  refine s_nil ?_
  refine W_seq ?_
  refine W_seq ?_
  refine W_region (by kernel_rfl) ?_
  refine s_k rfl (k_call T22.fn_68 (c_s_l02Is (B.r 1 rfl) (B.r 2 rfl) ((B.b 0 rfl).sl) (by omega) (by omega)) rfl ?_)
  rintro v6 w4 ⟨hv7, e5⟩
  replace B := B.ext0 e5
  clear e5
  by_cases c8 : validS wd hi Xsp Xls = true
  · have hb9 := validS_b c8
    obtain rfl : v6 = .bool true := hv7.trans (congrArg Value.bool c8)
    refine s_y (v := .bool false) rfl (y_not rfl rfl) ?_
    refine s_y (v := .bool false) rfl (y_move rfl) ?_
    refine s_y (v := .int .i64 x) rfl (y_move rfl) ?_
    refine s_y (v := .int .i64 y) rfl (y_move rfl) ?_
    refine s_k rfl (k_call T22.fn_69 (c_s_l02Cell ((B.b 0 rfl).sl) (by omega) (by omega) (by omega) (by omega)) rfl ?_)
    rintro v12 w10 ⟨hv13, e11⟩
    replace B := B.ext0 e11
    clear e11
    by_cases c14 : cellB wd hi x y = true
    · have hb15 := cellB_b c14
      obtain rfl : v12 = .bool true := hv13.trans (congrArg Value.bool c14)
      refine s_y (v := .bool false) rfl (y_not rfl rfl) ?_
      refine s_y (v := .bool false) rfl (y_pick_f rfl rfl) ?_
      refine s_y (v := .bool false) rfl (y_move rfl) ?_
      refine s_y (v := .int .i64 far) rfl (y_move rfl) ?_
      refine s_k rfl (k_call T22.fn_70 (c_s_l00In) rfl ?_)
      rintro v18 w16 ⟨hv19, e17⟩
      replace B := B.ext0 e17
      clear e17
      by_cases c20 : within far 1 16 = true
      · have hb21 := within_b c20
        obtain rfl : v18 = .bool true := hv19.trans (congrArg Value.bool c20)
        refine s_y (v := .bool false) rfl (y_not rfl rfl) ?_
        refine s_y (v := .bool false) rfl (y_pick_f rfl rfl) ?_
        refine s_nil ?_
        refine W_if_f (by decide) rfl ?_
        refine W_skip ?_
        refine W_seq ?_
        refine W_region (by kernel_rfl) ?_
        refine s_k rfl (k_bsliceO (k := kP) (n := 0) (cells := #[]) (X := []) T22.slt_29 (by decide) (by first | rfl | kernel_rfl) (rfl : Reps kP [] []) rfl (fun b22 w23 hN24 => ?_))
        replace B := B.new1 hN24
        clear hN24
        refine s_y (v := .slice (some ⟨b22, 0, none⟩) 0 0) rfl (y_assign rfl) ?_
        refine s_nil ?_
        refine W_seq ?_
        refine W_seq ?_
        refine W_region (by kernel_rfl) ?_
        refine s_y (v := .int .i64 y) rfl (y_move rfl) ?_
        refine s_y (v := .int .i64 far) rfl (y_move rfl) ?_
        refine s_y (v := .int .i64 (y - far)) rfl (y_sub rfl rfl rfl (by omega)) ?_
        refine s_y (v := .int .i64 (y - far)) rfl (y_assign rfl) ?_
        refine s_nil ?_
        refine W_block ?_
        refine W_loop (fun ρ' w' => ∃ (ρ1 : Env) (py : Int) (a0 : Option Addr) (cc0 : Nat) (nn0 : Nat), ρ' = updL ρ1 [(1, .int .i64 x), (2, .int .i64 y), (3, .int .i64 far), (4, .pointer (some ⟨b1, 0, none⟩)), (8, .slice none 0 0), (9, .bool false), (10, .slice a0 nn0 cc0), (11, .int .i64 (y - far + py))] ∧ Bu w no w' [.ow kP a0 nn0 cc0 33 (boxN (x - far) (y - far) (Int.toNat (2 * far + 1)) (ringQ wd hi x y far) (Int.toNat py)), .blk b1 [.int .i64 wd, .int .i64 hi, .bool wr, .slice asp nsp csp, .slice als nls cls] 26, .rd kF asp nsp Xsp, .rd kF als nls Xls] ∧ (0 ≤ py) ∧ (py ≤ (2 * far + 1))) (fun ρ' _ => (y + far + 1 - iv (ρ' 11)).toNat) ?_ ?_
        · replace B : Bu w no w23 [.ow kP (some ⟨b22, 0, none⟩) 0 0 33 (boxN (x - far) (y - far) (Int.toNat (2 * far + 1)) (ringQ wd hi x y far) (Int.toNat 0)), .blk b1 [.int .i64 wd, .int .i64 hi, .bool wr, .slice asp nsp csp, .slice als nls cls] 26, .rd kF asp nsp Xsp, .rd kF als nls Xls] := B.castX 0 rfl rfl rfl
          exact ⟨_, 0, (some ⟨b22, 0, none⟩), 0, 0, Fits.eq ⟨rfl, rfl, rfl, rfl, rfl, rfl, rfl, (by first | rfl | exact congrArg (Value.int .i64) (by omega)), trivial⟩, B, (Int.le_refl _), (by omega)⟩
        · clear B; rintro _ w25 ⟨ρ26, py, a0, cc0, nn0, rfl, B, h0py, h1py⟩
          have hnn0 := (B.o 0 rfl).len
          have hsnn0 : (boxN (x - far) (y - far) (Int.toNat (2 * far + 1)) (ringQ wd hi x y far) (Int.toNat py)).length ≤ 5000 := Nat.le_trans (boxN_len (by omega) _ (by omega)) (by omega)
          refine W_seq ?_
          refine W_seq ?_
          refine W_region (by kernel_rfl) ?_
          refine s_y (v := .int .i64 (y - far + py)) rfl (y_move rfl) ?_
          refine s_y (v := .int .i64 y) rfl (y_move rfl) ?_
          refine s_y (v := .int .i64 far) rfl (y_move rfl) ?_
          refine s_y (v := .int .i64 (y + far)) rfl (y_add rfl rfl rfl (by omega)) ?_
          by_cases c27 : (y - far + py) ≤ (y + far)
          · refine s_y (v := .bool true) rfl (y_leq rfl rfl (decide_eq_true c27)) ?_
            refine s_nil ?_
            refine W_if_t (by decide) rfl ?_
            refine W_skip ?_
            refine W_seq ?_
            refine W_block ?_
            refine W_seq ?_
            refine W_region (by kernel_rfl) ?_
            refine s_y (v := .int .i64 x) rfl (y_move rfl) ?_
            refine s_y (v := .int .i64 far) rfl (y_move rfl) ?_
            refine s_y (v := .int .i64 (x - far)) rfl (y_sub rfl rfl rfl (by omega)) ?_
            refine s_y (v := .int .i64 (x - far)) rfl (y_assign rfl) ?_
            refine s_nil ?_
            refine W_block ?_
            refine W_loop (fun ρ' w' => ∃ (ρ1 : Env) (px : Int) (a9 : Option Addr) (cc9 : Nat) (nn9 : Nat), ρ' = updL ρ1 [(1, .int .i64 x), (2, .int .i64 y), (3, .int .i64 far), (4, .pointer (some ⟨b1, 0, none⟩)), (8, .slice none 0 0), (9, .bool false), (10, .slice a9 nn9 cc9), (11, .int .i64 (y - far + py)), (12, .int .i64 (x - far + px)), (31, .int .i64 (y - far + py)), (32, .int .i64 y), (33, .int .i64 far), (34, .int .i64 (y + far)), (35, .bool true), (38, .int .i64 x), (39, .int .i64 far), (40, .int .i64 (x - far))] ∧ Bu w no w' [.ow kP a9 nn9 cc9 33 (inL (x - far) (y - far) (Int.toNat (2 * far + 1)) (ringQ wd hi x y far) (Int.toNat py) (y - far + py) px), .blk b1 [.int .i64 wd, .int .i64 hi, .bool wr, .slice asp nsp csp, .slice als nls cls] 26, .rd kF asp nsp Xsp, .rd kF als nls Xls] ∧ (0 ≤ px) ∧ (px ≤ (2 * far + 1))) (fun ρ' _ => (x + far + 1 - iv (ρ' 12)).toNat) ?_ ?_
            · replace B : Bu w no w25 [.ow kP a0 nn0 cc0 33 (inL (x - far) (y - far) (Int.toNat (2 * far + 1)) (ringQ wd hi x y far) (Int.toNat py) (y - far + py) 0), .blk b1 [.int .i64 wd, .int .i64 hi, .bool wr, .slice asp nsp csp, .slice als nls cls] 26, .rd kF asp nsp Xsp, .rd kF als nls Xls] := B.castX 0 rfl rfl inL_zero
              exact ⟨_, 0, a0, cc0, nn0, Fits.eq ⟨rfl, rfl, rfl, rfl, rfl, rfl, rfl, rfl, (by first | rfl | exact congrArg (Value.int .i64) (by omega)), rfl, rfl, rfl, rfl, rfl, rfl, rfl, rfl, trivial⟩, B, (Int.le_refl _), (by omega)⟩
            · clear B; rintro _ w28 ⟨ρ29, px, a9, cc9, nn9, rfl, B, h0px, h1px⟩
              have hnn9 := (B.o 0 rfl).len
              have hsnn9 : (inL (x - far) (y - far) (Int.toNat (2 * far + 1)) (ringQ wd hi x y far) (Int.toNat py) (y - far + py) px).length ≤ 5000 := inL_len (by omega) (by omega) (by omega)
              refine W_seq ?_
              refine W_seq ?_
              refine W_region (by kernel_rfl) ?_
              refine s_y (v := .int .i64 (x - far + px)) rfl (y_move rfl) ?_
              refine s_y (v := .int .i64 x) rfl (y_move rfl) ?_
              refine s_y (v := .int .i64 far) rfl (y_move rfl) ?_
              refine s_y (v := .int .i64 (x + far)) rfl (y_add rfl rfl rfl (by omega)) ?_
              by_cases c30 : (x - far + px) ≤ (x + far)
              · refine s_y (v := .bool true) rfl (y_leq rfl rfl (decide_eq_true c30)) ?_
                refine s_nil ?_
                refine W_if_t (by decide) rfl ?_
                refine W_skip ?_
                refine W_seq ?_
                refine W_block ?_
                refine W_seq ?_
                refine W_region (by kernel_rfl) ?_
                refine s_y (v := .int .i64 (y - far + py)) rfl (y_move rfl) ?_
                refine s_y (v := .int .i64 y) rfl (y_move rfl) ?_
                refine s_y (v := .int .i64 far) rfl (y_move rfl) ?_
                refine s_y (v := .int .i64 (y - far)) rfl (y_sub rfl rfl rfl (by omega)) ?_
                by_cases c31 : (y - far + py) = (y - far)
                · refine s_y (v := .bool true) rfl (y_eql rfl rfl (decide_eq_true c31)) ?_
                  refine s_y (v := .bool true) rfl (y_move rfl) ?_
                  refine s_skip rfl ?_
                  refine s_skip rfl ?_
                  refine s_skip rfl ?_
                  refine s_skip rfl ?_
                  refine s_skip rfl ?_
                  refine s_y (v := .bool true) rfl (y_pick_t rfl rfl) ?_
                  refine s_y (v := .bool true) rfl (y_move rfl) ?_
                  refine s_skip rfl ?_
                  refine s_skip rfl ?_
                  refine s_skip rfl ?_
                  refine s_skip rfl ?_
                  refine s_skip rfl ?_
                  refine s_y (v := .bool true) rfl (y_pick_t rfl rfl) ?_
                  refine s_y (v := .bool true) rfl (y_move rfl) ?_
                  refine s_skip rfl ?_
                  refine s_skip rfl ?_
                  refine s_skip rfl ?_
                  refine s_skip rfl ?_
                  refine s_skip rfl ?_
                  refine s_y (v := .bool true) rfl (y_pick_t rfl rfl) ?_
                  refine s_y (v := .bool true) rfl (y_assign rfl) ?_
                  refine s_nil ?_
                  refine W_seq ?_
                  refine W_region (by kernel_rfl) ?_
                  refine s_y (v := .bool true) rfl (y_move rfl) ?_
                  refine s_y (v := .bool true) rfl (y_move rfl) ?_
                  refine s_y (v := .int .i64 (x - far + px)) rfl (y_move rfl) ?_
                  refine s_y (v := .int .i64 (y - far + py)) rfl (y_move rfl) ?_
                  refine s_k rfl (k_call T22.fn_69 (c_s_l02Cell ((B.b 1 rfl).sl) (by omega) (by omega) (by omega) (by omega)) rfl ?_)
                  rintro v34 w32 ⟨hv35, e33⟩
                  replace B := B.ext0 e33
                  clear e33
                  by_cases c36 : cellB wd hi (x - far + px) (y - far + py) = true
                  · have hb37 := cellB_b c36
                    obtain rfl : v34 = .bool true := hv35.trans (congrArg Value.bool c36)
                    refine s_y (v := .bool true) rfl (y_pick_t rfl rfl) ?_
                    refine s_nil ?_
                    refine W_if_t (by decide) rfl ?_
                    refine W_region (by kernel_rfl) ?_
                    refine s_y (v := .slice a9 nn9 cc9) rfl (y_move rfl) ?_
                    refine s_y (v := .int .i64 (x - far + px)) rfl (y_move rfl) ?_
                    refine s_y (v := .int .i64 (y - far + py)) rfl (y_move rfl) ?_
                    refine s_y (v := .agg #[.int .i64 (x - far + px), .int .i64 (y - far + py)]) rfl (y_build (cells := #[.int .i64 (x - far + px), .int .i64 (y - far + py)]) (by kernel_rfl)) ?_
                    refine s_k rfl (k_bsliceO (k := kP) (n := 1) (cells := #[.int .i64 (x - far + px), .int .i64 (y - far + py)]) (X := [(x - far + px, y - far + py)]) T22.slt_29 (by decide) (by first | rfl | kernel_rfl) (reps_cons (c := [.int .i64 (x - far + px), .int .i64 (y - far + py)]) rfl (rfl : Reps kP [] [])) rfl (fun b38 w39 hN40 => ?_))
                    replace B := B.new1 hN40
                    clear hN40
                    refine s_k rfl (k_appO (k := kP) T22.slt_29 rfl rfl rfl (B.o 1 rfl) (B.o 0 rfl).rd (by omega) (by unfold maxLen; omega) (fun a41 c42 w43 hU44 => ?_))
                    replace B : Bu w no w43 [.ow kP a41 (nn9 + 1) c42 33 ((inL (x - far) (y - far) (Int.toNat (2 * far + 1)) (ringQ wd hi x y far) (Int.toNat py) (y - far + py) px) ++ ([(x - far + px, y - far + py)])), .ow kP (some ⟨b38, 0, none⟩) 1 1 33 ([(x - far + px, y - far + py)]), .blk b1 [.int .i64 wd, .int .i64 hi, .bool wr, .slice asp nsp csp, .slice als nls cls] 26, .rd kF asp nsp Xsp, .rd kF als nls Xls] := B.upd [1] rfl hU44
                    clear hU44
                    refine s_y (v := .slice a41 (nn9 + 1) c42) rfl (y_assign rfl) ?_
                    refine s_nil ?_
                    refine W_region (by kernel_rfl) ?_
                    refine s_y (v := .int .i64 (x - far + px)) rfl (y_move rfl) ?_
                    refine s_y (v := .int .i64 ((x - far + px) + 1)) rfl (y_add rfl rfl rfl (by omega)) ?_
                    refine s_y (v := .int .i64 ((x - far + px) + 1)) rfl (y_assign rfl) ?_
                    refine s_nil ?_
                    replace B : Bu w no w43 [.ow kP a41 (nn9 + 1) c42 33 (inL (x - far) (y - far) (Int.toNat (2 * far + 1)) (ringQ wd hi x y far) (Int.toNat py) (y - far + py) (px + 1)), .ow kP (some ⟨b38, 0, none⟩) 1 1 33 ([(x - far + px, y - far + py)]), .blk b1 [.int .i64 wd, .int .i64 hi, .bool wr, .slice asp nsp csp, .slice als nls cls] 26, .rd kF asp nsp Xsp, .rd kF als nls Xls] := B.castX 0 rfl rfl (inL_yes (u := x - far + px) (by omega) rfl (by simp only [ringQ, c8, c14, c20, (decide_eq_true c27), (decide_eq_true c30), (decide_eq_true c31), c36, Bool.and_true, Bool.true_and, Bool.and_false, Bool.false_and, Bool.not_true, Bool.not_false, Bool.or_true, Bool.true_or, Bool.or_false, Bool.false_or]))
                    refine ⟨⟨_, px + 1, a41, c42, nn9 + 1, Fits.eq ⟨rfl, rfl, rfl, rfl, rfl, rfl, rfl, rfl, (by first | rfl | exact congrArg (Value.int .i64) (by omega)), rfl, rfl, rfl, rfl, rfl, rfl, rfl, rfl, trivial⟩, (B.pick [0, 2, 3, 4] rfl rfl), (by omega), (by omega)⟩, ?_⟩
                    show (x + far + 1 - (x - far + px + 1)).toNat < (x + far + 1 - (x - far + px)).toNat
                    omega
                  · obtain rfl : v34 = .bool false := hv35.trans (congrArg Value.bool (Bool.eq_false_iff.2 c36))
                    refine s_y (v := .bool false) rfl (y_pick_t rfl rfl) ?_
                    refine s_nil ?_
                    refine W_if_f (by decide) rfl ?_
                    refine W_skip ?_
                    refine W_region (by kernel_rfl) ?_
                    refine s_y (v := .int .i64 (x - far + px)) rfl (y_move rfl) ?_
                    refine s_y (v := .int .i64 ((x - far + px) + 1)) rfl (y_add rfl rfl rfl (by omega)) ?_
                    refine s_y (v := .int .i64 ((x - far + px) + 1)) rfl (y_assign rfl) ?_
                    refine s_nil ?_
                    replace B : Bu w no w32 [.ow kP a9 nn9 cc9 33 (inL (x - far) (y - far) (Int.toNat (2 * far + 1)) (ringQ wd hi x y far) (Int.toNat py) (y - far + py) (px + 1)), .blk b1 [.int .i64 wd, .int .i64 hi, .bool wr, .slice asp nsp csp, .slice als nls cls] 26, .rd kF asp nsp Xsp, .rd kF als nls Xls] := B.castX 0 rfl rfl (inL_no (u := x - far + px) (by omega) rfl (by simp only [ringQ, c8, c14, c20, (decide_eq_true c27), (decide_eq_true c30), (decide_eq_true c31), (Bool.eq_false_iff.2 c36), Bool.and_true, Bool.true_and, Bool.and_false, Bool.false_and, Bool.not_true, Bool.not_false, Bool.or_true, Bool.true_or, Bool.or_false, Bool.false_or]))
                    refine ⟨⟨_, px + 1, a9, cc9, nn9, Fits.eq ⟨rfl, rfl, rfl, rfl, rfl, rfl, rfl, rfl, (by first | rfl | exact congrArg (Value.int .i64) (by omega)), rfl, rfl, rfl, rfl, rfl, rfl, rfl, rfl, trivial⟩, B, (by omega), (by omega)⟩, ?_⟩
                    show (x + far + 1 - (x - far + px + 1)).toNat < (x + far + 1 - (x - far + px)).toNat
                    omega
                · refine s_y (v := .bool false) rfl (y_eql rfl rfl (decide_eq_false c31)) ?_
                  refine s_y (v := .bool false) rfl (y_move rfl) ?_
                  refine s_y (v := .int .i64 (y - far + py)) rfl (y_move rfl) ?_
                  refine s_y (v := .int .i64 y) rfl (y_move rfl) ?_
                  refine s_y (v := .int .i64 far) rfl (y_move rfl) ?_
                  refine s_y (v := .int .i64 (y + far)) rfl (y_add rfl rfl rfl (by omega)) ?_
                  by_cases c45 : (y - far + py) = (y + far)
                  · refine s_y (v := .bool true) rfl (y_eql rfl rfl (decide_eq_true c45)) ?_
                    refine s_y (v := .bool true) rfl (y_pick_f rfl rfl) ?_
                    refine s_y (v := .bool true) rfl (y_move rfl) ?_
                    refine s_skip rfl ?_
                    refine s_skip rfl ?_
                    refine s_skip rfl ?_
                    refine s_skip rfl ?_
                    refine s_skip rfl ?_
                    refine s_y (v := .bool true) rfl (y_pick_t rfl rfl) ?_
                    refine s_y (v := .bool true) rfl (y_move rfl) ?_
                    refine s_skip rfl ?_
                    refine s_skip rfl ?_
                    refine s_skip rfl ?_
                    refine s_skip rfl ?_
                    refine s_skip rfl ?_
                    refine s_y (v := .bool true) rfl (y_pick_t rfl rfl) ?_
                    refine s_y (v := .bool true) rfl (y_assign rfl) ?_
                    refine s_nil ?_
                    refine W_seq ?_
                    refine W_region (by kernel_rfl) ?_
                    refine s_y (v := .bool true) rfl (y_move rfl) ?_
                    refine s_y (v := .bool true) rfl (y_move rfl) ?_
                    refine s_y (v := .int .i64 (x - far + px)) rfl (y_move rfl) ?_
                    refine s_y (v := .int .i64 (y - far + py)) rfl (y_move rfl) ?_
                    refine s_k rfl (k_call T22.fn_69 (c_s_l02Cell ((B.b 1 rfl).sl) (by omega) (by omega) (by omega) (by omega)) rfl ?_)
                    rintro v48 w46 ⟨hv49, e47⟩
                    replace B := B.ext0 e47
                    clear e47
                    by_cases c50 : cellB wd hi (x - far + px) (y - far + py) = true
                    · have hb51 := cellB_b c50
                      obtain rfl : v48 = .bool true := hv49.trans (congrArg Value.bool c50)
                      refine s_y (v := .bool true) rfl (y_pick_t rfl rfl) ?_
                      refine s_nil ?_
                      refine W_if_t (by decide) rfl ?_
                      refine W_region (by kernel_rfl) ?_
                      refine s_y (v := .slice a9 nn9 cc9) rfl (y_move rfl) ?_
                      refine s_y (v := .int .i64 (x - far + px)) rfl (y_move rfl) ?_
                      refine s_y (v := .int .i64 (y - far + py)) rfl (y_move rfl) ?_
                      refine s_y (v := .agg #[.int .i64 (x - far + px), .int .i64 (y - far + py)]) rfl (y_build (cells := #[.int .i64 (x - far + px), .int .i64 (y - far + py)]) (by kernel_rfl)) ?_
                      refine s_k rfl (k_bsliceO (k := kP) (n := 1) (cells := #[.int .i64 (x - far + px), .int .i64 (y - far + py)]) (X := [(x - far + px, y - far + py)]) T22.slt_29 (by decide) (by first | rfl | kernel_rfl) (reps_cons (c := [.int .i64 (x - far + px), .int .i64 (y - far + py)]) rfl (rfl : Reps kP [] [])) rfl (fun b52 w53 hN54 => ?_))
                      replace B := B.new1 hN54
                      clear hN54
                      refine s_k rfl (k_appO (k := kP) T22.slt_29 rfl rfl rfl (B.o 1 rfl) (B.o 0 rfl).rd (by omega) (by unfold maxLen; omega) (fun a55 c56 w57 hU58 => ?_))
                      replace B : Bu w no w57 [.ow kP a55 (nn9 + 1) c56 33 ((inL (x - far) (y - far) (Int.toNat (2 * far + 1)) (ringQ wd hi x y far) (Int.toNat py) (y - far + py) px) ++ ([(x - far + px, y - far + py)])), .ow kP (some ⟨b52, 0, none⟩) 1 1 33 ([(x - far + px, y - far + py)]), .blk b1 [.int .i64 wd, .int .i64 hi, .bool wr, .slice asp nsp csp, .slice als nls cls] 26, .rd kF asp nsp Xsp, .rd kF als nls Xls] := B.upd [1] rfl hU58
                      clear hU58
                      refine s_y (v := .slice a55 (nn9 + 1) c56) rfl (y_assign rfl) ?_
                      refine s_nil ?_
                      refine W_region (by kernel_rfl) ?_
                      refine s_y (v := .int .i64 (x - far + px)) rfl (y_move rfl) ?_
                      refine s_y (v := .int .i64 ((x - far + px) + 1)) rfl (y_add rfl rfl rfl (by omega)) ?_
                      refine s_y (v := .int .i64 ((x - far + px) + 1)) rfl (y_assign rfl) ?_
                      refine s_nil ?_
                      replace B : Bu w no w57 [.ow kP a55 (nn9 + 1) c56 33 (inL (x - far) (y - far) (Int.toNat (2 * far + 1)) (ringQ wd hi x y far) (Int.toNat py) (y - far + py) (px + 1)), .ow kP (some ⟨b52, 0, none⟩) 1 1 33 ([(x - far + px, y - far + py)]), .blk b1 [.int .i64 wd, .int .i64 hi, .bool wr, .slice asp nsp csp, .slice als nls cls] 26, .rd kF asp nsp Xsp, .rd kF als nls Xls] := B.castX 0 rfl rfl (inL_yes (u := x - far + px) (by omega) rfl (by simp only [ringQ, c8, c14, c20, (decide_eq_true c27), (decide_eq_true c30), (decide_eq_false c31), (decide_eq_true c45), c50, Bool.and_true, Bool.true_and, Bool.and_false, Bool.false_and, Bool.not_true, Bool.not_false, Bool.or_true, Bool.true_or, Bool.or_false, Bool.false_or]))
                      refine ⟨⟨_, px + 1, a55, c56, nn9 + 1, Fits.eq ⟨rfl, rfl, rfl, rfl, rfl, rfl, rfl, rfl, (by first | rfl | exact congrArg (Value.int .i64) (by omega)), rfl, rfl, rfl, rfl, rfl, rfl, rfl, rfl, trivial⟩, (B.pick [0, 2, 3, 4] rfl rfl), (by omega), (by omega)⟩, ?_⟩
                      show (x + far + 1 - (x - far + px + 1)).toNat < (x + far + 1 - (x - far + px)).toNat
                      omega
                    · obtain rfl : v48 = .bool false := hv49.trans (congrArg Value.bool (Bool.eq_false_iff.2 c50))
                      refine s_y (v := .bool false) rfl (y_pick_t rfl rfl) ?_
                      refine s_nil ?_
                      refine W_if_f (by decide) rfl ?_
                      refine W_skip ?_
                      refine W_region (by kernel_rfl) ?_
                      refine s_y (v := .int .i64 (x - far + px)) rfl (y_move rfl) ?_
                      refine s_y (v := .int .i64 ((x - far + px) + 1)) rfl (y_add rfl rfl rfl (by omega)) ?_
                      refine s_y (v := .int .i64 ((x - far + px) + 1)) rfl (y_assign rfl) ?_
                      refine s_nil ?_
                      replace B : Bu w no w46 [.ow kP a9 nn9 cc9 33 (inL (x - far) (y - far) (Int.toNat (2 * far + 1)) (ringQ wd hi x y far) (Int.toNat py) (y - far + py) (px + 1)), .blk b1 [.int .i64 wd, .int .i64 hi, .bool wr, .slice asp nsp csp, .slice als nls cls] 26, .rd kF asp nsp Xsp, .rd kF als nls Xls] := B.castX 0 rfl rfl (inL_no (u := x - far + px) (by omega) rfl (by simp only [ringQ, c8, c14, c20, (decide_eq_true c27), (decide_eq_true c30), (decide_eq_false c31), (decide_eq_true c45), (Bool.eq_false_iff.2 c50), Bool.and_true, Bool.true_and, Bool.and_false, Bool.false_and, Bool.not_true, Bool.not_false, Bool.or_true, Bool.true_or, Bool.or_false, Bool.false_or]))
                      refine ⟨⟨_, px + 1, a9, cc9, nn9, Fits.eq ⟨rfl, rfl, rfl, rfl, rfl, rfl, rfl, rfl, (by first | rfl | exact congrArg (Value.int .i64) (by omega)), rfl, rfl, rfl, rfl, rfl, rfl, rfl, rfl, trivial⟩, B, (by omega), (by omega)⟩, ?_⟩
                      show (x + far + 1 - (x - far + px + 1)).toNat < (x + far + 1 - (x - far + px)).toNat
                      omega
                  · refine s_y (v := .bool false) rfl (y_eql rfl rfl (decide_eq_false c45)) ?_
                    refine s_y (v := .bool false) rfl (y_pick_f rfl rfl) ?_
                    refine s_y (v := .bool false) rfl (y_move rfl) ?_
                    refine s_y (v := .int .i64 (x - far + px)) rfl (y_move rfl) ?_
                    refine s_y (v := .int .i64 x) rfl (y_move rfl) ?_
                    refine s_y (v := .int .i64 far) rfl (y_move rfl) ?_
                    refine s_y (v := .int .i64 (x - far)) rfl (y_sub rfl rfl rfl (by omega)) ?_
                    by_cases c59 : (x - far + px) = (x - far)
                    · refine s_y (v := .bool true) rfl (y_eql rfl rfl (decide_eq_true c59)) ?_
                      refine s_y (v := .bool true) rfl (y_pick_f rfl rfl) ?_
                      refine s_y (v := .bool true) rfl (y_move rfl) ?_
                      refine s_skip rfl ?_
                      refine s_skip rfl ?_
                      refine s_skip rfl ?_
                      refine s_skip rfl ?_
                      refine s_skip rfl ?_
                      refine s_y (v := .bool true) rfl (y_pick_t rfl rfl) ?_
                      refine s_y (v := .bool true) rfl (y_assign rfl) ?_
                      refine s_nil ?_
                      refine W_seq ?_
                      refine W_region (by kernel_rfl) ?_
                      refine s_y (v := .bool true) rfl (y_move rfl) ?_
                      refine s_y (v := .bool true) rfl (y_move rfl) ?_
                      refine s_y (v := .int .i64 (x - far + px)) rfl (y_move rfl) ?_
                      refine s_y (v := .int .i64 (y - far + py)) rfl (y_move rfl) ?_
                      refine s_k rfl (k_call T22.fn_69 (c_s_l02Cell ((B.b 1 rfl).sl) (by omega) (by omega) (by omega) (by omega)) rfl ?_)
                      rintro v62 w60 ⟨hv63, e61⟩
                      replace B := B.ext0 e61
                      clear e61
                      by_cases c64 : cellB wd hi (x - far + px) (y - far + py) = true
                      · have hb65 := cellB_b c64
                        obtain rfl : v62 = .bool true := hv63.trans (congrArg Value.bool c64)
                        refine s_y (v := .bool true) rfl (y_pick_t rfl rfl) ?_
                        refine s_nil ?_
                        refine W_if_t (by decide) rfl ?_
                        refine W_region (by kernel_rfl) ?_
                        refine s_y (v := .slice a9 nn9 cc9) rfl (y_move rfl) ?_
                        refine s_y (v := .int .i64 (x - far + px)) rfl (y_move rfl) ?_
                        refine s_y (v := .int .i64 (y - far + py)) rfl (y_move rfl) ?_
                        refine s_y (v := .agg #[.int .i64 (x - far + px), .int .i64 (y - far + py)]) rfl (y_build (cells := #[.int .i64 (x - far + px), .int .i64 (y - far + py)]) (by kernel_rfl)) ?_
                        refine s_k rfl (k_bsliceO (k := kP) (n := 1) (cells := #[.int .i64 (x - far + px), .int .i64 (y - far + py)]) (X := [(x - far + px, y - far + py)]) T22.slt_29 (by decide) (by first | rfl | kernel_rfl) (reps_cons (c := [.int .i64 (x - far + px), .int .i64 (y - far + py)]) rfl (rfl : Reps kP [] [])) rfl (fun b66 w67 hN68 => ?_))
                        replace B := B.new1 hN68
                        clear hN68
                        refine s_k rfl (k_appO (k := kP) T22.slt_29 rfl rfl rfl (B.o 1 rfl) (B.o 0 rfl).rd (by omega) (by unfold maxLen; omega) (fun a69 c70 w71 hU72 => ?_))
                        replace B : Bu w no w71 [.ow kP a69 (nn9 + 1) c70 33 ((inL (x - far) (y - far) (Int.toNat (2 * far + 1)) (ringQ wd hi x y far) (Int.toNat py) (y - far + py) px) ++ ([(x - far + px, y - far + py)])), .ow kP (some ⟨b66, 0, none⟩) 1 1 33 ([(x - far + px, y - far + py)]), .blk b1 [.int .i64 wd, .int .i64 hi, .bool wr, .slice asp nsp csp, .slice als nls cls] 26, .rd kF asp nsp Xsp, .rd kF als nls Xls] := B.upd [1] rfl hU72
                        clear hU72
                        refine s_y (v := .slice a69 (nn9 + 1) c70) rfl (y_assign rfl) ?_
                        refine s_nil ?_
                        refine W_region (by kernel_rfl) ?_
                        refine s_y (v := .int .i64 (x - far + px)) rfl (y_move rfl) ?_
                        refine s_y (v := .int .i64 ((x - far + px) + 1)) rfl (y_add rfl rfl rfl (by omega)) ?_
                        refine s_y (v := .int .i64 ((x - far + px) + 1)) rfl (y_assign rfl) ?_
                        refine s_nil ?_
                        replace B : Bu w no w71 [.ow kP a69 (nn9 + 1) c70 33 (inL (x - far) (y - far) (Int.toNat (2 * far + 1)) (ringQ wd hi x y far) (Int.toNat py) (y - far + py) (px + 1)), .ow kP (some ⟨b66, 0, none⟩) 1 1 33 ([(x - far + px, y - far + py)]), .blk b1 [.int .i64 wd, .int .i64 hi, .bool wr, .slice asp nsp csp, .slice als nls cls] 26, .rd kF asp nsp Xsp, .rd kF als nls Xls] := B.castX 0 rfl rfl (inL_yes (u := x - far + px) (by omega) rfl (by simp only [ringQ, c8, c14, c20, (decide_eq_true c27), (decide_eq_true c30), (decide_eq_false c31), (decide_eq_false c45), (decide_eq_true c59), c64, Bool.and_true, Bool.true_and, Bool.and_false, Bool.false_and, Bool.not_true, Bool.not_false, Bool.or_true, Bool.true_or, Bool.or_false, Bool.false_or]))
                        refine ⟨⟨_, px + 1, a69, c70, nn9 + 1, Fits.eq ⟨rfl, rfl, rfl, rfl, rfl, rfl, rfl, rfl, (by first | rfl | exact congrArg (Value.int .i64) (by omega)), rfl, rfl, rfl, rfl, rfl, rfl, rfl, rfl, trivial⟩, (B.pick [0, 2, 3, 4] rfl rfl), (by omega), (by omega)⟩, ?_⟩
                        show (x + far + 1 - (x - far + px + 1)).toNat < (x + far + 1 - (x - far + px)).toNat
                        omega
                      · obtain rfl : v62 = .bool false := hv63.trans (congrArg Value.bool (Bool.eq_false_iff.2 c64))
                        refine s_y (v := .bool false) rfl (y_pick_t rfl rfl) ?_
                        refine s_nil ?_
                        refine W_if_f (by decide) rfl ?_
                        refine W_skip ?_
                        refine W_region (by kernel_rfl) ?_
                        refine s_y (v := .int .i64 (x - far + px)) rfl (y_move rfl) ?_
                        refine s_y (v := .int .i64 ((x - far + px) + 1)) rfl (y_add rfl rfl rfl (by omega)) ?_
                        refine s_y (v := .int .i64 ((x - far + px) + 1)) rfl (y_assign rfl) ?_
                        refine s_nil ?_
                        replace B : Bu w no w60 [.ow kP a9 nn9 cc9 33 (inL (x - far) (y - far) (Int.toNat (2 * far + 1)) (ringQ wd hi x y far) (Int.toNat py) (y - far + py) (px + 1)), .blk b1 [.int .i64 wd, .int .i64 hi, .bool wr, .slice asp nsp csp, .slice als nls cls] 26, .rd kF asp nsp Xsp, .rd kF als nls Xls] := B.castX 0 rfl rfl (inL_no (u := x - far + px) (by omega) rfl (by simp only [ringQ, c8, c14, c20, (decide_eq_true c27), (decide_eq_true c30), (decide_eq_false c31), (decide_eq_false c45), (decide_eq_true c59), (Bool.eq_false_iff.2 c64), Bool.and_true, Bool.true_and, Bool.and_false, Bool.false_and, Bool.not_true, Bool.not_false, Bool.or_true, Bool.true_or, Bool.or_false, Bool.false_or]))
                        refine ⟨⟨_, px + 1, a9, cc9, nn9, Fits.eq ⟨rfl, rfl, rfl, rfl, rfl, rfl, rfl, rfl, (by first | rfl | exact congrArg (Value.int .i64) (by omega)), rfl, rfl, rfl, rfl, rfl, rfl, rfl, rfl, trivial⟩, B, (by omega), (by omega)⟩, ?_⟩
                        show (x + far + 1 - (x - far + px + 1)).toNat < (x + far + 1 - (x - far + px)).toNat
                        omega
                    · refine s_y (v := .bool false) rfl (y_eql rfl rfl (decide_eq_false c59)) ?_
                      refine s_y (v := .bool false) rfl (y_pick_f rfl rfl) ?_
                      refine s_y (v := .bool false) rfl (y_move rfl) ?_
                      refine s_y (v := .int .i64 (x - far + px)) rfl (y_move rfl) ?_
                      refine s_y (v := .int .i64 x) rfl (y_move rfl) ?_
                      refine s_y (v := .int .i64 far) rfl (y_move rfl) ?_
                      refine s_y (v := .int .i64 (x + far)) rfl (y_add rfl rfl rfl (by omega)) ?_
                      by_cases c73 : (x - far + px) = (x + far)
                      · refine s_y (v := .bool true) rfl (y_eql rfl rfl (decide_eq_true c73)) ?_
                        refine s_y (v := .bool true) rfl (y_pick_f rfl rfl) ?_
                        refine s_y (v := .bool true) rfl (y_assign rfl) ?_
                        refine s_nil ?_
                        refine W_seq ?_
                        refine W_region (by kernel_rfl) ?_
                        refine s_y (v := .bool true) rfl (y_move rfl) ?_
                        refine s_y (v := .bool true) rfl (y_move rfl) ?_
                        refine s_y (v := .int .i64 (x - far + px)) rfl (y_move rfl) ?_
                        refine s_y (v := .int .i64 (y - far + py)) rfl (y_move rfl) ?_
                        refine s_k rfl (k_call T22.fn_69 (c_s_l02Cell ((B.b 1 rfl).sl) (by omega) (by omega) (by omega) (by omega)) rfl ?_)
                        rintro v76 w74 ⟨hv77, e75⟩
                        replace B := B.ext0 e75
                        clear e75
                        by_cases c78 : cellB wd hi (x - far + px) (y - far + py) = true
                        · have hb79 := cellB_b c78
                          obtain rfl : v76 = .bool true := hv77.trans (congrArg Value.bool c78)
                          refine s_y (v := .bool true) rfl (y_pick_t rfl rfl) ?_
                          refine s_nil ?_
                          refine W_if_t (by decide) rfl ?_
                          refine W_region (by kernel_rfl) ?_
                          refine s_y (v := .slice a9 nn9 cc9) rfl (y_move rfl) ?_
                          refine s_y (v := .int .i64 (x - far + px)) rfl (y_move rfl) ?_
                          refine s_y (v := .int .i64 (y - far + py)) rfl (y_move rfl) ?_
                          refine s_y (v := .agg #[.int .i64 (x - far + px), .int .i64 (y - far + py)]) rfl (y_build (cells := #[.int .i64 (x - far + px), .int .i64 (y - far + py)]) (by kernel_rfl)) ?_
                          refine s_k rfl (k_bsliceO (k := kP) (n := 1) (cells := #[.int .i64 (x - far + px), .int .i64 (y - far + py)]) (X := [(x - far + px, y - far + py)]) T22.slt_29 (by decide) (by first | rfl | kernel_rfl) (reps_cons (c := [.int .i64 (x - far + px), .int .i64 (y - far + py)]) rfl (rfl : Reps kP [] [])) rfl (fun b80 w81 hN82 => ?_))
                          replace B := B.new1 hN82
                          clear hN82
                          refine s_k rfl (k_appO (k := kP) T22.slt_29 rfl rfl rfl (B.o 1 rfl) (B.o 0 rfl).rd (by omega) (by unfold maxLen; omega) (fun a83 c84 w85 hU86 => ?_))
                          replace B : Bu w no w85 [.ow kP a83 (nn9 + 1) c84 33 ((inL (x - far) (y - far) (Int.toNat (2 * far + 1)) (ringQ wd hi x y far) (Int.toNat py) (y - far + py) px) ++ ([(x - far + px, y - far + py)])), .ow kP (some ⟨b80, 0, none⟩) 1 1 33 ([(x - far + px, y - far + py)]), .blk b1 [.int .i64 wd, .int .i64 hi, .bool wr, .slice asp nsp csp, .slice als nls cls] 26, .rd kF asp nsp Xsp, .rd kF als nls Xls] := B.upd [1] rfl hU86
                          clear hU86
                          refine s_y (v := .slice a83 (nn9 + 1) c84) rfl (y_assign rfl) ?_
                          refine s_nil ?_
                          refine W_region (by kernel_rfl) ?_
                          refine s_y (v := .int .i64 (x - far + px)) rfl (y_move rfl) ?_
                          refine s_y (v := .int .i64 ((x - far + px) + 1)) rfl (y_add rfl rfl rfl (by omega)) ?_
                          refine s_y (v := .int .i64 ((x - far + px) + 1)) rfl (y_assign rfl) ?_
                          refine s_nil ?_
                          replace B : Bu w no w85 [.ow kP a83 (nn9 + 1) c84 33 (inL (x - far) (y - far) (Int.toNat (2 * far + 1)) (ringQ wd hi x y far) (Int.toNat py) (y - far + py) (px + 1)), .ow kP (some ⟨b80, 0, none⟩) 1 1 33 ([(x - far + px, y - far + py)]), .blk b1 [.int .i64 wd, .int .i64 hi, .bool wr, .slice asp nsp csp, .slice als nls cls] 26, .rd kF asp nsp Xsp, .rd kF als nls Xls] := B.castX 0 rfl rfl (inL_yes (u := x - far + px) (by omega) rfl (by simp only [ringQ, c8, c14, c20, (decide_eq_true c27), (decide_eq_true c30), (decide_eq_false c31), (decide_eq_false c45), (decide_eq_false c59), (decide_eq_true c73), c78, Bool.and_true, Bool.true_and, Bool.and_false, Bool.false_and, Bool.not_true, Bool.not_false, Bool.or_true, Bool.true_or, Bool.or_false, Bool.false_or]))
                          refine ⟨⟨_, px + 1, a83, c84, nn9 + 1, Fits.eq ⟨rfl, rfl, rfl, rfl, rfl, rfl, rfl, rfl, (by first | rfl | exact congrArg (Value.int .i64) (by omega)), rfl, rfl, rfl, rfl, rfl, rfl, rfl, rfl, trivial⟩, (B.pick [0, 2, 3, 4] rfl rfl), (by omega), (by omega)⟩, ?_⟩
                          show (x + far + 1 - (x - far + px + 1)).toNat < (x + far + 1 - (x - far + px)).toNat
                          omega
                        · obtain rfl : v76 = .bool false := hv77.trans (congrArg Value.bool (Bool.eq_false_iff.2 c78))
                          refine s_y (v := .bool false) rfl (y_pick_t rfl rfl) ?_
                          refine s_nil ?_
                          refine W_if_f (by decide) rfl ?_
                          refine W_skip ?_
                          refine W_region (by kernel_rfl) ?_
                          refine s_y (v := .int .i64 (x - far + px)) rfl (y_move rfl) ?_
                          refine s_y (v := .int .i64 ((x - far + px) + 1)) rfl (y_add rfl rfl rfl (by omega)) ?_
                          refine s_y (v := .int .i64 ((x - far + px) + 1)) rfl (y_assign rfl) ?_
                          refine s_nil ?_
                          replace B : Bu w no w74 [.ow kP a9 nn9 cc9 33 (inL (x - far) (y - far) (Int.toNat (2 * far + 1)) (ringQ wd hi x y far) (Int.toNat py) (y - far + py) (px + 1)), .blk b1 [.int .i64 wd, .int .i64 hi, .bool wr, .slice asp nsp csp, .slice als nls cls] 26, .rd kF asp nsp Xsp, .rd kF als nls Xls] := B.castX 0 rfl rfl (inL_no (u := x - far + px) (by omega) rfl (by simp only [ringQ, c8, c14, c20, (decide_eq_true c27), (decide_eq_true c30), (decide_eq_false c31), (decide_eq_false c45), (decide_eq_false c59), (decide_eq_true c73), (Bool.eq_false_iff.2 c78), Bool.and_true, Bool.true_and, Bool.and_false, Bool.false_and, Bool.not_true, Bool.not_false, Bool.or_true, Bool.true_or, Bool.or_false, Bool.false_or]))
                          refine ⟨⟨_, px + 1, a9, cc9, nn9, Fits.eq ⟨rfl, rfl, rfl, rfl, rfl, rfl, rfl, rfl, (by first | rfl | exact congrArg (Value.int .i64) (by omega)), rfl, rfl, rfl, rfl, rfl, rfl, rfl, rfl, trivial⟩, B, (by omega), (by omega)⟩, ?_⟩
                          show (x + far + 1 - (x - far + px + 1)).toNat < (x + far + 1 - (x - far + px)).toNat
                          omega
                      · refine s_y (v := .bool false) rfl (y_eql rfl rfl (decide_eq_false c73)) ?_
                        refine s_y (v := .bool false) rfl (y_pick_f rfl rfl) ?_
                        refine s_y (v := .bool false) rfl (y_assign rfl) ?_
                        refine s_nil ?_
                        refine W_seq ?_
                        refine W_region (by kernel_rfl) ?_
                        refine s_y (v := .bool false) rfl (y_move rfl) ?_
                        refine s_y (v := .bool false) rfl (y_move rfl) ?_
                        refine s_skip rfl ?_
                        refine s_skip rfl ?_
                        refine s_skip rfl ?_
                        refine s_y (v := .bool false) rfl (y_pick_f rfl rfl) ?_
                        refine s_nil ?_
                        refine W_if_f (by decide) rfl ?_
                        refine W_skip ?_
                        refine W_region (by kernel_rfl) ?_
                        refine s_y (v := .int .i64 (x - far + px)) rfl (y_move rfl) ?_
                        refine s_y (v := .int .i64 ((x - far + px) + 1)) rfl (y_add rfl rfl rfl (by omega)) ?_
                        refine s_y (v := .int .i64 ((x - far + px) + 1)) rfl (y_assign rfl) ?_
                        refine s_nil ?_
                        replace B : Bu w no w28 [.ow kP a9 nn9 cc9 33 (inL (x - far) (y - far) (Int.toNat (2 * far + 1)) (ringQ wd hi x y far) (Int.toNat py) (y - far + py) (px + 1)), .blk b1 [.int .i64 wd, .int .i64 hi, .bool wr, .slice asp nsp csp, .slice als nls cls] 26, .rd kF asp nsp Xsp, .rd kF als nls Xls] := B.castX 0 rfl rfl (inL_no (u := x - far + px) (by omega) rfl (by simp only [ringQ, c8, c14, c20, (decide_eq_true c27), (decide_eq_true c30), (decide_eq_false c31), (decide_eq_false c45), (decide_eq_false c59), (decide_eq_false c73), Bool.and_true, Bool.true_and, Bool.and_false, Bool.false_and, Bool.not_true, Bool.not_false, Bool.or_true, Bool.true_or, Bool.or_false, Bool.false_or]))
                        refine ⟨⟨_, px + 1, a9, cc9, nn9, Fits.eq ⟨rfl, rfl, rfl, rfl, rfl, rfl, rfl, rfl, (by first | rfl | exact congrArg (Value.int .i64) (by omega)), rfl, rfl, rfl, rfl, rfl, rfl, rfl, rfl, trivial⟩, B, (by omega), (by omega)⟩, ?_⟩
                        show (x + far + 1 - (x - far + px + 1)).toNat < (x + far + 1 - (x - far + px)).toNat
                        omega
              · refine s_y (v := .bool false) rfl (y_leq rfl rfl (decide_eq_false c30)) ?_
                refine s_nil ?_
                refine W_if_f (by decide) rfl ?_
                refine W_exit ?_
                refine W_region (by kernel_rfl) ?_
                refine s_y (v := .int .i64 (y - far + py)) rfl (y_move rfl) ?_
                refine s_y (v := .int .i64 ((y - far + py) + 1)) rfl (y_add rfl rfl rfl (by omega)) ?_
                refine s_y (v := .int .i64 ((y - far + py) + 1)) rfl (y_assign rfl) ?_
                refine s_nil ?_
                replace B : Bu w no w28 [.ow kP a9 nn9 cc9 33 (boxN (x - far) (y - far) (Int.toNat (2 * far + 1)) (ringQ wd hi x y far) (Int.toNat (py + 1))), .blk b1 [.int .i64 wd, .int .i64 hi, .bool wr, .slice asp nsp csp, .slice als nls cls] 26, .rd kF asp nsp Xsp, .rd kF als nls Xls] := B.castX 0 rfl rfl (inL_row (by omega) (by omega) (by omega))
                refine ⟨⟨_, py + 1, a9, cc9, nn9, Fits.eq ⟨rfl, rfl, rfl, rfl, rfl, rfl, rfl, (by first | rfl | exact congrArg (Value.int .i64) (by omega)), trivial⟩, B, (by omega), (by omega)⟩, ?_⟩
                show (y + far + 1 - (y - far + py + 1)).toNat < (y + far + 1 - (y - far + py)).toNat
                omega
          · refine s_y (v := .bool false) rfl (y_leq rfl rfl (decide_eq_false c27)) ?_
            refine s_nil ?_
            refine W_if_f (by decide) rfl ?_
            refine W_exit ?_
            refine W_seq ?_
            refine W_seq ?_
            refine W_region (by kernel_rfl) ?_
            refine s_y (v := .slice a0 nn0 cc0) rfl (y_move rfl) ?_
            refine s_y (v := .int .i64 ((nn0 : Nat) : Int)) rfl (y_len T22.sl_29_33_2 rfl rfl) ?_
            by_cases c87 : 8 < ((nn0 : Nat) : Int)
            · refine s_y (v := .bool true) rfl (y_gtr rfl rfl (decide_eq_true c87)) ?_
              refine s_nil ?_
              refine W_if_t (by decide) rfl ?_
              refine W_seq ?_
              refine W_region (by kernel_rfl) ?_
              refine s_y (v := .slice none 0 0) rfl (y_assign rfl) ?_
              refine s_y (v := .bool false) rfl (y_assign rfl) ?_
              refine s_nil ?_
              refine W_ret ?_
              refine ret2 (v1 := .slice none 0 0) (v2 := .bool false) rfl rfl rfl rfl rfl ⟨_, rfl, ?_⟩
              obtain rfl : py = (2 * far + 1) := by omega
              have hrs := ring_s (wd := wd) (hi := hi) (x := x) (y := y) (far := far) (by omega) (by omega) (by omega)
              rw [hrs] at hnn0
              have hlq : decide ((ringL wd hi x y far).length ≤ 8) = false := decide_eq_false (by omega)
              exact .inr ⟨by simp only [ringB, vcellB, hlq, c8, c14, c20, (decide_eq_false c27), (decide_eq_true c87), Bool.and_true, Bool.true_and, Bool.and_false, Bool.false_and, Bool.not_true, Bool.not_false, Bool.or_true, Bool.true_or, Bool.or_false, Bool.false_or], rfl, B.ext⟩
            · refine s_y (v := .bool false) rfl (y_gtr rfl rfl (decide_eq_false c87)) ?_
              refine s_nil ?_
              refine W_if_f (by decide) rfl ?_
              refine W_skip ?_
              refine W_seq ?_
              refine W_region (by kernel_rfl) ?_
              refine s_y (v := .slice a0 nn0 cc0) rfl (y_move rfl) ?_
              refine s_y (v := .slice a0 nn0 cc0) rfl (y_assign rfl) ?_
              refine s_y (v := .bool true) rfl (y_assign rfl) ?_
              refine s_nil ?_
              refine W_ret ?_
              refine ret2 (v1 := .slice a0 nn0 cc0) (v2 := .bool true) rfl rfl rfl rfl rfl ⟨_, rfl, ?_⟩
              obtain rfl : py = (2 * far + 1) := by omega
              have hrs := ring_s (wd := wd) (hi := hi) (x := x) (y := y) (far := far) (by omega) (by omega) (by omega)
              rw [hrs] at hnn0
              have hlq : decide ((ringL wd hi x y far).length ≤ 8) = true := decide_eq_true (by omega)
              have hcond : ringB wd hi Xsp Xls x y far = true := by simp only [ringB, vcellB, hlq, c8, c14, c20, (decide_eq_false c27), (decide_eq_false c87), Bool.and_true, Bool.true_and, Bool.and_false, Bool.false_and, Bool.not_true, Bool.not_false, Bool.or_true, Bool.true_or, Bool.or_false, Bool.false_or]
              replace B : Bu w no w25 [.ow kP a0 (List.length (ringL wd hi x y far)) cc0 33 (ringL wd hi x y far), .blk b1 [.int .i64 wd, .int .i64 hi, .bool wr, .slice asp nsp csp, .slice als nls cls] 26, .rd kF asp nsp Xsp, .rd kF als nls Xls] := B.castX 0 rfl hnn0.symm hrs
              exact .inl ⟨hcond, ⟨_, _, (by rw [(show nn0 = List.length (ringL wd hi x y far) from hnn0.symm)]), B.give [0] rfl rfl rfl⟩⟩
      · obtain rfl : v18 = .bool false := hv19.trans (congrArg Value.bool (Bool.eq_false_iff.2 c20))
        refine s_y (v := .bool true) rfl (y_not rfl rfl) ?_
        refine s_y (v := .bool true) rfl (y_pick_f rfl rfl) ?_
        refine s_nil ?_
        refine W_if_t (by decide) rfl ?_
        refine W_seq ?_
        refine W_region (by kernel_rfl) ?_
        refine s_y (v := .slice none 0 0) rfl (y_assign rfl) ?_
        refine s_y (v := .bool false) rfl (y_assign rfl) ?_
        refine s_nil ?_
        refine W_ret ?_
        refine ret2 (v1 := .slice none 0 0) (v2 := .bool false) rfl rfl rfl rfl rfl ⟨_, rfl, ?_⟩
        exact .inr ⟨by simp only [ringB, vcellB, c8, c14, (Bool.eq_false_iff.2 c20), Bool.and_true, Bool.true_and, Bool.and_false, Bool.false_and, Bool.not_true, Bool.not_false, Bool.or_true, Bool.true_or, Bool.or_false, Bool.false_or], rfl, B.ext⟩
    · obtain rfl : v12 = .bool false := hv13.trans (congrArg Value.bool (Bool.eq_false_iff.2 c14))
      refine s_y (v := .bool true) rfl (y_not rfl rfl) ?_
      refine s_y (v := .bool true) rfl (y_pick_f rfl rfl) ?_
      refine s_y (v := .bool true) rfl (y_move rfl) ?_
      refine s_skip rfl ?_
      refine s_skip rfl ?_
      refine s_skip rfl ?_
      refine s_y (v := .bool true) rfl (y_pick_t rfl rfl) ?_
      refine s_nil ?_
      refine W_if_t (by decide) rfl ?_
      refine W_seq ?_
      refine W_region (by kernel_rfl) ?_
      refine s_y (v := .slice none 0 0) rfl (y_assign rfl) ?_
      refine s_y (v := .bool false) rfl (y_assign rfl) ?_
      refine s_nil ?_
      refine W_ret ?_
      refine ret2 (v1 := .slice none 0 0) (v2 := .bool false) rfl rfl rfl rfl rfl ⟨_, rfl, ?_⟩
      exact .inr ⟨by simp only [ringB, vcellB, c8, (Bool.eq_false_iff.2 c14), Bool.and_true, Bool.true_and, Bool.and_false, Bool.false_and, Bool.not_true, Bool.not_false, Bool.or_true, Bool.true_or, Bool.or_false, Bool.false_or], rfl, B.ext⟩
  · obtain rfl : v6 = .bool false := hv7.trans (congrArg Value.bool (Bool.eq_false_iff.2 c8))
    refine s_y (v := .bool true) rfl (y_not rfl rfl) ?_
    refine s_y (v := .bool true) rfl (y_move rfl) ?_
    refine s_skip rfl ?_
    refine s_skip rfl ?_
    refine s_skip rfl ?_
    refine s_skip rfl ?_
    refine s_y (v := .bool true) rfl (y_pick_t rfl rfl) ?_
    refine s_y (v := .bool true) rfl (y_move rfl) ?_
    refine s_skip rfl ?_
    refine s_skip rfl ?_
    refine s_skip rfl ?_
    refine s_y (v := .bool true) rfl (y_pick_t rfl rfl) ?_
    refine s_nil ?_
    refine W_if_t (by decide) rfl ?_
    refine W_seq ?_
    refine W_region (by kernel_rfl) ?_
    refine s_y (v := .slice none 0 0) rfl (y_assign rfl) ?_
    refine s_y (v := .bool false) rfl (y_assign rfl) ?_
    refine s_nil ?_
    refine W_ret ?_
    refine ret2 (v1 := .slice none 0 0) (v2 := .bool false) rfl rfl rfl rfl rfl ⟨_, rfl, ?_⟩
    exact .inr ⟨by simp only [ringB, vcellB, (Bool.eq_false_iff.2 c8), Bool.and_true, Bool.true_and, Bool.and_false, Bool.false_and, Bool.not_true, Bool.not_false, Bool.or_true, Bool.true_or, Bool.or_false, Bool.false_or], rfl, B.ext⟩
namespace T63
theorem mx : Try.prog.follows .mixedOrders = true := by kernel_rfl
theorem agg_26_5 : aggB Try.prog 26 5 = true := by kernel_rfl
theorem fn_19 : fnB Try.prog 19 = true := by kernel_rfl
theorem fn_66 : fnB Try.prog 66 = true := by kernel_rfl
end T63
set_option maxRecDepth 100000 in
set_option maxHeartbeats 4000000 in
theorem c_i_isValidCell {wd : Int} {hi : Int} {wr : Bool} {asp : Option Addr} {nsp : Nat} {csp : Nat} {Xsp : List Nat} {als : Option Addr} {nls : Nat} {cls : Nat} {Xls : List Nat} {x : Int} {y : Int} {w : World} (qsp : Rd w kF asp nsp Xsp) (qls : Rd w kF als nls Xls) (hbsp : nsp ≤ 9223372036854775806) (hbls : nls ≤ 9223372036854775806) :
    Calls Try.prog 63 #[.agg #[.int .i64 wd, .int .i64 hi, .bool wr, .slice asp nsp csp, .slice als nls cls], .int .i64 x, .int .i64 y] w (Rt fun v w' => v = .bool (vcellB wd hi Xsp Xls x y) ∧ Ext0 w w') := by
  have hlsp := qsp.len
  have hlls := qls.len
  have B : Bu w no w [.rd kF asp nsp Xsp, .rd kF als nls Xls] := Bu.ro (All.cons qsp (All.cons qls All.nil)) rfl
  refine calls_W (n := 15) Try.func63 rfl rfl (Nat.le_of_ble_eq_true rfl) ?_
  refine W_seq ?_
  refine W_region (by kernel_rfl) ?_
  refine s_k rfl (k_boxN (v := .agg #[.int .i64 wd, .int .i64 hi, .bool wr, .slice asp nsp csp, .slice als nls cls]) (cs := [.int .i64 wd, .int .i64 hi, .bool wr, .slice asp nsp csp, .slice als nls cls]) rfl rfl (fun b1 w2 hN3 => ?_))
  replace B := B.new1 hN3
  clear hN3
  refine s_y (v := .bool false) rfl (y_assign rfl) ?_
  refine s_nil ?_
  refine W_seq ?_
  refine W_region (by kernel_rfl) ?_
  refine s_y (v := .agg #[.int .i64 wd, .int .i64 hi, .bool wr, .slice asp nsp csp, .slice als nls cls]) rfl (y_loadn (b := b1) (o := 0) (vs := [.int .i64 wd, .int .i64 hi, .bool wr, .slice asp nsp csp, .slice als nls cls]) T63.agg_26_5 rfl rfl ((B.b 0 rfl).cells (o := 0) rfl)) ?_
  refine s_k rfl (k_call T63.fn_19 (c_i_ValidSheet (B.r 1 rfl) (B.r 2 rfl) (by omega) (by omega)) rfl ?_)
  rintro v6 w4 ⟨hv7, e5⟩
  replace B := B.ext0 e5
  clear e5
  by_cases c8 : validS wd hi Xsp Xls = true
  · have hb9 := validS_b c8
    obtain rfl : v6 = .bool true := hv7.trans (congrArg Value.bool c8)
    refine s_y (v := .bool true) rfl (y_move rfl) ?_
    refine s_y (v := .agg #[.int .i64 wd, .int .i64 hi, .bool wr, .slice asp nsp csp, .slice als nls cls]) rfl (y_loadn (b := b1) (o := 0) (vs := [.int .i64 wd, .int .i64 hi, .bool wr, .slice asp nsp csp, .slice als nls cls]) T63.agg_26_5 rfl rfl ((B.b 0 rfl).cells (o := 0) rfl)) ?_
    refine s_y (v := .int .i64 x) rfl (y_move rfl) ?_
    refine s_y (v := .int .i64 y) rfl (y_move rfl) ?_
    refine s_k rfl (k_call T63.fn_66 (c_i_isCell (by omega) (by omega) (by omega) (by omega)) rfl ?_)
    rintro v12 w10 ⟨hv13, e11⟩
    replace B := B.ext0 e11
    clear e11
    by_cases c14 : cellB wd hi x y = true
    · have hb15 := cellB_b c14
      obtain rfl : v12 = .bool true := hv13.trans (congrArg Value.bool c14)
      refine s_y (v := .bool true) rfl (y_pick_t rfl rfl) ?_
      refine s_y (v := .bool true) rfl (y_assign rfl) ?_
      refine s_nil ?_
      refine W_ret ?_
      refine ret1 (v := .bool true) rfl rfl rfl ⟨_, rfl, ?_⟩
      exact ⟨congrArg Value.bool (by simp only [vcellB, c8, c14, Bool.and_true, Bool.true_and, Bool.and_false, Bool.false_and, Bool.not_true, Bool.not_false, Bool.or_true, Bool.true_or, Bool.or_false, Bool.false_or]), B.ext⟩
    · obtain rfl : v12 = .bool false := hv13.trans (congrArg Value.bool (Bool.eq_false_iff.2 c14))
      refine s_y (v := .bool false) rfl (y_pick_t rfl rfl) ?_
      refine s_y (v := .bool false) rfl (y_assign rfl) ?_
      refine s_nil ?_
      refine W_ret ?_
      refine ret1 (v := .bool false) rfl rfl rfl ⟨_, rfl, ?_⟩
      exact ⟨congrArg Value.bool (by simp only [vcellB, c8, (Bool.eq_false_iff.2 c14), Bool.and_true, Bool.true_and, Bool.and_false, Bool.false_and, Bool.not_true, Bool.not_false, Bool.or_true, Bool.true_or, Bool.or_false, Bool.false_or]), B.ext⟩
  · obtain rfl : v6 = .bool false := hv7.trans (congrArg Value.bool (Bool.eq_false_iff.2 c8))
    refine s_y (v := .bool false) rfl (y_move rfl) ?_
    refine s_skip rfl ?_
    refine s_skip rfl ?_
    refine s_skip rfl ?_
    refine s_skip rfl ?_
    refine s_y (v := .bool false) rfl (y_pick_f rfl rfl) ?_
    refine s_y (v := .bool false) rfl (y_assign rfl) ?_
    refine s_nil ?_
    refine W_ret ?_
    refine ret1 (v := .bool false) rfl rfl rfl ⟨_, rfl, ?_⟩
    exact ⟨congrArg Value.bool (by simp only [vcellB, (Bool.eq_false_iff.2 c8), Bool.and_true, Bool.true_and, Bool.and_false, Bool.false_and, Bool.not_true, Bool.not_false, Bool.or_true, Bool.true_or, Bool.or_false, Bool.false_or]), B.ext⟩
namespace T18
theorem mx : Try.prog.follows .mixedOrders = true := by kernel_rfl
theorem agg_26_5 : aggB Try.prog 26 5 = true := by kernel_rfl
theorem fld_26_0_0 : fldB Try.prog 26 0 0 = true := by kernel_rfl
theorem fld_26_1_1 : fldB Try.prog 26 1 1 = true := by kernel_rfl
theorem fn_63 : fnB Try.prog 63 = true := by kernel_rfl
theorem fn_64 : fnB Try.prog 64 = true := by kernel_rfl
theorem one_2 : oneB Try.prog 2 = true := by kernel_rfl
theorem sl_29_33_2 : slB Try.prog 29 33 2 = true := by kernel_rfl
theorem slt_29 : SlT Try.prog 29 33 2 16 (.agg #[.int .i64 0, .int .i64 0]) := ⟨by kernel_rfl, by kernel_rfl, rfl, by decide⟩
end T18
set_option maxRecDepth 100000 in
set_option maxHeartbeats 4000000 in
theorem c_i_RingAround {wd : Int} {hi : Int} {wr : Bool} {asp : Option Addr} {nsp : Nat} {csp : Nat} {Xsp : List Nat} {als : Option Addr} {nls : Nat} {cls : Nat} {Xls : List Nat} {x : Int} {y : Int} {far : Int} {w : World} (qsp : Rd w kF asp nsp Xsp) (qls : Rd w kF als nls Xls) (hbsp : nsp ≤ 9223372036854775806) (hbls : nls ≤ 9223372036854775806) :
    Calls Try.prog 18 #[.agg #[.int .i64 wd, .int .i64 hi, .bool wr, .slice asp nsp csp, .slice als nls cls], .int .i64 x, .int .i64 y, .int .i64 far] w (Rt fun v w' => (ringB wd hi Xsp Xls x y far = true ∧ ∃ (a1 : Option Addr) (c1 : Nat), v = .tuple #[.slice a1 (List.length (ringL wd hi x y far)) c1, .bool true] ∧ New w w' [.ow kP a1 (List.length (ringL wd hi x y far)) c1 33 (ringL wd hi x y far)]) ∨ (ringB wd hi Xsp Xls x y far = false ∧ v = .tuple #[.slice none 0 0, .bool false] ∧ Ext0 w w')) := by
  have hlsp := qsp.len
  have hlls := qls.len
  have B : Bu w no w [.rd kF asp nsp Xsp, .rd kF als nls Xls] := Bu.ro (All.cons qsp (All.cons qls All.nil)) rfl
  refine calls_W (n := 61) Try.func18 rfl rfl (Nat.le_of_ble_eq_true rfl) ?_
  refine W_seq ?_
  refine W_region (by kernel_rfl) ?_
  refine s_k rfl (k_boxN (v := .agg #[.int .i64 wd, .int .i64 hi, .bool wr, .slice asp nsp csp, .slice als nls cls]) (cs := [.int .i64 wd, .int .i64 hi, .bool wr, .slice asp nsp csp, .slice als nls cls]) rfl rfl (fun b1 w2 hN3 => ?_))
  replace B := B.new1 hN3
  clear hN3
  refine s_y (v := .slice none 0 0) rfl (y_assign rfl) ?_
  refine s_y (v := .bool false) rfl (y_assign rfl) ?_
  refine s_nil ?_
  refine W_seq ?_
  refine W_seq ?_
  refine W_region (by kernel_rfl) ?_
  refine s_y (v := .agg #[.int .i64 wd, .int .i64 hi, .bool wr, .slice asp nsp csp, .slice als nls cls]) rfl (y_loadn (b := b1) (o := 0) (vs := [.int .i64 wd, .int .i64 hi, .bool wr, .slice asp nsp csp, .slice als nls cls]) T18.agg_26_5 rfl rfl ((B.b 0 rfl).cells (o := 0) rfl)) ?_
  refine s_y (v := .int .i64 x) rfl (y_move rfl) ?_
  refine s_y (v := .int .i64 y) rfl (y_move rfl) ?_
  refine s_k rfl (k_call T18.fn_63 (c_i_isValidCell (B.r 1 rfl) (B.r 2 rfl) (by omega) (by omega)) rfl ?_)
  rintro v6 w4 ⟨hv7, e5⟩
  replace B := B.ext0 e5
  clear e5
  by_cases c8 : vcellB wd hi Xsp Xls x y = true
  · have hb9 := vcellB_b c8
    obtain rfl : v6 = .bool true := hv7.trans (congrArg Value.bool c8)
    refine s_y (v := .bool false) rfl (y_not rfl rfl) ?_
    refine s_y (v := .bool false) rfl (y_move rfl) ?_
    refine s_y (v := .int .i64 far) rfl (y_move rfl) ?_
    refine s_k rfl (k_call T18.fn_64 (c_i_within) rfl ?_)
    rintro v12 w10 ⟨hv13, e11⟩
    replace B := B.ext0 e11
    clear e11
    by_cases c14 : within far 1 16 = true
    · have hb15 := within_b c14
      obtain rfl : v12 = .bool true := hv13.trans (congrArg Value.bool c14)
      refine s_y (v := .bool false) rfl (y_not rfl rfl) ?_
      refine s_y (v := .bool false) rfl (y_pick_f rfl rfl) ?_
      refine s_nil ?_
      refine W_if_f (by decide) rfl ?_
      refine W_skip ?_
      refine W_seq ?_
      refine W_region (by kernel_rfl) ?_
      refine s_k rfl (k_bsliceO (k := kP) (n := 0) (cells := #[]) (X := []) T18.slt_29 (by decide) (by first | rfl | kernel_rfl) (rfl : Reps kP [] []) rfl (fun b16 w17 hN18 => ?_))
      replace B := B.new1 hN18
      clear hN18
      refine s_y (v := .slice (some ⟨b16, 0, none⟩) 0 0) rfl (y_assign rfl) ?_
      refine s_nil ?_
      refine W_seq ?_
      refine W_seq ?_
      refine W_region (by kernel_rfl) ?_
      refine s_y (v := .pointer (some ⟨b1, 1, none⟩)) rfl (y_fld (o := 0) T18.fld_26_1_1 rfl) ?_
      refine s_y (v := .int .i64 hi) rfl (y_load T18.one_2 rfl ((B.b 1 rfl).cell (j := 1) rfl)) ?_
      refine s_y (v := .int .i64 0) rfl (y_move rfl) ?_
      refine s_nil ?_
      refine W_block ?_
      refine W_loop (fun ρ' w' => ∃ (ρ1 : Env) (py : Int) (a0 : Option Addr) (cc0 : Nat) (nn0 : Nat), ρ' = updL ρ1 [(1, .int .i64 x), (2, .int .i64 y), (3, .int .i64 far), (4, .pointer (some ⟨b1, 0, none⟩)), (8, .slice none 0 0), (9, .bool false), (10, .slice a0 nn0 cc0), (25, .int .i64 hi), (26, .int .i64 py)] ∧ Bu w no w' [.ow kP a0 nn0 cc0 33 (boxN 0 0 wd.toNat (ringP x y far) (Int.toNat py)), .blk b1 [.int .i64 wd, .int .i64 hi, .bool wr, .slice asp nsp csp, .slice als nls cls] 26, .rd kF asp nsp Xsp, .rd kF als nls Xls] ∧ (0 ≤ py) ∧ (py ≤ hi)) (fun ρ' _ => (hi - iv (ρ' 26)).toNat) ?_ ?_
      · replace B : Bu w no w17 [.ow kP (some ⟨b16, 0, none⟩) 0 0 33 (boxN 0 0 wd.toNat (ringP x y far) (Int.toNat 0)), .blk b1 [.int .i64 wd, .int .i64 hi, .bool wr, .slice asp nsp csp, .slice als nls cls] 26, .rd kF asp nsp Xsp, .rd kF als nls Xls] := B.castX 0 rfl rfl rfl
        exact ⟨_, 0, (some ⟨b16, 0, none⟩), 0, 0, Fits.eq ⟨rfl, rfl, rfl, rfl, rfl, rfl, rfl, rfl, rfl, trivial⟩, B, (Int.le_refl _), (by omega)⟩
      · clear B; rintro _ w19 ⟨ρ20, py, a0, cc0, nn0, rfl, B, h0py, h1py⟩
        have hnn0 := (B.o 0 rfl).len
        have hsnn0 : (boxN 0 0 wd.toNat (ringP x y far) (Int.toNat py)).length ≤ 5000 := Nat.le_trans (boxN_len (by omega) _ (by omega)) (by omega)
        refine W_seq ?_
        refine W_region (by kernel_rfl) ?_
        by_cases c21 : py < hi
        · refine s_y (v := .bool true) rfl (y_lss rfl rfl (decide_eq_true c21)) ?_
          refine s_nil ?_
          refine W_seq ?_
          refine W_if_t (by decide) rfl ?_
          refine W_skip ?_
          refine W_seq ?_
          refine W_block ?_
          refine W_seq ?_
          refine W_region (by kernel_rfl) ?_
          refine s_y (v := .int .i64 py) rfl (y_move rfl) ?_
          refine s_y (v := .int .i64 py) rfl (y_assign rfl) ?_
          refine s_nil ?_
          refine W_seq ?_
          refine W_region (by kernel_rfl) ?_
          refine s_y (v := .pointer (some ⟨b1, 0, none⟩)) rfl (y_fld (o := 0) T18.fld_26_0_0 rfl) ?_
          refine s_y (v := .int .i64 wd) rfl (y_load T18.one_2 rfl ((B.b 1 rfl).cell (j := 0) rfl)) ?_
          refine s_y (v := .int .i64 0) rfl (y_move rfl) ?_
          refine s_nil ?_
          refine W_block ?_
          refine W_loop (fun ρ' w' => ∃ (ρ1 : Env) (px : Int) (a9 : Option Addr) (cc9 : Nat) (nn9 : Nat), ρ' = updL ρ1 [(1, .int .i64 x), (2, .int .i64 y), (3, .int .i64 far), (4, .pointer (some ⟨b1, 0, none⟩)), (8, .slice none 0 0), (9, .bool false), (10, .slice a9 nn9 cc9), (11, .int .i64 py), (25, .int .i64 hi), (26, .int .i64 py), (27, .bool true), (28, .int .i64 py), (29, .pointer (some ⟨b1, 0, none⟩)), (30, .int .i64 wd), (31, .int .i64 px)] ∧ Bu w no w' [.ow kP a9 nn9 cc9 33 (inL 0 0 wd.toNat (ringP x y far) (Int.toNat py) py px), .blk b1 [.int .i64 wd, .int .i64 hi, .bool wr, .slice asp nsp csp, .slice als nls cls] 26, .rd kF asp nsp Xsp, .rd kF als nls Xls] ∧ (0 ≤ px) ∧ (px ≤ wd)) (fun ρ' _ => (wd - iv (ρ' 31)).toNat) ?_ ?_
          · replace B : Bu w no w19 [.ow kP a0 nn0 cc0 33 (inL 0 0 wd.toNat (ringP x y far) (Int.toNat py) py 0), .blk b1 [.int .i64 wd, .int .i64 hi, .bool wr, .slice asp nsp csp, .slice als nls cls] 26, .rd kF asp nsp Xsp, .rd kF als nls Xls] := B.castX 0 rfl rfl inL_zero
            exact ⟨_, 0, a0, cc0, nn0, Fits.eq ⟨rfl, rfl, rfl, rfl, rfl, rfl, rfl, rfl, rfl, rfl, rfl, rfl, rfl, rfl, rfl, trivial⟩, B, (Int.le_refl _), (by omega)⟩
          · clear B; rintro _ w22 ⟨ρ23, px, a9, cc9, nn9, rfl, B, h0px, h1px⟩
            have hnn9 := (B.o 0 rfl).len
            have hsnn9 : (inL 0 0 wd.toNat (ringP x y far) (Int.toNat py) py px).length ≤ 5000 := inL_len (by omega) (by omega) (by omega)
            refine W_seq ?_
            refine W_region (by kernel_rfl) ?_
            by_cases c24 : px < wd
            · refine s_y (v := .bool true) rfl (y_lss rfl rfl (decide_eq_true c24)) ?_
              refine s_nil ?_
              refine W_seq ?_
              refine W_if_t (by decide) rfl ?_
              refine W_skip ?_
              refine W_seq ?_
              refine W_block ?_
              refine W_seq ?_
              refine W_region (by kernel_rfl) ?_
              refine s_y (v := .int .i64 px) rfl (y_move rfl) ?_
              refine s_y (v := .int .i64 px) rfl (y_assign rfl) ?_
              refine s_nil ?_
              refine W_seq ?_
              refine W_region (by kernel_rfl) ?_
              refine s_y (v := .int .i64 px) rfl (y_move rfl) ?_
              refine s_y (v := .int .i64 x) rfl (y_move rfl) ?_
              refine s_y (v := .int .i64 (px - x)) rfl (y_sub rfl rfl rfl (by omega)) ?_
              refine s_y (v := .int .i64 x) rfl (y_move rfl) ?_
              refine s_y (v := .int .i64 px) rfl (y_move rfl) ?_
              refine s_y (v := .int .i64 (x - px)) rfl (y_sub rfl rfl rfl (by omega)) ?_
              refine s_y (v := .int .i64 py) rfl (y_move rfl) ?_
              refine s_y (v := .int .i64 y) rfl (y_move rfl) ?_
              refine s_y (v := .int .i64 (py - y)) rfl (y_sub rfl rfl rfl (by omega)) ?_
              refine s_y (v := .int .i64 y) rfl (y_move rfl) ?_
              refine s_y (v := .int .i64 py) rfl (y_move rfl) ?_
              refine s_y (v := .int .i64 (y - py)) rfl (y_sub rfl rfl rfl (by omega)) ?_
              refine s_y (v := .int .i64 (max (max (max (px - x) (x - px)) (py - y)) (y - py))) rfl (y_max4 rfl rfl rfl rfl rfl) ?_
              refine s_y (v := .int .i64 far) rfl (y_move rfl) ?_
              by_cases c25 : (max (max (max (px - x) (x - px)) (py - y)) (y - py)) = far
              · refine s_y (v := .bool true) rfl (y_eql rfl rfl (decide_eq_true c25)) ?_
                refine s_nil ?_
                refine W_if_t (by decide) rfl ?_
                refine W_region (by kernel_rfl) ?_
                refine s_y (v := .slice a9 nn9 cc9) rfl (y_move rfl) ?_
                refine s_y (v := .int .i64 px) rfl (y_move rfl) ?_
                refine s_y (v := .int .i64 py) rfl (y_move rfl) ?_
                refine s_y (v := .agg #[.int .i64 px, .int .i64 py]) rfl (y_build (cells := #[.int .i64 px, .int .i64 py]) (by kernel_rfl)) ?_
                refine s_k rfl (k_bsliceO (k := kP) (n := 1) (cells := #[.int .i64 px, .int .i64 py]) (X := [(px, py)]) T18.slt_29 (by decide) (by first | rfl | kernel_rfl) (reps_cons (c := [.int .i64 px, .int .i64 py]) rfl (rfl : Reps kP [] [])) rfl (fun b26 w27 hN28 => ?_))
                replace B := B.new1 hN28
                clear hN28
                refine s_k rfl (k_appO (k := kP) T18.slt_29 rfl rfl rfl (B.o 1 rfl) (B.o 0 rfl).rd (by omega) (by unfold maxLen; omega) (fun a29 c30 w31 hU32 => ?_))
                replace B : Bu w no w31 [.ow kP a29 (nn9 + 1) c30 33 ((inL 0 0 wd.toNat (ringP x y far) (Int.toNat py) py px) ++ ([(px, py)])), .ow kP (some ⟨b26, 0, none⟩) 1 1 33 ([(px, py)]), .blk b1 [.int .i64 wd, .int .i64 hi, .bool wr, .slice asp nsp csp, .slice als nls cls] 26, .rd kF asp nsp Xsp, .rd kF als nls Xls] := B.upd [1] rfl hU32
                clear hU32
                refine s_y (v := .slice a29 (nn9 + 1) c30) rfl (y_assign rfl) ?_
                refine s_nil ?_
                refine W_region (by kernel_rfl) ?_
                refine s_y (v := .int .i64 (px + 1)) rfl (y_add rfl rfl rfl (by omega)) ?_
                refine s_y (v := .int .i64 (px + 1)) rfl (y_move rfl) ?_
                refine s_nil ?_
                replace B : Bu w no w31 [.ow kP a29 (nn9 + 1) c30 33 (inL 0 0 wd.toNat (ringP x y far) (Int.toNat py) py (px + 1)), .ow kP (some ⟨b26, 0, none⟩) 1 1 33 ([(px, py)]), .blk b1 [.int .i64 wd, .int .i64 hi, .bool wr, .slice asp nsp csp, .slice als nls cls] 26, .rd kF asp nsp Xsp, .rd kF als nls Xls] := B.castX 0 rfl rfl (inL_yes (by omega) (by omega) (decide_eq_true c25))
                refine ⟨⟨_, px + 1, a29, c30, nn9 + 1, Fits.eq ⟨rfl, rfl, rfl, rfl, rfl, rfl, rfl, rfl, rfl, rfl, rfl, rfl, rfl, rfl, rfl, trivial⟩, (B.pick [0, 2, 3, 4] rfl rfl), (by omega), (by omega)⟩, ?_⟩
                show (wd - (px + 1)).toNat < (wd - (px)).toNat
                omega
              · refine s_y (v := .bool false) rfl (y_eql rfl rfl (decide_eq_false c25)) ?_
                refine s_nil ?_
                refine W_if_f (by decide) rfl ?_
                refine W_skip ?_
                refine W_region (by kernel_rfl) ?_
                refine s_y (v := .int .i64 (px + 1)) rfl (y_add rfl rfl rfl (by omega)) ?_
                refine s_y (v := .int .i64 (px + 1)) rfl (y_move rfl) ?_
                refine s_nil ?_
                replace B : Bu w no w22 [.ow kP a9 nn9 cc9 33 (inL 0 0 wd.toNat (ringP x y far) (Int.toNat py) py (px + 1)), .blk b1 [.int .i64 wd, .int .i64 hi, .bool wr, .slice asp nsp csp, .slice als nls cls] 26, .rd kF asp nsp Xsp, .rd kF als nls Xls] := B.castX 0 rfl rfl (inL_no (by omega) (by omega) (decide_eq_false c25))
                refine ⟨⟨_, px + 1, a9, cc9, nn9, Fits.eq ⟨rfl, rfl, rfl, rfl, rfl, rfl, rfl, rfl, rfl, rfl, rfl, rfl, rfl, rfl, rfl, trivial⟩, B, (by omega), (by omega)⟩, ?_⟩
                show (wd - (px + 1)).toNat < (wd - (px)).toNat
                omega
            · refine s_y (v := .bool false) rfl (y_lss rfl rfl (decide_eq_false c24)) ?_
              refine s_nil ?_
              refine W_seq ?_
              refine W_if_f (by decide) rfl ?_
              refine W_exit ?_
              refine W_region (by kernel_rfl) ?_
              refine s_y (v := .int .i64 (py + 1)) rfl (y_add rfl rfl rfl (by omega)) ?_
              refine s_y (v := .int .i64 (py + 1)) rfl (y_move rfl) ?_
              refine s_nil ?_
              replace B : Bu w no w22 [.ow kP a9 nn9 cc9 33 (boxN 0 0 wd.toNat (ringP x y far) (Int.toNat (py + 1))), .blk b1 [.int .i64 wd, .int .i64 hi, .bool wr, .slice asp nsp csp, .slice als nls cls] 26, .rd kF asp nsp Xsp, .rd kF als nls Xls] := B.castX 0 rfl rfl (inL_row (by omega) (by omega) (by omega))
              refine ⟨⟨_, py + 1, a9, cc9, nn9, Fits.eq ⟨rfl, rfl, rfl, rfl, rfl, rfl, rfl, rfl, rfl, trivial⟩, B, (by omega), (by omega)⟩, ?_⟩
              show (hi - (py + 1)).toNat < (hi - (py)).toNat
              omega
        · refine s_y (v := .bool false) rfl (y_lss rfl rfl (decide_eq_false c21)) ?_
          refine s_nil ?_
          refine W_seq ?_
          refine W_if_f (by decide) rfl ?_
          refine W_exit ?_
          refine W_seq ?_
          refine W_seq ?_
          refine W_region (by kernel_rfl) ?_
          refine s_y (v := .slice a0 nn0 cc0) rfl (y_move rfl) ?_
          refine s_y (v := .int .i64 ((nn0 : Nat) : Int)) rfl (y_len T18.sl_29_33_2 rfl rfl) ?_
          by_cases c33 : 8 < ((nn0 : Nat) : Int)
          · refine s_y (v := .bool true) rfl (y_gtr rfl rfl (decide_eq_true c33)) ?_
            refine s_nil ?_
            refine W_if_t (by decide) rfl ?_
            refine W_seq ?_
            refine W_region (by kernel_rfl) ?_
            refine s_y (v := .slice none 0 0) rfl (y_assign rfl) ?_
            refine s_y (v := .bool false) rfl (y_assign rfl) ?_
            refine s_nil ?_
            refine W_ret ?_
            refine ret2 (v1 := .slice none 0 0) (v2 := .bool false) rfl rfl rfl rfl rfl ⟨_, rfl, ?_⟩
            obtain rfl : hi = py := by omega
            have hlen : (ringL wd hi x y far).length = nn0 := hnn0
            have hlq : decide ((ringL wd hi x y far).length ≤ 8) = false := decide_eq_false (by omega)
            exact .inr ⟨by simp only [ringB, hlq, c8, c14, (decide_eq_false c21), (decide_eq_true c33), Bool.and_true, Bool.true_and, Bool.and_false, Bool.false_and, Bool.not_true, Bool.not_false, Bool.or_true, Bool.true_or, Bool.or_false, Bool.false_or], rfl, B.ext⟩
          · refine s_y (v := .bool false) rfl (y_gtr rfl rfl (decide_eq_false c33)) ?_
            refine s_nil ?_
            refine W_if_f (by decide) rfl ?_
            refine W_skip ?_
            refine W_seq ?_
            refine W_region (by kernel_rfl) ?_
            refine s_y (v := .slice a0 nn0 cc0) rfl (y_move rfl) ?_
            refine s_y (v := .slice a0 nn0 cc0) rfl (y_assign rfl) ?_
            refine s_y (v := .bool true) rfl (y_assign rfl) ?_
            refine s_nil ?_
            refine W_ret ?_
            refine ret2 (v1 := .slice a0 nn0 cc0) (v2 := .bool true) rfl rfl rfl rfl rfl ⟨_, rfl, ?_⟩
            obtain rfl : hi = py := by omega
            have hlen : (ringL wd hi x y far).length = nn0 := hnn0
            have hlq : decide ((ringL wd hi x y far).length ≤ 8) = true := decide_eq_true (by omega)
            have hcond : ringB wd hi Xsp Xls x y far = true := by simp only [ringB, hlq, c8, c14, (decide_eq_false c21), (decide_eq_false c33), Bool.and_true, Bool.true_and, Bool.and_false, Bool.false_and, Bool.not_true, Bool.not_false, Bool.or_true, Bool.true_or, Bool.or_false, Bool.false_or]
            replace B : Bu w no w19 [.ow kP a0 (List.length (ringL wd hi x y far)) cc0 33 (ringL wd hi x y far), .blk b1 [.int .i64 wd, .int .i64 hi, .bool wr, .slice asp nsp csp, .slice als nls cls] 26, .rd kF asp nsp Xsp, .rd kF als nls Xls] := B.castX 0 rfl hnn0.symm rfl
            exact .inl ⟨hcond, ⟨_, _, (by rw [(show nn0 = List.length (ringL wd hi x y far) from hnn0.symm)]), B.give [0] rfl rfl rfl⟩⟩
    · obtain rfl : v12 = .bool false := hv13.trans (congrArg Value.bool (Bool.eq_false_iff.2 c14))
      refine s_y (v := .bool true) rfl (y_not rfl rfl) ?_
      refine s_y (v := .bool true) rfl (y_pick_f rfl rfl) ?_
      refine s_nil ?_
      refine W_if_t (by decide) rfl ?_
      refine W_seq ?_
      refine W_region (by kernel_rfl) ?_
      refine s_y (v := .slice none 0 0) rfl (y_assign rfl) ?_
      refine s_y (v := .bool false) rfl (y_assign rfl) ?_
      refine s_nil ?_
      refine W_ret ?_
      refine ret2 (v1 := .slice none 0 0) (v2 := .bool false) rfl rfl rfl rfl rfl ⟨_, rfl, ?_⟩
      exact .inr ⟨by simp only [ringB, c8, (Bool.eq_false_iff.2 c14), Bool.and_true, Bool.true_and, Bool.and_false, Bool.false_and, Bool.not_true, Bool.not_false, Bool.or_true, Bool.true_or, Bool.or_false, Bool.false_or], rfl, B.ext⟩
  · obtain rfl : v6 = .bool false := hv7.trans (congrArg Value.bool (Bool.eq_false_iff.2 c8))
    refine s_y (v := .bool true) rfl (y_not rfl rfl) ?_
    refine s_y (v := .bool true) rfl (y_move rfl) ?_
    refine s_skip rfl ?_
    refine s_skip rfl ?_
    refine s_skip rfl ?_
    refine s_y (v := .bool true) rfl (y_pick_t rfl rfl) ?_
    refine s_nil ?_
    refine W_if_t (by decide) rfl ?_
    refine W_seq ?_
    refine W_region (by kernel_rfl) ?_
    refine s_y (v := .slice none 0 0) rfl (y_assign rfl) ?_
    refine s_y (v := .bool false) rfl (y_assign rfl) ?_
    refine s_nil ?_
    refine W_ret ?_
    refine ret2 (v1 := .slice none 0 0) (v2 := .bool false) rfl rfl rfl rfl rfl ⟨_, rfl, ?_⟩
    exact .inr ⟨by simp only [ringB, (Bool.eq_false_iff.2 c8), Bool.and_true, Bool.true_and, Bool.and_false, Bool.false_and, Bool.not_true, Bool.not_false, Bool.or_true, Bool.true_or, Bool.or_false, Bool.false_or], rfl, B.ext⟩
namespace T72
theorem mx : Try.prog.follows .mixedOrders = true := by kernel_rfl
theorem fld_33_0_0 : fldB Try.prog 33 0 0 = true := by kernel_rfl
theorem fld_33_1_1 : fldB Try.prog 33 1 1 = true := by kernel_rfl
theorem one_2 : oneB Try.prog 2 = true := by kernel_rfl
end T72
set_option maxRecDepth 100000 in
set_option maxHeartbeats 4000000 in
theorem c_l_eqProbe {px : Int} {py : Int} {w : World} :
    Calls Try.prog 72 #[.agg #[.int .i64 px, .int .i64 py], .agg #[.int .i64 px, .int .i64 py]] w (Rt fun v w' => v = .bool true ∧ Ext0 w w') := by
  have B : Bu w no w [] := Bu.ro All.nil rfl
  refine calls_W (n := 15) Try.func72 rfl rfl (Nat.le_of_ble_eq_true rfl) ?_
  refine W_seq ?_
  refine W_region (by kernel_rfl) ?_
  refine s_k rfl (k_boxN (v := .agg #[.int .i64 px, .int .i64 py]) (cs := [.int .i64 px, .int .i64 py]) rfl rfl (fun b1 w2 hN3 => ?_))
  replace B := B.new1 hN3
  clear hN3
  refine s_k rfl (k_boxN (v := .agg #[.int .i64 px, .int .i64 py]) (cs := [.int .i64 px, .int .i64 py]) rfl rfl (fun b4 w5 hN6 => ?_))
  replace B := B.new1 hN6
  clear hN6
  refine s_y (v := .bool false) rfl (y_assign rfl) ?_
  refine s_nil ?_
  refine W_seq ?_
  refine W_seq ?_
  refine W_region (by kernel_rfl) ?_
  refine s_y (v := .pointer (some ⟨b1, 0, none⟩)) rfl (y_fld (o := 0) T72.fld_33_0_0 rfl) ?_
  refine s_y (v := .int .i64 px) rfl (y_load T72.one_2 rfl ((B.b 1 rfl).cell (j := 0) rfl)) ?_
  refine s_y (v := .pointer (some ⟨b4, 0, none⟩)) rfl (y_fld (o := 0) T72.fld_33_0_0 rfl) ?_
  refine s_y (v := .int .i64 px) rfl (y_load T72.one_2 rfl ((B.b 0 rfl).cell (j := 0) rfl)) ?_
  refine s_y (v := .bool false) rfl (y_neq rfl rfl (decide_eq_false (fun hq => hq rfl))) ?_
  refine s_nil ?_
  refine W_if_f (by decide) rfl ?_
  refine W_skip ?_
  refine W_seq ?_
  refine W_seq ?_
  refine W_region (by kernel_rfl) ?_
  refine s_y (v := .pointer (some ⟨b1, 1, none⟩)) rfl (y_fld (o := 0) T72.fld_33_1_1 rfl) ?_
  refine s_y (v := .int .i64 py) rfl (y_load T72.one_2 rfl ((B.b 1 rfl).cell (j := 1) rfl)) ?_
  refine s_y (v := .pointer (some ⟨b4, 1, none⟩)) rfl (y_fld (o := 0) T72.fld_33_1_1 rfl) ?_
  refine s_y (v := .int .i64 py) rfl (y_load T72.one_2 rfl ((B.b 0 rfl).cell (j := 1) rfl)) ?_
  refine s_y (v := .bool false) rfl (y_neq rfl rfl (decide_eq_false (fun hq => hq rfl))) ?_
  refine s_nil ?_
  refine W_if_f (by decide) rfl ?_
  refine W_skip ?_
  refine W_seq ?_
  refine W_region (by kernel_rfl) ?_
  refine s_y (v := .bool true) rfl (y_assign rfl) ?_
  refine s_nil ?_
  refine W_ret ?_
  refine ret1 (v := .bool true) rfl rfl rfl ⟨_, rfl, ?_⟩
  exact ⟨rfl, B.ext⟩
namespace T24
theorem mx : Try.prog.follows .mixedOrders = true := by kernel_rfl
theorem agg_33_2 : aggB Try.prog 33 2 = true := by kernel_rfl
theorem fn_72 : fnB Try.prog 72 = true := by kernel_rfl
theorem sl_29_33_2 : slB Try.prog 29 33 2 = true := by kernel_rfl
end T24
set_option maxRecDepth 100000 in
set_option maxHeartbeats 4000000 in
theorem c_l_eqProbeS {a : Option Addr} {n : Nat} {c : Nat} {X : List (Int × Int)} {a2 : Option Addr} {n2 : Nat} {c2 : Nat} {w : World} (q : Rd w kP a n X) (q2 : Rd w kP a2 n2 X) (hb : n ≤ 9223372036854775806) :
    Calls Try.prog 24 #[.slice a n c, .slice a2 n2 c2] w (Rt fun v w' => v = .bool true ∧ Ext0 w w') := by
  have hl := q.len
  have hl2 := q2.len
  have B : Bu w no w [.rd kP a n X, .rd kP a2 n2 X] := Bu.ro (All.cons q (All.cons q2 All.nil)) rfl
  refine calls_W (n := 27) Try.func24 rfl rfl (Nat.le_of_ble_eq_true rfl) ?_
  refine W_seq ?_
  refine W_region (by kernel_rfl) ?_
  refine s_y (v := .bool false) rfl (y_assign rfl) ?_
  refine s_nil ?_
  refine W_seq ?_
  refine W_seq ?_
  refine W_region (by kernel_rfl) ?_
  refine s_y (v := .slice a n c) rfl (y_move rfl) ?_
  refine s_y (v := .int .i64 ((n : Nat) : Int)) rfl (y_len T24.sl_29_33_2 rfl rfl) ?_
  refine s_y (v := .slice a2 n2 c2) rfl (y_move rfl) ?_
  refine s_y (v := .int .i64 ((n2 : Nat) : Int)) rfl (y_len T24.sl_29_33_2 rfl rfl) ?_
  by_cases c1 : ((n : Nat) : Int) ≠ ((n2 : Nat) : Int)
  · refine s_y (v := .bool true) rfl (y_neq rfl rfl (decide_eq_true c1)) ?_
    refine s_nil ?_
    refine W_if_t (by decide) rfl ?_
    refine W_seq ?_
    refine W_region (by kernel_rfl) ?_
    refine s_y (v := .bool false) rfl (y_assign rfl) ?_
    refine s_nil ?_
    refine W_ret ?_
    refine ret1 (v := .bool false) rfl rfl rfl ⟨_, rfl, ?_⟩
    exfalso; omega
  · refine s_y (v := .bool false) rfl (y_neq rfl rfl (decide_eq_false c1)) ?_
    refine s_nil ?_
    refine W_if_f (by decide) rfl ?_
    refine W_skip ?_
    refine W_seq ?_
    refine W_seq ?_
    refine W_region (by kernel_rfl) ?_
    refine s_y (v := .int .i64 0) rfl (y_assign rfl) ?_
    refine s_nil ?_
    refine W_block ?_
    refine W_loop (fun ρ' w' => ∃ (ρ1 : Env) (k : Int), ρ' = updL ρ1 [(0, .slice a n c), (1, .slice a2 n2 c2), (5, .int .i64 k)] ∧ Bu w no w' [.rd kP a n X, .rd kP a2 n2 X] ∧ (0 ≤ k) ∧ (k ≤ (n : Int))) (fun ρ' _ => ((n : Int) - iv (ρ' 5)).toNat) ?_ ?_
    · exact ⟨_, 0, Fits.eq ⟨rfl, rfl, rfl, trivial⟩, B, (Int.le_refl _), (by omega)⟩
    · clear B; rintro _ w2 ⟨ρ3, k, rfl, B, h0k, h1k⟩
      refine W_seq ?_
      refine W_seq ?_
      refine W_region (by kernel_rfl) ?_
      refine s_y (v := .int .i64 k) rfl (y_move rfl) ?_
      refine s_y (v := .slice a n c) rfl (y_move rfl) ?_
      refine s_y (v := .int .i64 ((n : Nat) : Int)) rfl (y_len T24.sl_29_33_2 rfl rfl) ?_
      by_cases c4 : k < ((n : Nat) : Int)
      · refine s_y (v := .bool true) rfl (y_lss rfl rfl (decide_eq_true c4)) ?_
        refine s_nil ?_
        refine W_if_t (by decide) rfl ?_
        refine W_skip ?_
        refine W_seq ?_
        refine W_block ?_
        refine W_seq ?_
        have B0_9 := B
        refine W_draw (no) T24.mx (by kernel_rfl) (fun w7 e8 => ?_)
        have R10 := Ext.refl (no) w2
        replace R10 := R10.trans (Ext0.any e8)
        replace B := B.ext0 e8
        clear e8
        refine m_y (v := .slice a n c) 0 rfl (by kernel_rfl) rfl rfl (fun w' e' => y_move rfl) ?_
        refine m_y (v := .int .i64 k) 1 rfl (by kernel_rfl) rfl rfl (fun w' e' => y_move rfl) ?_
        refine m_y (v := .pointer (some (sat a ((k).toNat * 2)))) 2 rfl (by kernel_rfl) rfl rfl (fun w' e' => y_idx T24.sl_29_33_2 rfl rfl ((B.r 0 rfl).addr (by omega)) (by omega) (by omega)) ?_
        have hR11 := Rd.atP (B0_9.r 0 rfl) k (by omega) (by omega)
        refine m_y (v := .agg #[.int .i64 ((gl X k).1), .int .i64 ((gl X k).2)]) 3 rfl (by kernel_rfl) rfl rfl (fun w' e' => y_loadR (vs := [.int .i64 ((gl X k).1), .int .i64 ((gl X k).2)]) T24.agg_33_2 rfl rfl (by decide) (hR11.ext0 e')) ?_
        refine m_y (v := .slice a2 n2 c2) 4 rfl (by kernel_rfl) rfl rfl (fun w' e' => y_move rfl) ?_
        refine m_y (v := .int .i64 k) 5 rfl (by kernel_rfl) rfl rfl (fun w' e' => y_move rfl) ?_
        refine m_y (v := .pointer (some (sat a2 ((k).toNat * 2)))) 6 rfl (by kernel_rfl) rfl rfl (fun w' e' => y_idx T24.sl_29_33_2 rfl rfl ((B.r 1 rfl).addr (by omega)) (by omega) (by omega)) ?_
        have hR12 := Rd.atP (B0_9.r 1 rfl) k (by omega) (by omega)
        refine m_y (v := .agg #[.int .i64 ((gl X k).1), .int .i64 ((gl X k).2)]) 7 rfl (by kernel_rfl) rfl rfl (fun w' e' => y_loadR (vs := [.int .i64 ((gl X k).1), .int .i64 ((gl X k).2)]) T24.agg_33_2 rfl rfl (by decide) (hR12.ext0 e')) ?_
        refine m_k 8 [9] rfl (by kernel_rfl) rfl rfl (fun w13 e14 => ?_)
        replace R10 := R10.trans (Ext0.any e14)
        replace B := B.ext0 e14
        clear e14
        refine k_call T24.fn_72 (c_l_eqProbe) rfl ?_
        rintro _ w15 ⟨rfl, e16⟩
        replace R10 := R10.trans (Ext0.any e16)
        replace B := B.ext0 e16
        clear e16
        refine ⟨fun _ => R10, ?_⟩
        refine m_y (v := .bool false) 9 rfl (by kernel_rfl) rfl rfl (fun w' e' => y_not rfl rfl) ?_
        refine m_done (by kernel_rfl) (fun w17 e18 => ?_)
        replace B := B.ext0 e18
        clear e18
        clear B0_9 R10
        refine W_if_f (by decide) rfl ?_
        refine W_skip ?_
        refine W_region (by kernel_rfl) ?_
        refine s_y (v := .int .i64 k) rfl (y_move rfl) ?_
        refine s_y (v := .int .i64 (k + 1)) rfl (y_add rfl rfl rfl (by omega)) ?_
        refine s_y (v := .int .i64 (k + 1)) rfl (y_assign rfl) ?_
        refine s_nil ?_
        refine ⟨⟨_, k + 1, Fits.eq ⟨rfl, rfl, rfl, trivial⟩, B, (by omega), (by omega)⟩, ?_⟩
        show ((n : Int) - (k + 1)).toNat < ((n : Int) - k).toNat
        omega
      · refine s_y (v := .bool false) rfl (y_lss rfl rfl (decide_eq_false c4)) ?_
        refine s_nil ?_
        refine W_if_f (by decide) rfl ?_
        refine W_exit ?_
        refine W_seq ?_
        refine W_region (by kernel_rfl) ?_
        refine s_y (v := .bool true) rfl (y_assign rfl) ?_
        refine s_nil ?_
        refine W_ret ?_
        refine ret1 (v := .bool true) rfl rfl rfl ⟨_, rfl, ?_⟩
        exact ⟨rfl, B.ext⟩
namespace T27
theorem mx : Try.prog.follows .mixedOrders = true := by kernel_rfl
theorem fld_33_0_0 : fldB Try.prog 33 0 0 = true := by kernel_rfl
theorem fld_33_1_1 : fldB Try.prog 33 1 1 = true := by kernel_rfl
theorem sl_29_33_2 : slB Try.prog 29 33 2 = true := by kernel_rfl
theorem sz_2_1 : szB Try.prog 2 1 = true := by kernel_rfl
end T27
set_option maxRecDepth 100000 in
set_option maxHeartbeats 4000000 in
theorem c_l_markProbeS {a : Option Addr} {n : Nat} {c : Nat} {k : Int} {X : List (Int × Int)} {w : World} (hbn : n ≤ 1048576) (hk0 : 0 ≤ k) (hk1 : k ≤ 4294967296) (HA : All w [.ow kP a n c 33 X]) (HP : Pw [.ow kP a n c 33 X]) :
    Calls Try.prog 27 #[.slice a n c, .int .i64 k] w (Rt fun v w' => v = .int .i64 (k + 2 * ((n : Nat) : Int)) ∧ Upd w w' [.ow kP a n c 33 X] [.ow kP a n c 33 (pmarks k n)]) := by
  have B : Bu w (hasW [.ow kP a n c 33 X]) w [.ow kP a n c 33 X] := Bu.initW (W := [.ow kP a n c 33 X]) (R := []) HA HP rfl
  have hl := (B.o 0 rfl).len
  refine calls_W (n := 27) Try.func27 rfl rfl (Nat.le_of_ble_eq_true rfl) ?_
  refine W_seq ?_
  refine W_region (by kernel_rfl) ?_
  refine s_y (v := .int .i64 0) rfl (y_assign rfl) ?_
  refine s_nil ?_
  refine W_seq ?_
  refine W_seq ?_
  refine W_region (by kernel_rfl) ?_
  refine s_y (v := .int .i64 0) rfl (y_assign rfl) ?_
  refine s_nil ?_
  refine W_block ?_
  refine W_loop (fun ρ' w' => ∃ (ρ1 : Env) (j : Int) (zs : List (Int × Int)), ρ' = updL ρ1 [(0, .slice a n c), (1, .int .i64 (k + 2 * j)), (4, .int .i64 0), (5, .int .i64 j)] ∧ Bu w (hasW [.ow kP a n c 33 X]) w' [.ow kP a n c 33 zs] ∧ (0 ≤ j) ∧ (j ≤ (n : Int)) ∧ (zs.length = n) ∧ (∀ i, 0 ≤ i → i < j → gl zs i = (k + 2 * i, k + 2 * i + 1))) (fun ρ' _ => ((n : Int) - iv (ρ' 5)).toNat) ?_ ?_
  · exact ⟨_, 0, _, Fits.eq ⟨rfl, (by first | rfl | exact congrArg (Value.int .i64) (by omega)), rfl, rfl, trivial⟩, B, (Int.le_refl _), (by omega), hl, (by intro i h0 h1; omega)⟩
  · clear B; rintro _ w1 ⟨ρ2, j, zs, rfl, B, h0j, h1j, hz, hq⟩
    refine W_seq ?_
    refine W_seq ?_
    refine W_region (by kernel_rfl) ?_
    refine s_y (v := .int .i64 j) rfl (y_move rfl) ?_
    refine s_y (v := .slice a n c) rfl (y_move rfl) ?_
    refine s_y (v := .int .i64 ((n : Nat) : Int)) rfl (y_len T27.sl_29_33_2 rfl rfl) ?_
    by_cases c3 : j < ((n : Nat) : Int)
    · refine s_y (v := .bool true) rfl (y_lss rfl rfl (decide_eq_true c3)) ?_
      refine s_nil ?_
      refine W_if_t (by decide) rfl ?_
      refine W_skip ?_
      refine W_seq ?_
      refine W_block ?_
      refine W_seq ?_
      refine W_region (by kernel_rfl) ?_
      refine s_y (v := .slice a n c) rfl (y_move rfl) ?_
      refine s_y (v := .int .i64 j) rfl (y_move rfl) ?_
      refine s_y (v := .int .i64 (k + 2 * j)) rfl (y_move rfl) ?_
      refine s_y (v := .pointer (some (sat a ((j).toNat * 2)))) rfl (y_idx T27.sl_29_33_2 rfl rfl ((B.o 0 rfl).rd.addr (by omega)) (by omega) (by omega)) ?_
      refine s_y (v := .pointer (some (sat a ((j).toNat * 2)))) rfl (y_fldEl (j := (j).toNat * 2) T27.fld_33_0_0 rfl ((B.o 0 rfl).rd.addr (by omega))) ?_
      refine s_k0 rfl (k_stO (k := kP) (i := j) (j := 0) (x' := (k + 2 * j, (gl zs j).2)) (new := [.int .i64 (k + 2 * j)]) T27.sz_2_1 rfl rfl rfl rfl rfl (by simp [Value.oneCell']) (by decide) (B.o 0 rfl) (by omega) (by omega) (by decide) (by rintro q rfl; rfl) (fun w4 hU5 => ?_))
      replace B : Bu w (hasW [.ow kP a n c 33 X]) w4 [.ow kP a n c 33 (pl zs j (k + 2 * j, (gl zs j).2))] := B.upd [0] rfl hU5
      clear hU5
      refine s_nil ?_
      refine W_seq ?_
      refine W_region (by kernel_rfl) ?_
      refine s_y (v := .int .i64 (k + 2 * j)) rfl (y_move rfl) ?_
      refine s_y (v := .int .i64 ((k + 2 * j) + 1)) rfl (y_add rfl rfl rfl (by omega)) ?_
      refine s_y (v := .int .i64 ((k + 2 * j) + 1)) rfl (y_assign rfl) ?_
      refine s_nil ?_
      refine W_seq ?_
      refine W_region (by kernel_rfl) ?_
      refine s_y (v := .slice a n c) rfl (y_move rfl) ?_
      refine s_y (v := .int .i64 j) rfl (y_move rfl) ?_
      refine s_y (v := .int .i64 ((k + 2 * j) + 1)) rfl (y_move rfl) ?_
      refine s_y (v := .pointer (some (sat a ((j).toNat * 2)))) rfl (y_idx T27.sl_29_33_2 rfl rfl ((B.o 0 rfl).rd.addr (by omega)) (by omega) (by omega)) ?_
      refine s_y (v := .pointer (some (sat a ((j).toNat * 2 + 1)))) rfl (y_fldEl (j := (j).toNat * 2) T27.fld_33_1_1 rfl ((B.o 0 rfl).rd.addr (by omega))) ?_
      refine s_k0 rfl (k_stO (k := kP) (i := j) (j := 1) (x' := ((gl (pl zs j (k + 2 * j, (gl zs j).2)) j).1, (k + 2 * j) + 1)) (new := [.int .i64 ((k + 2 * j) + 1)]) T27.sz_2_1 rfl rfl rfl rfl rfl (by simp [Value.oneCell']) (by decide) (B.o 0 rfl) (by omega) (by omega) (by decide) (by rintro q rfl; rfl) (fun w6 hU7 => ?_))
      replace B : Bu w (hasW [.ow kP a n c 33 X]) w6 [.ow kP a n c 33 (pl (pl zs j (k + 2 * j, (gl zs j).2)) j ((gl (pl zs j (k + 2 * j, (gl zs j).2)) j).1, (k + 2 * j) + 1))] := B.upd [0] rfl hU7
      clear hU7
      refine s_nil ?_
      refine W_region (by kernel_rfl) ?_
      refine s_y (v := .int .i64 ((k + 2 * j) + 1)) rfl (y_move rfl) ?_
      refine s_y (v := .int .i64 (((k + 2 * j) + 1) + 1)) rfl (y_add rfl rfl rfl (by omega)) ?_
      refine s_y (v := .int .i64 (((k + 2 * j) + 1) + 1)) rfl (y_assign rfl) ?_
      refine s_nil ?_
      refine W_region (by kernel_rfl) ?_
      refine s_y (v := .int .i64 j) rfl (y_move rfl) ?_
      refine s_y (v := .int .i64 (j + 1)) rfl (y_add rfl rfl rfl (by omega)) ?_
      refine s_y (v := .int .i64 (j + 1)) rfl (y_assign rfl) ?_
      refine s_nil ?_
      refine ⟨⟨_, j + 1, _, Fits.eq ⟨rfl, (by first | rfl | exact congrArg (Value.int .i64) (by omega)), rfl, rfl, trivial⟩, B, (by omega), (by omega), (by simp only [put_length, pl_length]; exact hz), (pmark_put (by omega) (by omega) (by omega) hq)⟩, ?_⟩
      show ((n : Int) - (j + 1)).toNat < ((n : Int) - j).toNat
      omega
    · refine s_y (v := .bool false) rfl (y_lss rfl rfl (decide_eq_false c3)) ?_
      refine s_nil ?_
      refine W_if_f (by decide) rfl ?_
      refine W_exit ?_
      refine W_seq ?_
      refine W_region (by kernel_rfl) ?_
      refine s_y (v := .int .i64 (k + 2 * j)) rfl (y_move rfl) ?_
      refine s_y (v := .int .i64 (k + 2 * j)) rfl (y_assign rfl) ?_
      refine s_nil ?_
      refine W_ret ?_
      refine ret1 (v := .int .i64 (k + 2 * j)) rfl rfl rfl ⟨_, rfl, ?_⟩
      obtain rfl : zs = pmarks k n := pmarks_done (by omega) (fun i h0 h1 => hq i h0 (by omega))
      exact ⟨congrArg (Value.int .i64) (by omega), B.wrote [0] rfl rfl rfl⟩
namespace T28
theorem mx : Try.prog.follows .mixedOrders = true := by kernel_rfl
theorem fld_33_0_0 : fldB Try.prog 33 0 0 = true := by kernel_rfl
theorem fld_33_1_1 : fldB Try.prog 33 1 1 = true := by kernel_rfl
theorem one_2 : oneB Try.prog 2 = true := by kernel_rfl
theorem sl_29_33_2 : slB Try.prog 29 33 2 = true := by kernel_rfl
end T28
set_option maxRecDepth 100000 in
set_option maxHeartbeats 4000000 in
theorem c_l_heldProbeS {a : Option Addr} {n : Nat} {c : Nat} {k : Int} {w : World} (q : Rd w kP a n (pmarks k n)) (hbn : n ≤ 1048576) (hk0 : 0 ≤ k) (hk1 : k ≤ 4294967296) :
    Calls Try.prog 28 #[.slice a n c, .int .i64 k] w (Rt fun v w' => v = .int .i64 (k + 2 * ((n : Nat) : Int)) ∧ Ext0 w w') := by
  have hl := q.len
  have B : Bu w no w [.rd kP a n (pmarks k n)] := Bu.ro (All.cons q All.nil) rfl
  refine calls_W (n := 31) Try.func28 rfl rfl (Nat.le_of_ble_eq_true rfl) ?_
  refine W_seq ?_
  refine W_region (by kernel_rfl) ?_
  refine s_y (v := .int .i64 0) rfl (y_assign rfl) ?_
  refine s_nil ?_
  refine W_seq ?_
  refine W_seq ?_
  refine W_region (by kernel_rfl) ?_
  refine s_y (v := .int .i64 0) rfl (y_assign rfl) ?_
  refine s_nil ?_
  refine W_block ?_
  refine W_loop (fun ρ' w' => ∃ (ρ1 : Env) (j : Int), ρ' = updL ρ1 [(0, .slice a n c), (1, .int .i64 (k + 2 * j)), (5, .int .i64 j)] ∧ Bu w no w' [.rd kP a n (pmarks k n)] ∧ (0 ≤ j) ∧ (j ≤ (n : Int))) (fun ρ' _ => ((n : Int) - iv (ρ' 5)).toNat) ?_ ?_
  · exact ⟨_, 0, Fits.eq ⟨rfl, (by first | rfl | exact congrArg (Value.int .i64) (by omega)), rfl, trivial⟩, B, (Int.le_refl _), (by omega)⟩
  · clear B; rintro _ w1 ⟨ρ2, j, rfl, B, h0j, h1j⟩
    refine W_seq ?_
    refine W_seq ?_
    refine W_region (by kernel_rfl) ?_
    refine s_y (v := .int .i64 j) rfl (y_move rfl) ?_
    refine s_y (v := .slice a n c) rfl (y_move rfl) ?_
    refine s_y (v := .int .i64 ((n : Nat) : Int)) rfl (y_len T28.sl_29_33_2 rfl rfl) ?_
    by_cases c3 : j < ((n : Nat) : Int)
    · refine s_y (v := .bool true) rfl (y_lss rfl rfl (decide_eq_true c3)) ?_
      refine s_nil ?_
      refine W_if_t (by decide) rfl ?_
      refine W_skip ?_
      refine W_seq ?_
      refine W_block ?_
      refine W_seq ?_
      refine W_seq ?_
      refine W_region (by kernel_rfl) ?_
      refine s_y (v := .slice a n c) rfl (y_move rfl) ?_
      refine s_y (v := .int .i64 j) rfl (y_move rfl) ?_
      refine s_y (v := .pointer (some (sat a ((j).toNat * 2)))) rfl (y_idx T28.sl_29_33_2 rfl rfl ((B.r 0 rfl).addr (by omega)) (by omega) (by omega)) ?_
      refine s_y (v := .pointer (some (sat a ((j).toNat * 2)))) rfl (y_fldEl (j := (j).toNat * 2) T28.fld_33_0_0 rfl ((B.r 0 rfl).addr (by omega))) ?_
      have hR4 := Rd.atP (B.r 0 rfl) j (by omega) (by omega)
      refine s_y (v := .int .i64 ((gl (pmarks k n) j).1)) rfl (y_load T28.one_2 rfl (hR4.cell (i := 0) rfl)) ?_
      refine s_y (v := .int .i64 (k + 2 * j)) rfl (y_move rfl) ?_
      have hk5 : ¬ (((gl (pmarks k n) j).1) ≠ (k + 2 * j)) := (by have hz := pmarks_gl (k := k) (n := n) (i := j) (by omega) (by omega); rw [hz]; simp only []; omega)
      refine s_y (v := .bool false) rfl (y_neq rfl rfl (decide_eq_false hk5)) ?_
      refine s_nil ?_
      refine W_if_f (by decide) rfl ?_
      refine W_skip ?_
      refine W_seq ?_
      refine W_region (by kernel_rfl) ?_
      refine s_y (v := .int .i64 (k + 2 * j)) rfl (y_move rfl) ?_
      refine s_y (v := .int .i64 ((k + 2 * j) + 1)) rfl (y_add rfl rfl rfl (by omega)) ?_
      refine s_y (v := .int .i64 ((k + 2 * j) + 1)) rfl (y_assign rfl) ?_
      refine s_nil ?_
      refine W_seq ?_
      refine W_seq ?_
      refine W_region (by kernel_rfl) ?_
      refine s_y (v := .slice a n c) rfl (y_move rfl) ?_
      refine s_y (v := .int .i64 j) rfl (y_move rfl) ?_
      refine s_y (v := .pointer (some (sat a ((j).toNat * 2)))) rfl (y_idx T28.sl_29_33_2 rfl rfl ((B.r 0 rfl).addr (by omega)) (by omega) (by omega)) ?_
      refine s_y (v := .pointer (some (sat a ((j).toNat * 2 + 1)))) rfl (y_fldEl (j := (j).toNat * 2) T28.fld_33_1_1 rfl ((B.r 0 rfl).addr (by omega))) ?_
      have hR6 := Rd.atP (B.r 0 rfl) j (by omega) (by omega)
      refine s_y (v := .int .i64 ((gl (pmarks k n) j).2)) rfl (y_load T28.one_2 rfl (hR6.cell (i := 1) rfl)) ?_
      refine s_y (v := .int .i64 ((k + 2 * j) + 1)) rfl (y_move rfl) ?_
      have hk7 : ¬ (((gl (pmarks k n) j).2) ≠ ((k + 2 * j) + 1)) := (by have hz := pmarks_gl (k := k) (n := n) (i := j) (by omega) (by omega); rw [hz]; simp only []; omega)
      refine s_y (v := .bool false) rfl (y_neq rfl rfl (decide_eq_false hk7)) ?_
      refine s_nil ?_
      refine W_if_f (by decide) rfl ?_
      refine W_skip ?_
      refine W_region (by kernel_rfl) ?_
      refine s_y (v := .int .i64 ((k + 2 * j) + 1)) rfl (y_move rfl) ?_
      refine s_y (v := .int .i64 (((k + 2 * j) + 1) + 1)) rfl (y_add rfl rfl rfl (by omega)) ?_
      refine s_y (v := .int .i64 (((k + 2 * j) + 1) + 1)) rfl (y_assign rfl) ?_
      refine s_nil ?_
      refine W_region (by kernel_rfl) ?_
      refine s_y (v := .int .i64 j) rfl (y_move rfl) ?_
      refine s_y (v := .int .i64 (j + 1)) rfl (y_add rfl rfl rfl (by omega)) ?_
      refine s_y (v := .int .i64 (j + 1)) rfl (y_assign rfl) ?_
      refine s_nil ?_
      refine ⟨⟨_, j + 1, Fits.eq ⟨rfl, (by first | rfl | exact congrArg (Value.int .i64) (by omega)), rfl, trivial⟩, B, (by omega), (by omega)⟩, ?_⟩
      show ((n : Int) - (j + 1)).toNat < ((n : Int) - j).toNat
      omega
    · refine s_y (v := .bool false) rfl (y_lss rfl rfl (decide_eq_false c3)) ?_
      refine s_nil ?_
      refine W_if_f (by decide) rfl ?_
      refine W_exit ?_
      refine W_seq ?_
      refine W_region (by kernel_rfl) ?_
      refine s_y (v := .int .i64 (k + 2 * j)) rfl (y_move rfl) ?_
      refine s_y (v := .int .i64 (k + 2 * j)) rfl (y_assign rfl) ?_
      refine s_nil ?_
      refine W_ret ?_
      refine ret1 (v := .int .i64 (k + 2 * j)) rfl rfl rfl ⟨_, rfl, ?_⟩
      exact ⟨congrArg (Value.int .i64) (by omega), B.ext⟩
namespace T4
theorem mx : Try.prog.follows .mixedOrders = true := by kernel_rfl
theorem agg_26_5 : aggB Try.prog 26 5 = true := by kernel_rfl
theorem agg_36_5 : aggB Try.prog 36 5 = true := by kernel_rfl
theorem bool_4 : Try.prog.underlying 4 = some .bool := by kernel_rfl
theorem fn_18 : fnB Try.prog 18 = true := by kernel_rfl
theorem fn_21 : fnB Try.prog 21 = true := by kernel_rfl
theorem fn_22 : fnB Try.prog 22 = true := by kernel_rfl
theorem fn_23 : fnB Try.prog 23 = true := by kernel_rfl
theorem fn_24 : fnB Try.prog 24 = true := by kernel_rfl
theorem fn_25 : fnB Try.prog 25 = true := by kernel_rfl
theorem fn_26 : fnB Try.prog 26 = true := by kernel_rfl
theorem fn_27 : fnB Try.prog 27 = true := by kernel_rfl
theorem fn_28 : fnB Try.prog 28 = true := by kernel_rfl
theorem sz_26_5 : szB Try.prog 26 5 = true := by kernel_rfl
theorem zero_26 : zeroB Try.prog 26 (.agg #[.int .i64 0, .int .i64 0, .bool false, .slice none 0 0, .slice none 0 0]) := by unfold zeroB; kernel_rfl
end T4
set_option maxRecDepth 100000 in
set_option maxHeartbeats 20000000 in
theorem c_FnExactRingAround {wd0 : Int} {hi0 : Int} {wr0 : Bool} {asp0 : Option Addr} {nsp0 : Nat} {csp0 : Nat} {Xsp0 : List Nat} {als0 : Option Addr} {nls0 : Nat} {cls0 : Nat} {Xls0 : List Nat} {i1 : Int} {i2 : Int} {i3 : Int} {w : World} (qsp0 : Rd w kF asp0 nsp0 Xsp0) (qls0 : Rd w kF als0 nls0 Xls0) (gsp0 : nsp0 ≤ 9223372036854775807) (gls0 : nls0 ≤ 9223372036854775807) :
    Calls Try.prog 4 #[.agg #[.int .i64 wd0, .int .i64 hi0, .bool wr0, .slice asp0 nsp0 csp0, .slice als0 nls0 cls0], .int .i64 i1, .int .i64 i2, .int .i64 i3] w (Rt fun v w' => v = .bool true ∧ Ext0 w w') := by
  have hlsp0 := qsp0.len
  have hlls0 := qls0.len
  have B : Bu w no w [.rd kF asp0 nsp0 Xsp0, .rd kF als0 nls0 Xls0] := Bu.ro (All.cons qsp0 (All.cons qls0 All.nil)) rfl
  refine calls_W (n := 111) Try.func4 rfl rfl (Nat.le_of_ble_eq_true rfl) ?_
  refine W_seq ?_
  refine W_region (by kernel_rfl) ?_
  refine s_k rfl (k_boxN (v := .agg #[.int .i64 wd0, .int .i64 hi0, .bool wr0, .slice asp0 nsp0 csp0, .slice als0 nls0 cls0]) (cs := [.int .i64 wd0, .int .i64 hi0, .bool wr0, .slice asp0 nsp0 csp0, .slice als0 nls0 cls0]) rfl rfl (fun b1 w2 hN3 => ?_))
  replace B := B.new1 hN3
  clear hN3
  refine s_y (v := .bool false) rfl (y_assign rfl) ?_
  refine s_nil ?_
  refine W_seq ?_
  refine W_region (by kernel_rfl) ?_
  refine s_y (v := .int .i64 1048576) rfl (y_assign rfl) ?_
  refine s_nil ?_
  refine W_seq ?_
  refine W_region (by kernel_rfl) ?_
  refine s_y (v := .agg #[.int .i64 wd0, .int .i64 hi0, .bool wr0, .slice asp0 nsp0 csp0, .slice als0 nls0 cls0]) rfl (y_loadn (b := b1) (o := 0) (vs := [.int .i64 wd0, .int .i64 hi0, .bool wr0, .slice asp0 nsp0 csp0, .slice als0 nls0 cls0]) T4.agg_36_5 rfl rfl ((B.b 0 rfl).cells (o := 0) rfl)) ?_
  refine s_y (v := .int .i64 1048576) rfl (y_move rfl) ?_
  refine s_k rfl (k_call T4.fn_21 (c_l_szSheet (by omega) (by omega) (by omega) (by omega)) rfl ?_)
  rintro v6 w4 ⟨hv7, e5⟩
  replace B := B.ext0 e5
  clear e5
  by_cases c8 : ((nsp0 : Nat) : Int) + ((nls0 : Nat) : Int) ≤ 1048576
  · obtain rfl : v6 = .int .i64 (1048576 - ((nsp0 : Nat) : Int) - ((nls0 : Nat) : Int)) := hv7.trans (congrArg _ (if_pos c8))
    have hk9 : ¬ (1048576 - ((nsp0 : Nat) : Int) - ((nls0 : Nat) : Int)) < 0 := by omega
    refine s_y (v := .int .i64 (1048576 - ((nsp0 : Nat) : Int) - ((nls0 : Nat) : Int))) rfl (y_assign rfl) ?_
    refine s_nil ?_
    refine W_seq ?_
    refine W_seq ?_
    refine W_region (by kernel_rfl) ?_
    refine s_y (v := .int .i64 (1048576 - ((nsp0 : Nat) : Int) - ((nls0 : Nat) : Int))) rfl (y_move rfl) ?_
    refine s_y (v := .bool false) rfl (y_lss rfl rfl (decide_eq_false hk9)) ?_
    refine s_nil ?_
    refine W_if_f (by decide) rfl ?_
    refine W_skip ?_
    refine W_seq ?_
    refine W_region (by kernel_rfl) ?_
    refine s_y (v := .agg #[.int .i64 wd0, .int .i64 hi0, .bool wr0, .slice asp0 nsp0 csp0, .slice als0 nls0 cls0]) rfl (y_loadn (b := b1) (o := 0) (vs := [.int .i64 wd0, .int .i64 hi0, .bool wr0, .slice asp0 nsp0 csp0, .slice als0 nls0 cls0]) T4.agg_36_5 rfl rfl ((B.b 0 rfl).cells (o := 0) rfl)) ?_
    refine s_k rfl (k_call T4.fn_23 (c_l_toSheet (B.r 1 rfl) (B.r 2 rfl) (by omega) (by omega)) rfl ?_)
    rintro _ w10 ⟨a11, c12, a13, c14, rfl, hN15⟩
    replace B := B.new2 hN15
    clear hN15
    refine s_y (v := .int .i64 i1) rfl (y_move rfl) ?_
    refine s_y (v := .int .i64 i2) rfl (y_move rfl) ?_
    refine s_y (v := .int .i64 i3) rfl (y_move rfl) ?_
    refine s_k rfl (k_call T4.fn_22 (c_s_RingAround ((B.o 0 rfl).rd) ((B.o 1 rfl).rd) (by omega) (by omega)) rfl ?_)
    rintro v18 w16 hx17
    by_cases c19 : ringB wd0 hi0 Xsp0 Xls0 i1 i2 i3 = true
    · have hb20 := ringB_b c19
      obtain ⟨a21, c22, rfl, hN23⟩ := (hx17.resolve_right (fun hz => by rw [c19] at hz; cases hz.1)).2
      clear hx17
      replace B := B.new1 hN23
      clear hN23
      refine s_y (v := .tuple #[.slice a21 (List.length (ringL wd0 hi0 i1 i2 i3)) c22, .bool true]) rfl (y_move rfl) ?_
      refine s_y (v := .slice a21 (List.length (ringL wd0 hi0 i1 i2 i3)) c22) rfl (y_extract rfl rfl) ?_
      refine s_y (v := .bool true) rfl (y_extract rfl rfl) ?_
      refine s_y (v := .slice a21 (List.length (ringL wd0 hi0 i1 i2 i3)) c22) rfl (y_assign rfl) ?_
      refine s_y (v := .bool true) rfl (y_assign rfl) ?_
      refine s_nil ?_
      refine W_seq ?_
      refine W_region (by kernel_rfl) ?_
      refine s_y (v := .agg #[.int .i64 wd0, .int .i64 hi0, .bool wr0, .slice asp0 nsp0 csp0, .slice als0 nls0 cls0]) rfl (y_loadn (b := b1) (o := 0) (vs := [.int .i64 wd0, .int .i64 hi0, .bool wr0, .slice asp0 nsp0 csp0, .slice als0 nls0 cls0]) T4.agg_36_5 rfl rfl ((B.b 3 rfl).cells (o := 0) rfl)) ?_
      refine s_k rfl (k_call T4.fn_23 (c_l_toSheet (B.r 4 rfl) (B.r 5 rfl) (by omega) (by omega)) rfl ?_)
      rintro _ w24 ⟨a25, c26, a27, c28, rfl, hN29⟩
      replace B := B.new2 hN29
      clear hN29
      refine s_k rfl (k_allocN (z := (.agg #[.int .i64 0, .int .i64 0, .bool false, .slice none 0 0, .slice none 0 0])) (cs := [.int .i64 0, .int .i64 0, .bool false, .slice none 0 0, .slice none 0 0]) T4.zero_26 rfl (fun b30 w31 hN32 => ?_))
      replace B := B.new1 hN32
      clear hN32
      refine s_k0 rfl (k_stB (v := .agg #[.int .i64 wd0, .int .i64 hi0, .bool wr0, .slice a25 nsp0 c26, .slice a27 nls0 c28]) (n := 5) (cs' := [.int .i64 wd0, .int .i64 hi0, .bool wr0, .slice a25 nsp0 c26, .slice a27 nls0 c28]) T4.sz_26_5 rfl rfl rfl (B.b 0 rfl) (by simp [Value.cells, Value.oneCell']) (Nat.le_of_ble_eq_true rfl) rfl (fun w33 hU34 => ?_))
      replace B : Bu w no w33 [.blk b30 [.int .i64 wd0, .int .i64 hi0, .bool wr0, .slice a25 nsp0 c26, .slice a27 nls0 c28] 26, .ow kF a25 nsp0 c26 56 Xsp0, .ow kF a27 nls0 c28 56 Xls0, .ow kP a21 (List.length (ringL wd0 hi0 i1 i2 i3)) c22 33 (ringL wd0 hi0 i1 i2 i3), .ow kF a11 nsp0 c12 56 Xsp0, .ow kF a13 nls0 c14 56 Xls0, .blk b1 [.int .i64 wd0, .int .i64 hi0, .bool wr0, .slice asp0 nsp0 csp0, .slice als0 nls0 cls0] 36, .rd kF asp0 nsp0 Xsp0, .rd kF als0 nls0 Xls0] := B.upd [0] rfl hU34
      clear hU34
      refine s_nil ?_
      refine W_seq ?_
      refine W_region (by kernel_rfl) ?_
      refine s_y (v := .agg #[.int .i64 wd0, .int .i64 hi0, .bool wr0, .slice a25 nsp0 c26, .slice a27 nls0 c28]) rfl (y_loadn (b := b30) (o := 0) (vs := [.int .i64 wd0, .int .i64 hi0, .bool wr0, .slice a25 nsp0 c26, .slice a27 nls0 c28]) T4.agg_26_5 rfl rfl ((B.b 0 rfl).cells (o := 0) rfl)) ?_
      refine s_y (v := .int .i64 i1) rfl (y_move rfl) ?_
      refine s_y (v := .int .i64 i2) rfl (y_move rfl) ?_
      refine s_y (v := .int .i64 i3) rfl (y_move rfl) ?_
      refine s_k rfl (k_call T4.fn_18 (c_i_RingAround ((B.o 1 rfl).rd) ((B.o 2 rfl).rd) (by omega) (by omega)) rfl ?_)
      rintro v37 w35 hx36
      obtain ⟨a38, c39, rfl, hN40⟩ := (hx36.resolve_right (fun hz => by rw [c19] at hz; cases hz.1)).2
      clear hx36
      replace B := B.new1 hN40
      clear hN40
      refine s_y (v := .tuple #[.slice a38 (List.length (ringL wd0 hi0 i1 i2 i3)) c39, .bool true]) rfl (y_move rfl) ?_
      refine s_y (v := .slice a38 (List.length (ringL wd0 hi0 i1 i2 i3)) c39) rfl (y_extract rfl rfl) ?_
      refine s_y (v := .bool true) rfl (y_extract rfl rfl) ?_
      refine s_y (v := .slice a38 (List.length (ringL wd0 hi0 i1 i2 i3)) c39) rfl (y_assign rfl) ?_
      refine s_y (v := .bool true) rfl (y_assign rfl) ?_
      refine s_nil ?_
      refine W_seq ?_
      refine W_seq ?_
      refine W_region (by kernel_rfl) ?_
      refine s_y (v := .slice a38 (List.length (ringL wd0 hi0 i1 i2 i3)) c39) rfl (y_move rfl) ?_
      refine s_y (v := .slice a21 (List.length (ringL wd0 hi0 i1 i2 i3)) c22) rfl (y_move rfl) ?_
      refine s_k rfl (k_call T4.fn_24 (c_l_eqProbeS ((B.o 0 rfl).rd) ((B.o 4 rfl).rd) (by omega)) rfl ?_)
      rintro _ w41 ⟨rfl, e42⟩
      replace B := B.ext0 e42
      clear e42
      refine s_y (v := .bool false) rfl (y_not rfl rfl) ?_
      refine s_y (v := .bool false) rfl (y_move rfl) ?_
      refine s_y (v := .bool true) rfl (y_move rfl) ?_
      refine s_y (v := .bool true) rfl (y_move rfl) ?_
      refine s_y (v := .bool false) rfl (y_bneq T4.bool_4 rfl rfl rfl) ?_
      refine s_y (v := .bool false) rfl (y_pick_f rfl rfl) ?_
      refine s_nil ?_
      refine W_if_f (by decide) rfl ?_
      refine W_skip ?_
      refine W_seq ?_
      refine W_seq ?_
      have B0_47 := B
      refine W_draw (no) T4.mx (by kernel_rfl) (fun w45 e46 => ?_)
      have R48 := Ext.refl (no) w41
      replace R48 := R48.trans (Ext0.any e46)
      replace B := B.ext0 e46
      clear e46
      refine m_y (v := .agg #[.int .i64 wd0, .int .i64 hi0, .bool wr0, .slice a25 nsp0 c26, .slice a27 nls0 c28]) 0 rfl (by kernel_rfl) rfl rfl (fun w' e' => y_loadn (b := b30) (o := 0) (vs := [.int .i64 wd0, .int .i64 hi0, .bool wr0, .slice a25 nsp0 c26, .slice a27 nls0 c28]) T4.agg_26_5 rfl rfl (((B0_47.b 1 rfl).ext0 e').cells (o := 0) rfl)) ?_
      refine m_y (v := .agg #[.int .i64 wd0, .int .i64 hi0, .bool wr0, .slice asp0 nsp0 csp0, .slice als0 nls0 cls0]) 1 rfl (by kernel_rfl) rfl rfl (fun w' e' => y_loadn (b := b1) (o := 0) (vs := [.int .i64 wd0, .int .i64 hi0, .bool wr0, .slice asp0 nsp0 csp0, .slice als0 nls0 cls0]) T4.agg_36_5 rfl rfl (((B0_47.b 7 rfl).ext0 e').cells (o := 0) rfl)) ?_
      refine m_k 2 [3, 4] rfl (by kernel_rfl) rfl rfl (fun w49 e50 => ?_)
      replace R48 := R48.trans (Ext0.any e50)
      replace B := B.ext0 e50
      clear e50
      refine k_call T4.fn_23 (c_l_toSheet (B.r 8 rfl) (B.r 9 rfl) (by omega) (by omega)) rfl ?_
      rintro _ w51 ⟨a52, c53, a54, c55, rfl, hN56⟩
      replace R48 := R48.trans (Ext0.any hN56.ext)
      replace B := B.new2 hN56
      clear hN56
      refine ⟨fun _ => R48, ?_⟩
      refine m_k 3 [4] rfl (by kernel_rfl) rfl rfl (fun w57 e58 => ?_)
      replace R48 := R48.trans (Ext0.any e58)
      replace B := B.ext0 e58
      clear e58
      refine k_call T4.fn_25 (c_l_eqSheet ((B.o 4 rfl).rd) ((B.o 5 rfl).rd) ((B.o 0 rfl).rd) ((B.o 1 rfl).rd) (by omega) (by omega)) rfl ?_
      rintro _ w59 ⟨rfl, e60⟩
      replace R48 := R48.trans (Ext0.any e60)
      replace B := B.ext0 e60
      clear e60
      refine ⟨fun _ => R48, ?_⟩
      refine m_y (v := .bool false) 4 rfl (by kernel_rfl) rfl rfl (fun w' e' => y_not rfl rfl) ?_
      refine m_done (by kernel_rfl) (fun w61 e62 => ?_)
      replace B := B.ext0 e62
      clear e62
      clear B0_47 R48
      refine W_if_f (by decide) rfl ?_
      refine W_skip ?_
      refine W_seq ?_
      refine W_region (by kernel_rfl) ?_
      refine s_y (v := .int .i64 1) rfl (y_assign rfl) ?_
      refine s_nil ?_
      refine W_seq ?_
      refine W_region (by kernel_rfl) ?_
      refine s_y (v := .agg #[.int .i64 wd0, .int .i64 hi0, .bool wr0, .slice a25 nsp0 c26, .slice a27 nls0 c28]) rfl (y_loadn (b := b30) (o := 0) (vs := [.int .i64 wd0, .int .i64 hi0, .bool wr0, .slice a25 nsp0 c26, .slice a27 nls0 c28]) T4.agg_26_5 rfl rfl ((B.b 3 rfl).cells (o := 0) rfl)) ?_
      refine s_y (v := .int .i64 1) rfl (y_move rfl) ?_
      refine s_k rfl (k_call T4.fn_26 (c_l_markSheet (by omega) (by omega) (by omega) (by omega) (B.all.pick [4, 5] rfl) (B.pw.pick [4, 5] rfl rfl)) rfl ?_)
      rintro _ w63 ⟨rfl, hU64⟩
      replace B : Bu w no w63 [.ow kF a25 nsp0 c26 56 (marks 1 nsp0), .ow kF a27 nls0 c28 56 (marks (1 + ((nsp0 : Nat) : Int)) nls0), .ow kF a52 nsp0 c53 56 Xsp0, .ow kF a54 nls0 c55 56 Xls0, .ow kP a38 (List.length (ringL wd0 hi0 i1 i2 i3)) c39 33 (ringL wd0 hi0 i1 i2 i3), .blk b30 [.int .i64 wd0, .int .i64 hi0, .bool wr0, .slice a25 nsp0 c26, .slice a27 nls0 c28] 26, .ow kP a21 (List.length (ringL wd0 hi0 i1 i2 i3)) c22 33 (ringL wd0 hi0 i1 i2 i3), .ow kF a11 nsp0 c12 56 Xsp0, .ow kF a13 nls0 c14 56 Xls0, .blk b1 [.int .i64 wd0, .int .i64 hi0, .bool wr0, .slice asp0 nsp0 csp0, .slice als0 nls0 cls0] 36, .rd kF asp0 nsp0 Xsp0, .rd kF als0 nls0 Xls0] := B.upd [4, 5] rfl hU64
      clear hU64
      refine s_y (v := .int .i64 (1 + ((nsp0 : Nat) : Int) + ((nls0 : Nat) : Int))) rfl (y_assign rfl) ?_
      refine s_nil ?_
      refine W_seq ?_
      refine W_seq ?_
      refine W_region (by kernel_rfl) ?_
      refine s_y (v := .int .i64 (1 + ((nsp0 : Nat) : Int) + ((nls0 : Nat) : Int))) rfl (y_move rfl) ?_
      have hk65 : ¬ ((1 + ((nsp0 : Nat) : Int) + ((nls0 : Nat) : Int)) < 0) := (by omega)
      refine s_y (v := .bool false) rfl (y_lss rfl rfl (decide_eq_false hk65)) ?_
      refine s_y (v := .bool false) rfl (y_move rfl) ?_
      refine s_y (v := .slice a38 (List.length (ringL wd0 hi0 i1 i2 i3)) c39) rfl (y_move rfl) ?_
      refine s_y (v := .slice a21 (List.length (ringL wd0 hi0 i1 i2 i3)) c22) rfl (y_move rfl) ?_
      refine s_k rfl (k_call T4.fn_24 (c_l_eqProbeS ((B.o 4 rfl).rd) ((B.o 6 rfl).rd) (by omega)) rfl ?_)
      rintro _ w66 ⟨rfl, e67⟩
      replace B := B.ext0 e67
      clear e67
      refine s_y (v := .bool false) rfl (y_not rfl rfl) ?_
      refine s_y (v := .bool false) rfl (y_pick_f rfl rfl) ?_
      refine s_y (v := .bool false) rfl (y_move rfl) ?_
      refine s_y (v := .bool true) rfl (y_move rfl) ?_
      refine s_y (v := .bool true) rfl (y_move rfl) ?_
      refine s_y (v := .bool false) rfl (y_bneq T4.bool_4 rfl rfl rfl) ?_
      refine s_y (v := .bool false) rfl (y_pick_f rfl rfl) ?_
      refine s_nil ?_
      refine W_if_f (by decide) rfl ?_
      refine W_skip ?_
      refine W_seq ?_
      refine W_region (by kernel_rfl) ?_
      refine s_y (v := .int .i64 1) rfl (y_assign rfl) ?_
      refine s_nil ?_
      refine W_seq ?_
      refine W_region (by kernel_rfl) ?_
      refine s_y (v := .slice a38 (List.length (ringL wd0 hi0 i1 i2 i3)) c39) rfl (y_move rfl) ?_
      refine s_y (v := .int .i64 1) rfl (y_move rfl) ?_
      refine s_k rfl (k_call T4.fn_27 (c_l_markProbeS (by omega) (by omega) (by omega) (B.all.pick [4] rfl) (B.pw.pick [4] rfl rfl)) rfl ?_)
      rintro _ w68 ⟨rfl, hU69⟩
      replace B : Bu w no w68 [.ow kP a38 (List.length (ringL wd0 hi0 i1 i2 i3)) c39 33 (pmarks 1 (List.length (ringL wd0 hi0 i1 i2 i3))), .ow kF a25 nsp0 c26 56 (marks 1 nsp0), .ow kF a27 nls0 c28 56 (marks (1 + ((nsp0 : Nat) : Int)) nls0), .ow kF a52 nsp0 c53 56 Xsp0, .ow kF a54 nls0 c55 56 Xls0, .blk b30 [.int .i64 wd0, .int .i64 hi0, .bool wr0, .slice a25 nsp0 c26, .slice a27 nls0 c28] 26, .ow kP a21 (List.length (ringL wd0 hi0 i1 i2 i3)) c22 33 (ringL wd0 hi0 i1 i2 i3), .ow kF a11 nsp0 c12 56 Xsp0, .ow kF a13 nls0 c14 56 Xls0, .blk b1 [.int .i64 wd0, .int .i64 hi0, .bool wr0, .slice asp0 nsp0 csp0, .slice als0 nls0 cls0] 36, .rd kF asp0 nsp0 Xsp0, .rd kF als0 nls0 Xls0] := B.upd [4] rfl hU69
      clear hU69
      refine s_y (v := .int .i64 (1 + 2 * ((List.length (ringL wd0 hi0 i1 i2 i3) : Nat) : Int))) rfl (y_assign rfl) ?_
      refine s_nil ?_
      refine W_seq ?_
      refine W_region (by kernel_rfl) ?_
      refine s_y (v := .int .i64 1) rfl (y_assign rfl) ?_
      refine s_nil ?_
      refine W_seq ?_
      refine W_region (by kernel_rfl) ?_
      refine s_y (v := .slice a38 (List.length (ringL wd0 hi0 i1 i2 i3)) c39) rfl (y_move rfl) ?_
      refine s_y (v := .int .i64 1) rfl (y_move rfl) ?_
      refine s_k rfl (k_call T4.fn_28 (c_l_heldProbeS ((B.o 0 rfl).rd) (by omega) (by omega) (by omega)) rfl ?_)
      rintro _ w70 ⟨rfl, e71⟩
      replace B := B.ext0 e71
      clear e71
      refine s_y (v := .int .i64 (1 + 2 * ((List.length (ringL wd0 hi0 i1 i2 i3) : Nat) : Int))) rfl (y_assign rfl) ?_
      refine s_nil ?_
      refine W_seq ?_
      refine W_seq ?_
      refine W_region (by kernel_rfl) ?_
      refine s_y (v := .int .i64 (1 + 2 * ((List.length (ringL wd0 hi0 i1 i2 i3) : Nat) : Int))) rfl (y_move rfl) ?_
      have hk72 : ¬ ((1 + 2 * ((List.length (ringL wd0 hi0 i1 i2 i3) : Nat) : Int)) < 0) := (by omega)
      refine s_y (v := .bool false) rfl (y_lss rfl rfl (decide_eq_false hk72)) ?_
      refine s_nil ?_
      refine W_if_f (by decide) rfl ?_
      refine W_skip ?_
      refine W_seq ?_
      refine W_seq ?_
      refine W_region (by kernel_rfl) ?_
      refine s_y (v := .int .i64 (1 + 2 * ((List.length (ringL wd0 hi0 i1 i2 i3) : Nat) : Int))) rfl (y_move rfl) ?_
      refine s_y (v := .int .i64 (1 + 2 * ((List.length (ringL wd0 hi0 i1 i2 i3) : Nat) : Int))) rfl (y_move rfl) ?_
      refine s_y (v := .bool false) rfl (y_neq rfl rfl (decide_eq_false (fun hq => hq rfl))) ?_
      refine s_nil ?_
      refine W_if_f (by decide) rfl ?_
      refine W_skip ?_
      refine W_seq ?_
      refine W_region (by kernel_rfl) ?_
      refine s_y (v := .agg #[.int .i64 wd0, .int .i64 hi0, .bool wr0, .slice asp0 nsp0 csp0, .slice als0 nls0 cls0]) rfl (y_loadn (b := b1) (o := 0) (vs := [.int .i64 wd0, .int .i64 hi0, .bool wr0, .slice asp0 nsp0 csp0, .slice als0 nls0 cls0]) T4.agg_36_5 rfl rfl ((B.b 9 rfl).cells (o := 0) rfl)) ?_
      refine s_k rfl (k_call T4.fn_23 (c_l_toSheet (B.r 10 rfl) (B.r 11 rfl) (by omega) (by omega)) rfl ?_)
      rintro _ w73 ⟨a74, c75, a76, c77, rfl, hN78⟩
      replace B := B.new2 hN78
      clear hN78
      refine s_y (v := .int .i64 i1) rfl (y_move rfl) ?_
      refine s_y (v := .int .i64 i2) rfl (y_move rfl) ?_
      refine s_y (v := .int .i64 i3) rfl (y_move rfl) ?_
      refine s_k rfl (k_call T4.fn_18 (c_i_RingAround ((B.o 0 rfl).rd) ((B.o 1 rfl).rd) (by omega) (by omega)) rfl ?_)
      rintro v81 w79 hx80
      obtain ⟨a82, c83, rfl, hN84⟩ := (hx80.resolve_right (fun hz => by rw [c19] at hz; cases hz.1)).2
      clear hx80
      replace B := B.new1 hN84
      clear hN84
      refine s_y (v := .tuple #[.slice a82 (List.length (ringL wd0 hi0 i1 i2 i3)) c83, .bool true]) rfl (y_move rfl) ?_
      refine s_y (v := .slice a82 (List.length (ringL wd0 hi0 i1 i2 i3)) c83) rfl (y_extract rfl rfl) ?_
      refine s_y (v := .bool true) rfl (y_extract rfl rfl) ?_
      refine s_y (v := .slice a82 (List.length (ringL wd0 hi0 i1 i2 i3)) c83) rfl (y_assign rfl) ?_
      refine s_y (v := .bool true) rfl (y_assign rfl) ?_
      refine s_nil ?_
      refine W_seq ?_
      refine W_seq ?_
      refine W_region (by kernel_rfl) ?_
      refine s_y (v := .slice a82 (List.length (ringL wd0 hi0 i1 i2 i3)) c83) rfl (y_move rfl) ?_
      refine s_y (v := .slice a21 (List.length (ringL wd0 hi0 i1 i2 i3)) c22) rfl (y_move rfl) ?_
      refine s_k rfl (k_call T4.fn_24 (c_l_eqProbeS ((B.o 0 rfl).rd) ((B.o 9 rfl).rd) (by omega)) rfl ?_)
      rintro _ w85 ⟨rfl, e86⟩
      replace B := B.ext0 e86
      clear e86
      refine s_y (v := .bool false) rfl (y_not rfl rfl) ?_
      refine s_y (v := .bool false) rfl (y_move rfl) ?_
      refine s_y (v := .bool true) rfl (y_move rfl) ?_
      refine s_y (v := .bool true) rfl (y_move rfl) ?_
      refine s_y (v := .bool false) rfl (y_bneq T4.bool_4 rfl rfl rfl) ?_
      refine s_y (v := .bool false) rfl (y_pick_f rfl rfl) ?_
      refine s_nil ?_
      refine W_if_f (by decide) rfl ?_
      refine W_skip ?_
      refine W_seq ?_
      refine W_region (by kernel_rfl) ?_
      refine s_y (v := .int .i64 1) rfl (y_assign rfl) ?_
      refine s_nil ?_
      refine W_seq ?_
      refine W_region (by kernel_rfl) ?_
      refine s_y (v := .slice a38 (List.length (ringL wd0 hi0 i1 i2 i3)) c39) rfl (y_move rfl) ?_
      refine s_y (v := .int .i64 1) rfl (y_move rfl) ?_
      refine s_k rfl (k_call T4.fn_28 (c_l_heldProbeS ((B.o 3 rfl).rd) (by omega) (by omega) (by omega)) rfl ?_)
      rintro _ w87 ⟨rfl, e88⟩
      replace B := B.ext0 e88
      clear e88
      refine s_y (v := .int .i64 (1 + 2 * ((List.length (ringL wd0 hi0 i1 i2 i3) : Nat) : Int))) rfl (y_assign rfl) ?_
      refine s_nil ?_
      refine W_seq ?_
      refine W_seq ?_
      refine W_region (by kernel_rfl) ?_
      refine s_y (v := .int .i64 (1 + 2 * ((List.length (ringL wd0 hi0 i1 i2 i3) : Nat) : Int))) rfl (y_move rfl) ?_
      refine s_y (v := .bool false) rfl (y_lss rfl rfl (decide_eq_false hk72)) ?_
      refine s_nil ?_
      refine W_if_f (by decide) rfl ?_
      refine W_skip ?_
      refine W_seq ?_
      refine W_seq ?_
      refine W_region (by kernel_rfl) ?_
      refine s_y (v := .int .i64 (1 + 2 * ((List.length (ringL wd0 hi0 i1 i2 i3) : Nat) : Int))) rfl (y_move rfl) ?_
      refine s_y (v := .int .i64 (1 + 2 * ((List.length (ringL wd0 hi0 i1 i2 i3) : Nat) : Int))) rfl (y_move rfl) ?_
      refine s_y (v := .bool false) rfl (y_neq rfl rfl (decide_eq_false (fun hq => hq rfl))) ?_
      refine s_nil ?_
      refine W_if_f (by decide) rfl ?_
      refine W_skip ?_
      refine W_seq ?_
      refine W_region (by kernel_rfl) ?_
      refine s_y (v := .bool true) rfl (y_assign rfl) ?_
      refine s_nil ?_
      refine W_ret ?_
      refine ret1 (v := .bool true) rfl rfl rfl ⟨_, rfl, ?_⟩
      exact ⟨rfl, B.ext⟩
    · obtain ⟨_, rfl, e89⟩ := hx17.resolve_left (fun hz => c19 hz.1)
      clear hx17
      replace B := B.ext0 e89
      clear e89
      refine s_y (v := .tuple #[.slice none 0 0, .bool false]) rfl (y_move rfl) ?_
      refine s_y (v := .slice none 0 0) rfl (y_extract rfl rfl) ?_
      refine s_y (v := .bool false) rfl (y_extract rfl rfl) ?_
      refine s_y (v := .slice none 0 0) rfl (y_assign rfl) ?_
      refine s_y (v := .bool false) rfl (y_assign rfl) ?_
      refine s_nil ?_
      refine W_seq ?_
      refine W_region (by kernel_rfl) ?_
      refine s_y (v := .agg #[.int .i64 wd0, .int .i64 hi0, .bool wr0, .slice asp0 nsp0 csp0, .slice als0 nls0 cls0]) rfl (y_loadn (b := b1) (o := 0) (vs := [.int .i64 wd0, .int .i64 hi0, .bool wr0, .slice asp0 nsp0 csp0, .slice als0 nls0 cls0]) T4.agg_36_5 rfl rfl ((B.b 2 rfl).cells (o := 0) rfl)) ?_
      refine s_k rfl (k_call T4.fn_23 (c_l_toSheet (B.r 3 rfl) (B.r 4 rfl) (by omega) (by omega)) rfl ?_)
      rintro _ w90 ⟨a91, c92, a93, c94, rfl, hN95⟩
      replace B := B.new2 hN95
      clear hN95
      refine s_k rfl (k_allocN (z := (.agg #[.int .i64 0, .int .i64 0, .bool false, .slice none 0 0, .slice none 0 0])) (cs := [.int .i64 0, .int .i64 0, .bool false, .slice none 0 0, .slice none 0 0]) T4.zero_26 rfl (fun b96 w97 hN98 => ?_))
      replace B := B.new1 hN98
      clear hN98
      refine s_k0 rfl (k_stB (v := .agg #[.int .i64 wd0, .int .i64 hi0, .bool wr0, .slice a91 nsp0 c92, .slice a93 nls0 c94]) (n := 5) (cs' := [.int .i64 wd0, .int .i64 hi0, .bool wr0, .slice a91 nsp0 c92, .slice a93 nls0 c94]) T4.sz_26_5 rfl rfl rfl (B.b 0 rfl) (by simp [Value.cells, Value.oneCell']) (Nat.le_of_ble_eq_true rfl) rfl (fun w99 hU100 => ?_))
      replace B : Bu w no w99 [.blk b96 [.int .i64 wd0, .int .i64 hi0, .bool wr0, .slice a91 nsp0 c92, .slice a93 nls0 c94] 26, .ow kF a91 nsp0 c92 56 Xsp0, .ow kF a93 nls0 c94 56 Xls0, .ow kF a11 nsp0 c12 56 Xsp0, .ow kF a13 nls0 c14 56 Xls0, .blk b1 [.int .i64 wd0, .int .i64 hi0, .bool wr0, .slice asp0 nsp0 csp0, .slice als0 nls0 cls0] 36, .rd kF asp0 nsp0 Xsp0, .rd kF als0 nls0 Xls0] := B.upd [0] rfl hU100
      clear hU100
      refine s_nil ?_
      refine W_seq ?_
      refine W_region (by kernel_rfl) ?_
      refine s_y (v := .agg #[.int .i64 wd0, .int .i64 hi0, .bool wr0, .slice a91 nsp0 c92, .slice a93 nls0 c94]) rfl (y_loadn (b := b96) (o := 0) (vs := [.int .i64 wd0, .int .i64 hi0, .bool wr0, .slice a91 nsp0 c92, .slice a93 nls0 c94]) T4.agg_26_5 rfl rfl ((B.b 0 rfl).cells (o := 0) rfl)) ?_
      refine s_y (v := .int .i64 i1) rfl (y_move rfl) ?_
      refine s_y (v := .int .i64 i2) rfl (y_move rfl) ?_
      refine s_y (v := .int .i64 i3) rfl (y_move rfl) ?_
      refine s_k rfl (k_call T4.fn_18 (c_i_RingAround ((B.o 1 rfl).rd) ((B.o 2 rfl).rd) (by omega) (by omega)) rfl ?_)
      rintro v103 w101 hx102
      obtain ⟨_, rfl, e104⟩ := hx102.resolve_left (fun hz => c19 hz.1)
      clear hx102
      replace B := B.ext0 e104
      clear e104
      refine s_y (v := .tuple #[.slice none 0 0, .bool false]) rfl (y_move rfl) ?_
      refine s_y (v := .slice none 0 0) rfl (y_extract rfl rfl) ?_
      refine s_y (v := .bool false) rfl (y_extract rfl rfl) ?_
      refine s_y (v := .slice none 0 0) rfl (y_assign rfl) ?_
      refine s_y (v := .bool false) rfl (y_assign rfl) ?_
      refine s_nil ?_
      refine W_seq ?_
      refine W_seq ?_
      refine W_region (by kernel_rfl) ?_
      refine s_y (v := .slice none 0 0) rfl (y_move rfl) ?_
      refine s_y (v := .slice none 0 0) rfl (y_move rfl) ?_
      refine s_k rfl (k_call T4.fn_24 (c_l_eqProbeS (Rd.nil _ kP none) (Rd.nil _ kP none) (by omega)) rfl ?_)
      rintro _ w105 ⟨rfl, e106⟩
      replace B := B.ext0 e106
      clear e106
      refine s_y (v := .bool false) rfl (y_not rfl rfl) ?_
      refine s_y (v := .bool false) rfl (y_move rfl) ?_
      refine s_y (v := .bool false) rfl (y_move rfl) ?_
      refine s_y (v := .bool false) rfl (y_move rfl) ?_
      refine s_y (v := .bool false) rfl (y_bneq T4.bool_4 rfl rfl rfl) ?_
      refine s_y (v := .bool false) rfl (y_pick_f rfl rfl) ?_
      refine s_nil ?_
      refine W_if_f (by decide) rfl ?_
      refine W_skip ?_
      refine W_seq ?_
      refine W_seq ?_
      have B0_111 := B
      refine W_draw (no) T4.mx (by kernel_rfl) (fun w109 e110 => ?_)
      have R112 := Ext.refl (no) w105
      replace R112 := R112.trans (Ext0.any e110)
      replace B := B.ext0 e110
      clear e110
      refine m_y (v := .agg #[.int .i64 wd0, .int .i64 hi0, .bool wr0, .slice a91 nsp0 c92, .slice a93 nls0 c94]) 0 rfl (by kernel_rfl) rfl rfl (fun w' e' => y_loadn (b := b96) (o := 0) (vs := [.int .i64 wd0, .int .i64 hi0, .bool wr0, .slice a91 nsp0 c92, .slice a93 nls0 c94]) T4.agg_26_5 rfl rfl (((B0_111.b 0 rfl).ext0 e').cells (o := 0) rfl)) ?_
      refine m_y (v := .agg #[.int .i64 wd0, .int .i64 hi0, .bool wr0, .slice asp0 nsp0 csp0, .slice als0 nls0 cls0]) 1 rfl (by kernel_rfl) rfl rfl (fun w' e' => y_loadn (b := b1) (o := 0) (vs := [.int .i64 wd0, .int .i64 hi0, .bool wr0, .slice asp0 nsp0 csp0, .slice als0 nls0 cls0]) T4.agg_36_5 rfl rfl (((B0_111.b 5 rfl).ext0 e').cells (o := 0) rfl)) ?_
      refine m_k 2 [3, 4] rfl (by kernel_rfl) rfl rfl (fun w113 e114 => ?_)
      replace R112 := R112.trans (Ext0.any e114)
      replace B := B.ext0 e114
      clear e114
      refine k_call T4.fn_23 (c_l_toSheet (B.r 6 rfl) (B.r 7 rfl) (by omega) (by omega)) rfl ?_
      rintro _ w115 ⟨a116, c117, a118, c119, rfl, hN120⟩
      replace R112 := R112.trans (Ext0.any hN120.ext)
      replace B := B.new2 hN120
      clear hN120
      refine ⟨fun _ => R112, ?_⟩
      refine m_k 3 [4] rfl (by kernel_rfl) rfl rfl (fun w121 e122 => ?_)
      replace R112 := R112.trans (Ext0.any e122)
      replace B := B.ext0 e122
      clear e122
      refine k_call T4.fn_25 (c_l_eqSheet ((B.o 3 rfl).rd) ((B.o 4 rfl).rd) ((B.o 0 rfl).rd) ((B.o 1 rfl).rd) (by omega) (by omega)) rfl ?_
      rintro _ w123 ⟨rfl, e124⟩
      replace R112 := R112.trans (Ext0.any e124)
      replace B := B.ext0 e124
      clear e124
      refine ⟨fun _ => R112, ?_⟩
      refine m_y (v := .bool false) 4 rfl (by kernel_rfl) rfl rfl (fun w' e' => y_not rfl rfl) ?_
      refine m_done (by kernel_rfl) (fun w125 e126 => ?_)
      replace B := B.ext0 e126
      clear e126
      clear B0_111 R112
      refine W_if_f (by decide) rfl ?_
      refine W_skip ?_
      refine W_seq ?_
      refine W_region (by kernel_rfl) ?_
      refine s_y (v := .int .i64 1) rfl (y_assign rfl) ?_
      refine s_nil ?_
      refine W_seq ?_
      refine W_region (by kernel_rfl) ?_
      refine s_y (v := .agg #[.int .i64 wd0, .int .i64 hi0, .bool wr0, .slice a91 nsp0 c92, .slice a93 nls0 c94]) rfl (y_loadn (b := b96) (o := 0) (vs := [.int .i64 wd0, .int .i64 hi0, .bool wr0, .slice a91 nsp0 c92, .slice a93 nls0 c94]) T4.agg_26_5 rfl rfl ((B.b 2 rfl).cells (o := 0) rfl)) ?_
      refine s_y (v := .int .i64 1) rfl (y_move rfl) ?_
      refine s_k rfl (k_call T4.fn_26 (c_l_markSheet (by omega) (by omega) (by omega) (by omega) (B.all.pick [3, 4] rfl) (B.pw.pick [3, 4] rfl rfl)) rfl ?_)
      rintro _ w127 ⟨rfl, hU128⟩
      replace B : Bu w no w127 [.ow kF a91 nsp0 c92 56 (marks 1 nsp0), .ow kF a93 nls0 c94 56 (marks (1 + ((nsp0 : Nat) : Int)) nls0), .ow kF a116 nsp0 c117 56 Xsp0, .ow kF a118 nls0 c119 56 Xls0, .blk b96 [.int .i64 wd0, .int .i64 hi0, .bool wr0, .slice a91 nsp0 c92, .slice a93 nls0 c94] 26, .ow kF a11 nsp0 c12 56 Xsp0, .ow kF a13 nls0 c14 56 Xls0, .blk b1 [.int .i64 wd0, .int .i64 hi0, .bool wr0, .slice asp0 nsp0 csp0, .slice als0 nls0 cls0] 36, .rd kF asp0 nsp0 Xsp0, .rd kF als0 nls0 Xls0] := B.upd [3, 4] rfl hU128
      clear hU128
      refine s_y (v := .int .i64 (1 + ((nsp0 : Nat) : Int) + ((nls0 : Nat) : Int))) rfl (y_assign rfl) ?_
      refine s_nil ?_
      refine W_seq ?_
      refine W_seq ?_
      refine W_region (by kernel_rfl) ?_
      refine s_y (v := .int .i64 (1 + ((nsp0 : Nat) : Int) + ((nls0 : Nat) : Int))) rfl (y_move rfl) ?_
      have hk129 : ¬ ((1 + ((nsp0 : Nat) : Int) + ((nls0 : Nat) : Int)) < 0) := (by omega)
      refine s_y (v := .bool false) rfl (y_lss rfl rfl (decide_eq_false hk129)) ?_
      refine s_y (v := .bool false) rfl (y_move rfl) ?_
      refine s_y (v := .slice none 0 0) rfl (y_move rfl) ?_
      refine s_y (v := .slice none 0 0) rfl (y_move rfl) ?_
      refine s_k rfl (k_call T4.fn_24 (c_l_eqProbeS (Rd.nil _ kP none) (Rd.nil _ kP none) (by omega)) rfl ?_)
      rintro _ w130 ⟨rfl, e131⟩
      replace B := B.ext0 e131
      clear e131
      refine s_y (v := .bool false) rfl (y_not rfl rfl) ?_
      refine s_y (v := .bool false) rfl (y_pick_f rfl rfl) ?_
      refine s_y (v := .bool false) rfl (y_move rfl) ?_
      refine s_y (v := .bool false) rfl (y_move rfl) ?_
      refine s_y (v := .bool false) rfl (y_move rfl) ?_
      refine s_y (v := .bool false) rfl (y_bneq T4.bool_4 rfl rfl rfl) ?_
      refine s_y (v := .bool false) rfl (y_pick_f rfl rfl) ?_
      refine s_nil ?_
      refine W_if_f (by decide) rfl ?_
      refine W_skip ?_
      refine W_seq ?_
      refine W_region (by kernel_rfl) ?_
      refine s_y (v := .int .i64 1) rfl (y_assign rfl) ?_
      refine s_nil ?_
      refine W_seq ?_
      refine W_region (by kernel_rfl) ?_
      refine s_y (v := .slice none 0 0) rfl (y_move rfl) ?_
      refine s_y (v := .int .i64 1) rfl (y_move rfl) ?_
      refine s_k rfl (k_call T4.fn_27 (c_l_markProbeS (by decide) (by omega) (by omega) (All.cons (Ow.nil _ kP 33 : Fact.holds _ (.ow kP none 0 0 33 [])) <| All.nil) (Pw.nils (by intro f hf; simp only [List.mem_cons, List.not_mem_nil, or_false] at hf; rcases hf with rfl <;> exact no_none))) rfl ?_)
      rintro _ w132 ⟨rfl, hU133⟩
      replace hU133 := Upd.nils hU133 (by intro f hf; simp only [List.mem_cons, List.not_mem_nil, or_false] at hf; rcases hf with rfl <;> exact no_none)
      replace B := B.ext0 hU133
      clear hU133
      refine s_y (v := .int .i64 (1 + 2 * ((0 : Nat) : Int))) rfl (y_assign rfl) ?_
      refine s_nil ?_
      refine W_seq ?_
      refine W_region (by kernel_rfl) ?_
      refine s_y (v := .int .i64 1) rfl (y_assign rfl) ?_
      refine s_nil ?_
      refine W_seq ?_
      refine W_region (by kernel_rfl) ?_
      refine s_y (v := .slice none 0 0) rfl (y_move rfl) ?_
      refine s_y (v := .int .i64 1) rfl (y_move rfl) ?_
      refine s_k rfl (k_call T4.fn_28 (c_l_heldProbeS (k := 1) (Rd.nil _ kP none : Rd _ kP none 0 (pmarks 1 0)) (by decide) (by omega) (by omega)) rfl ?_)
      rintro _ w134 ⟨rfl, e135⟩
      replace B := B.ext0 e135
      clear e135
      refine s_y (v := .int .i64 (1 + 2 * ((0 : Nat) : Int))) rfl (y_assign rfl) ?_
      refine s_nil ?_
      refine W_seq ?_
      refine W_seq ?_
      refine W_region (by kernel_rfl) ?_
      refine s_y (v := .int .i64 (1 + 2 * ((0 : Nat) : Int))) rfl (y_move rfl) ?_
      have hk136 : ¬ ((1 + 2 * ((0 : Nat) : Int)) < 0) := (by omega)
      refine s_y (v := .bool false) rfl (y_lss rfl rfl (decide_eq_false hk136)) ?_
      refine s_nil ?_
      refine W_if_f (by decide) rfl ?_
      refine W_skip ?_
      refine W_seq ?_
      refine W_seq ?_
      refine W_region (by kernel_rfl) ?_
      refine s_y (v := .int .i64 (1 + 2 * ((0 : Nat) : Int))) rfl (y_move rfl) ?_
      refine s_y (v := .int .i64 (1 + 2 * ((0 : Nat) : Int))) rfl (y_move rfl) ?_
      refine s_y (v := .bool false) rfl (y_neq rfl rfl (decide_eq_false (fun hq => hq rfl))) ?_
      refine s_nil ?_
      refine W_if_f (by decide) rfl ?_
      refine W_skip ?_
      refine W_seq ?_
      refine W_region (by kernel_rfl) ?_
      refine s_y (v := .agg #[.int .i64 wd0, .int .i64 hi0, .bool wr0, .slice asp0 nsp0 csp0, .slice als0 nls0 cls0]) rfl (y_loadn (b := b1) (o := 0) (vs := [.int .i64 wd0, .int .i64 hi0, .bool wr0, .slice asp0 nsp0 csp0, .slice als0 nls0 cls0]) T4.agg_36_5 rfl rfl ((B.b 7 rfl).cells (o := 0) rfl)) ?_
      refine s_k rfl (k_call T4.fn_23 (c_l_toSheet (B.r 8 rfl) (B.r 9 rfl) (by omega) (by omega)) rfl ?_)
      rintro _ w137 ⟨a138, c139, a140, c141, rfl, hN142⟩
      replace B := B.new2 hN142
      clear hN142
      refine s_y (v := .int .i64 i1) rfl (y_move rfl) ?_
      refine s_y (v := .int .i64 i2) rfl (y_move rfl) ?_
      refine s_y (v := .int .i64 i3) rfl (y_move rfl) ?_
      refine s_k rfl (k_call T4.fn_18 (c_i_RingAround ((B.o 0 rfl).rd) ((B.o 1 rfl).rd) (by omega) (by omega)) rfl ?_)
      rintro v145 w143 hx144
      obtain ⟨_, rfl, e146⟩ := hx144.resolve_left (fun hz => c19 hz.1)
      clear hx144
      replace B := B.ext0 e146
      clear e146
      refine s_y (v := .tuple #[.slice none 0 0, .bool false]) rfl (y_move rfl) ?_
      refine s_y (v := .slice none 0 0) rfl (y_extract rfl rfl) ?_
      refine s_y (v := .bool false) rfl (y_extract rfl rfl) ?_
      refine s_y (v := .slice none 0 0) rfl (y_assign rfl) ?_
      refine s_y (v := .bool false) rfl (y_assign rfl) ?_
      refine s_nil ?_
      refine W_seq ?_
      refine W_seq ?_
      refine W_region (by kernel_rfl) ?_
      refine s_y (v := .slice none 0 0) rfl (y_move rfl) ?_
      refine s_y (v := .slice none 0 0) rfl (y_move rfl) ?_
      refine s_k rfl (k_call T4.fn_24 (c_l_eqProbeS (Rd.nil _ kP none) (Rd.nil _ kP none) (by omega)) rfl ?_)
      rintro _ w147 ⟨rfl, e148⟩
      replace B := B.ext0 e148
      clear e148
      refine s_y (v := .bool false) rfl (y_not rfl rfl) ?_
      refine s_y (v := .bool false) rfl (y_move rfl) ?_
      refine s_y (v := .bool false) rfl (y_move rfl) ?_
      refine s_y (v := .bool false) rfl (y_move rfl) ?_
      refine s_y (v := .bool false) rfl (y_bneq T4.bool_4 rfl rfl rfl) ?_
      refine s_y (v := .bool false) rfl (y_pick_f rfl rfl) ?_
      refine s_nil ?_
      refine W_if_f (by decide) rfl ?_
      refine W_skip ?_
      refine W_seq ?_
      refine W_region (by kernel_rfl) ?_
      refine s_y (v := .int .i64 1) rfl (y_assign rfl) ?_
      refine s_nil ?_
      refine W_seq ?_
      refine W_region (by kernel_rfl) ?_
      refine s_y (v := .slice none 0 0) rfl (y_move rfl) ?_
      refine s_y (v := .int .i64 1) rfl (y_move rfl) ?_
      refine s_k rfl (k_call T4.fn_28 (c_l_heldProbeS (k := 1) (Rd.nil _ kP none : Rd _ kP none 0 (pmarks 1 0)) (by decide) (by omega) (by omega)) rfl ?_)
      rintro _ w149 ⟨rfl, e150⟩
      replace B := B.ext0 e150
      clear e150
      refine s_y (v := .int .i64 (1 + 2 * ((0 : Nat) : Int))) rfl (y_assign rfl) ?_
      refine s_nil ?_
      refine W_seq ?_
      refine W_seq ?_
      refine W_region (by kernel_rfl) ?_
      refine s_y (v := .int .i64 (1 + 2 * ((0 : Nat) : Int))) rfl (y_move rfl) ?_
      refine s_y (v := .bool false) rfl (y_lss rfl rfl (decide_eq_false hk136)) ?_
      refine s_nil ?_
      refine W_if_f (by decide) rfl ?_
      refine W_skip ?_
      refine W_seq ?_
      refine W_seq ?_
      refine W_region (by kernel_rfl) ?_
      refine s_y (v := .int .i64 (1 + 2 * ((0 : Nat) : Int))) rfl (y_move rfl) ?_
      refine s_y (v := .int .i64 (1 + 2 * ((0 : Nat) : Int))) rfl (y_move rfl) ?_
      refine s_y (v := .bool false) rfl (y_neq rfl rfl (decide_eq_false (fun hq => hq rfl))) ?_
      refine s_nil ?_
      refine W_if_f (by decide) rfl ?_
      refine W_skip ?_
      refine W_seq ?_
      refine W_region (by kernel_rfl) ?_
      refine s_y (v := .bool true) rfl (y_assign rfl) ?_
      refine s_nil ?_
      refine W_ret ?_
      refine ret1 (v := .bool true) rfl rfl rfl ⟨_, rfl, ?_⟩
      exact ⟨rfl, B.ext⟩
  · obtain rfl : v6 = .int .i64 (-1) := hv7.trans (congrArg _ (if_neg c8))
    refine s_y (v := .int .i64 (-1)) rfl (y_assign rfl) ?_
    refine s_nil ?_
    refine W_seq ?_
    refine W_seq ?_
    refine W_region (by kernel_rfl) ?_
    refine s_y (v := .int .i64 (-1)) rfl (y_move rfl) ?_
    have hk151 : (-1 : Int) < 0 := (by decide)
    refine s_y (v := .bool true) rfl (y_lss rfl rfl (decide_eq_true hk151)) ?_
    refine s_nil ?_
    refine W_if_t (by decide) rfl ?_
    refine W_seq ?_
    refine W_region (by kernel_rfl) ?_
    refine s_y (v := .bool true) rfl (y_assign rfl) ?_
    refine s_nil ?_
    refine W_ret ?_
    refine ret1 (v := .bool true) rfl rfl rfl ⟨_, rfl, ?_⟩
    exact ⟨rfl, B.ext⟩
end Go.Proofs.Ytalkhbnlphefdaa
