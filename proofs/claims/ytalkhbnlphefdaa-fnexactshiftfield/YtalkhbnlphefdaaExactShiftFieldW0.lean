/- Walks: what the functions under FnExactShiftField do (part 1). Printed by a program of this claim's author. -/
import Derived.Test.YtalkhbnlphefdaaBw1
set_option linter.unusedSimpArgs false
set_option linter.unusedVariables false
open Go.Wv
namespace Go.Proofs.Ytalkhbnlphefdaa
open Go.Proofs
namespace T94
theorem mx : Try.prog.follows .mixedOrders = true := by kernel_rfl
theorem fn_70 : fnB Try.prog 70 = true := by kernel_rfl
end T94
set_option maxRecDepth 100000 in
set_option maxHeartbeats 4000000 in
theorem c_s_l02Shift {x : Int} {y : Int} {w : World} :
    Calls Try.prog 94 #[.int .i64 x, .int .i64 y] w (Rt fun v w' => v = .bool (shiftB x y) ∧ Ext0 w w') := by
  have B : Bu w no w [] := Bu.ro All.nil rfl
  refine calls_W (n := 11) Try.func94 rfl rfl (Nat.le_of_ble_eq_true rfl) ?_
  refine W_seq ?_
  refine W_region (by kernel_rfl) ?_
  refine s_y (v := .bool false) rfl (y_assign rfl) ?_
  refine s_nil ?_
  refine W_seq ?_
  refine W_region (by kernel_rfl) ?_
  refine s_y (v := .int .i64 x) rfl (y_move rfl) ?_
  refine s_k rfl (k_call T94.fn_70 (c_s_l00In) rfl ?_)
  rintro v3 w1 ⟨hv4, e2⟩
  replace B := B.ext0 e2
  clear e2
  by_cases c5 : within x (-16) 16 = true
  · have hb6 := within_b c5
    obtain rfl : v3 = .bool true := hv4.trans (congrArg Value.bool c5)
    refine s_y (v := .bool true) rfl (y_move rfl) ?_
    refine s_y (v := .int .i64 y) rfl (y_move rfl) ?_
    refine s_k rfl (k_call T94.fn_70 (c_s_l00In) rfl ?_)
    rintro v9 w7 ⟨hv10, e8⟩
    replace B := B.ext0 e8
    clear e8
    by_cases c11 : within y (-16) 16 = true
    · have hb12 := within_b c11
      obtain rfl : v9 = .bool true := hv10.trans (congrArg Value.bool c11)
      refine s_y (v := .bool true) rfl (y_pick_t rfl rfl) ?_
      refine s_y (v := .bool true) rfl (y_assign rfl) ?_
      refine s_nil ?_
      refine W_ret ?_
      refine ret1 (v := .bool true) rfl rfl rfl ⟨_, rfl, ?_⟩
      exact ⟨congrArg Value.bool (by simp only [shiftB, c5, c11, Bool.and_true, Bool.true_and, Bool.and_false, Bool.false_and, Bool.not_true, Bool.not_false, Bool.or_true, Bool.true_or, Bool.or_false, Bool.false_or]), B.ext⟩
    · obtain rfl : v9 = .bool false := hv10.trans (congrArg Value.bool (Bool.eq_false_iff.2 c11))
      refine s_y (v := .bool false) rfl (y_pick_t rfl rfl) ?_
      refine s_y (v := .bool false) rfl (y_assign rfl) ?_
      refine s_nil ?_
      refine W_ret ?_
      refine ret1 (v := .bool false) rfl rfl rfl ⟨_, rfl, ?_⟩
      exact ⟨congrArg Value.bool (by simp only [shiftB, c5, (Bool.eq_false_iff.2 c11), Bool.and_true, Bool.true_and, Bool.and_false, Bool.false_and, Bool.not_true, Bool.not_false, Bool.or_true, Bool.true_or, Bool.or_false, Bool.false_or]), B.ext⟩
  · obtain rfl : v3 = .bool false := hv4.trans (congrArg Value.bool (Bool.eq_false_iff.2 c5))
    refine s_y (v := .bool false) rfl (y_move rfl) ?_
    refine s_skip rfl ?_
    refine s_skip rfl ?_
    refine s_y (v := .bool false) rfl (y_pick_f rfl rfl) ?_
    refine s_y (v := .bool false) rfl (y_assign rfl) ?_
    refine s_nil ?_
    refine W_ret ?_
    refine ret1 (v := .bool false) rfl rfl rfl ⟨_, rfl, ?_⟩
    exact ⟨congrArg Value.bool (by simp only [shiftB, (Bool.eq_false_iff.2 c5), Bool.and_true, Bool.true_and, Bool.and_false, Bool.false_and, Bool.not_true, Bool.not_false, Bool.or_true, Bool.true_or, Bool.or_false, Bool.false_or]), B.ext⟩
namespace T95
theorem mx : Try.prog.follows .mixedOrders = true := by kernel_rfl
theorem one_56 : oneB Try.prog 56 = true := by kernel_rfl
theorem sl_24_56_1 : slB Try.prog 24 56 1 = true := by kernel_rfl
theorem slt_24 : SlT Try.prog 24 56 1 4 (.float .f32 0) := ⟨by kernel_rfl, by kernel_rfl, rfl, by decide⟩
end T95
set_option maxRecDepth 100000 in
set_option maxHeartbeats 4000000 in
theorem c_s_l02Place {a : Option Addr} {n : Nat} {c : Nat} {X : List Nat} {W : Int} {H : Int} {way : Int} {dx : Int} {dy : Int} {w : World} (q : Rd w kF a n X) (h1 : 3 ≤ W) (h2 : W ≤ 16) (h3 : 3 ≤ H) (h4 : H ≤ 16) (hn : (n : Int) = W * H) (h5 : -W < dx) (h6 : dx < W) (h7 : -H < dy) (h8 : dy < H) :
    Calls Try.prog 95 #[.slice a n c, .int .i64 W, .int .i64 H, .int .i64 way, .int .i64 dx, .int .i64 dy] w (Rt fun v w' => ∃ (a1 : Option Addr) (c1 : Nat), v = .slice a1 ((W * H).toNat) c1 ∧ New w w' [.ow kF a1 ((W * H).toNat) c1 56 (placeL X W H way dx dy)]) := by
  have hl := q.len
  have B : Bu w no w [.rd kF a n X] := Bu.ro (All.cons q All.nil) rfl
  have hwh := mul16 (And.intro (And.intro h1 h2) (And.intro h3 h4))
  refine calls_W (n := 107) Try.func95 rfl rfl (Nat.le_of_ble_eq_true rfl) ?_
  refine W_seq ?_
  refine W_region (by kernel_rfl) ?_
  refine s_y (v := .slice none 0 0) rfl (y_assign rfl) ?_
  refine s_nil ?_
  refine W_seq ?_
  refine W_region (by kernel_rfl) ?_
  refine s_k rfl (k_bsliceO (k := kF) (n := 0) (cells := #[]) (X := []) T95.slt_24 (by decide) (by first | rfl | kernel_rfl) (rfl : Reps kF [] []) rfl (fun b1 w2 hN3 => ?_))
  replace B := B.new1 hN3
  clear hN3
  refine s_y (v := .slice (some ⟨b1, 0, none⟩) 0 0) rfl (y_assign rfl) ?_
  refine s_nil ?_
  refine W_seq ?_
  refine W_seq ?_
  refine W_region (by kernel_rfl) ?_
  refine s_y (v := .int .i64 0) rfl (y_assign rfl) ?_
  refine s_nil ?_
  refine W_block ?_
  refine W_loop (fun ρ' w' => ∃ (ρ1 : Env) (py : Int) (a0 : Option Addr) (cc0 : Nat) (nn0 : Nat), ρ' = updL ρ1 [(0, .slice a n c), (1, .int .i64 W), (2, .int .i64 H), (3, .int .i64 way), (4, .int .i64 dx), (5, .int .i64 dy), (12, .slice none 0 0), (13, .slice a0 nn0 cc0), (14, .int .i64 py)] ∧ Bu w no w' [.ow kF a0 nn0 cc0 56 (tab (W * py) (fun i => placeV X W H way dx dy (i % W) (i / W))), .rd kF a n X] ∧ (0 ≤ py) ∧ (py ≤ H)) (fun ρ' _ => (H - iv (ρ' 14)).toNat) ?_ ?_
  · replace B : Bu w no w2 [.ow kF (some ⟨b1, 0, none⟩) 0 0 56 (tab (W * 0) (fun i => placeV X W H way dx dy (i % W) (i / W))), .rd kF a n X] := B.castX 0 rfl rfl (by rw [Int.mul_zero]; rfl)
    exact ⟨_, 0, (some ⟨b1, 0, none⟩), 0, 0, Fits.eq ⟨rfl, rfl, rfl, rfl, rfl, rfl, rfl, rfl, rfl, trivial⟩, B, (Int.le_refl _), (by omega)⟩
  · clear B; rintro _ w4 ⟨ρ5, py, a0, cc0, nn0, rfl, B, h0py, h1py⟩
    have hnn0 := (B.o 0 rfl).len
    rw [tab_length] at hnn0
    have hwy := mulb (a := W) (b := py) (by omega) (by omega) (by omega) (by omega)
    refine W_seq ?_
    refine W_seq ?_
    refine W_region (by kernel_rfl) ?_
    refine s_y (v := .int .i64 py) rfl (y_move rfl) ?_
    refine s_y (v := .int .i64 H) rfl (y_move rfl) ?_
    by_cases c6 : py < H
    · refine s_y (v := .bool true) rfl (y_lss rfl rfl (decide_eq_true c6)) ?_
      refine s_nil ?_
      refine W_if_t (by decide) rfl ?_
      refine W_skip ?_
      refine W_seq ?_
      refine W_block ?_
      refine W_seq ?_
      refine W_region (by kernel_rfl) ?_
      refine s_y (v := .int .i64 0) rfl (y_assign rfl) ?_
      refine s_nil ?_
      refine W_block ?_
      refine W_loop (fun ρ' w' => ∃ (ρ1 : Env) (px : Int) (a9 : Option Addr) (cc9 : Nat) (nn9 : Nat), ρ' = updL ρ1 [(0, .slice a n c), (1, .int .i64 W), (2, .int .i64 H), (3, .int .i64 way), (4, .int .i64 dx), (5, .int .i64 dy), (12, .slice none 0 0), (13, .slice a9 nn9 cc9), (14, .int .i64 py), (15, .int .i64 px), (19, .int .i64 py), (20, .int .i64 H), (21, .bool true)] ∧ Bu w no w' [.ow kF a9 nn9 cc9 56 (tab (W * py + px) (fun i => placeV X W H way dx dy (i % W) (i / W))), .rd kF a n X] ∧ (0 ≤ px) ∧ (px ≤ W)) (fun ρ' _ => (W - iv (ρ' 15)).toNat) ?_ ?_
      · replace B : Bu w no w4 [.ow kF a0 nn0 cc0 56 (tab (W * py + 0) (fun i => placeV X W H way dx dy (i % W) (i / W))), .rd kF a n X] := B.castX 0 rfl rfl (by rw [Int.add_zero])
        exact ⟨_, 0, a0, cc0, nn0, Fits.eq ⟨rfl, rfl, rfl, rfl, rfl, rfl, rfl, rfl, rfl, rfl, rfl, rfl, rfl, trivial⟩, B, (Int.le_refl _), (by omega)⟩
      · clear B; rintro _ w7 ⟨ρ8, px, a9, cc9, nn9, rfl, B, h0px, h1px⟩
        have hnn9 := (B.o 0 rfl).len
        rw [tab_length] at hnn9
        refine W_seq ?_
        refine W_seq ?_
        refine W_region (by kernel_rfl) ?_
        refine s_y (v := .int .i64 px) rfl (y_move rfl) ?_
        refine s_y (v := .int .i64 W) rfl (y_move rfl) ?_
        by_cases c9 : px < W
        · refine s_y (v := .bool true) rfl (y_lss rfl rfl (decide_eq_true c9)) ?_
          refine s_nil ?_
          refine W_if_t (by decide) rfl ?_
          refine W_skip ?_
          refine W_seq ?_
          refine W_block ?_
          refine W_seq ?_
          refine W_region (by kernel_rfl) ?_
          refine s_y (v := .int .i64 way) rfl (y_move rfl) ?_
          refine s_nil ?_
          refine W_block ?_
          refine W_seq ?_
          refine W_region (by kernel_rfl) ?_
          by_cases c10 : way = 0
          · refine s_y (v := .bool true) rfl (y_eql rfl rfl (decide_eq_true c10)) ?_
            refine s_y (v := .bool true) rfl (y_assign rfl) ?_
            refine s_nil ?_
            refine W_if_t (by decide) rfl ?_
            refine W_region (by kernel_rfl) ?_
            refine s_y (v := .slice a9 nn9 cc9) rfl (y_move rfl) ?_
            refine s_y (v := .slice a n c) rfl (y_move rfl) ?_
            refine s_y (v := .int .i64 W) rfl (y_move rfl) ?_
            refine s_y (v := .int .i64 (W - 1)) rfl (y_sub rfl rfl rfl (by omega)) ?_
            refine s_y (v := .int .i64 px) rfl (y_move rfl) ?_
            refine s_y (v := .int .i64 ((W - 1) - px)) rfl (y_sub rfl rfl rfl (by omega)) ?_
            refine s_y (v := .int .i64 W) rfl (y_move rfl) ?_
            refine s_y (v := .int .i64 py) rfl (y_move rfl) ?_
            have hm11 := mulb (a := W) (b := py) (by omega) (by omega) (by omega) (by omega)
            refine s_y (v := .int .i64 (W * py)) rfl (y_mul rfl rfl rfl (by omega)) ?_
            refine s_y (v := .int .i64 (((W - 1) - px) + (W * py))) rfl (y_add rfl rfl rfl (by omega)) ?_
            have hx12 := row_lt (wd := W) (hi := H) (a := W - 1 - px) (b := py) (by omega) (by omega) (by omega) (by omega)
            refine s_y (v := .pointer (some (sat a ((((W - 1) - px) + (W * py)).toNat * 1)))) rfl (y_idx T95.sl_24_56_1 rfl rfl ((B.r 1 rfl).addr (by omega)) (by omega) (by omega)) ?_
            obtain ⟨r14, hr15, hR13⟩ := Rd.atF (B.r 1 rfl) (((W - 1) - px) + (W * py)) (by omega) (by omega)
            refine s_y (v := .float .f32 r14) rfl (y_load T95.one_56 rfl (hR13.cell (i := 0) rfl)) ?_
            refine s_k rfl (k_bsliceO (k := kF) (n := 1) (cells := #[.float .f32 r14]) (X := [el X (((W - 1) - px) + (W * py))]) T95.slt_24 (by decide) (by first | rfl | kernel_rfl) (reps_cons (c := [.float .f32 r14]) ⟨_, rfl, hr15⟩ (rfl : Reps kF [] [])) rfl (fun b16 w17 hN18 => ?_))
            replace B := B.new1 hN18
            clear hN18
            refine s_k rfl (k_appO (k := kF) T95.slt_24 rfl rfl rfl (B.o 1 rfl) (B.o 0 rfl).rd (by omega) (by unfold maxLen; omega) (fun a19 c20 w21 hU22 => ?_))
            replace B : Bu w no w21 [.ow kF a19 (nn9 + 1) c20 56 ((tab (W * py + px) (fun i => placeV X W H way dx dy (i % W) (i / W))) ++ ([el X (((W - 1) - px) + (W * py))])), .ow kF (some ⟨b16, 0, none⟩) 1 1 56 ([el X (((W - 1) - px) + (W * py))]), .rd kF a n X] := B.upd [1] rfl hU22
            clear hU22
            refine s_y (v := .slice a19 (nn9 + 1) c20) rfl (y_assign rfl) ?_
            refine s_nil ?_
            refine W_region (by kernel_rfl) ?_
            refine s_y (v := .int .i64 px) rfl (y_move rfl) ?_
            refine s_y (v := .int .i64 (px + 1)) rfl (y_add rfl rfl rfl (by omega)) ?_
            refine s_y (v := .int .i64 (px + 1)) rfl (y_assign rfl) ?_
            refine s_nil ?_
            replace B : Bu w no w21 [.ow kF a19 (nn9 + 1) c20 56 (tab (W * py + (px + 1)) (fun i => placeV X W H way dx dy (i % W) (i / W))), .ow kF (some ⟨b16, 0, none⟩) 1 1 56 ([el X (((W - 1) - px) + (W * py))]), .rd kF a n X] := B.castX 0 rfl rfl (tab_rowv (g := fun p q => placeV X W H way dx dy p q) (by simp [placeV, c10]) (by omega) (by omega) (by omega))
            refine ⟨⟨_, px + 1, a19, c20, nn9 + 1, Fits.eq ⟨rfl, rfl, rfl, rfl, rfl, rfl, rfl, rfl, rfl, rfl, rfl, rfl, rfl, trivial⟩, (B.pick [0, 2] rfl rfl), (by omega), (by omega)⟩, ?_⟩
            show (W - (px + 1)).toNat < (W - px).toNat
            omega
          · refine s_y (v := .bool false) rfl (y_eql rfl rfl (decide_eq_false c10)) ?_
            refine s_y (v := .bool false) rfl (y_assign rfl) ?_
            refine s_nil ?_
            refine W_if_f (by decide) rfl ?_
            refine W_seq ?_
            refine W_region (by kernel_rfl) ?_
            by_cases c23 : way = 1
            · refine s_y (v := .bool true) rfl (y_eql rfl rfl (decide_eq_true c23)) ?_
              refine s_y (v := .bool true) rfl (y_assign rfl) ?_
              refine s_nil ?_
              refine W_if_t (by decide) rfl ?_
              refine W_region (by kernel_rfl) ?_
              refine s_y (v := .slice a9 nn9 cc9) rfl (y_move rfl) ?_
              refine s_y (v := .slice a n c) rfl (y_move rfl) ?_
              refine s_y (v := .int .i64 W) rfl (y_move rfl) ?_
              refine s_y (v := .int .i64 (2 * W)) rfl (y_mul rfl rfl rfl (by omega)) ?_
              refine s_y (v := .int .i64 ((2 * W) - 2)) rfl (y_sub rfl rfl rfl (by omega)) ?_
              refine s_y (v := .int .i64 px) rfl (y_move rfl) ?_
              refine s_y (v := .int .i64 (((2 * W) - 2) - px)) rfl (y_sub rfl rfl rfl (by omega)) ?_
              refine s_y (v := .int .i64 W) rfl (y_move rfl) ?_
              have hm24 := rem_b (x := ((2 * W) - 2) - px) (m := W) (by omega) (by omega)
              refine s_y (v := .int .i64 ((((2 * W) - 2) - px) % W)) rfl (y_rem rfl rfl (by omega) (by omega) rfl) ?_
              refine s_y (v := .int .i64 W) rfl (y_move rfl) ?_
              refine s_y (v := .int .i64 py) rfl (y_move rfl) ?_
              have hm25 := mulb (a := W) (b := py) (by omega) (by omega) (by omega) (by omega)
              refine s_y (v := .int .i64 (W * py)) rfl (y_mul rfl rfl rfl (by omega)) ?_
              refine s_y (v := .int .i64 (((((2 * W) - 2) - px) % W) + (W * py))) rfl (y_add rfl rfl rfl (by omega)) ?_
              have hx26 := row_lt (wd := W) (hi := H) (a := (2 * W - 2 - px) % W) (b := py) (by omega) (by omega) (by omega) (by omega)
              refine s_y (v := .pointer (some (sat a ((((((2 * W) - 2) - px) % W) + (W * py)).toNat * 1)))) rfl (y_idx T95.sl_24_56_1 rfl rfl ((B.r 1 rfl).addr (by omega)) (by omega) (by omega)) ?_
              obtain ⟨r28, hr29, hR27⟩ := Rd.atF (B.r 1 rfl) (((((2 * W) - 2) - px) % W) + (W * py)) (by omega) (by omega)
              refine s_y (v := .float .f32 r28) rfl (y_load T95.one_56 rfl (hR27.cell (i := 0) rfl)) ?_
              refine s_y (v := .float .f32 (Op.negFloat .f32 r28)) rfl (y_fneg rfl) ?_
              refine s_k rfl (k_bsliceO (k := kF) (n := 1) (cells := #[.float .f32 (Op.negFloat .f32 r28)]) (X := [fneg .f32 (el X (((((2 * W) - 2) - px) % W) + (W * py)))]) T95.slt_24 (by decide) (by first | rfl | kernel_rfl) (reps_cons (c := [.float .f32 (Op.negFloat .f32 r28)]) ⟨_, rfl, (negC hr29)⟩ (rfl : Reps kF [] [])) rfl (fun b30 w31 hN32 => ?_))
              replace B := B.new1 hN32
              clear hN32
              refine s_k rfl (k_appO (k := kF) T95.slt_24 rfl rfl rfl (B.o 1 rfl) (B.o 0 rfl).rd (by omega) (by unfold maxLen; omega) (fun a33 c34 w35 hU36 => ?_))
              replace B : Bu w no w35 [.ow kF a33 (nn9 + 1) c34 56 ((tab (W * py + px) (fun i => placeV X W H way dx dy (i % W) (i / W))) ++ ([fneg .f32 (el X (((((2 * W) - 2) - px) % W) + (W * py)))])), .ow kF (some ⟨b30, 0, none⟩) 1 1 56 ([fneg .f32 (el X (((((2 * W) - 2) - px) % W) + (W * py)))]), .rd kF a n X] := B.upd [1] rfl hU36
              clear hU36
              refine s_y (v := .slice a33 (nn9 + 1) c34) rfl (y_assign rfl) ?_
              refine s_nil ?_
              refine W_region (by kernel_rfl) ?_
              refine s_y (v := .int .i64 px) rfl (y_move rfl) ?_
              refine s_y (v := .int .i64 (px + 1)) rfl (y_add rfl rfl rfl (by omega)) ?_
              refine s_y (v := .int .i64 (px + 1)) rfl (y_assign rfl) ?_
              refine s_nil ?_
              replace B : Bu w no w35 [.ow kF a33 (nn9 + 1) c34 56 (tab (W * py + (px + 1)) (fun i => placeV X W H way dx dy (i % W) (i / W))), .ow kF (some ⟨b30, 0, none⟩) 1 1 56 ([fneg .f32 (el X (((((2 * W) - 2) - px) % W) + (W * py)))]), .rd kF a n X] := B.castX 0 rfl rfl (tab_rowv (g := fun p q => placeV X W H way dx dy p q) (by simp [placeV, c10, c23]) (by omega) (by omega) (by omega))
              refine ⟨⟨_, px + 1, a33, c34, nn9 + 1, Fits.eq ⟨rfl, rfl, rfl, rfl, rfl, rfl, rfl, rfl, rfl, rfl, rfl, rfl, rfl, trivial⟩, (B.pick [0, 2] rfl rfl), (by omega), (by omega)⟩, ?_⟩
              show (W - (px + 1)).toNat < (W - px).toNat
              omega
            · refine s_y (v := .bool false) rfl (y_eql rfl rfl (decide_eq_false c23)) ?_
              refine s_y (v := .bool false) rfl (y_assign rfl) ?_
              refine s_nil ?_
              refine W_if_f (by decide) rfl ?_
              refine W_seq ?_
              refine W_region (by kernel_rfl) ?_
              by_cases c37 : way = 2
              · refine s_y (v := .bool true) rfl (y_eql rfl rfl (decide_eq_true c37)) ?_
                refine s_y (v := .bool true) rfl (y_assign rfl) ?_
                refine s_nil ?_
                refine W_if_t (by decide) rfl ?_
                refine W_region (by kernel_rfl) ?_
                refine s_y (v := .slice a9 nn9 cc9) rfl (y_move rfl) ?_
                refine s_y (v := .slice a n c) rfl (y_move rfl) ?_
                refine s_y (v := .int .i64 py) rfl (y_move rfl) ?_
                refine s_y (v := .int .i64 H) rfl (y_move rfl) ?_
                refine s_y (v := .int .i64 px) rfl (y_move rfl) ?_
                have hm38 := mulb (a := H) (b := px) (by omega) (by omega) (by omega) (by omega)
                refine s_y (v := .int .i64 (H * px)) rfl (y_mul rfl rfl rfl (by omega)) ?_
                refine s_y (v := .int .i64 (py + (H * px))) rfl (y_add rfl rfl rfl (by omega)) ?_
                have hx39 := row_lt (wd := H) (hi := W) (a := py) (b := px) (by omega) (by omega) (by omega) (by omega)
                have hx40 := Int.mul_comm H W
                refine s_y (v := .pointer (some (sat a ((py + (H * px)).toNat * 1)))) rfl (y_idx T95.sl_24_56_1 rfl rfl ((B.r 1 rfl).addr (by omega)) (by omega) (by omega)) ?_
                obtain ⟨r42, hr43, hR41⟩ := Rd.atF (B.r 1 rfl) (py + (H * px)) (by omega) (by omega)
                refine s_y (v := .float .f32 r42) rfl (y_load T95.one_56 rfl (hR41.cell (i := 0) rfl)) ?_
                refine s_k rfl (k_bsliceO (k := kF) (n := 1) (cells := #[.float .f32 r42]) (X := [el X (py + (H * px))]) T95.slt_24 (by decide) (by first | rfl | kernel_rfl) (reps_cons (c := [.float .f32 r42]) ⟨_, rfl, hr43⟩ (rfl : Reps kF [] [])) rfl (fun b44 w45 hN46 => ?_))
                replace B := B.new1 hN46
                clear hN46
                refine s_k rfl (k_appO (k := kF) T95.slt_24 rfl rfl rfl (B.o 1 rfl) (B.o 0 rfl).rd (by omega) (by unfold maxLen; omega) (fun a47 c48 w49 hU50 => ?_))
                replace B : Bu w no w49 [.ow kF a47 (nn9 + 1) c48 56 ((tab (W * py + px) (fun i => placeV X W H way dx dy (i % W) (i / W))) ++ ([el X (py + (H * px))])), .ow kF (some ⟨b44, 0, none⟩) 1 1 56 ([el X (py + (H * px))]), .rd kF a n X] := B.upd [1] rfl hU50
                clear hU50
                refine s_y (v := .slice a47 (nn9 + 1) c48) rfl (y_assign rfl) ?_
                refine s_nil ?_
                refine W_region (by kernel_rfl) ?_
                refine s_y (v := .int .i64 px) rfl (y_move rfl) ?_
                refine s_y (v := .int .i64 (px + 1)) rfl (y_add rfl rfl rfl (by omega)) ?_
                refine s_y (v := .int .i64 (px + 1)) rfl (y_assign rfl) ?_
                refine s_nil ?_
                replace B : Bu w no w49 [.ow kF a47 (nn9 + 1) c48 56 (tab (W * py + (px + 1)) (fun i => placeV X W H way dx dy (i % W) (i / W))), .ow kF (some ⟨b44, 0, none⟩) 1 1 56 ([el X (py + (H * px))]), .rd kF a n X] := B.castX 0 rfl rfl (tab_rowv (g := fun p q => placeV X W H way dx dy p q) (by simp [placeV, c10, c23, c37]) (by omega) (by omega) (by omega))
                refine ⟨⟨_, px + 1, a47, c48, nn9 + 1, Fits.eq ⟨rfl, rfl, rfl, rfl, rfl, rfl, rfl, rfl, rfl, rfl, rfl, rfl, rfl, trivial⟩, (B.pick [0, 2] rfl rfl), (by omega), (by omega)⟩, ?_⟩
                show (W - (px + 1)).toNat < (W - px).toNat
                omega
              · refine s_y (v := .bool false) rfl (y_eql rfl rfl (decide_eq_false c37)) ?_
                refine s_y (v := .bool false) rfl (y_assign rfl) ?_
                refine s_nil ?_
                refine W_if_f (by decide) rfl ?_
                refine W_seq ?_
                refine W_region (by kernel_rfl) ?_
                refine s_y (v := .int .i64 px) rfl (y_move rfl) ?_
                refine s_y (v := .int .i64 dx) rfl (y_move rfl) ?_
                refine s_y (v := .int .i64 (px - dx)) rfl (y_sub rfl rfl rfl (by omega)) ?_
                refine s_y (v := .int .i64 W) rfl (y_move rfl) ?_
                refine s_y (v := .int .i64 (2 * W)) rfl (y_mul rfl rfl rfl (by omega)) ?_
                refine s_y (v := .int .i64 ((px - dx) + (2 * W))) rfl (y_add rfl rfl rfl (by omega)) ?_
                refine s_y (v := .int .i64 W) rfl (y_move rfl) ?_
                have hm51 := rem_b (x := (px - dx) + (2 * W)) (m := W) (by omega) (by omega)
                refine s_y (v := .int .i64 (((px - dx) + (2 * W)) % W)) rfl (y_rem rfl rfl (by omega) (by omega) rfl) ?_
                refine s_y (v := .int .i64 (((px - dx) + (2 * W)) % W)) rfl (y_assign rfl) ?_
                refine s_nil ?_
                refine W_seq ?_
                refine W_region (by kernel_rfl) ?_
                refine s_y (v := .int .i64 py) rfl (y_move rfl) ?_
                refine s_y (v := .int .i64 dy) rfl (y_move rfl) ?_
                refine s_y (v := .int .i64 (py - dy)) rfl (y_sub rfl rfl rfl (by omega)) ?_
                refine s_y (v := .int .i64 H) rfl (y_move rfl) ?_
                refine s_y (v := .int .i64 (2 * H)) rfl (y_mul rfl rfl rfl (by omega)) ?_
                refine s_y (v := .int .i64 ((py - dy) + (2 * H))) rfl (y_add rfl rfl rfl (by omega)) ?_
                refine s_y (v := .int .i64 H) rfl (y_move rfl) ?_
                have hm52 := rem_b (x := (py - dy) + (2 * H)) (m := H) (by omega) (by omega)
                refine s_y (v := .int .i64 (((py - dy) + (2 * H)) % H)) rfl (y_rem rfl rfl (by omega) (by omega) rfl) ?_
                refine s_y (v := .int .i64 (((py - dy) + (2 * H)) % H)) rfl (y_assign rfl) ?_
                refine s_nil ?_
                refine W_region (by kernel_rfl) ?_
                refine s_y (v := .slice a9 nn9 cc9) rfl (y_move rfl) ?_
                refine s_y (v := .slice a n c) rfl (y_move rfl) ?_
                refine s_y (v := .int .i64 (((px - dx) + (2 * W)) % W)) rfl (y_move rfl) ?_
                refine s_y (v := .int .i64 W) rfl (y_move rfl) ?_
                refine s_y (v := .int .i64 (((py - dy) + (2 * H)) % H)) rfl (y_move rfl) ?_
                have hm53 := mulb (a := W) (b := ((py - dy) + (2 * H)) % H) (by omega) (by omega) (by omega) (by omega)
                refine s_y (v := .int .i64 (W * (((py - dy) + (2 * H)) % H))) rfl (y_mul rfl rfl rfl (by omega)) ?_
                refine s_y (v := .int .i64 ((((px - dx) + (2 * W)) % W) + (W * (((py - dy) + (2 * H)) % H)))) rfl (y_add rfl rfl rfl (by omega)) ?_
                have hx54 := row_lt (wd := W) (hi := H) (a := (px - dx + 2 * W) % W) (b := (py - dy + 2 * H) % H) (by omega) (by omega) (by omega) (by omega)
                refine s_y (v := .pointer (some (sat a (((((px - dx) + (2 * W)) % W) + (W * (((py - dy) + (2 * H)) % H))).toNat * 1)))) rfl (y_idx T95.sl_24_56_1 rfl rfl ((B.r 1 rfl).addr (by omega)) (by omega) (by omega)) ?_
                obtain ⟨r56, hr57, hR55⟩ := Rd.atF (B.r 1 rfl) ((((px - dx) + (2 * W)) % W) + (W * (((py - dy) + (2 * H)) % H))) (by omega) (by omega)
                refine s_y (v := .float .f32 r56) rfl (y_load T95.one_56 rfl (hR55.cell (i := 0) rfl)) ?_
                refine s_k rfl (k_bsliceO (k := kF) (n := 1) (cells := #[.float .f32 r56]) (X := [el X ((((px - dx) + (2 * W)) % W) + (W * (((py - dy) + (2 * H)) % H)))]) T95.slt_24 (by decide) (by first | rfl | kernel_rfl) (reps_cons (c := [.float .f32 r56]) ⟨_, rfl, hr57⟩ (rfl : Reps kF [] [])) rfl (fun b58 w59 hN60 => ?_))
                replace B := B.new1 hN60
                clear hN60
                refine s_k rfl (k_appO (k := kF) T95.slt_24 rfl rfl rfl (B.o 1 rfl) (B.o 0 rfl).rd (by omega) (by unfold maxLen; omega) (fun a61 c62 w63 hU64 => ?_))
                replace B : Bu w no w63 [.ow kF a61 (nn9 + 1) c62 56 ((tab (W * py + px) (fun i => placeV X W H way dx dy (i % W) (i / W))) ++ ([el X ((((px - dx) + (2 * W)) % W) + (W * (((py - dy) + (2 * H)) % H)))])), .ow kF (some ⟨b58, 0, none⟩) 1 1 56 ([el X ((((px - dx) + (2 * W)) % W) + (W * (((py - dy) + (2 * H)) % H)))]), .rd kF a n X] := B.upd [1] rfl hU64
                clear hU64
                refine s_y (v := .slice a61 (nn9 + 1) c62) rfl (y_assign rfl) ?_
                refine s_nil ?_
                refine W_region (by kernel_rfl) ?_
                refine s_y (v := .int .i64 px) rfl (y_move rfl) ?_
                refine s_y (v := .int .i64 (px + 1)) rfl (y_add rfl rfl rfl (by omega)) ?_
                refine s_y (v := .int .i64 (px + 1)) rfl (y_assign rfl) ?_
                refine s_nil ?_
                replace B : Bu w no w63 [.ow kF a61 (nn9 + 1) c62 56 (tab (W * py + (px + 1)) (fun i => placeV X W H way dx dy (i % W) (i / W))), .ow kF (some ⟨b58, 0, none⟩) 1 1 56 ([el X ((((px - dx) + (2 * W)) % W) + (W * (((py - dy) + (2 * H)) % H)))]), .rd kF a n X] := B.castX 0 rfl rfl (tab_rowv (g := fun p q => placeV X W H way dx dy p q) (by simp [placeV, c10, c23, c37]) (by omega) (by omega) (by omega))
                refine ⟨⟨_, px + 1, a61, c62, nn9 + 1, Fits.eq ⟨rfl, rfl, rfl, rfl, rfl, rfl, rfl, rfl, rfl, rfl, rfl, rfl, rfl, trivial⟩, (B.pick [0, 2] rfl rfl), (by omega), (by omega)⟩, ?_⟩
                show (W - (px + 1)).toNat < (W - px).toNat
                omega
        · refine s_y (v := .bool false) rfl (y_lss rfl rfl (decide_eq_false c9)) ?_
          refine s_nil ?_
          refine W_if_f (by decide) rfl ?_
          refine W_exit ?_
          refine W_region (by kernel_rfl) ?_
          refine s_y (v := .int .i64 py) rfl (y_move rfl) ?_
          refine s_y (v := .int .i64 (py + 1)) rfl (y_add rfl rfl rfl (by omega)) ?_
          refine s_y (v := .int .i64 (py + 1)) rfl (y_assign rfl) ?_
          refine s_nil ?_
          replace B : Bu w no w7 [.ow kF a9 nn9 cc9 56 (tab (W * (py + 1)) (fun i => placeV X W H way dx dy (i % W) (i / W))), .rd kF a n X] := B.castX 0 rfl rfl (congrArg (fun q => tab q _) (show W * py + px = W * (py + 1) by rw [Int.mul_add, Int.mul_one]; omega))
          refine ⟨⟨_, py + 1, a9, cc9, nn9, Fits.eq ⟨rfl, rfl, rfl, rfl, rfl, rfl, rfl, rfl, rfl, trivial⟩, B, (by omega), (by omega)⟩, ?_⟩
          show (H - (py + 1)).toNat < (H - py).toNat
          omega
    · refine s_y (v := .bool false) rfl (y_lss rfl rfl (decide_eq_false c6)) ?_
      refine s_nil ?_
      refine W_if_f (by decide) rfl ?_
      refine W_exit ?_
      refine W_seq ?_
      refine W_region (by kernel_rfl) ?_
      refine s_y (v := .slice a0 nn0 cc0) rfl (y_move rfl) ?_
      refine s_y (v := .slice a0 nn0 cc0) rfl (y_assign rfl) ?_
      refine s_nil ?_
      refine W_ret ?_
      refine ret1 (v := .slice a0 nn0 cc0) rfl rfl rfl ⟨_, rfl, ?_⟩
      obtain rfl : H = py := by omega
      replace B : Bu w no w4 [.ow kF a0 ((W * H).toNat) cc0 56 (placeL X W H way dx dy), .rd kF a n X] := B.castX 0 rfl (by omega) rfl
      exact ⟨_, _, (by rw [(show nn0 = (W * H).toNat from (by omega))]), B.give [0] rfl rfl rfl⟩
namespace T55
theorem mx : Try.prog.follows .mixedOrders = true := by kernel_rfl
theorem agg_49_3 : aggB Try.prog 49 3 = true := by kernel_rfl
theorem fld_26_0_0 : fldB Try.prog 26 0 0 = true := by kernel_rfl
theorem fld_26_1_1 : fldB Try.prog 26 1 1 = true := by kernel_rfl
theorem fld_26_2_2 : fldB Try.prog 26 2 2 = true := by kernel_rfl
theorem fld_49_0_0 : fldB Try.prog 49 0 0 = true := by kernel_rfl
theorem fld_49_1_1 : fldB Try.prog 49 1 1 = true := by kernel_rfl
theorem fld_49_2_2 : fldB Try.prog 49 2 2 = true := by kernel_rfl
theorem fn_68 : fnB Try.prog 68 = true := by kernel_rfl
theorem fn_76 : fnB Try.prog 76 = true := by kernel_rfl
theorem fn_94 : fnB Try.prog 94 = true := by kernel_rfl
theorem fn_95 : fnB Try.prog 95 = true := by kernel_rfl
theorem one_2 : oneB Try.prog 2 = true := by kernel_rfl
theorem one_24 : oneB Try.prog 24 = true := by kernel_rfl
theorem one_4 : oneB Try.prog 4 = true := by kernel_rfl
theorem sz_24_1 : szB Try.prog 24 1 = true := by kernel_rfl
theorem sz_49_3 : szB Try.prog 49 3 = true := by kernel_rfl
theorem zero_49 : zeroB Try.prog 49 (.agg #[.slice none 0 0, .slice none 0 0, .slice none 0 0]) := by unfold zeroB; kernel_rfl
end T55
set_option maxRecDepth 100000 in
set_option maxHeartbeats 4000000 in
theorem c_s_ShiftField {wd : Int} {hi : Int} {wr : Bool} {asp : Option Addr} {nsp : Nat} {csp : Nat} {Xsp : List Nat} {als : Option Addr} {nls : Nat} {cls : Nat} {Xls : List Nat} {afe : Option Addr} {nfe : Nat} {cfe : Nat} {Xfe : List Nat} {afx : Option Addr} {nfx : Nat} {cfx : Nat} {Xfx : List Nat} {afy : Option Addr} {nfy : Nat} {cfy : Nat} {Xfy : List Nat} {x : Int} {y : Int} {w : World} (qsp : Rd w kF asp nsp Xsp) (qls : Rd w kF als nls Xls) (qfe : Rd w kF afe nfe Xfe) (qfx : Rd w kF afx nfx Xfx) (qfy : Rd w kF afy nfy Xfy) (hbsp : nsp ≤ 9223372036854775806) (hbls : nls ≤ 9223372036854775806) (hbfe : nfe ≤ 9223372036854775806) (hbfx : nfx ≤ 9223372036854775806) (hbfy : nfy ≤ 9223372036854775806) :
    Calls Try.prog 55 #[.agg #[.int .i64 wd, .int .i64 hi, .bool wr, .slice asp nsp csp, .slice als nls cls], .agg #[.slice afe nfe cfe, .slice afx nfx cfx, .slice afy nfy cfy], .int .i64 x, .int .i64 y] w (Rt fun v w' => (shfB wd hi wr Xsp Xls Xfe Xfx Xfy x y = true ∧ ∃ (a1 : Option Addr) (c1 : Nat) (a2 : Option Addr) (c2 : Nat) (a3 : Option Addr) (c3 : Nat), v = .tuple #[.agg #[.slice a1 ((wd * hi).toNat) c1, .slice a2 ((wd * hi).toNat) c2, .slice a3 ((wd * hi).toNat) c3], .bool true] ∧ New w w' [.ow kF a1 ((wd * hi).toNat) c1 56 (shfS wd hi x y Xfe), .ow kF a2 ((wd * hi).toNat) c2 56 (shfS wd hi x y Xfx), .ow kF a3 ((wd * hi).toNat) c3 56 (shfS wd hi x y Xfy)]) ∨ (shfB wd hi wr Xsp Xls Xfe Xfx Xfy x y = false ∧ v = .tuple #[.agg #[.slice none 0 0, .slice none 0 0, .slice none 0 0], .bool false] ∧ Ext0 w w')) := by
  have hlsp := qsp.len
  have hlls := qls.len
  have hlfe := qfe.len
  have hlfx := qfx.len
  have hlfy := qfy.len
  have B : Bu w no w [.rd kF asp nsp Xsp, .rd kF als nls Xls, .rd kF afe nfe Xfe, .rd kF afx nfx Xfx, .rd kF afy nfy Xfy] := Bu.ro (All.cons qsp (All.cons qls (All.cons qfe (All.cons qfx (All.cons qfy All.nil))))) rfl
  refine calls_W (n := 78) Try.func55 rfl rfl (Nat.le_of_ble_eq_true rfl) ?_
  refine W_seq ?_
  refine W_region (by kernel_rfl) ?_
  refine s_k rfl (k_boxN (v := .agg #[.int .i64 wd, .int .i64 hi, .bool wr, .slice asp nsp csp, .slice als nls cls]) (cs := [.int .i64 wd, .int .i64 hi, .bool wr, .slice asp nsp csp, .slice als nls cls]) rfl rfl (fun b1 w2 hN3 => ?_))
  replace B := B.new1 hN3
  clear hN3
  refine s_k rfl (k_boxN (v := .agg #[.slice afe nfe cfe, .slice afx nfx cfx, .slice afy nfy cfy]) (cs := [.slice afe nfe cfe, .slice afx nfx cfx, .slice afy nfy cfy]) rfl rfl (fun b4 w5 hN6 => ?_))
  replace B := B.new1 hN6
  clear hN6
  refine s_k rfl (k_allocN (z := (.agg #[.slice none 0 0, .slice none 0 0, .slice none 0 0])) (cs := [.slice none 0 0, .slice none 0 0, .slice none 0 0]) T55.zero_49 rfl (fun b7 w8 hN9 => ?_))
  replace B := B.new1 hN9
  clear hN9
  refine s_y (v := .bool false) rfl (y_assign rfl) ?_
  refine s_nil ?_
  refine W_seq ?_
  refine W_seq ?_
  refine W_region (by kernel_rfl) ?_
  refine s_k rfl (k_call T55.fn_68 (c_s_l02Is (B.r 3 rfl) (B.r 4 rfl) ((B.b 2 rfl).sl) (by omega) (by omega)) rfl ?_)
  rintro v12 w10 ⟨hv13, e11⟩
  replace B := B.ext0 e11
  clear e11
  by_cases c14 : validS wd hi Xsp Xls = true
  · have hb15 := validS_b c14
    obtain rfl : v12 = .bool true := hv13.trans (congrArg Value.bool c14)
    refine s_y (v := .bool false) rfl (y_not rfl rfl) ?_
    refine s_y (v := .bool false) rfl (y_move rfl) ?_
    refine s_y (v := .pointer (some ⟨b1, 2, none⟩)) rfl (y_fld (o := 0) T55.fld_26_2_2 rfl) ?_
    refine s_y (v := .bool wr) rfl (y_load T55.one_4 rfl ((B.b 2 rfl).cell (j := 2) rfl)) ?_
    refine s_y (v := .bool (!wr)) rfl (y_not rfl rfl) ?_
    refine s_y (v := .bool (!wr)) rfl (y_pick_f rfl rfl) ?_
    refine s_y (v := .bool (!wr)) rfl (y_move rfl) ?_
    cases wr
    · refine s_skip rfl ?_
      refine s_skip rfl ?_
      refine s_y (v := .bool true) rfl (y_pick_t rfl rfl) ?_
      refine s_y (v := .bool true) rfl (y_move rfl) ?_
      refine s_skip rfl ?_
      refine s_skip rfl ?_
      refine s_skip rfl ?_
      refine s_skip rfl ?_
      refine s_y (v := .bool true) rfl (y_pick_t rfl rfl) ?_
      refine s_nil ?_
      refine W_if_t (by decide) rfl ?_
      refine W_seq ?_
      refine W_region (by kernel_rfl) ?_
      refine s_y (v := .agg #[.slice none 0 0, .slice none 0 0, .slice none 0 0]) rfl (y_build (cells := #[.slice none 0 0, .slice none 0 0, .slice none 0 0]) (by kernel_rfl)) ?_
      refine s_k0 rfl (k_stB (v := .agg #[.slice none 0 0, .slice none 0 0, .slice none 0 0]) (n := 3) (cs' := [.slice none 0 0, .slice none 0 0, .slice none 0 0]) T55.sz_49_3 rfl rfl rfl (B.b 0 rfl) (by simp [Value.cells, Value.oneCell']) (Nat.le_of_ble_eq_true rfl) rfl (fun w16 hU17 => ?_))
      replace B : Bu w no w16 [.blk b7 [.slice none 0 0, .slice none 0 0, .slice none 0 0] 49, .blk b4 [.slice afe nfe cfe, .slice afx nfx cfx, .slice afy nfy cfy] 49, .blk b1 [.int .i64 wd, .int .i64 hi, .bool false, .slice asp nsp csp, .slice als nls cls] 26, .rd kF asp nsp Xsp, .rd kF als nls Xls, .rd kF afe nfe Xfe, .rd kF afx nfx Xfx, .rd kF afy nfy Xfy] := B.upd [0] rfl hU17
      clear hU17
      refine s_y (v := .bool false) rfl (y_assign rfl) ?_
      refine s_nil ?_
      refine W_ret ?_
      refine ret2 (v1 := .agg #[.slice none 0 0, .slice none 0 0, .slice none 0 0]) (v2 := .bool false) rfl rfl rfl ⟨_, [.slice none 0 0, .slice none 0 0, .slice none 0 0], _, rfl, (B.b 0 rfl), T55.agg_49_3, rfl⟩ rfl ⟨_, rfl, ?_⟩
      exact .inr ⟨by simp only [shfB, shB_eq, fieldB, c14, Bool.and_true, Bool.true_and, Bool.and_false, Bool.false_and, Bool.not_true, Bool.not_false, Bool.or_true, Bool.true_or, Bool.or_false, Bool.false_or], rfl, B.ext⟩
    · refine s_k rfl (k_call T55.fn_76 (c_s_l02Fits ((B.b 2 rfl).sl) (B.r 5 rfl) (B.r 6 rfl) (B.r 7 rfl) ((B.b 1 rfl).sl) (by omega) (by omega) (by omega) (by omega) (by omega) (by omega) (by omega)) rfl ?_)
      rintro v20 w18 ⟨hv21, e19⟩
      replace B := B.ext0 e19
      clear e19
      by_cases c22 : fitsB wd hi true Xfe Xfx Xfy = true
      · have hb23 := fitsB_b c22
        obtain rfl : v20 = .bool true := hv21.trans (congrArg Value.bool c22)
        refine s_y (v := .bool false) rfl (y_not rfl rfl) ?_
        refine s_y (v := .bool false) rfl (y_pick_f rfl rfl) ?_
        refine s_y (v := .bool false) rfl (y_move rfl) ?_
        refine s_y (v := .int .i64 x) rfl (y_move rfl) ?_
        refine s_y (v := .int .i64 y) rfl (y_move rfl) ?_
        refine s_k rfl (k_call T55.fn_94 (c_s_l02Shift) rfl ?_)
        rintro v26 w24 ⟨hv27, e25⟩
        replace B := B.ext0 e25
        clear e25
        by_cases c28 : shiftB x y = true
        · have hb29 := shiftB_b c28
          obtain rfl : v26 = .bool true := hv27.trans (congrArg Value.bool c28)
          refine s_y (v := .bool false) rfl (y_not rfl rfl) ?_
          refine s_y (v := .bool false) rfl (y_pick_f rfl rfl) ?_
          refine s_nil ?_
          refine W_if_f (by decide) rfl ?_
          refine W_skip ?_
          refine W_seq ?_
          have B0_32 := B
          refine W_drawI (no) (fun ρ' w' => (∃ (ρ1 : Env) (b44 : Nat) (a41 : Option Addr) (c42 : Nat), ρ' = updL ρ1 [(2, .int .i64 x), (3, .int .i64 y), (4, .pointer (some ⟨b1, 0, none⟩)), (5, .pointer (some ⟨b4, 0, none⟩)), (8, .pointer (some ⟨b7, 0, none⟩)), (9, .bool false), (10, .pointer (some ⟨b44, 0, none⟩))] ∧ Bu w no w' [.blk b44 [.slice a41 ((wd * hi).toNat) c42, .slice none 0 0, .slice none 0 0] 49, .ow kF a41 ((wd * hi).toNat) c42 56 (placeL Xfe wd hi 3 (x.tmod wd) (y.tmod hi)), .blk b7 [.slice none 0 0, .slice none 0 0, .slice none 0 0] 49, .blk b4 [.slice afe nfe cfe, .slice afx nfx cfx, .slice afy nfy cfy] 49, .blk b1 [.int .i64 wd, .int .i64 hi, .bool true, .slice asp nsp csp, .slice als nls cls] 26, .rd kF asp nsp Xsp, .rd kF als nls Xls, .rd kF afe nfe Xfe, .rd kF afx nfx Xfx, .rd kF afy nfy Xfy])) T55.mx (by kernel_rfl) (fun w30 e31 => ?_) ?_
          · have R33 := Ext.refl (no) w24
            replace R33 := R33.trans (Ext0.any e31)
            replace B := B.ext0 e31
            clear e31
            refine m_y (v := .pointer (some ⟨b4, 0, none⟩)) 0 rfl (by kernel_rfl) rfl rfl (fun w' e' => y_fld (o := 0) T55.fld_49_0_0 rfl) ?_
            refine m_y (v := .slice afe nfe cfe) 1 rfl (by kernel_rfl) rfl rfl (fun w' e' => y_load T55.one_24 rfl (((B0_32.b 1 rfl).ext0 e').cell (j := 0) rfl)) ?_
            refine m_y (v := .pointer (some ⟨b1, 0, none⟩)) 2 rfl (by kernel_rfl) rfl rfl (fun w' e' => y_fld (o := 0) T55.fld_26_0_0 rfl) ?_
            refine m_y (v := .int .i64 wd) 3 rfl (by kernel_rfl) rfl rfl (fun w' e' => y_load T55.one_2 rfl (((B0_32.b 2 rfl).ext0 e').cell (j := 0) rfl)) ?_
            refine m_y (v := .pointer (some ⟨b1, 1, none⟩)) 4 rfl (by kernel_rfl) rfl rfl (fun w' e' => y_fld (o := 0) T55.fld_26_1_1 rfl) ?_
            refine m_y (v := .int .i64 hi) 5 rfl (by kernel_rfl) rfl rfl (fun w' e' => y_load T55.one_2 rfl (((B0_32.b 2 rfl).ext0 e').cell (j := 1) rfl)) ?_
            refine m_y (v := .int .i64 x) 6 rfl (by kernel_rfl) rfl rfl (fun w' e' => y_move rfl) ?_
            refine m_y (v := .pointer (some ⟨b1, 0, none⟩)) 7 rfl (by kernel_rfl) rfl rfl (fun w' e' => y_fld (o := 0) T55.fld_26_0_0 rfl) ?_
            refine m_y (v := .int .i64 wd) 8 rfl (by kernel_rfl) rfl rfl (fun w' e' => y_load T55.one_2 rfl (((B0_32.b 2 rfl).ext0 e').cell (j := 0) rfl)) ?_
            have hm34 := tmod_b (x := x) (m := wd) (by omega)
            refine m_y (v := .int .i64 (x.tmod wd)) 9 rfl (by kernel_rfl) rfl rfl (fun w' e' => y_tmod rfl rfl (by omega)) ?_
            refine m_y (v := .int .i64 y) 10 rfl (by kernel_rfl) rfl rfl (fun w' e' => y_move rfl) ?_
            refine m_y (v := .pointer (some ⟨b1, 1, none⟩)) 11 rfl (by kernel_rfl) rfl rfl (fun w' e' => y_fld (o := 0) T55.fld_26_1_1 rfl) ?_
            refine m_y (v := .int .i64 hi) 12 rfl (by kernel_rfl) rfl rfl (fun w' e' => y_load T55.one_2 rfl (((B0_32.b 2 rfl).ext0 e').cell (j := 1) rfl)) ?_
            have hm35 := tmod_b (x := y) (m := hi) (by omega)
            refine m_y (v := .int .i64 (y.tmod hi)) 13 rfl (by kernel_rfl) rfl rfl (fun w' e' => y_tmod rfl rfl (by omega)) ?_
            refine m_two 14 16 (by kernel_rfl) rfl rfl rfl rfl rfl rfl (fun w36 e37 => ?_) (fun w38 e39 => ?_)
            · replace R33 := R33.trans (Ext0.any e37)
              replace B := B.ext0 e37
              clear e37
              refine k_call T55.fn_95 (c_s_l02Place (B.r 5 rfl) (by omega) (by omega) (by omega) (by omega) (by omega) (by omega) (by omega) (by omega) (by omega)) rfl ?_
              rintro _ w40 ⟨a41, c42, rfl, hN43⟩
              replace R33 := R33.trans (Ext0.any hN43.ext)
              replace B := B.new1 hN43
              clear hN43
              refine ⟨fun _ => R33, ?_⟩
              refine m_y (v := .agg #[.slice a41 ((wd * hi).toNat) c42, .slice none 0 0, .slice none 0 0]) 15 rfl (by kernel_rfl) rfl rfl (fun w' e' => y_build (cells := #[.slice a41 ((wd * hi).toNat) c42, .slice none 0 0, .slice none 0 0]) (by kernel_rfl)) ?_
              refine m_k 16 [17] rfl (by kernel_rfl) rfl rfl (fun w47 e48 => ?_)
              replace R33 := R33.trans (Ext0.any e48)
              replace B := B.ext0 e48
              clear e48
              refine k_allocN (z := (.agg #[.slice none 0 0, .slice none 0 0, .slice none 0 0])) (cs := [.slice none 0 0, .slice none 0 0, .slice none 0 0]) T55.zero_49 rfl (fun b44 w45 hN46 => ?_)
              have nf49 : NotLt b44 _ := fun h => Nat.not_lt.2 (Nat.le_trans (Ext.size R33) hN46.ge) h
              replace R33 := R33.trans (Ext0.any hN46.ext)
              replace B := B.new1 hN46
              clear hN46
              refine ⟨fun _ => R33, ?_⟩
              refine m_kt 17 [] rfl (by kernel_rfl) rfl rfl (by kernel_rfl) (fun w53 e54 => ?_)
              replace R33 := R33.trans (Ext0.any e54)
              replace B := B.ext0 e54
              clear e54
              refine k_stB (v := .agg #[.slice a41 ((wd * hi).toNat) c42, .slice none 0 0, .slice none 0 0]) (n := 3) (cs' := [.slice a41 ((wd * hi).toNat) c42, .slice none 0 0, .slice none 0 0]) T55.sz_49_3 rfl rfl rfl (B.b 0 rfl) (by simp [Value.cells, Value.oneCell']) (Nat.le_of_ble_eq_true rfl) rfl (fun w51 hU52 => ?_)
              clear R33
              replace B : Bu w no w51 [.blk b44 [.slice a41 ((wd * hi).toNat) c42, .slice none 0 0, .slice none 0 0] 49, .ow kF a41 ((wd * hi).toNat) c42 56 (placeL Xfe wd hi 3 (x.tmod wd) (y.tmod hi)), .blk b7 [.slice none 0 0, .slice none 0 0, .slice none 0 0] 49, .blk b4 [.slice afe nfe cfe, .slice afx nfx cfx, .slice afy nfy cfy] 49, .blk b1 [.int .i64 wd, .int .i64 hi, .bool true, .slice asp nsp csp, .slice als nls cls] 26, .rd kF asp nsp Xsp, .rd kF als nls Xls, .rd kF afe nfe Xfe, .rd kF afx nfx Xfx, .rd kF afy nfy Xfy] := B.upd [0] rfl hU52
              clear hU52
              refine m_done (by kernel_rfl) (fun w55 e56 => ?_)
              replace B := B.ext0 e56
              clear e56
              clear B0_32
              exact ⟨_, b44, a41, c42, Fits.eq ⟨rfl, rfl, rfl, rfl, rfl, rfl, rfl, trivial⟩, B⟩
            · replace R33 := R33.trans (Ext0.any e39)
              replace B := B.ext0 e39
              clear e39
              refine k_allocN (z := (.agg #[.slice none 0 0, .slice none 0 0, .slice none 0 0])) (cs := [.slice none 0 0, .slice none 0 0, .slice none 0 0]) T55.zero_49 rfl (fun b57 w58 hN59 => ?_)
              have nf60 : NotLt b57 _ := fun h => Nat.not_lt.2 (Nat.le_trans (Ext.size R33) hN59.ge) h
              replace R33 := R33.trans (Ext0.any hN59.ext)
              replace B := B.new1 hN59
              clear hN59
              refine ⟨fun _ => R33, ?_⟩
              refine m_k 14 [15, 17] rfl (by kernel_rfl) rfl rfl (fun w62 e63 => ?_)
              replace R33 := R33.trans (Ext0.any e63)
              replace B := B.ext0 e63
              clear e63
              refine k_call T55.fn_95 (c_s_l02Place (B.r 6 rfl) (by omega) (by omega) (by omega) (by omega) (by omega) (by omega) (by omega) (by omega) (by omega)) rfl ?_
              rintro _ w64 ⟨a65, c66, rfl, hN67⟩
              replace R33 := R33.trans (Ext0.any hN67.ext)
              replace B := B.new1 hN67
              clear hN67
              refine ⟨fun _ => R33, ?_⟩
              refine m_y (v := .agg #[.slice a65 ((wd * hi).toNat) c66, .slice none 0 0, .slice none 0 0]) 15 rfl (by kernel_rfl) rfl rfl (fun w' e' => y_build (cells := #[.slice a65 ((wd * hi).toNat) c66, .slice none 0 0, .slice none 0 0]) (by kernel_rfl)) ?_
              refine m_kt 17 [] rfl (by kernel_rfl) rfl rfl (by kernel_rfl) (fun w70 e71 => ?_)
              replace R33 := R33.trans (Ext0.any e71)
              replace B := B.ext0 e71
              clear e71
              refine k_stB (v := .agg #[.slice a65 ((wd * hi).toNat) c66, .slice none 0 0, .slice none 0 0]) (n := 3) (cs' := [.slice a65 ((wd * hi).toNat) c66, .slice none 0 0, .slice none 0 0]) T55.sz_49_3 rfl rfl rfl (B.b 1 rfl) (by simp [Value.cells, Value.oneCell']) (Nat.le_of_ble_eq_true rfl) rfl (fun w68 hU69 => ?_)
              clear R33
              replace B : Bu w no w68 [.blk b57 [.slice a65 ((wd * hi).toNat) c66, .slice none 0 0, .slice none 0 0] 49, .ow kF a65 ((wd * hi).toNat) c66 56 (placeL Xfe wd hi 3 (x.tmod wd) (y.tmod hi)), .blk b7 [.slice none 0 0, .slice none 0 0, .slice none 0 0] 49, .blk b4 [.slice afe nfe cfe, .slice afx nfx cfx, .slice afy nfy cfy] 49, .blk b1 [.int .i64 wd, .int .i64 hi, .bool true, .slice asp nsp csp, .slice als nls cls] 26, .rd kF asp nsp Xsp, .rd kF als nls Xls, .rd kF afe nfe Xfe, .rd kF afx nfx Xfx, .rd kF afy nfy Xfy] := B.upd [1] rfl hU69
              clear hU69
              refine m_done (by kernel_rfl) (fun w72 e73 => ?_)
              replace B := B.ext0 e73
              clear e73
              clear B0_32
              exact ⟨_, b57, a65, c66, Fits.eq ⟨rfl, rfl, rfl, rfl, rfl, rfl, rfl, trivial⟩, B⟩
          · clear B; rintro _ w74 (⟨ρ75, b44, a41, c42, rfl, B⟩)
            refine W_seq ?_
            have B0_80 := B
            refine W_draw (no) T55.mx (by kernel_rfl) (fun w78 e79 => ?_)
            have R81 := Ext.refl (no) w74
            replace R81 := R81.trans (Ext0.any e79)
            replace B := B.ext0 e79
            clear e79
            refine m_y (v := .pointer (some ⟨b4, 1, none⟩)) 0 rfl (by kernel_rfl) rfl rfl (fun w' e' => y_fld (o := 0) T55.fld_49_1_1 rfl) ?_
            refine m_y (v := .slice afx nfx cfx) 1 rfl (by kernel_rfl) rfl rfl (fun w' e' => y_load T55.one_24 rfl (((B0_80.b 3 rfl).ext0 e').cell (j := 1) rfl)) ?_
            refine m_y (v := .pointer (some ⟨b1, 0, none⟩)) 2 rfl (by kernel_rfl) rfl rfl (fun w' e' => y_fld (o := 0) T55.fld_26_0_0 rfl) ?_
            refine m_y (v := .int .i64 wd) 3 rfl (by kernel_rfl) rfl rfl (fun w' e' => y_load T55.one_2 rfl (((B0_80.b 4 rfl).ext0 e').cell (j := 0) rfl)) ?_
            refine m_y (v := .pointer (some ⟨b1, 1, none⟩)) 4 rfl (by kernel_rfl) rfl rfl (fun w' e' => y_fld (o := 0) T55.fld_26_1_1 rfl) ?_
            refine m_y (v := .int .i64 hi) 5 rfl (by kernel_rfl) rfl rfl (fun w' e' => y_load T55.one_2 rfl (((B0_80.b 4 rfl).ext0 e').cell (j := 1) rfl)) ?_
            refine m_y (v := .int .i64 x) 6 rfl (by kernel_rfl) rfl rfl (fun w' e' => y_move rfl) ?_
            refine m_y (v := .pointer (some ⟨b1, 0, none⟩)) 7 rfl (by kernel_rfl) rfl rfl (fun w' e' => y_fld (o := 0) T55.fld_26_0_0 rfl) ?_
            refine m_y (v := .int .i64 wd) 8 rfl (by kernel_rfl) rfl rfl (fun w' e' => y_load T55.one_2 rfl (((B0_80.b 4 rfl).ext0 e').cell (j := 0) rfl)) ?_
            have hm82 := tmod_b (x := x) (m := wd) (by omega)
            refine m_y (v := .int .i64 (x.tmod wd)) 9 rfl (by kernel_rfl) rfl rfl (fun w' e' => y_tmod rfl rfl (by omega)) ?_
            refine m_y (v := .int .i64 y) 10 rfl (by kernel_rfl) rfl rfl (fun w' e' => y_move rfl) ?_
            refine m_y (v := .pointer (some ⟨b1, 1, none⟩)) 11 rfl (by kernel_rfl) rfl rfl (fun w' e' => y_fld (o := 0) T55.fld_26_1_1 rfl) ?_
            refine m_y (v := .int .i64 hi) 12 rfl (by kernel_rfl) rfl rfl (fun w' e' => y_load T55.one_2 rfl (((B0_80.b 4 rfl).ext0 e').cell (j := 1) rfl)) ?_
            have hm83 := tmod_b (x := y) (m := hi) (by omega)
            refine m_y (v := .int .i64 (y.tmod hi)) 13 rfl (by kernel_rfl) rfl rfl (fun w' e' => y_tmod rfl rfl (by omega)) ?_
            refine m_k 14 [15, 16] rfl (by kernel_rfl) rfl rfl (fun w84 e85 => ?_)
            replace R81 := R81.trans (Ext0.any e85)
            replace B := B.ext0 e85
            clear e85
            refine k_call T55.fn_95 (c_s_l02Place (B.r 8 rfl) (by omega) (by omega) (by omega) (by omega) (by omega) (by omega) (by omega) (by omega) (by omega)) rfl ?_
            rintro _ w86 ⟨a87, c88, rfl, hN89⟩
            replace R81 := R81.trans (Ext0.any hN89.ext)
            replace B := B.new1 hN89
            clear hN89
            refine ⟨fun _ => R81, ?_⟩
            refine m_y (v := .pointer (some ⟨b44, 1, none⟩)) 15 rfl (by kernel_rfl) rfl rfl (fun w' e' => y_fld (o := 0) T55.fld_49_1_1 rfl) ?_
            refine m_kt 16 [] rfl (by kernel_rfl) rfl rfl (by kernel_rfl) (fun w92 e93 => ?_)
            replace R81 := R81.trans (Ext0.any e93)
            replace B := B.ext0 e93
            clear e93
            refine k_stB (v := .slice a87 ((wd * hi).toNat) c88) (n := 1) (cs' := [.slice a41 ((wd * hi).toNat) c42, .slice a87 ((wd * hi).toNat) c88, .slice none 0 0]) T55.sz_24_1 rfl rfl rfl (B.b 1 rfl) (by simp [Value.cells, Value.oneCell']) (Nat.le_of_ble_eq_true rfl) rfl (fun w90 hU91 => ?_)
            clear R81
            replace B : Bu w no w90 [.blk b44 [.slice a41 ((wd * hi).toNat) c42, .slice a87 ((wd * hi).toNat) c88, .slice none 0 0] 49, .ow kF a87 ((wd * hi).toNat) c88 56 (placeL Xfx wd hi 3 (x.tmod wd) (y.tmod hi)), .ow kF a41 ((wd * hi).toNat) c42 56 (placeL Xfe wd hi 3 (x.tmod wd) (y.tmod hi)), .blk b7 [.slice none 0 0, .slice none 0 0, .slice none 0 0] 49, .blk b4 [.slice afe nfe cfe, .slice afx nfx cfx, .slice afy nfy cfy] 49, .blk b1 [.int .i64 wd, .int .i64 hi, .bool true, .slice asp nsp csp, .slice als nls cls] 26, .rd kF asp nsp Xsp, .rd kF als nls Xls, .rd kF afe nfe Xfe, .rd kF afx nfx Xfx, .rd kF afy nfy Xfy] := B.upd [1] rfl hU91
            clear hU91
            refine m_done (by kernel_rfl) (fun w94 e95 => ?_)
            replace B := B.ext0 e95
            clear e95
            clear B0_80
            refine W_seq ?_
            have B0_100 := B
            refine W_draw (no) T55.mx (by kernel_rfl) (fun w98 e99 => ?_)
            have R101 := Ext.refl (no) w94
            replace R101 := R101.trans (Ext0.any e99)
            replace B := B.ext0 e99
            clear e99
            refine m_y (v := .pointer (some ⟨b4, 2, none⟩)) 0 rfl (by kernel_rfl) rfl rfl (fun w' e' => y_fld (o := 0) T55.fld_49_2_2 rfl) ?_
            refine m_y (v := .slice afy nfy cfy) 1 rfl (by kernel_rfl) rfl rfl (fun w' e' => y_load T55.one_24 rfl (((B0_100.b 4 rfl).ext0 e').cell (j := 2) rfl)) ?_
            refine m_y (v := .pointer (some ⟨b1, 0, none⟩)) 2 rfl (by kernel_rfl) rfl rfl (fun w' e' => y_fld (o := 0) T55.fld_26_0_0 rfl) ?_
            refine m_y (v := .int .i64 wd) 3 rfl (by kernel_rfl) rfl rfl (fun w' e' => y_load T55.one_2 rfl (((B0_100.b 5 rfl).ext0 e').cell (j := 0) rfl)) ?_
            refine m_y (v := .pointer (some ⟨b1, 1, none⟩)) 4 rfl (by kernel_rfl) rfl rfl (fun w' e' => y_fld (o := 0) T55.fld_26_1_1 rfl) ?_
            refine m_y (v := .int .i64 hi) 5 rfl (by kernel_rfl) rfl rfl (fun w' e' => y_load T55.one_2 rfl (((B0_100.b 5 rfl).ext0 e').cell (j := 1) rfl)) ?_
            refine m_y (v := .int .i64 x) 6 rfl (by kernel_rfl) rfl rfl (fun w' e' => y_move rfl) ?_
            refine m_y (v := .pointer (some ⟨b1, 0, none⟩)) 7 rfl (by kernel_rfl) rfl rfl (fun w' e' => y_fld (o := 0) T55.fld_26_0_0 rfl) ?_
            refine m_y (v := .int .i64 wd) 8 rfl (by kernel_rfl) rfl rfl (fun w' e' => y_load T55.one_2 rfl (((B0_100.b 5 rfl).ext0 e').cell (j := 0) rfl)) ?_
            have hm102 := tmod_b (x := x) (m := wd) (by omega)
            refine m_y (v := .int .i64 (x.tmod wd)) 9 rfl (by kernel_rfl) rfl rfl (fun w' e' => y_tmod rfl rfl (by omega)) ?_
            refine m_y (v := .int .i64 y) 10 rfl (by kernel_rfl) rfl rfl (fun w' e' => y_move rfl) ?_
            refine m_y (v := .pointer (some ⟨b1, 1, none⟩)) 11 rfl (by kernel_rfl) rfl rfl (fun w' e' => y_fld (o := 0) T55.fld_26_1_1 rfl) ?_
            refine m_y (v := .int .i64 hi) 12 rfl (by kernel_rfl) rfl rfl (fun w' e' => y_load T55.one_2 rfl (((B0_100.b 5 rfl).ext0 e').cell (j := 1) rfl)) ?_
            have hm103 := tmod_b (x := y) (m := hi) (by omega)
            refine m_y (v := .int .i64 (y.tmod hi)) 13 rfl (by kernel_rfl) rfl rfl (fun w' e' => y_tmod rfl rfl (by omega)) ?_
            refine m_k 14 [15, 16] rfl (by kernel_rfl) rfl rfl (fun w104 e105 => ?_)
            replace R101 := R101.trans (Ext0.any e105)
            replace B := B.ext0 e105
            clear e105
            refine k_call T55.fn_95 (c_s_l02Place (B.r 10 rfl) (by omega) (by omega) (by omega) (by omega) (by omega) (by omega) (by omega) (by omega) (by omega)) rfl ?_
            rintro _ w106 ⟨a107, c108, rfl, hN109⟩
            replace R101 := R101.trans (Ext0.any hN109.ext)
            replace B := B.new1 hN109
            clear hN109
            refine ⟨fun _ => R101, ?_⟩
            refine m_y (v := .pointer (some ⟨b44, 2, none⟩)) 15 rfl (by kernel_rfl) rfl rfl (fun w' e' => y_fld (o := 0) T55.fld_49_2_2 rfl) ?_
            refine m_kt 16 [] rfl (by kernel_rfl) rfl rfl (by kernel_rfl) (fun w112 e113 => ?_)
            replace R101 := R101.trans (Ext0.any e113)
            replace B := B.ext0 e113
            clear e113
            refine k_stB (v := .slice a107 ((wd * hi).toNat) c108) (n := 1) (cs' := [.slice a41 ((wd * hi).toNat) c42, .slice a87 ((wd * hi).toNat) c88, .slice a107 ((wd * hi).toNat) c108]) T55.sz_24_1 rfl rfl rfl (B.b 1 rfl) (by simp [Value.cells, Value.oneCell']) (Nat.le_of_ble_eq_true rfl) rfl (fun w110 hU111 => ?_)
            clear R101
            replace B : Bu w no w110 [.blk b44 [.slice a41 ((wd * hi).toNat) c42, .slice a87 ((wd * hi).toNat) c88, .slice a107 ((wd * hi).toNat) c108] 49, .ow kF a107 ((wd * hi).toNat) c108 56 (placeL Xfy wd hi 3 (x.tmod wd) (y.tmod hi)), .ow kF a87 ((wd * hi).toNat) c88 56 (placeL Xfx wd hi 3 (x.tmod wd) (y.tmod hi)), .ow kF a41 ((wd * hi).toNat) c42 56 (placeL Xfe wd hi 3 (x.tmod wd) (y.tmod hi)), .blk b7 [.slice none 0 0, .slice none 0 0, .slice none 0 0] 49, .blk b4 [.slice afe nfe cfe, .slice afx nfx cfx, .slice afy nfy cfy] 49, .blk b1 [.int .i64 wd, .int .i64 hi, .bool true, .slice asp nsp csp, .slice als nls cls] 26, .rd kF asp nsp Xsp, .rd kF als nls Xls, .rd kF afe nfe Xfe, .rd kF afx nfx Xfx, .rd kF afy nfy Xfy] := B.upd [1] rfl hU111
            clear hU111
            refine m_done (by kernel_rfl) (fun w114 e115 => ?_)
            replace B := B.ext0 e115
            clear e115
            clear B0_100
            refine W_seq ?_
            refine W_region (by kernel_rfl) ?_
            refine s_y (v := .agg #[.slice a41 ((wd * hi).toNat) c42, .slice a87 ((wd * hi).toNat) c88, .slice a107 ((wd * hi).toNat) c108]) rfl (y_loadn (b := b44) (o := 0) (vs := [.slice a41 ((wd * hi).toNat) c42, .slice a87 ((wd * hi).toNat) c88, .slice a107 ((wd * hi).toNat) c108]) T55.agg_49_3 rfl rfl ((B.b 0 rfl).cells (o := 0) rfl)) ?_
            refine s_k0 rfl (k_stB (v := .agg #[.slice a41 ((wd * hi).toNat) c42, .slice a87 ((wd * hi).toNat) c88, .slice a107 ((wd * hi).toNat) c108]) (n := 3) (cs' := [.slice a41 ((wd * hi).toNat) c42, .slice a87 ((wd * hi).toNat) c88, .slice a107 ((wd * hi).toNat) c108]) T55.sz_49_3 rfl rfl rfl (B.b 4 rfl) (by simp [Value.cells, Value.oneCell']) (Nat.le_of_ble_eq_true rfl) rfl (fun w116 hU117 => ?_))
            replace B : Bu w no w116 [.blk b7 [.slice a41 ((wd * hi).toNat) c42, .slice a87 ((wd * hi).toNat) c88, .slice a107 ((wd * hi).toNat) c108] 49, .blk b44 [.slice a41 ((wd * hi).toNat) c42, .slice a87 ((wd * hi).toNat) c88, .slice a107 ((wd * hi).toNat) c108] 49, .ow kF a107 ((wd * hi).toNat) c108 56 (placeL Xfy wd hi 3 (x.tmod wd) (y.tmod hi)), .ow kF a87 ((wd * hi).toNat) c88 56 (placeL Xfx wd hi 3 (x.tmod wd) (y.tmod hi)), .ow kF a41 ((wd * hi).toNat) c42 56 (placeL Xfe wd hi 3 (x.tmod wd) (y.tmod hi)), .blk b4 [.slice afe nfe cfe, .slice afx nfx cfx, .slice afy nfy cfy] 49, .blk b1 [.int .i64 wd, .int .i64 hi, .bool true, .slice asp nsp csp, .slice als nls cls] 26, .rd kF asp nsp Xsp, .rd kF als nls Xls, .rd kF afe nfe Xfe, .rd kF afx nfx Xfx, .rd kF afy nfy Xfy] := B.upd [4] rfl hU117
            clear hU117
            refine s_y (v := .bool true) rfl (y_assign rfl) ?_
            refine s_nil ?_
            refine W_ret ?_
            refine ret2 (v1 := .agg #[.slice a41 ((wd * hi).toNat) c42, .slice a87 ((wd * hi).toNat) c88, .slice a107 ((wd * hi).toNat) c108]) (v2 := .bool true) rfl rfl rfl ⟨_, [.slice a41 ((wd * hi).toNat) c42, .slice a87 ((wd * hi).toNat) c88, .slice a107 ((wd * hi).toNat) c108], _, rfl, (B.b 0 rfl), T55.agg_49_3, rfl⟩ rfl ⟨_, rfl, ?_⟩
            have hcond : shfB wd hi true Xsp Xls Xfe Xfx Xfy x y = true := by simp only [shfB, shB_eq, fieldB, c14, c22, c28, Bool.and_true, Bool.true_and, Bool.and_false, Bool.false_and, Bool.not_true, Bool.not_false, Bool.or_true, Bool.true_or, Bool.or_false, Bool.false_or]
            replace B : Bu w no w116 [.blk b7 [.slice a41 ((wd * hi).toNat) c42, .slice a87 ((wd * hi).toNat) c88, .slice a107 ((wd * hi).toNat) c108] 49, .blk b44 [.slice a41 ((wd * hi).toNat) c42, .slice a87 ((wd * hi).toNat) c88, .slice a107 ((wd * hi).toNat) c108] 49, .ow kF a107 ((wd * hi).toNat) c108 56 (placeL Xfy wd hi 3 (x.tmod wd) (y.tmod hi)), .ow kF a87 ((wd * hi).toNat) c88 56 (placeL Xfx wd hi 3 (x.tmod wd) (y.tmod hi)), .ow kF a41 ((wd * hi).toNat) c42 56 (shfS wd hi x y Xfe), .blk b4 [.slice afe nfe cfe, .slice afx nfx cfx, .slice afy nfy cfy] 49, .blk b1 [.int .i64 wd, .int .i64 hi, .bool true, .slice asp nsp csp, .slice als nls cls] 26, .rd kF asp nsp Xsp, .rd kF als nls Xls, .rd kF afe nfe Xfe, .rd kF afx nfx Xfx, .rd kF afy nfy Xfy] := B.castX 4 rfl rfl place_3
            replace B : Bu w no w116 [.blk b7 [.slice a41 ((wd * hi).toNat) c42, .slice a87 ((wd * hi).toNat) c88, .slice a107 ((wd * hi).toNat) c108] 49, .blk b44 [.slice a41 ((wd * hi).toNat) c42, .slice a87 ((wd * hi).toNat) c88, .slice a107 ((wd * hi).toNat) c108] 49, .ow kF a107 ((wd * hi).toNat) c108 56 (placeL Xfy wd hi 3 (x.tmod wd) (y.tmod hi)), .ow kF a87 ((wd * hi).toNat) c88 56 (shfS wd hi x y Xfx), .ow kF a41 ((wd * hi).toNat) c42 56 (shfS wd hi x y Xfe), .blk b4 [.slice afe nfe cfe, .slice afx nfx cfx, .slice afy nfy cfy] 49, .blk b1 [.int .i64 wd, .int .i64 hi, .bool true, .slice asp nsp csp, .slice als nls cls] 26, .rd kF asp nsp Xsp, .rd kF als nls Xls, .rd kF afe nfe Xfe, .rd kF afx nfx Xfx, .rd kF afy nfy Xfy] := B.castX 3 rfl rfl place_3
            replace B : Bu w no w116 [.blk b7 [.slice a41 ((wd * hi).toNat) c42, .slice a87 ((wd * hi).toNat) c88, .slice a107 ((wd * hi).toNat) c108] 49, .blk b44 [.slice a41 ((wd * hi).toNat) c42, .slice a87 ((wd * hi).toNat) c88, .slice a107 ((wd * hi).toNat) c108] 49, .ow kF a107 ((wd * hi).toNat) c108 56 (shfS wd hi x y Xfy), .ow kF a87 ((wd * hi).toNat) c88 56 (shfS wd hi x y Xfx), .ow kF a41 ((wd * hi).toNat) c42 56 (shfS wd hi x y Xfe), .blk b4 [.slice afe nfe cfe, .slice afx nfx cfx, .slice afy nfy cfy] 49, .blk b1 [.int .i64 wd, .int .i64 hi, .bool true, .slice asp nsp csp, .slice als nls cls] 26, .rd kF asp nsp Xsp, .rd kF als nls Xls, .rd kF afe nfe Xfe, .rd kF afx nfx Xfx, .rd kF afy nfy Xfy] := B.castX 2 rfl rfl place_3
            exact .inl ⟨hcond, ⟨_, _, _, _, _, _, rfl, B.give [4, 3, 2] rfl rfl rfl⟩⟩
        · obtain rfl : v26 = .bool false := hv27.trans (congrArg Value.bool (Bool.eq_false_iff.2 c28))
          refine s_y (v := .bool true) rfl (y_not rfl rfl) ?_
          refine s_y (v := .bool true) rfl (y_pick_f rfl rfl) ?_
          refine s_nil ?_
          refine W_if_t (by decide) rfl ?_
          refine W_seq ?_
          refine W_region (by kernel_rfl) ?_
          refine s_y (v := .agg #[.slice none 0 0, .slice none 0 0, .slice none 0 0]) rfl (y_build (cells := #[.slice none 0 0, .slice none 0 0, .slice none 0 0]) (by kernel_rfl)) ?_
          refine s_k0 rfl (k_stB (v := .agg #[.slice none 0 0, .slice none 0 0, .slice none 0 0]) (n := 3) (cs' := [.slice none 0 0, .slice none 0 0, .slice none 0 0]) T55.sz_49_3 rfl rfl rfl (B.b 0 rfl) (by simp [Value.cells, Value.oneCell']) (Nat.le_of_ble_eq_true rfl) rfl (fun w118 hU119 => ?_))
          replace B : Bu w no w118 [.blk b7 [.slice none 0 0, .slice none 0 0, .slice none 0 0] 49, .blk b4 [.slice afe nfe cfe, .slice afx nfx cfx, .slice afy nfy cfy] 49, .blk b1 [.int .i64 wd, .int .i64 hi, .bool true, .slice asp nsp csp, .slice als nls cls] 26, .rd kF asp nsp Xsp, .rd kF als nls Xls, .rd kF afe nfe Xfe, .rd kF afx nfx Xfx, .rd kF afy nfy Xfy] := B.upd [0] rfl hU119
          clear hU119
          refine s_y (v := .bool false) rfl (y_assign rfl) ?_
          refine s_nil ?_
          refine W_ret ?_
          refine ret2 (v1 := .agg #[.slice none 0 0, .slice none 0 0, .slice none 0 0]) (v2 := .bool false) rfl rfl rfl ⟨_, [.slice none 0 0, .slice none 0 0, .slice none 0 0], _, rfl, (B.b 0 rfl), T55.agg_49_3, rfl⟩ rfl ⟨_, rfl, ?_⟩
          exact .inr ⟨by simp only [shfB, shB_eq, fieldB, c14, c22, (Bool.eq_false_iff.2 c28), Bool.and_true, Bool.true_and, Bool.and_false, Bool.false_and, Bool.not_true, Bool.not_false, Bool.or_true, Bool.true_or, Bool.or_false, Bool.false_or], rfl, B.ext⟩
      · obtain rfl : v20 = .bool false := hv21.trans (congrArg Value.bool (Bool.eq_false_iff.2 c22))
        refine s_y (v := .bool true) rfl (y_not rfl rfl) ?_
        refine s_y (v := .bool true) rfl (y_pick_f rfl rfl) ?_
        refine s_y (v := .bool true) rfl (y_move rfl) ?_
        refine s_skip rfl ?_
        refine s_skip rfl ?_
        refine s_skip rfl ?_
        refine s_skip rfl ?_
        refine s_y (v := .bool true) rfl (y_pick_t rfl rfl) ?_
        refine s_nil ?_
        refine W_if_t (by decide) rfl ?_
        refine W_seq ?_
        refine W_region (by kernel_rfl) ?_
        refine s_y (v := .agg #[.slice none 0 0, .slice none 0 0, .slice none 0 0]) rfl (y_build (cells := #[.slice none 0 0, .slice none 0 0, .slice none 0 0]) (by kernel_rfl)) ?_
        refine s_k0 rfl (k_stB (v := .agg #[.slice none 0 0, .slice none 0 0, .slice none 0 0]) (n := 3) (cs' := [.slice none 0 0, .slice none 0 0, .slice none 0 0]) T55.sz_49_3 rfl rfl rfl (B.b 0 rfl) (by simp [Value.cells, Value.oneCell']) (Nat.le_of_ble_eq_true rfl) rfl (fun w120 hU121 => ?_))
        replace B : Bu w no w120 [.blk b7 [.slice none 0 0, .slice none 0 0, .slice none 0 0] 49, .blk b4 [.slice afe nfe cfe, .slice afx nfx cfx, .slice afy nfy cfy] 49, .blk b1 [.int .i64 wd, .int .i64 hi, .bool true, .slice asp nsp csp, .slice als nls cls] 26, .rd kF asp nsp Xsp, .rd kF als nls Xls, .rd kF afe nfe Xfe, .rd kF afx nfx Xfx, .rd kF afy nfy Xfy] := B.upd [0] rfl hU121
        clear hU121
        refine s_y (v := .bool false) rfl (y_assign rfl) ?_
        refine s_nil ?_
        refine W_ret ?_
        refine ret2 (v1 := .agg #[.slice none 0 0, .slice none 0 0, .slice none 0 0]) (v2 := .bool false) rfl rfl rfl ⟨_, [.slice none 0 0, .slice none 0 0, .slice none 0 0], _, rfl, (B.b 0 rfl), T55.agg_49_3, rfl⟩ rfl ⟨_, rfl, ?_⟩
        exact .inr ⟨by simp only [shfB, shB_eq, fieldB, c14, (Bool.eq_false_iff.2 c22), Bool.and_true, Bool.true_and, Bool.and_false, Bool.false_and, Bool.not_true, Bool.not_false, Bool.or_true, Bool.true_or, Bool.or_false, Bool.false_or], rfl, B.ext⟩
  · obtain rfl : v12 = .bool false := hv13.trans (congrArg Value.bool (Bool.eq_false_iff.2 c14))
    refine s_y (v := .bool true) rfl (y_not rfl rfl) ?_
    refine s_y (v := .bool true) rfl (y_move rfl) ?_
    refine s_skip rfl ?_
    refine s_skip rfl ?_
    refine s_skip rfl ?_
    refine s_y (v := .bool true) rfl (y_pick_t rfl rfl) ?_
    refine s_y (v := .bool true) rfl (y_move rfl) ?_
    refine s_skip rfl ?_
    refine s_skip rfl ?_
    refine s_y (v := .bool true) rfl (y_pick_t rfl rfl) ?_
    refine s_y (v := .bool true) rfl (y_move rfl) ?_
    refine s_skip rfl ?_
    refine s_skip rfl ?_
    refine s_skip rfl ?_
    refine s_skip rfl ?_
    refine s_y (v := .bool true) rfl (y_pick_t rfl rfl) ?_
    refine s_nil ?_
    refine W_if_t (by decide) rfl ?_
    refine W_seq ?_
    refine W_region (by kernel_rfl) ?_
    refine s_y (v := .agg #[.slice none 0 0, .slice none 0 0, .slice none 0 0]) rfl (y_build (cells := #[.slice none 0 0, .slice none 0 0, .slice none 0 0]) (by kernel_rfl)) ?_
    refine s_k0 rfl (k_stB (v := .agg #[.slice none 0 0, .slice none 0 0, .slice none 0 0]) (n := 3) (cs' := [.slice none 0 0, .slice none 0 0, .slice none 0 0]) T55.sz_49_3 rfl rfl rfl (B.b 0 rfl) (by simp [Value.cells, Value.oneCell']) (Nat.le_of_ble_eq_true rfl) rfl (fun w122 hU123 => ?_))
    replace B : Bu w no w122 [.blk b7 [.slice none 0 0, .slice none 0 0, .slice none 0 0] 49, .blk b4 [.slice afe nfe cfe, .slice afx nfx cfx, .slice afy nfy cfy] 49, .blk b1 [.int .i64 wd, .int .i64 hi, .bool wr, .slice asp nsp csp, .slice als nls cls] 26, .rd kF asp nsp Xsp, .rd kF als nls Xls, .rd kF afe nfe Xfe, .rd kF afx nfx Xfx, .rd kF afy nfy Xfy] := B.upd [0] rfl hU123
    clear hU123
    refine s_y (v := .bool false) rfl (y_assign rfl) ?_
    refine s_nil ?_
    refine W_ret ?_
    refine ret2 (v1 := .agg #[.slice none 0 0, .slice none 0 0, .slice none 0 0]) (v2 := .bool false) rfl rfl rfl ⟨_, [.slice none 0 0, .slice none 0 0, .slice none 0 0], _, rfl, (B.b 0 rfl), T55.agg_49_3, rfl⟩ rfl ⟨_, rfl, ?_⟩
    exact .inr ⟨by simp only [shfB, shB_eq, fieldB, (Bool.eq_false_iff.2 c14), Bool.and_true, Bool.true_and, Bool.and_false, Bool.false_and, Bool.not_true, Bool.not_false, Bool.or_true, Bool.true_or, Bool.or_false, Bool.false_or], rfl, B.ext⟩
namespace T96
theorem mx : Try.prog.follows .mixedOrders = true := by kernel_rfl
theorem agg_26_5 : aggB Try.prog 26 5 = true := by kernel_rfl
theorem fld_26_2_2 : fldB Try.prog 26 2 2 = true := by kernel_rfl
theorem fn_19 : fnB Try.prog 19 = true := by kernel_rfl
theorem fn_64 : fnB Try.prog 64 = true := by kernel_rfl
theorem one_4 : oneB Try.prog 4 = true := by kernel_rfl
end T96
set_option maxRecDepth 100000 in
set_option maxHeartbeats 4000000 in
theorem c_i_isShift {wd : Int} {hi : Int} {wr : Bool} {asp : Option Addr} {nsp : Nat} {csp : Nat} {Xsp : List Nat} {als : Option Addr} {nls : Nat} {cls : Nat} {Xls : List Nat} {x : Int} {y : Int} {w : World} (qsp : Rd w kF asp nsp Xsp) (qls : Rd w kF als nls Xls) (hbsp : nsp ≤ 9223372036854775806) (hbls : nls ≤ 9223372036854775806) :
    Calls Try.prog 96 #[.agg #[.int .i64 wd, .int .i64 hi, .bool wr, .slice asp nsp csp, .slice als nls cls], .int .i64 x, .int .i64 y] w (Rt fun v w' => v = .bool (shB wd hi wr Xsp Xls x y) ∧ Ext0 w w') := by
  have hlsp := qsp.len
  have hlls := qls.len
  have B : Bu w no w [.rd kF asp nsp Xsp, .rd kF als nls Xls] := Bu.ro (All.cons qsp (All.cons qls All.nil)) rfl
  refine calls_W (n := 21) Try.func96 rfl rfl (Nat.le_of_ble_eq_true rfl) ?_
  refine W_seq ?_
  refine W_region (by kernel_rfl) ?_
  refine s_k rfl (k_boxN (v := .agg #[.int .i64 wd, .int .i64 hi, .bool wr, .slice asp nsp csp, .slice als nls cls]) (cs := [.int .i64 wd, .int .i64 hi, .bool wr, .slice asp nsp csp, .slice als nls cls]) rfl rfl (fun b1 w2 hN3 => ?_))
  replace B := B.new1 hN3
  clear hN3
  refine s_y (v := .bool false) rfl (y_assign rfl) ?_
  refine s_nil ?_
  refine W_seq ?_
  refine W_region (by kernel_rfl) ?_
  refine s_y (v := .agg #[.int .i64 wd, .int .i64 hi, .bool wr, .slice asp nsp csp, .slice als nls cls]) rfl (y_loadn (b := b1) (o := 0) (vs := [.int .i64 wd, .int .i64 hi, .bool wr, .slice asp nsp csp, .slice als nls cls]) T96.agg_26_5 rfl rfl ((B.b 0 rfl).cells (o := 0) rfl)) ?_
  refine s_k rfl (k_call T96.fn_19 (c_i_ValidSheet (B.r 1 rfl) (B.r 2 rfl) (by omega) (by omega)) rfl ?_)
  rintro v6 w4 ⟨hv7, e5⟩
  replace B := B.ext0 e5
  clear e5
  by_cases c8 : validS wd hi Xsp Xls = true
  · have hb9 := validS_b c8
    obtain rfl : v6 = .bool true := hv7.trans (congrArg Value.bool c8)
    refine s_y (v := .bool true) rfl (y_move rfl) ?_
    refine s_y (v := .pointer (some ⟨b1, 2, none⟩)) rfl (y_fld (o := 0) T96.fld_26_2_2 rfl) ?_
    refine s_y (v := .bool wr) rfl (y_load T96.one_4 rfl ((B.b 0 rfl).cell (j := 2) rfl)) ?_
    refine s_y (v := .bool wr) rfl (y_pick_t rfl rfl) ?_
    refine s_y (v := .bool wr) rfl (y_move rfl) ?_
    cases wr
    · refine s_skip rfl ?_
      refine s_skip rfl ?_
      refine s_y (v := .bool false) rfl (y_pick_f rfl rfl) ?_
      refine s_y (v := .bool false) rfl (y_move rfl) ?_
      refine s_skip rfl ?_
      refine s_skip rfl ?_
      refine s_y (v := .bool false) rfl (y_pick_f rfl rfl) ?_
      refine s_y (v := .bool false) rfl (y_assign rfl) ?_
      refine s_nil ?_
      refine W_ret ?_
      refine ret1 (v := .bool false) rfl rfl rfl ⟨_, rfl, ?_⟩
      exact ⟨congrArg Value.bool (by simp only [shB, c8, Bool.and_true, Bool.true_and, Bool.and_false, Bool.false_and, Bool.not_true, Bool.not_false, Bool.or_true, Bool.true_or, Bool.or_false, Bool.false_or]), B.ext⟩
    · refine s_y (v := .int .i64 x) rfl (y_move rfl) ?_
      refine s_k rfl (k_call T96.fn_64 (c_i_within) rfl ?_)
      rintro v12 w10 ⟨hv13, e11⟩
      replace B := B.ext0 e11
      clear e11
      by_cases c14 : within x (-16) 16 = true
      · have hb15 := within_b c14
        obtain rfl : v12 = .bool true := hv13.trans (congrArg Value.bool c14)
        refine s_y (v := .bool true) rfl (y_pick_t rfl rfl) ?_
        refine s_y (v := .bool true) rfl (y_move rfl) ?_
        refine s_y (v := .int .i64 y) rfl (y_move rfl) ?_
        refine s_k rfl (k_call T96.fn_64 (c_i_within) rfl ?_)
        rintro v18 w16 ⟨hv19, e17⟩
        replace B := B.ext0 e17
        clear e17
        by_cases c20 : within y (-16) 16 = true
        · have hb21 := within_b c20
          obtain rfl : v18 = .bool true := hv19.trans (congrArg Value.bool c20)
          refine s_y (v := .bool true) rfl (y_pick_t rfl rfl) ?_
          refine s_y (v := .bool true) rfl (y_assign rfl) ?_
          refine s_nil ?_
          refine W_ret ?_
          refine ret1 (v := .bool true) rfl rfl rfl ⟨_, rfl, ?_⟩
          exact ⟨congrArg Value.bool (by simp only [shB, c8, c14, c20, Bool.and_true, Bool.true_and, Bool.and_false, Bool.false_and, Bool.not_true, Bool.not_false, Bool.or_true, Bool.true_or, Bool.or_false, Bool.false_or]), B.ext⟩
        · obtain rfl : v18 = .bool false := hv19.trans (congrArg Value.bool (Bool.eq_false_iff.2 c20))
          refine s_y (v := .bool false) rfl (y_pick_t rfl rfl) ?_
          refine s_y (v := .bool false) rfl (y_assign rfl) ?_
          refine s_nil ?_
          refine W_ret ?_
          refine ret1 (v := .bool false) rfl rfl rfl ⟨_, rfl, ?_⟩
          exact ⟨congrArg Value.bool (by simp only [shB, c8, c14, (Bool.eq_false_iff.2 c20), Bool.and_true, Bool.true_and, Bool.and_false, Bool.false_and, Bool.not_true, Bool.not_false, Bool.or_true, Bool.true_or, Bool.or_false, Bool.false_or]), B.ext⟩
      · obtain rfl : v12 = .bool false := hv13.trans (congrArg Value.bool (Bool.eq_false_iff.2 c14))
        refine s_y (v := .bool false) rfl (y_pick_t rfl rfl) ?_
        refine s_y (v := .bool false) rfl (y_move rfl) ?_
        refine s_skip rfl ?_
        refine s_skip rfl ?_
        refine s_y (v := .bool false) rfl (y_pick_f rfl rfl) ?_
        refine s_y (v := .bool false) rfl (y_assign rfl) ?_
        refine s_nil ?_
        refine W_ret ?_
        refine ret1 (v := .bool false) rfl rfl rfl ⟨_, rfl, ?_⟩
        exact ⟨congrArg Value.bool (by simp only [shB, c8, (Bool.eq_false_iff.2 c14), Bool.and_true, Bool.true_and, Bool.and_false, Bool.false_and, Bool.not_true, Bool.not_false, Bool.or_true, Bool.true_or, Bool.or_false, Bool.false_or]), B.ext⟩
  · obtain rfl : v6 = .bool false := hv7.trans (congrArg Value.bool (Bool.eq_false_iff.2 c8))
    refine s_y (v := .bool false) rfl (y_move rfl) ?_
    refine s_skip rfl ?_
    refine s_skip rfl ?_
    refine s_y (v := .bool false) rfl (y_pick_f rfl rfl) ?_
    refine s_y (v := .bool false) rfl (y_move rfl) ?_
    refine s_skip rfl ?_
    refine s_skip rfl ?_
    refine s_y (v := .bool false) rfl (y_pick_f rfl rfl) ?_
    refine s_y (v := .bool false) rfl (y_move rfl) ?_
    refine s_skip rfl ?_
    refine s_skip rfl ?_
    refine s_y (v := .bool false) rfl (y_pick_f rfl rfl) ?_
    refine s_y (v := .bool false) rfl (y_assign rfl) ?_
    refine s_nil ?_
    refine W_ret ?_
    refine ret1 (v := .bool false) rfl rfl rfl ⟨_, rfl, ?_⟩
    exact ⟨congrArg Value.bool (by simp only [shB, (Bool.eq_false_iff.2 c8), Bool.and_true, Bool.true_and, Bool.and_false, Bool.false_and, Bool.not_true, Bool.not_false, Bool.or_true, Bool.true_or, Bool.or_false, Bool.false_or]), B.ext⟩
namespace T115
theorem mx : Try.prog.follows .mixedOrders = true := by kernel_rfl
theorem fld_26_0_0 : fldB Try.prog 26 0 0 = true := by kernel_rfl
theorem fld_26_1_1 : fldB Try.prog 26 1 1 = true := by kernel_rfl
theorem one_2 : oneB Try.prog 2 = true := by kernel_rfl
end T115
set_option maxRecDepth 100000 in
set_option maxHeartbeats 4000000 in
theorem c_i_backBy_1 {u1 : Int} {u2 : Int} {b1 : Nat} {x : Int} {b2 : Nat} {wd : Int} {hi : Int} {wr : Bool} {asp : Option Addr} {nsp : Nat} {csp : Nat} {als : Option Addr} {nls : Nat} {cls : Nat} {b3 : Nat} {y : Int} {w : World} (Pb1 : Sl w (some ⟨b1, 0, none⟩) [.int .i64 x]) (Pb2 : Sl w (some ⟨b2, 0, none⟩) [.int .i64 wd, .int .i64 hi, .bool wr, .slice asp nsp csp, .slice als nls cls]) (Pb3 : Sl w (some ⟨b3, 0, none⟩) [.int .i64 y]) (h1 : 3 ≤ wd) (h2 : wd ≤ 16) (h3 : 3 ≤ hi) (h4 : hi ≤ 16) (g1 : -16 ≤ x) (g2 : x ≤ 16) (g3 : -16 ≤ y) (g4 : y ≤ 16) (g5 : 0 ≤ u1) (g6 : u1 < wd) (g7 : 0 ≤ u2) (g8 : u2 < hi) :
    Calls Try.prog 115 #[.int .i64 u1, .int .i64 u2, .pointer (some ⟨b1, 0, none⟩), .pointer (some ⟨b2, 0, none⟩), .pointer (some ⟨b3, 0, none⟩)] w (Rt fun v w' => v = .tuple #[.int .i64 ((u1 - x + 16 * wd) % wd), .int .i64 ((u2 - y + 16 * hi) % hi)] ∧ Ext0 w w') := by
  have B : Bu w no w [.sl (some ⟨b1, 0, none⟩) [.int .i64 x], .sl (some ⟨b2, 0, none⟩) [.int .i64 wd, .int .i64 hi, .bool wr, .slice asp nsp csp, .slice als nls cls], .sl (some ⟨b3, 0, none⟩) [.int .i64 y]] := Bu.ro (All.cons Pb1 (All.cons Pb2 (All.cons Pb3 All.nil))) rfl
  refine calls_W (n := 29) Try.func115 rfl rfl (Nat.le_of_ble_eq_true rfl) ?_
  refine W_seq ?_
  refine W_region (by kernel_rfl) ?_
  refine s_y (v := .int .i64 0) rfl (y_assign rfl) ?_
  refine s_y (v := .int .i64 0) rfl (y_assign rfl) ?_
  refine s_nil ?_
  refine W_seq ?_
  have B0_5 := B
  refine W_draw (no) T115.mx (by kernel_rfl) (fun w3 e4 => ?_)
  have R6 := Ext.refl (no) w
  replace R6 := R6.trans (Ext0.any e4)
  replace B := B.ext0 e4
  clear e4
  refine m_y (v := .int .i64 u1) 0 rfl (by kernel_rfl) rfl rfl (fun w' e' => y_move rfl) ?_
  refine m_y (v := .int .i64 x) 1 rfl (by kernel_rfl) rfl rfl (fun w' e' => y_load T115.one_2 rfl (((B0_5.s 0 rfl).ext0 e').cell (j := 0) rfl)) ?_
  refine m_y (v := .int .i64 (u1 - x)) 2 rfl (by kernel_rfl) rfl rfl (fun w' e' => y_sub rfl rfl rfl (by omega)) ?_
  refine m_y (v := .pointer (some ⟨b2, 0, none⟩)) 3 rfl (by kernel_rfl) rfl rfl (fun w' e' => y_fld (o := 0 + 0) T115.fld_26_0_0 rfl) ?_
  refine m_y (v := .int .i64 wd) 4 rfl (by kernel_rfl) rfl rfl (fun w' e' => y_load T115.one_2 rfl (((B0_5.s 1 rfl).ext0 e').cell (j := 0) rfl)) ?_
  refine m_y (v := .int .i64 (16 * wd)) 5 rfl (by kernel_rfl) rfl rfl (fun w' e' => y_mul rfl rfl rfl (by omega)) ?_
  refine m_y (v := .int .i64 ((u1 - x) + (16 * wd))) 6 rfl (by kernel_rfl) rfl rfl (fun w' e' => y_add rfl rfl rfl (by omega)) ?_
  refine m_y (v := .pointer (some ⟨b2, 0, none⟩)) 7 rfl (by kernel_rfl) rfl rfl (fun w' e' => y_fld (o := 0 + 0) T115.fld_26_0_0 rfl) ?_
  refine m_y (v := .int .i64 wd) 8 rfl (by kernel_rfl) rfl rfl (fun w' e' => y_load T115.one_2 rfl (((B0_5.s 1 rfl).ext0 e').cell (j := 0) rfl)) ?_
  have hm7 := rem_b (x := (u1 - x) + (16 * wd)) (m := wd) (by omega) (by omega)
  refine m_y (v := .int .i64 (((u1 - x) + (16 * wd)) % wd)) 9 rfl (by kernel_rfl) rfl rfl (fun w' e' => y_rem rfl rfl (by omega) (by omega) rfl) ?_
  refine m_y (v := .int .i64 u2) 10 rfl (by kernel_rfl) rfl rfl (fun w' e' => y_move rfl) ?_
  refine m_y (v := .int .i64 y) 11 rfl (by kernel_rfl) rfl rfl (fun w' e' => y_load T115.one_2 rfl (((B0_5.s 2 rfl).ext0 e').cell (j := 0) rfl)) ?_
  refine m_y (v := .int .i64 (u2 - y)) 12 rfl (by kernel_rfl) rfl rfl (fun w' e' => y_sub rfl rfl rfl (by omega)) ?_
  refine m_y (v := .pointer (some ⟨b2, 0 + 1, none⟩)) 13 rfl (by kernel_rfl) rfl rfl (fun w' e' => y_fld (o := 0 + 0) T115.fld_26_1_1 rfl) ?_
  refine m_y (v := .int .i64 hi) 14 rfl (by kernel_rfl) rfl rfl (fun w' e' => y_load T115.one_2 rfl (((B0_5.s 1 rfl).ext0 e').cell (j := 1) rfl)) ?_
  refine m_y (v := .int .i64 (16 * hi)) 15 rfl (by kernel_rfl) rfl rfl (fun w' e' => y_mul rfl rfl rfl (by omega)) ?_
  refine m_y (v := .int .i64 ((u2 - y) + (16 * hi))) 16 rfl (by kernel_rfl) rfl rfl (fun w' e' => y_add rfl rfl rfl (by omega)) ?_
  refine m_y (v := .pointer (some ⟨b2, 0 + 1, none⟩)) 17 rfl (by kernel_rfl) rfl rfl (fun w' e' => y_fld (o := 0 + 0) T115.fld_26_1_1 rfl) ?_
  refine m_y (v := .int .i64 hi) 18 rfl (by kernel_rfl) rfl rfl (fun w' e' => y_load T115.one_2 rfl (((B0_5.s 1 rfl).ext0 e').cell (j := 1) rfl)) ?_
  have hm8 := rem_b (x := (u2 - y) + (16 * hi)) (m := hi) (by omega) (by omega)
  refine m_y (v := .int .i64 (((u2 - y) + (16 * hi)) % hi)) 19 rfl (by kernel_rfl) rfl rfl (fun w' e' => y_rem rfl rfl (by omega) (by omega) rfl) ?_
  refine m_y (v := .int .i64 (((u1 - x) + (16 * wd)) % wd)) 20 rfl (by kernel_rfl) rfl rfl (fun w' e' => y_assign rfl) ?_
  refine m_y (v := .int .i64 (((u2 - y) + (16 * hi)) % hi)) 21 rfl (by kernel_rfl) rfl rfl (fun w' e' => y_assign rfl) ?_
  refine m_done (by kernel_rfl) (fun w9 e10 => ?_)
  replace B := B.ext0 e10
  clear e10
  clear B0_5 R6
  refine W_ret ?_
  refine ret2 (v1 := .int .i64 (((u1 - x) + (16 * wd)) % wd)) (v2 := .int .i64 (((u2 - y) + (16 * hi)) % hi)) rfl rfl rfl rfl rfl ⟨_, rfl, ?_⟩
  exact ⟨rfl, B.ext⟩
namespace T97
theorem mx : Try.prog.follows .mixedOrders = true := by kernel_rfl
end T97
set_option maxRecDepth 100000 in
set_option maxHeartbeats 4000000 in
theorem c_i_backBy {wd : Int} {hi : Int} {wr : Bool} {asp : Option Addr} {nsp : Nat} {csp : Nat} {als : Option Addr} {nls : Nat} {cls : Nat} {x : Int} {y : Int} {w : World} :
    Calls Try.prog 97 #[.agg #[.int .i64 wd, .int .i64 hi, .bool wr, .slice asp nsp csp, .slice als nls cls], .int .i64 x, .int .i64 y] w (Rt fun v w' => (∃ b1 b2 b3 : Nat, v = .func (.func 115) #[] #[.pointer (some ⟨b1, 0, none⟩), .pointer (some ⟨b2, 0, none⟩), .pointer (some ⟨b3, 0, none⟩)] ∧ New w w' [.blk b1 [.int .i64 x] 2, .blk b2 [.int .i64 wd, .int .i64 hi, .bool wr, .slice asp nsp csp, .slice als nls cls] 26, .blk b3 [.int .i64 y] 2])) := by
  have B : Bu w no w [] := Bu.ro All.nil rfl
  refine calls_W (n := 8) Try.func97 rfl rfl (Nat.le_of_ble_eq_true rfl) ?_
  refine W_seq ?_
  refine W_region (by kernel_rfl) ?_
  refine s_k rfl (k_boxN (v := .agg #[.int .i64 wd, .int .i64 hi, .bool wr, .slice asp nsp csp, .slice als nls cls]) (cs := [.int .i64 wd, .int .i64 hi, .bool wr, .slice asp nsp csp, .slice als nls cls]) rfl rfl (fun b1 w2 hN3 => ?_))
  replace B := B.new1 hN3
  clear hN3
  refine s_k rfl (k_boxN (v := .int .i64 x) (cs := [.int .i64 x]) rfl rfl (fun b4 w5 hN6 => ?_))
  replace B := B.new1 hN6
  clear hN6
  refine s_k rfl (k_boxN (v := .int .i64 y) (cs := [.int .i64 y]) rfl rfl (fun b7 w8 hN9 => ?_))
  replace B := B.new1 hN9
  clear hN9
  refine s_y (v := .nilFunc) rfl (y_assign rfl) ?_
  refine s_nil ?_
  refine W_seq ?_
  refine W_region (by kernel_rfl) ?_
  refine s_y (v := .func (.func 115) #[] #[.pointer (some ⟨b4, 0, none⟩), .pointer (some ⟨b1, 0, none⟩), .pointer (some ⟨b7, 0, none⟩)]) rfl (y_func rfl rfl) ?_
  refine s_y (v := .func (.func 115) #[] #[.pointer (some ⟨b4, 0, none⟩), .pointer (some ⟨b1, 0, none⟩), .pointer (some ⟨b7, 0, none⟩)]) rfl (y_assign rfl) ?_
  refine s_nil ?_
  refine W_ret ?_
  refine ret1 (v := .func (.func 115) #[] #[.pointer (some ⟨b4, 0, none⟩), .pointer (some ⟨b1, 0, none⟩), .pointer (some ⟨b7, 0, none⟩)]) rfl rfl rfl ⟨_, rfl, ?_⟩
  exact ⟨_, _, _, rfl, B.give [1, 2, 0] rfl rfl rfl⟩
namespace T98
theorem mx : Try.prog.follows .mixedOrders = true := by kernel_rfl
theorem agg_26_5 : aggB Try.prog 26 5 = true := by kernel_rfl
theorem fn_79 : fnB Try.prog 79 = true := by kernel_rfl
theorem one_56 : oneB Try.prog 56 = true := by kernel_rfl
theorem sl_24_56_1 : slB Try.prog 24 56 1 = true := by kernel_rfl
theorem slt_24 : SlT Try.prog 24 56 1 4 (.float .f32 0) := ⟨by kernel_rfl, by kernel_rfl, rfl, by decide⟩
end T98
set_option maxRecDepth 100000 in
set_option maxHeartbeats 4000000 in
theorem c_i_moved {wd : Int} {hi : Int} {wr : Bool} {asp : Option Addr} {nsp : Nat} {csp : Nat} {als : Option Addr} {nls : Nat} {cls : Nat} {a : Option Addr} {n : Nat} {c : Nat} {X : List Nat} {W : Int} {H : Int} {W H : Int} {f : Nat} {us xs : List Value} {FU FV : Int → Int → Int} {w : World} (q : Rd w kF a n X) (hfB : fnB Try.prog f = true) (hF : ∀ x y {w1}, Ext0 w w1 → 0 ≤ x → x < W → 0 ≤ y → y < H → Calls Try.prog f (us ++ ([.int .i64 x, .int .i64 y] : List Value) ++ xs).toArray w1 (Rt fun v w2 => v = .tuple #[.int .i64 (FU x y), .int .i64 (FV x y)] ∧ Ext0 w1 w2)) (hR : ∀ x y, 0 ≤ x → x < W → 0 ≤ y → y < H → (-wd ≤ FU x y ∧ FU x y ≤ 1000000) ∧ (-hi ≤ FV x y ∧ FV x y ≤ 1000000)) (h1 : 3 ≤ wd) (h2 : wd ≤ 16) (h3 : 3 ≤ hi) (h4 : hi ≤ 16) (h5 : 0 < W) (h6 : W ≤ 16) (h7 : 0 < H) (h8 : H ≤ 16) (hn : (n : Int) = wd * hi) :
    Calls Try.prog 98 #[.agg #[.int .i64 wd, .int .i64 hi, .bool wr, .slice asp nsp csp, .slice als nls cls], .slice a n c, .int .i64 W, .int .i64 H, .func (.func f) us.toArray xs.toArray] w (Rt fun v w' => ∃ (a1 : Option Addr) (c1 : Nat), v = .slice a1 ((W * H).toNat) c1 ∧ New w w' [.ow kF a1 ((W * H).toNat) c1 56 (movL W H (fun xp yp => atI wd hi (FU xp yp) (FV xp yp)) X)]) := by
  have hl := q.len
  have B : Bu w no w [.rd kF a n X] := Bu.ro (All.cons q All.nil) rfl
  have hwh := mul16 (And.intro (And.intro h1 h2) (And.intro h3 h4))
  refine calls_W (n := 45) Try.func98 rfl rfl (Nat.le_of_ble_eq_true rfl) ?_
  refine W_seq ?_
  refine W_region (by kernel_rfl) ?_
  refine s_k rfl (k_boxN (v := .agg #[.int .i64 wd, .int .i64 hi, .bool wr, .slice asp nsp csp, .slice als nls cls]) (cs := [.int .i64 wd, .int .i64 hi, .bool wr, .slice asp nsp csp, .slice als nls cls]) rfl rfl (fun b1 w2 hN3 => ?_))
  replace B := B.new1 hN3
  clear hN3
  refine s_y (v := .slice none 0 0) rfl (y_assign rfl) ?_
  refine s_nil ?_
  refine W_seq ?_
  refine W_region (by kernel_rfl) ?_
  refine s_k rfl (k_bsliceO (k := kF) (n := 0) (cells := #[]) (X := []) T98.slt_24 (by decide) (by first | rfl | kernel_rfl) (rfl : Reps kF [] []) rfl (fun b4 w5 hN6 => ?_))
  replace B := B.new1 hN6
  clear hN6
  refine s_y (v := .slice (some ⟨b4, 0, none⟩) 0 0) rfl (y_assign rfl) ?_
  refine s_nil ?_
  refine W_seq ?_
  refine W_seq ?_
  refine W_region (by kernel_rfl) ?_
  refine s_y (v := .int .i64 H) rfl (y_move rfl) ?_
  refine s_y (v := .int .i64 0) rfl (y_move rfl) ?_
  refine s_nil ?_
  refine W_block ?_
  refine W_loop (fun ρ' w' => ∃ (ρ1 : Env) (py : Int) (a0 : Option Addr) (cc0 : Nat) (nn0 : Nat), ρ' = updL ρ1 [(1, .slice a n c), (2, .int .i64 W), (4, .func (.func f) us.toArray xs.toArray), (5, .pointer (some ⟨b1, 0, none⟩)), (10, .slice none 0 0), (11, .slice a0 nn0 cc0), (17, .int .i64 H), (18, .int .i64 py)] ∧ Bu w no w' [.ow kF a0 nn0 cc0 56 (tab (W * py) (fun i => el X ((fun xp yp => atI wd hi (FU xp yp) (FV xp yp)) (i % W) (i / W)))), .blk b1 [.int .i64 wd, .int .i64 hi, .bool wr, .slice asp nsp csp, .slice als nls cls] 26, .rd kF a n X] ∧ (0 ≤ py) ∧ (py ≤ H)) (fun ρ' _ => (H - iv (ρ' 18)).toNat) ?_ ?_
  · replace B : Bu w no w5 [.ow kF (some ⟨b4, 0, none⟩) 0 0 56 (tab (W * 0) (fun i => el X ((fun xp yp => atI wd hi (FU xp yp) (FV xp yp)) (i % W) (i / W)))), .blk b1 [.int .i64 wd, .int .i64 hi, .bool wr, .slice asp nsp csp, .slice als nls cls] 26, .rd kF a n X] := B.castX 0 rfl rfl (by rw [Int.mul_zero]; rfl)
    exact ⟨_, 0, (some ⟨b4, 0, none⟩), 0, 0, Fits.eq ⟨rfl, rfl, rfl, rfl, rfl, rfl, rfl, rfl, trivial⟩, B, (Int.le_refl _), (by omega)⟩
  · clear B; rintro _ w7 ⟨ρ8, py, a0, cc0, nn0, rfl, B, h0py, h1py⟩
    have hnn0 := (B.o 0 rfl).len
    rw [tab_length] at hnn0
    have hwy := mulb (a := W) (b := py) (by omega) (by omega) (by omega) (by omega)
    refine W_seq ?_
    refine W_region (by kernel_rfl) ?_
    by_cases c9 : py < H
    · refine s_y (v := .bool true) rfl (y_lss rfl rfl (decide_eq_true c9)) ?_
      refine s_nil ?_
      refine W_seq ?_
      refine W_if_t (by decide) rfl ?_
      refine W_skip ?_
      refine W_seq ?_
      refine W_block ?_
      refine W_seq ?_
      refine W_region (by kernel_rfl) ?_
      refine s_y (v := .int .i64 py) rfl (y_move rfl) ?_
      refine s_y (v := .int .i64 py) rfl (y_assign rfl) ?_
      refine s_nil ?_
      refine W_seq ?_
      refine W_region (by kernel_rfl) ?_
      refine s_y (v := .int .i64 W) rfl (y_move rfl) ?_
      refine s_y (v := .int .i64 0) rfl (y_move rfl) ?_
      refine s_nil ?_
      refine W_block ?_
      refine W_loop (fun ρ' w' => ∃ (ρ1 : Env) (px : Int) (a9 : Option Addr) (cc9 : Nat) (nn9 : Nat), ρ' = updL ρ1 [(1, .slice a n c), (2, .int .i64 W), (4, .func (.func f) us.toArray xs.toArray), (5, .pointer (some ⟨b1, 0, none⟩)), (10, .slice none 0 0), (11, .slice a9 nn9 cc9), (12, .int .i64 py), (17, .int .i64 H), (18, .int .i64 py), (19, .bool true), (20, .int .i64 py), (21, .int .i64 W), (22, .int .i64 px)] ∧ Bu w no w' [.ow kF a9 nn9 cc9 56 (tab (W * py + px) (fun i => el X ((fun xp yp => atI wd hi (FU xp yp) (FV xp yp)) (i % W) (i / W)))), .blk b1 [.int .i64 wd, .int .i64 hi, .bool wr, .slice asp nsp csp, .slice als nls cls] 26, .rd kF a n X] ∧ (0 ≤ px) ∧ (px ≤ W)) (fun ρ' _ => (W - iv (ρ' 22)).toNat) ?_ ?_
      · replace B : Bu w no w7 [.ow kF a0 nn0 cc0 56 (tab (W * py + 0) (fun i => el X ((fun xp yp => atI wd hi (FU xp yp) (FV xp yp)) (i % W) (i / W)))), .blk b1 [.int .i64 wd, .int .i64 hi, .bool wr, .slice asp nsp csp, .slice als nls cls] 26, .rd kF a n X] := B.castX 0 rfl rfl (by rw [Int.add_zero])
        exact ⟨_, 0, a0, cc0, nn0, Fits.eq ⟨rfl, rfl, rfl, rfl, rfl, rfl, rfl, rfl, rfl, rfl, rfl, rfl, rfl, trivial⟩, B, (Int.le_refl _), (by omega)⟩
      · clear B; rintro _ w10 ⟨ρ11, px, a9, cc9, nn9, rfl, B, h0px, h1px⟩
        have hnn9 := (B.o 0 rfl).len
        rw [tab_length] at hnn9
        refine W_seq ?_
        refine W_region (by kernel_rfl) ?_
        by_cases c12 : px < W
        · refine s_y (v := .bool true) rfl (y_lss rfl rfl (decide_eq_true c12)) ?_
          refine s_nil ?_
          refine W_seq ?_
          refine W_if_t (by decide) rfl ?_
          refine W_skip ?_
          refine W_seq ?_
          refine W_block ?_
          refine W_seq ?_
          refine W_region (by kernel_rfl) ?_
          refine s_y (v := .int .i64 px) rfl (y_move rfl) ?_
          refine s_y (v := .int .i64 px) rfl (y_assign rfl) ?_
          refine s_nil ?_
          refine W_seq ?_
          refine W_region (by kernel_rfl) ?_
          refine s_y (v := .func (.func f) us.toArray xs.toArray) rfl (y_move rfl) ?_
          refine s_y (v := .int .i64 px) rfl (y_move rfl) ?_
          refine s_y (v := .int .i64 py) rfl (y_move rfl) ?_
          refine s_k rfl (k_callv hfB rfl (hF px py B.ext (by omega) (by omega) (by omega) (by omega)) rfl ?_)
          rintro _ w13 ⟨rfl, e14⟩
          replace B := B.ext0 e14
          clear e14
          have hr15 := hR px py (by omega) (by omega) (by omega) (by omega)
          refine s_y (v := .tuple #[.int .i64 (FU px py), .int .i64 (FV px py)]) rfl (y_move rfl) ?_
          refine s_y (v := .int .i64 (FU px py)) rfl (y_extract rfl rfl) ?_
          refine s_y (v := .int .i64 (FV px py)) rfl (y_extract rfl rfl) ?_
          refine s_y (v := .int .i64 (FU px py)) rfl (y_assign rfl) ?_
          refine s_y (v := .int .i64 (FV px py)) rfl (y_assign rfl) ?_
          refine s_nil ?_
          refine W_region (by kernel_rfl) ?_
          refine s_y (v := .slice a9 nn9 cc9) rfl (y_move rfl) ?_
          refine s_y (v := .slice a n c) rfl (y_move rfl) ?_
          refine s_y (v := .agg #[.int .i64 wd, .int .i64 hi, .bool wr, .slice asp nsp csp, .slice als nls cls]) rfl (y_loadn (b := b1) (o := 0) (vs := [.int .i64 wd, .int .i64 hi, .bool wr, .slice asp nsp csp, .slice als nls cls]) T98.agg_26_5 rfl rfl ((B.b 1 rfl).cells (o := 0) rfl)) ?_
          refine s_y (v := .int .i64 (FU px py)) rfl (y_move rfl) ?_
          refine s_y (v := .int .i64 (FV px py)) rfl (y_move rfl) ?_
          refine s_k rfl (k_call T98.fn_79 (c_i_at (by omega) (by omega) (by omega) (by omega) (by omega) (by omega) (by omega) (by omega)) rfl ?_)
          rintro _ w16 ⟨rfl, e17⟩
          replace B := B.ext0 e17
          clear e17
          have hat18 := atI_b (wd := wd) (hi := hi) (x := FU px py) (y := FV px py) (by omega) (by omega)
          refine s_y (v := .pointer (some (sat a ((atI wd hi (FU px py) (FV px py)).toNat * 1)))) rfl (y_idx T98.sl_24_56_1 rfl rfl ((B.r 2 rfl).addr (by omega)) (by omega) (by omega)) ?_
          obtain ⟨r20, hr21, hR19⟩ := Rd.atF (B.r 2 rfl) (atI wd hi (FU px py) (FV px py)) (by omega) (by omega)
          refine s_y (v := .float .f32 r20) rfl (y_load T98.one_56 rfl (hR19.cell (i := 0) rfl)) ?_
          refine s_k rfl (k_bsliceO (k := kF) (n := 1) (cells := #[.float .f32 r20]) (X := [el X (atI wd hi (FU px py) (FV px py))]) T98.slt_24 (by decide) (by first | rfl | kernel_rfl) (reps_cons (c := [.float .f32 r20]) ⟨_, rfl, hr21⟩ (rfl : Reps kF [] [])) rfl (fun b22 w23 hN24 => ?_))
          replace B := B.new1 hN24
          clear hN24
          refine s_k rfl (k_appO (k := kF) T98.slt_24 rfl rfl rfl (B.o 1 rfl) (B.o 0 rfl).rd (by omega) (by unfold maxLen; omega) (fun a25 c26 w27 hU28 => ?_))
          replace B : Bu w no w27 [.ow kF a25 (nn9 + 1) c26 56 ((tab (W * py + px) (fun i => el X ((fun xp yp => atI wd hi (FU xp yp) (FV xp yp)) (i % W) (i / W)))) ++ ([el X (atI wd hi (FU px py) (FV px py))])), .ow kF (some ⟨b22, 0, none⟩) 1 1 56 ([el X (atI wd hi (FU px py) (FV px py))]), .blk b1 [.int .i64 wd, .int .i64 hi, .bool wr, .slice asp nsp csp, .slice als nls cls] 26, .rd kF a n X] := B.upd [1] rfl hU28
          clear hU28
          refine s_y (v := .slice a25 (nn9 + 1) c26) rfl (y_assign rfl) ?_
          refine s_nil ?_
          refine W_region (by kernel_rfl) ?_
          refine s_y (v := .int .i64 (px + 1)) rfl (y_add rfl rfl rfl (by omega)) ?_
          refine s_y (v := .int .i64 (px + 1)) rfl (y_move rfl) ?_
          refine s_nil ?_
          replace B : Bu w no w27 [.ow kF a25 (nn9 + 1) c26 56 (tab (W * py + (px + 1)) (fun i => el X ((fun xp yp => atI wd hi (FU xp yp) (FV xp yp)) (i % W) (i / W)))), .ow kF (some ⟨b22, 0, none⟩) 1 1 56 ([el X (atI wd hi (FU px py) (FV px py))]), .blk b1 [.int .i64 wd, .int .i64 hi, .bool wr, .slice asp nsp csp, .slice als nls cls] 26, .rd kF a n X] := B.castX 0 rfl rfl (tab_row (g := fun p q => el X ((fun xp yp => atI wd hi (FU xp yp) (FV xp yp)) p q)) (by omega) (by omega) (by omega))
          refine ⟨⟨_, px + 1, a25, c26, nn9 + 1, Fits.eq ⟨rfl, rfl, rfl, rfl, rfl, rfl, rfl, rfl, rfl, rfl, rfl, rfl, rfl, trivial⟩, (B.pick [0, 2, 3] rfl rfl), (by omega), (by omega)⟩, ?_⟩
          show (W - (px + 1)).toNat < (W - px).toNat
          omega
        · refine s_y (v := .bool false) rfl (y_lss rfl rfl (decide_eq_false c12)) ?_
          refine s_nil ?_
          refine W_seq ?_
          refine W_if_f (by decide) rfl ?_
          refine W_exit ?_
          refine W_region (by kernel_rfl) ?_
          refine s_y (v := .int .i64 (py + 1)) rfl (y_add rfl rfl rfl (by omega)) ?_
          refine s_y (v := .int .i64 (py + 1)) rfl (y_move rfl) ?_
          refine s_nil ?_
          replace B : Bu w no w10 [.ow kF a9 nn9 cc9 56 (tab (W * (py + 1)) (fun i => el X ((fun xp yp => atI wd hi (FU xp yp) (FV xp yp)) (i % W) (i / W)))), .blk b1 [.int .i64 wd, .int .i64 hi, .bool wr, .slice asp nsp csp, .slice als nls cls] 26, .rd kF a n X] := B.castX 0 rfl rfl (congrArg (fun q => tab q _) (show W * py + px = W * (py + 1) by rw [Int.mul_add, Int.mul_one]; omega))
          refine ⟨⟨_, py + 1, a9, cc9, nn9, Fits.eq ⟨rfl, rfl, rfl, rfl, rfl, rfl, rfl, rfl, trivial⟩, B, (by omega), (by omega)⟩, ?_⟩
          show (H - (py + 1)).toNat < (H - py).toNat
          omega
    · refine s_y (v := .bool false) rfl (y_lss rfl rfl (decide_eq_false c9)) ?_
      refine s_nil ?_
      refine W_seq ?_
      refine W_if_f (by decide) rfl ?_
      refine W_exit ?_
      refine W_seq ?_
      refine W_region (by kernel_rfl) ?_
      refine s_y (v := .slice a0 nn0 cc0) rfl (y_move rfl) ?_
      refine s_y (v := .slice a0 nn0 cc0) rfl (y_assign rfl) ?_
      refine s_nil ?_
      refine W_ret ?_
      refine ret1 (v := .slice a0 nn0 cc0) rfl rfl rfl ⟨_, rfl, ?_⟩
      obtain rfl : H = py := by omega
      replace B : Bu w no w7 [.ow kF a0 ((W * H).toNat) cc0 56 (movL W H (fun xp yp => atI wd hi (FU xp yp) (FV xp yp)) X), .blk b1 [.int .i64 wd, .int .i64 hi, .bool wr, .slice asp nsp csp, .slice als nls cls] 26, .rd kF a n X] := B.castX 0 rfl (by omega) rfl
      exact ⟨_, _, (by rw [(show nn0 = (W * H).toNat from (by omega))]), B.give [0] rfl rfl rfl⟩
namespace T56
theorem mx : Try.prog.follows .mixedOrders = true := by kernel_rfl
theorem agg_26_5 : aggB Try.prog 26 5 = true := by kernel_rfl
theorem agg_49_3 : aggB Try.prog 49 3 = true := by kernel_rfl
theorem fld_26_0_0 : fldB Try.prog 26 0 0 = true := by kernel_rfl
theorem fld_26_1_1 : fldB Try.prog 26 1 1 = true := by kernel_rfl
theorem fld_49_0_0 : fldB Try.prog 49 0 0 = true := by kernel_rfl
theorem fld_49_1_1 : fldB Try.prog 49 1 1 = true := by kernel_rfl
theorem fld_49_2_2 : fldB Try.prog 49 2 2 = true := by kernel_rfl
theorem fn_115 : fnB Try.prog 115 = true := by kernel_rfl
theorem fn_74 : fnB Try.prog 74 = true := by kernel_rfl
theorem fn_96 : fnB Try.prog 96 = true := by kernel_rfl
theorem fn_97 : fnB Try.prog 97 = true := by kernel_rfl
theorem fn_98 : fnB Try.prog 98 = true := by kernel_rfl
theorem one_2 : oneB Try.prog 2 = true := by kernel_rfl
theorem one_24 : oneB Try.prog 24 = true := by kernel_rfl
theorem sz_49_3 : szB Try.prog 49 3 = true := by kernel_rfl
theorem zero_49 : zeroB Try.prog 49 (.agg #[.slice none 0 0, .slice none 0 0, .slice none 0 0]) := by unfold zeroB; kernel_rfl
end T56
set_option maxRecDepth 100000 in
set_option maxHeartbeats 4000000 in
theorem c_i_ShiftField {wd : Int} {hi : Int} {wr : Bool} {asp : Option Addr} {nsp : Nat} {csp : Nat} {Xsp : List Nat} {als : Option Addr} {nls : Nat} {cls : Nat} {Xls : List Nat} {afe : Option Addr} {nfe : Nat} {cfe : Nat} {Xfe : List Nat} {afx : Option Addr} {nfx : Nat} {cfx : Nat} {Xfx : List Nat} {afy : Option Addr} {nfy : Nat} {cfy : Nat} {Xfy : List Nat} {x : Int} {y : Int} {w : World} (qsp : Rd w kF asp nsp Xsp) (qls : Rd w kF als nls Xls) (qfe : Rd w kF afe nfe Xfe) (qfx : Rd w kF afx nfx Xfx) (qfy : Rd w kF afy nfy Xfy) (hbsp : nsp ≤ 9223372036854775806) (hbls : nls ≤ 9223372036854775806) (hbfe : nfe ≤ 9223372036854775806) (hbfx : nfx ≤ 9223372036854775806) (hbfy : nfy ≤ 9223372036854775806) :
    Calls Try.prog 56 #[.agg #[.int .i64 wd, .int .i64 hi, .bool wr, .slice asp nsp csp, .slice als nls cls], .agg #[.slice afe nfe cfe, .slice afx nfx cfx, .slice afy nfy cfy], .int .i64 x, .int .i64 y] w (Rt fun v w' => (shfB wd hi wr Xsp Xls Xfe Xfx Xfy x y = true ∧ ∃ (a1 : Option Addr) (c1 : Nat) (a2 : Option Addr) (c2 : Nat) (a3 : Option Addr) (c3 : Nat), v = .tuple #[.agg #[.slice a1 ((wd * hi).toNat) c1, .slice a2 ((wd * hi).toNat) c2, .slice a3 ((wd * hi).toNat) c3], .bool true] ∧ New w w' [.ow kF a1 ((wd * hi).toNat) c1 56 (shfS wd hi x y Xfe), .ow kF a2 ((wd * hi).toNat) c2 56 (shfS wd hi x y Xfx), .ow kF a3 ((wd * hi).toNat) c3 56 (shfS wd hi x y Xfy)]) ∨ (shfB wd hi wr Xsp Xls Xfe Xfx Xfy x y = false ∧ v = .tuple #[.agg #[.slice none 0 0, .slice none 0 0, .slice none 0 0], .bool false] ∧ Ext0 w w')) := by
  have hlsp := qsp.len
  have hlls := qls.len
  have hlfe := qfe.len
  have hlfx := qfx.len
  have hlfy := qfy.len
  have B : Bu w no w [.rd kF asp nsp Xsp, .rd kF als nls Xls, .rd kF afe nfe Xfe, .rd kF afx nfx Xfx, .rd kF afy nfy Xfy] := Bu.ro (All.cons qsp (All.cons qls (All.cons qfe (All.cons qfx (All.cons qfy All.nil))))) rfl
  refine calls_W (n := 55) Try.func56 rfl rfl (Nat.le_of_ble_eq_true rfl) ?_
  refine W_seq ?_
  refine W_region (by kernel_rfl) ?_
  refine s_k rfl (k_boxN (v := .agg #[.int .i64 wd, .int .i64 hi, .bool wr, .slice asp nsp csp, .slice als nls cls]) (cs := [.int .i64 wd, .int .i64 hi, .bool wr, .slice asp nsp csp, .slice als nls cls]) rfl rfl (fun b1 w2 hN3 => ?_))
  replace B := B.new1 hN3
  clear hN3
  refine s_k rfl (k_boxN (v := .agg #[.slice afe nfe cfe, .slice afx nfx cfx, .slice afy nfy cfy]) (cs := [.slice afe nfe cfe, .slice afx nfx cfx, .slice afy nfy cfy]) rfl rfl (fun b4 w5 hN6 => ?_))
  replace B := B.new1 hN6
  clear hN6
  refine s_k rfl (k_allocN (z := (.agg #[.slice none 0 0, .slice none 0 0, .slice none 0 0])) (cs := [.slice none 0 0, .slice none 0 0, .slice none 0 0]) T56.zero_49 rfl (fun b7 w8 hN9 => ?_))
  replace B := B.new1 hN9
  clear hN9
  refine s_y (v := .bool false) rfl (y_assign rfl) ?_
  refine s_nil ?_
  refine W_seq ?_
  refine W_seq ?_
  refine W_region (by kernel_rfl) ?_
  refine s_y (v := .agg #[.int .i64 wd, .int .i64 hi, .bool wr, .slice asp nsp csp, .slice als nls cls]) rfl (y_loadn (b := b1) (o := 0) (vs := [.int .i64 wd, .int .i64 hi, .bool wr, .slice asp nsp csp, .slice als nls cls]) T56.agg_26_5 rfl rfl ((B.b 2 rfl).cells (o := 0) rfl)) ?_
  refine s_y (v := .int .i64 x) rfl (y_move rfl) ?_
  refine s_y (v := .int .i64 y) rfl (y_move rfl) ?_
  refine s_k rfl (k_call T56.fn_96 (c_i_isShift (B.r 3 rfl) (B.r 4 rfl) (by omega) (by omega)) rfl ?_)
  rintro v12 w10 ⟨hv13, e11⟩
  replace B := B.ext0 e11
  clear e11
  by_cases c14 : shB wd hi wr Xsp Xls x y = true
  · have hb15 := shB_b c14
    obtain rfl : v12 = .bool true := hv13.trans (congrArg Value.bool c14)
    refine s_y (v := .bool false) rfl (y_not rfl rfl) ?_
    refine s_y (v := .bool false) rfl (y_move rfl) ?_
    refine s_y (v := .agg #[.int .i64 wd, .int .i64 hi, .bool wr, .slice asp nsp csp, .slice als nls cls]) rfl (y_loadn (b := b1) (o := 0) (vs := [.int .i64 wd, .int .i64 hi, .bool wr, .slice asp nsp csp, .slice als nls cls]) T56.agg_26_5 rfl rfl ((B.b 2 rfl).cells (o := 0) rfl)) ?_
    refine s_y (v := .agg #[.slice afe nfe cfe, .slice afx nfx cfx, .slice afy nfy cfy]) rfl (y_loadn (b := b4) (o := 0) (vs := [.slice afe nfe cfe, .slice afx nfx cfx, .slice afy nfy cfy]) T56.agg_49_3 rfl rfl ((B.b 1 rfl).cells (o := 0) rfl)) ?_
    refine s_k rfl (k_call T56.fn_74 (c_i_IsField (B.r 3 rfl) (B.r 4 rfl) (B.r 5 rfl) (B.r 6 rfl) (B.r 7 rfl) (by omega) (by omega) (by omega) (by omega) (by omega)) rfl ?_)
    rintro v18 w16 ⟨hv19, e17⟩
    replace B := B.ext0 e17
    clear e17
    by_cases c20 : fieldB wd hi wr Xsp Xls Xfe Xfx Xfy = true
    · have hb21 := fieldB_b c20
      obtain rfl : v18 = .bool true := hv19.trans (congrArg Value.bool c20)
      refine s_y (v := .bool false) rfl (y_not rfl rfl) ?_
      refine s_y (v := .bool false) rfl (y_pick_f rfl rfl) ?_
      refine s_nil ?_
      refine W_if_f (by decide) rfl ?_
      refine W_skip ?_
      refine W_seq ?_
      refine W_region (by kernel_rfl) ?_
      refine s_y (v := .agg #[.int .i64 wd, .int .i64 hi, .bool wr, .slice asp nsp csp, .slice als nls cls]) rfl (y_loadn (b := b1) (o := 0) (vs := [.int .i64 wd, .int .i64 hi, .bool wr, .slice asp nsp csp, .slice als nls cls]) T56.agg_26_5 rfl rfl ((B.b 2 rfl).cells (o := 0) rfl)) ?_
      refine s_y (v := .int .i64 x) rfl (y_move rfl) ?_
      refine s_y (v := .int .i64 y) rfl (y_move rfl) ?_
      refine s_k rfl (k_call T56.fn_97 (c_i_backBy) rfl ?_)
      rintro _ w22 ⟨b24, b25, b26, rfl, hN23⟩
      replace B := B.new3 hN23
      clear hN23
      refine s_y (v := .func (.func 115) #[] #[.pointer (some ⟨b24, 0, none⟩), .pointer (some ⟨b25, 0, none⟩), .pointer (some ⟨b26, 0, none⟩)]) rfl (y_assign rfl) ?_
      refine s_nil ?_
      refine W_seq ?_
      have B0_31 := B
      refine W_draw (at1 b7) T56.mx (by kernel_rfl) (fun w29 e30 => ?_)
      have R32 := Ext.refl (at1 b7) w22
      replace R32 := R32.trans (Ext0.any e30)
      replace B := B.ext0 e30
      clear e30
      refine m_y (v := .agg #[.int .i64 wd, .int .i64 hi, .bool wr, .slice asp nsp csp, .slice als nls cls]) 0 rfl (by kernel_rfl) rfl rfl (fun w' e' => y_loadn (b := b1) (o := 0) (vs := [.int .i64 wd, .int .i64 hi, .bool wr, .slice asp nsp csp, .slice als nls cls]) T56.agg_26_5 rfl rfl ((B0_31.bx 5 3 rfl rfl rfl rfl e' (fun _ h => h)).cells (o := 0) rfl)) ?_
      refine m_y (v := .pointer (some ⟨b4, 0, none⟩)) 1 rfl (by kernel_rfl) rfl rfl (fun w' e' => y_fld (o := 0) T56.fld_49_0_0 rfl) ?_
      refine m_y (v := .slice afe nfe cfe) 2 rfl (by kernel_rfl) rfl rfl (fun w' e' => y_load T56.one_24 rfl ((B0_31.bx 4 3 rfl rfl rfl rfl e' (fun _ h => h)).cell (j := 0) rfl)) ?_
      refine m_y (v := .pointer (some ⟨b1, 0, none⟩)) 3 rfl (by kernel_rfl) rfl rfl (fun w' e' => y_fld (o := 0) T56.fld_26_0_0 rfl) ?_
      refine m_y (v := .int .i64 wd) 4 rfl (by kernel_rfl) rfl rfl (fun w' e' => y_load T56.one_2 rfl ((B0_31.bx 5 3 rfl rfl rfl rfl e' (fun _ h => h)).cell (j := 0) rfl)) ?_
      refine m_y (v := .pointer (some ⟨b1, 1, none⟩)) 5 rfl (by kernel_rfl) rfl rfl (fun w' e' => y_fld (o := 0) T56.fld_26_1_1 rfl) ?_
      refine m_y (v := .int .i64 hi) 6 rfl (by kernel_rfl) rfl rfl (fun w' e' => y_load T56.one_2 rfl ((B0_31.bx 5 3 rfl rfl rfl rfl e' (fun _ h => h)).cell (j := 1) rfl)) ?_
      refine m_y (v := .func (.func 115) #[] #[.pointer (some ⟨b24, 0, none⟩), .pointer (some ⟨b25, 0, none⟩), .pointer (some ⟨b26, 0, none⟩)]) 7 rfl (by kernel_rfl) rfl rfl (fun w' e' => y_move rfl) ?_
      refine m_y (v := .agg #[.int .i64 wd, .int .i64 hi, .bool wr, .slice asp nsp csp, .slice als nls cls]) 9 rfl (by kernel_rfl) rfl rfl (fun w' e' => y_loadn (b := b1) (o := 0) (vs := [.int .i64 wd, .int .i64 hi, .bool wr, .slice asp nsp csp, .slice als nls cls]) T56.agg_26_5 rfl rfl ((B0_31.bx 5 3 rfl rfl rfl rfl e' (fun _ h => h)).cells (o := 0) rfl)) ?_
      refine m_y (v := .pointer (some ⟨b4, 1, none⟩)) 10 rfl (by kernel_rfl) rfl rfl (fun w' e' => y_fld (o := 0) T56.fld_49_1_1 rfl) ?_
      refine m_y (v := .slice afx nfx cfx) 11 rfl (by kernel_rfl) rfl rfl (fun w' e' => y_load T56.one_24 rfl ((B0_31.bx 4 3 rfl rfl rfl rfl e' (fun _ h => h)).cell (j := 1) rfl)) ?_
      refine m_y (v := .pointer (some ⟨b1, 0, none⟩)) 12 rfl (by kernel_rfl) rfl rfl (fun w' e' => y_fld (o := 0) T56.fld_26_0_0 rfl) ?_
      refine m_y (v := .int .i64 wd) 13 rfl (by kernel_rfl) rfl rfl (fun w' e' => y_load T56.one_2 rfl ((B0_31.bx 5 3 rfl rfl rfl rfl e' (fun _ h => h)).cell (j := 0) rfl)) ?_
      refine m_y (v := .pointer (some ⟨b1, 1, none⟩)) 14 rfl (by kernel_rfl) rfl rfl (fun w' e' => y_fld (o := 0) T56.fld_26_1_1 rfl) ?_
      refine m_y (v := .int .i64 hi) 15 rfl (by kernel_rfl) rfl rfl (fun w' e' => y_load T56.one_2 rfl ((B0_31.bx 5 3 rfl rfl rfl rfl e' (fun _ h => h)).cell (j := 1) rfl)) ?_
      refine m_y (v := .func (.func 115) #[] #[.pointer (some ⟨b24, 0, none⟩), .pointer (some ⟨b25, 0, none⟩), .pointer (some ⟨b26, 0, none⟩)]) 16 rfl (by kernel_rfl) rfl rfl (fun w' e' => y_move rfl) ?_
      refine m_y (v := .agg #[.int .i64 wd, .int .i64 hi, .bool wr, .slice asp nsp csp, .slice als nls cls]) 18 rfl (by kernel_rfl) rfl rfl (fun w' e' => y_loadn (b := b1) (o := 0) (vs := [.int .i64 wd, .int .i64 hi, .bool wr, .slice asp nsp csp, .slice als nls cls]) T56.agg_26_5 rfl rfl ((B0_31.bx 5 3 rfl rfl rfl rfl e' (fun _ h => h)).cells (o := 0) rfl)) ?_
      refine m_y (v := .pointer (some ⟨b4, 2, none⟩)) 19 rfl (by kernel_rfl) rfl rfl (fun w' e' => y_fld (o := 0) T56.fld_49_2_2 rfl) ?_
      refine m_y (v := .slice afy nfy cfy) 20 rfl (by kernel_rfl) rfl rfl (fun w' e' => y_load T56.one_24 rfl ((B0_31.bx 4 3 rfl rfl rfl rfl e' (fun _ h => h)).cell (j := 2) rfl)) ?_
      refine m_y (v := .pointer (some ⟨b1, 0, none⟩)) 21 rfl (by kernel_rfl) rfl rfl (fun w' e' => y_fld (o := 0) T56.fld_26_0_0 rfl) ?_
      refine m_y (v := .int .i64 wd) 22 rfl (by kernel_rfl) rfl rfl (fun w' e' => y_load T56.one_2 rfl ((B0_31.bx 5 3 rfl rfl rfl rfl e' (fun _ h => h)).cell (j := 0) rfl)) ?_
      refine m_y (v := .pointer (some ⟨b1, 1, none⟩)) 23 rfl (by kernel_rfl) rfl rfl (fun w' e' => y_fld (o := 0) T56.fld_26_1_1 rfl) ?_
      refine m_y (v := .int .i64 hi) 24 rfl (by kernel_rfl) rfl rfl (fun w' e' => y_load T56.one_2 rfl ((B0_31.bx 5 3 rfl rfl rfl rfl e' (fun _ h => h)).cell (j := 1) rfl)) ?_
      refine m_y (v := .func (.func 115) #[] #[.pointer (some ⟨b24, 0, none⟩), .pointer (some ⟨b25, 0, none⟩), .pointer (some ⟨b26, 0, none⟩)]) 25 rfl (by kernel_rfl) rfl rfl (fun w' e' => y_move rfl) ?_
      refine m_k 8 [17, 26, 27, 28, 29] rfl (by kernel_rfl) rfl rfl (fun w33 e34 => ?_)
      replace R32 := R32.trans (Ext0.any e34)
      replace B := B.ext0 e34
      clear e34
      refine k_call T56.fn_98 (c_i_moved (f := 115) (us := []) (xs := [.pointer (some ⟨b24, 0, none⟩), .pointer (some ⟨b25, 0, none⟩), .pointer (some ⟨b26, 0, none⟩)]) (FU := (fun xq _ => (xq - x + 16 * wd) % wd)) (FV := (fun _ yq => (yq - y + 16 * hi) % hi)) (W := wd) (H := hi) (B.r 8 rfl) T56.fn_115 (fun xq yq w1 he h0 h1 h2 h3 => (c_i_backBy_1 ((B.b 0 rfl).sl.ext0 he) ((B.b 1 rfl).sl.ext0 he) ((B.b 2 rfl).sl.ext0 he) (by omega) (by omega) (by omega) (by omega) (by omega) (by omega) (by omega) (by omega) (by omega) (by omega) (by omega) (by omega))) (fun xq yq h0 h1 h2 h3 => by have p1 := rem_b (x := xq - x + 16 * wd) (m := wd) (by omega) (by omega); have p2 := rem_b (x := yq - y + 16 * hi) (m := hi) (by omega) (by omega); first | omega | (simp only []; omega)) (by omega) (by omega) (by omega) (by omega) (by omega) (by omega) (by omega) (by omega) (by omega)) rfl ?_
      rintro _ w35 ⟨a36, c37, rfl, hN38⟩
      replace R32 := R32.trans (Ext0.any hN38.ext)
      replace B := B.new1 hN38
      clear hN38
      refine ⟨fun _ => R32, ?_⟩
      refine m_k 17 [26, 27, 28, 29] rfl (by kernel_rfl) rfl rfl (fun w39 e40 => ?_)
      replace R32 := R32.trans (Ext0.any e40)
      replace B := B.ext0 e40
      clear e40
      refine k_call T56.fn_98 (c_i_moved (f := 115) (us := []) (xs := [.pointer (some ⟨b24, 0, none⟩), .pointer (some ⟨b25, 0, none⟩), .pointer (some ⟨b26, 0, none⟩)]) (FU := (fun xq _ => (xq - x + 16 * wd) % wd)) (FV := (fun _ yq => (yq - y + 16 * hi) % hi)) (W := wd) (H := hi) (B.r 10 rfl) T56.fn_115 (fun xq yq w1 he h0 h1 h2 h3 => (c_i_backBy_1 ((B.b 1 rfl).sl.ext0 he) ((B.b 2 rfl).sl.ext0 he) ((B.b 3 rfl).sl.ext0 he) (by omega) (by omega) (by omega) (by omega) (by omega) (by omega) (by omega) (by omega) (by omega) (by omega) (by omega) (by omega))) (fun xq yq h0 h1 h2 h3 => by have p1 := rem_b (x := xq - x + 16 * wd) (m := wd) (by omega) (by omega); have p2 := rem_b (x := yq - y + 16 * hi) (m := hi) (by omega) (by omega); first | omega | (simp only []; omega)) (by omega) (by omega) (by omega) (by omega) (by omega) (by omega) (by omega) (by omega) (by omega)) rfl ?_
      rintro _ w41 ⟨a42, c43, rfl, hN44⟩
      replace R32 := R32.trans (Ext0.any hN44.ext)
      replace B := B.new1 hN44
      clear hN44
      refine ⟨fun _ => R32, ?_⟩
      refine m_k 26 [27, 28, 29] rfl (by kernel_rfl) rfl rfl (fun w45 e46 => ?_)
      replace R32 := R32.trans (Ext0.any e46)
      replace B := B.ext0 e46
      clear e46
      refine k_call T56.fn_98 (c_i_moved (f := 115) (us := []) (xs := [.pointer (some ⟨b24, 0, none⟩), .pointer (some ⟨b25, 0, none⟩), .pointer (some ⟨b26, 0, none⟩)]) (FU := (fun xq _ => (xq - x + 16 * wd) % wd)) (FV := (fun _ yq => (yq - y + 16 * hi) % hi)) (W := wd) (H := hi) (B.r 12 rfl) T56.fn_115 (fun xq yq w1 he h0 h1 h2 h3 => (c_i_backBy_1 ((B.b 2 rfl).sl.ext0 he) ((B.b 3 rfl).sl.ext0 he) ((B.b 4 rfl).sl.ext0 he) (by omega) (by omega) (by omega) (by omega) (by omega) (by omega) (by omega) (by omega) (by omega) (by omega) (by omega) (by omega))) (fun xq yq h0 h1 h2 h3 => by have p1 := rem_b (x := xq - x + 16 * wd) (m := wd) (by omega) (by omega); have p2 := rem_b (x := yq - y + 16 * hi) (m := hi) (by omega) (by omega); first | omega | (simp only []; omega)) (by omega) (by omega) (by omega) (by omega) (by omega) (by omega) (by omega) (by omega) (by omega)) rfl ?_
      rintro _ w47 ⟨a48, c49, rfl, hN50⟩
      replace R32 := R32.trans (Ext0.any hN50.ext)
      replace B := B.new1 hN50
      clear hN50
      refine ⟨fun _ => R32, ?_⟩
      refine m_y (v := .agg #[.slice a36 ((wd * hi).toNat) c37, .slice a42 ((wd * hi).toNat) c43, .slice a48 ((wd * hi).toNat) c49]) 27 rfl (by kernel_rfl) rfl rfl (fun w' e' => y_build (cells := #[.slice a36 ((wd * hi).toNat) c37, .slice a42 ((wd * hi).toNat) c43, .slice a48 ((wd * hi).toNat) c49]) (by kernel_rfl)) ?_
      refine m_k 28 [29] rfl (by kernel_rfl) rfl rfl (fun w53 e54 => ?_)
      replace R32 := R32.trans (Ext0.any e54)
      replace B := B.ext0 e54
      clear e54
      refine k_stB (v := .agg #[.slice a36 ((wd * hi).toNat) c37, .slice a42 ((wd * hi).toNat) c43, .slice a48 ((wd * hi).toNat) c49]) (n := 3) (cs' := [.slice a36 ((wd * hi).toNat) c37, .slice a42 ((wd * hi).toNat) c43, .slice a48 ((wd * hi).toNat) c49]) T56.sz_49_3 rfl rfl rfl (B.b 6 rfl) (by simp [Value.cells, Value.oneCell']) (Nat.le_of_ble_eq_true rfl) rfl (fun w51 hU52 => ?_)
      replace R32 := R32.trans hU52.at1
      replace B : Bu w no w51 [.blk b7 [.slice a36 ((wd * hi).toNat) c37, .slice a42 ((wd * hi).toNat) c43, .slice a48 ((wd * hi).toNat) c49] 49, .ow kF a48 ((wd * hi).toNat) c49 56 (movL wd hi (fun xp yp => atI wd hi ((fun xq _ => (xq - x + 16 * wd) % wd) xp yp) ((fun _ yq => (yq - y + 16 * hi) % hi) xp yp)) Xfy), .ow kF a42 ((wd * hi).toNat) c43 56 (movL wd hi (fun xp yp => atI wd hi ((fun xq _ => (xq - x + 16 * wd) % wd) xp yp) ((fun _ yq => (yq - y + 16 * hi) % hi) xp yp)) Xfx), .ow kF a36 ((wd * hi).toNat) c37 56 (movL wd hi (fun xp yp => atI wd hi ((fun xq _ => (xq - x + 16 * wd) % wd) xp yp) ((fun _ yq => (yq - y + 16 * hi) % hi) xp yp)) Xfe), .blk b24 [.int .i64 x] 2, .blk b25 [.int .i64 wd, .int .i64 hi, .bool wr, .slice asp nsp csp, .slice als nls cls] 26, .blk b26 [.int .i64 y] 2, .blk b4 [.slice afe nfe cfe, .slice afx nfx cfx, .slice afy nfy cfy] 49, .blk b1 [.int .i64 wd, .int .i64 hi, .bool wr, .slice asp nsp csp, .slice als nls cls] 26, .rd kF asp nsp Xsp, .rd kF als nls Xls, .rd kF afe nfe Xfe, .rd kF afx nfx Xfx, .rd kF afy nfy Xfy] := B.upd [6] rfl hU52
      clear hU52
      refine ⟨fun _ => R32, ?_⟩
      refine m_y (v := .bool true) 29 rfl (by kernel_rfl) rfl rfl (fun w' e' => y_assign rfl) ?_
      refine m_done (by kernel_rfl) (fun w55 e56 => ?_)
      replace B := B.ext0 e56
      clear e56
      clear B0_31 R32
      refine W_ret ?_
      refine ret2 (v1 := .agg #[.slice a36 ((wd * hi).toNat) c37, .slice a42 ((wd * hi).toNat) c43, .slice a48 ((wd * hi).toNat) c49]) (v2 := .bool true) rfl rfl rfl ⟨_, [.slice a36 ((wd * hi).toNat) c37, .slice a42 ((wd * hi).toNat) c43, .slice a48 ((wd * hi).toNat) c49], _, rfl, (B.b 0 rfl), T56.agg_49_3, rfl⟩ rfl ⟨_, rfl, ?_⟩
      have hcond : shfB wd hi wr Xsp Xls Xfe Xfx Xfy x y = true := by simp only [shfB, c14, c20, Bool.and_true, Bool.true_and, Bool.and_false, Bool.false_and, Bool.not_true, Bool.not_false, Bool.or_true, Bool.true_or, Bool.or_false, Bool.false_or]
      replace B : Bu w no w55 [.blk b7 [.slice a36 ((wd * hi).toNat) c37, .slice a42 ((wd * hi).toNat) c43, .slice a48 ((wd * hi).toNat) c49] 49, .ow kF a48 ((wd * hi).toNat) c49 56 (movL wd hi (fun xp yp => atI wd hi ((fun xq _ => (xq - x + 16 * wd) % wd) xp yp) ((fun _ yq => (yq - y + 16 * hi) % hi) xp yp)) Xfy), .ow kF a42 ((wd * hi).toNat) c43 56 (movL wd hi (fun xp yp => atI wd hi ((fun xq _ => (xq - x + 16 * wd) % wd) xp yp) ((fun _ yq => (yq - y + 16 * hi) % hi) xp yp)) Xfx), .ow kF a36 ((wd * hi).toNat) c37 56 (shfS wd hi x y Xfe), .blk b24 [.int .i64 x] 2, .blk b25 [.int .i64 wd, .int .i64 hi, .bool wr, .slice asp nsp csp, .slice als nls cls] 26, .blk b26 [.int .i64 y] 2, .blk b4 [.slice afe nfe cfe, .slice afx nfx cfx, .slice afy nfy cfy] 49, .blk b1 [.int .i64 wd, .int .i64 hi, .bool wr, .slice asp nsp csp, .slice als nls cls] 26, .rd kF asp nsp Xsp, .rd kF als nls Xls, .rd kF afe nfe Xfe, .rd kF afx nfx Xfx, .rd kF afy nfy Xfy] := B.castX 3 rfl rfl (shf_i (by omega) (by omega))
      replace B : Bu w no w55 [.blk b7 [.slice a36 ((wd * hi).toNat) c37, .slice a42 ((wd * hi).toNat) c43, .slice a48 ((wd * hi).toNat) c49] 49, .ow kF a48 ((wd * hi).toNat) c49 56 (movL wd hi (fun xp yp => atI wd hi ((fun xq _ => (xq - x + 16 * wd) % wd) xp yp) ((fun _ yq => (yq - y + 16 * hi) % hi) xp yp)) Xfy), .ow kF a42 ((wd * hi).toNat) c43 56 (shfS wd hi x y Xfx), .ow kF a36 ((wd * hi).toNat) c37 56 (shfS wd hi x y Xfe), .blk b24 [.int .i64 x] 2, .blk b25 [.int .i64 wd, .int .i64 hi, .bool wr, .slice asp nsp csp, .slice als nls cls] 26, .blk b26 [.int .i64 y] 2, .blk b4 [.slice afe nfe cfe, .slice afx nfx cfx, .slice afy nfy cfy] 49, .blk b1 [.int .i64 wd, .int .i64 hi, .bool wr, .slice asp nsp csp, .slice als nls cls] 26, .rd kF asp nsp Xsp, .rd kF als nls Xls, .rd kF afe nfe Xfe, .rd kF afx nfx Xfx, .rd kF afy nfy Xfy] := B.castX 2 rfl rfl (shf_i (by omega) (by omega))
      replace B : Bu w no w55 [.blk b7 [.slice a36 ((wd * hi).toNat) c37, .slice a42 ((wd * hi).toNat) c43, .slice a48 ((wd * hi).toNat) c49] 49, .ow kF a48 ((wd * hi).toNat) c49 56 (shfS wd hi x y Xfy), .ow kF a42 ((wd * hi).toNat) c43 56 (shfS wd hi x y Xfx), .ow kF a36 ((wd * hi).toNat) c37 56 (shfS wd hi x y Xfe), .blk b24 [.int .i64 x] 2, .blk b25 [.int .i64 wd, .int .i64 hi, .bool wr, .slice asp nsp csp, .slice als nls cls] 26, .blk b26 [.int .i64 y] 2, .blk b4 [.slice afe nfe cfe, .slice afx nfx cfx, .slice afy nfy cfy] 49, .blk b1 [.int .i64 wd, .int .i64 hi, .bool wr, .slice asp nsp csp, .slice als nls cls] 26, .rd kF asp nsp Xsp, .rd kF als nls Xls, .rd kF afe nfe Xfe, .rd kF afx nfx Xfx, .rd kF afy nfy Xfy] := B.castX 1 rfl rfl (shf_i (by omega) (by omega))
      exact .inl ⟨hcond, ⟨_, _, _, _, _, _, rfl, B.give [3, 2, 1] rfl rfl rfl⟩⟩
    · obtain rfl : v18 = .bool false := hv19.trans (congrArg Value.bool (Bool.eq_false_iff.2 c20))
      refine s_y (v := .bool true) rfl (y_not rfl rfl) ?_
      refine s_y (v := .bool true) rfl (y_pick_f rfl rfl) ?_
      refine s_nil ?_
      refine W_if_t (by decide) rfl ?_
      refine W_seq ?_
      refine W_region (by kernel_rfl) ?_
      refine s_y (v := .agg #[.slice none 0 0, .slice none 0 0, .slice none 0 0]) rfl (y_build (cells := #[.slice none 0 0, .slice none 0 0, .slice none 0 0]) (by kernel_rfl)) ?_
      refine s_k0 rfl (k_stB (v := .agg #[.slice none 0 0, .slice none 0 0, .slice none 0 0]) (n := 3) (cs' := [.slice none 0 0, .slice none 0 0, .slice none 0 0]) T56.sz_49_3 rfl rfl rfl (B.b 0 rfl) (by simp [Value.cells, Value.oneCell']) (Nat.le_of_ble_eq_true rfl) rfl (fun w57 hU58 => ?_))
      replace B : Bu w no w57 [.blk b7 [.slice none 0 0, .slice none 0 0, .slice none 0 0] 49, .blk b4 [.slice afe nfe cfe, .slice afx nfx cfx, .slice afy nfy cfy] 49, .blk b1 [.int .i64 wd, .int .i64 hi, .bool wr, .slice asp nsp csp, .slice als nls cls] 26, .rd kF asp nsp Xsp, .rd kF als nls Xls, .rd kF afe nfe Xfe, .rd kF afx nfx Xfx, .rd kF afy nfy Xfy] := B.upd [0] rfl hU58
      clear hU58
      refine s_y (v := .bool false) rfl (y_assign rfl) ?_
      refine s_nil ?_
      refine W_ret ?_
      refine ret2 (v1 := .agg #[.slice none 0 0, .slice none 0 0, .slice none 0 0]) (v2 := .bool false) rfl rfl rfl ⟨_, [.slice none 0 0, .slice none 0 0, .slice none 0 0], _, rfl, (B.b 0 rfl), T56.agg_49_3, rfl⟩ rfl ⟨_, rfl, ?_⟩
      exact .inr ⟨by simp only [shfB, c14, (Bool.eq_false_iff.2 c20), Bool.and_true, Bool.true_and, Bool.and_false, Bool.false_and, Bool.not_true, Bool.not_false, Bool.or_true, Bool.true_or, Bool.or_false, Bool.false_or], rfl, B.ext⟩
  · obtain rfl : v12 = .bool false := hv13.trans (congrArg Value.bool (Bool.eq_false_iff.2 c14))
    refine s_y (v := .bool true) rfl (y_not rfl rfl) ?_
    refine s_y (v := .bool true) rfl (y_move rfl) ?_
    refine s_skip rfl ?_
    refine s_skip rfl ?_
    refine s_skip rfl ?_
    refine s_skip rfl ?_
    refine s_y (v := .bool true) rfl (y_pick_t rfl rfl) ?_
    refine s_nil ?_
    refine W_if_t (by decide) rfl ?_
    refine W_seq ?_
    refine W_region (by kernel_rfl) ?_
    refine s_y (v := .agg #[.slice none 0 0, .slice none 0 0, .slice none 0 0]) rfl (y_build (cells := #[.slice none 0 0, .slice none 0 0, .slice none 0 0]) (by kernel_rfl)) ?_
    refine s_k0 rfl (k_stB (v := .agg #[.slice none 0 0, .slice none 0 0, .slice none 0 0]) (n := 3) (cs' := [.slice none 0 0, .slice none 0 0, .slice none 0 0]) T56.sz_49_3 rfl rfl rfl (B.b 0 rfl) (by simp [Value.cells, Value.oneCell']) (Nat.le_of_ble_eq_true rfl) rfl (fun w59 hU60 => ?_))
    replace B : Bu w no w59 [.blk b7 [.slice none 0 0, .slice none 0 0, .slice none 0 0] 49, .blk b4 [.slice afe nfe cfe, .slice afx nfx cfx, .slice afy nfy cfy] 49, .blk b1 [.int .i64 wd, .int .i64 hi, .bool wr, .slice asp nsp csp, .slice als nls cls] 26, .rd kF asp nsp Xsp, .rd kF als nls Xls, .rd kF afe nfe Xfe, .rd kF afx nfx Xfx, .rd kF afy nfy Xfy] := B.upd [0] rfl hU60
    clear hU60
    refine s_y (v := .bool false) rfl (y_assign rfl) ?_
    refine s_nil ?_
    refine W_ret ?_
    refine ret2 (v1 := .agg #[.slice none 0 0, .slice none 0 0, .slice none 0 0]) (v2 := .bool false) rfl rfl rfl ⟨_, [.slice none 0 0, .slice none 0 0, .slice none 0 0], _, rfl, (B.b 0 rfl), T56.agg_49_3, rfl⟩ rfl ⟨_, rfl, ?_⟩
    exact .inr ⟨by simp only [shfB, (Bool.eq_false_iff.2 c14), Bool.and_true, Bool.true_and, Bool.and_false, Bool.false_and, Bool.not_true, Bool.not_false, Bool.or_true, Bool.true_or, Bool.or_false, Bool.false_or], rfl, B.ext⟩
end Go.Proofs.Ytalkhbnlphefdaa
