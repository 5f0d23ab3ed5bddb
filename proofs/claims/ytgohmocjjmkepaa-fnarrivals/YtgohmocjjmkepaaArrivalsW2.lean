/- Walks: what the functions under FnArrivals do (part 3). Printed by a program of this claim's author. -/
import Derived.Test.YtgohmocjjmkepaaArrivalsW1
set_option linter.unusedSimpArgs false
set_option linter.unusedVariables false
open Go.Wv
namespace Go.Proofs.Ytgohmocjjmkepaa
open Go.Proofs
namespace T148
theorem mx : Try.prog.follows .mixedOrders = true := by kernel_rfl
theorem fn_153 : fnB Try.prog 153 = true := by kernel_rfl
end T148
set_option maxRecDepth 100000 in
set_option maxHeartbeats 4000000 in
theorem c_i_sine {x : Nat} {X : Nat} {w : World} (hx : Cn .f64 x X) (hok : okI X = true) :
    Calls Try.prog 148 #[.float .f64 x] w (Rt fun v w' => (∃ r, v = .float .f64 r ∧ Cn .f64 r (sinT X)) ∧ Ext0 w w') := by
  have B : Bu w no w [] := Bu.ro All.nil rfl
  refine calls_W (n := 48) Try.func148 rfl rfl (Nat.le_of_ble_eq_true rfl) ?_
  refine W_seq ?_
  refine W_region (by kernel_rfl) ?_
  refine s_y (v := .float .f64 0) rfl (y_assign rfl) ?_
  refine s_nil ?_
  refine W_seq ?_
  refine W_region (by kernel_rfl) ?_
  refine s_y (v := .float .f64 x) rfl (y_move rfl) ?_
  refine s_k rfl (k_call T148.fn_153 (c_i_fraction hx hok) rfl ?_)
  rintro _ w1 ⟨⟨r3, rfl, hr4⟩, e2⟩
  replace B := B.ext0 e2
  clear e2
  refine s_y (v := .float .f64 r3) rfl (y_assign rfl) ?_
  refine s_nil ?_
  refine W_seq ?_
  refine W_region (by kernel_rfl) ?_
  refine s_y (v := .float .f64 r3) rfl (y_move rfl) ?_
  by_cases c5 : fge .f64 (frT X) 4602678819172646912 = true
  · refine s_y (v := .bool true) rfl (y_fgeq rfl rfl (fgeC hr4 (cnLit (k := .f64) (t := 4602678819172646912) (by kernel_rfl) (by kernel_rfl)) c5)) ?_
    refine s_y (v := .bool true) rfl (y_assign rfl) ?_
    refine s_nil ?_
    refine W_seq ?_
    refine W_seq ?_
    refine W_region (by kernel_rfl) ?_
    refine s_y (v := .bool true) rfl (y_move rfl) ?_
    refine s_nil ?_
    refine W_if_t (by decide) rfl ?_
    refine W_region (by kernel_rfl) ?_
    refine s_y (v := .float .f64 r3) rfl (y_move rfl) ?_
    refine s_n rfl (n_arith (by decide) rfl rfl) ?_
    rintro _ w9 e10 ⟨r7, rfl, hr8⟩
    replace B := B.ext0 e10
    clear e10
    have hc11 := fopC hr8 hr4 (cnLit (k := .f64) (t := 4602678819172646912) (by kernel_rfl) (by kernel_rfl))
    refine s_y (v := .float .f64 r7) rfl (y_assign rfl) ?_
    refine s_nil ?_
    refine W_seq ?_
    refine W_seq ?_
    refine W_region (by kernel_rfl) ?_
    refine s_y (v := .float .f64 r7) rfl (y_move rfl) ?_
    by_cases c12 : fgt .f64 (fop .sub .f64 (frT X) 4602678819172646912) 4598175219545276416 = true
    · refine s_y (v := .bool true) rfl (y_fgtr rfl rfl (fgtC hc11 (cnLit (k := .f64) (t := 4598175219545276416) (by kernel_rfl) (by kernel_rfl)) c12)) ?_
      refine s_nil ?_
      refine W_if_t (by decide) rfl ?_
      refine W_region (by kernel_rfl) ?_
      refine s_y (v := .float .f64 r7) rfl (y_move rfl) ?_
      refine s_n rfl (n_arith (by decide) rfl rfl) ?_
      rintro _ w16 e17 ⟨r14, rfl, hr15⟩
      replace B := B.ext0 e17
      clear e17
      have hc18 := fopC hr15 (cnLit (k := .f64) (t := 4602678819172646912) (by kernel_rfl) (by kernel_rfl)) hc11
      refine s_y (v := .float .f64 r14) rfl (y_assign rfl) ?_
      refine s_nil ?_
      refine W_seq ?_
      refine W_region (by kernel_rfl) ?_
      refine s_y (v := .float .f64 r14) rfl (y_move rfl) ?_
      refine s_n rfl (n_arith (by decide) rfl rfl) ?_
      rintro _ w22 e23 ⟨r20, rfl, hr21⟩
      replace B := B.ext0 e23
      clear e23
      have hc24 := fopC hr21 hc18 (cnLit (k := .f64) (t := 4618760256179416344) (by kernel_rfl) (by kernel_rfl))
      refine s_y (v := .float .f64 r20) rfl (y_assign rfl) ?_
      refine s_nil ?_
      refine W_seq ?_
      refine W_region (by kernel_rfl) ?_
      refine s_y (v := .float .f64 r20) rfl (y_move rfl) ?_
      refine s_y (v := .float .f64 r20) rfl (y_move rfl) ?_
      refine s_n rfl (n_arith (by decide) rfl rfl) ?_
      rintro _ w28 e29 ⟨r26, rfl, hr27⟩
      replace B := B.ext0 e29
      clear e29
      have hc30 := fopC hr27 hc24 hc24
      refine s_y (v := .float .f64 r26) rfl (y_assign rfl) ?_
      refine s_nil ?_
      refine W_seq ?_
      refine W_region (by kernel_rfl) ?_
      refine s_y (v := .float .f64 4607182418800017408) rfl (y_assign rfl) ?_
      refine s_nil ?_
      refine W_seq ?_
      refine W_seq ?_
      refine W_region (by kernel_rfl) ?_
      refine s_y (v := .float .f64 4620693217682128896) rfl (y_assign rfl) ?_
      refine s_nil ?_
      refine W_block ?_
      refine W_loop (fun ρ' w' => ∃ (ρ1 : Env) (i : Nat) (rk : Nat) (rp : Nat), ρ' = updL ρ1 [(2, .float .f64 0), (4, .bool true), (5, .float .f64 r20), (6, .float .f64 r26), (7, .float .f64 rp), (8, .float .f64 rk)] ∧ Bu w no w' [] ∧ (i ≤ 8) ∧ (Cn .f64 rk (kT i)) ∧ (Cn .f64 rp (pT (fop .mul .f64 (fop .mul .f64 (fop .sub .f64 4602678819172646912 (fop .sub .f64 (frT X) 4602678819172646912)) 4618760256179416344) (fop .mul .f64 (fop .sub .f64 4602678819172646912 (fop .sub .f64 (frT X) 4602678819172646912)) 4618760256179416344)) i))) (fun ρ' _ => kmea (ρ' 8)) ?_ ?_
      · exact ⟨_, 0, 4620693217682128896, 4607182418800017408, Fits.eq ⟨rfl, rfl, rfl, rfl, rfl, rfl, trivial⟩, B, (by omega), (cnLit (k := .f64) (t := 4620693217682128896) (by kernel_rfl) (by kernel_rfl)), (cnLit (k := .f64) (t := 4607182418800017408) (by kernel_rfl) (by kernel_rfl))⟩
      · clear B; rintro _ w31 ⟨ρ32, i, rk, rp, rfl, B, hi8, hk, hp⟩
        refine W_seq ?_
        refine W_seq ?_
        refine W_region (by kernel_rfl) ?_
        refine s_y (v := .float .f64 rk) rfl (y_move rfl) ?_
        by_cases c33 : fge .f64 (kT i) 4607182418800017408 = true
        · refine s_y (v := .bool true) rfl (y_fgeq rfl rfl (fgeC hk (cnLit (k := .f64) (t := 4607182418800017408) (by kernel_rfl) (by kernel_rfl)) c33)) ?_
          refine s_nil ?_
          refine W_if_t (by decide) rfl ?_
          refine W_skip ?_
          refine W_seq ?_
          refine W_block ?_
          refine W_region (by kernel_rfl) ?_
          refine s_y (v := .float .f64 r26) rfl (y_move rfl) ?_
          refine s_y (v := .float .f64 rp) rfl (y_move rfl) ?_
          refine s_n rfl (n_arith (by decide) rfl rfl) ?_
          rintro _ w37 e38 ⟨r35, rfl, hr36⟩
          replace B := B.ext0 e38
          clear e38
          have hc39 := fopC hr36 hc30 hp
          refine s_y (v := .float .f64 rk) rfl (y_move rfl) ?_
          refine s_n rfl (n_arith (by decide) rfl rfl) ?_
          rintro _ w43 e44 ⟨r41, rfl, hr42⟩
          replace B := B.ext0 e44
          clear e44
          have hc45 := fopC hr42 (cnLit (k := .f64) (t := 4611686018427387904) (by kernel_rfl) (by kernel_rfl)) hk
          refine s_y (v := .float .f64 rk) rfl (y_move rfl) ?_
          refine s_n rfl (n_arith (by decide) rfl rfl) ?_
          rintro _ w49 e50 ⟨r47, rfl, hr48⟩
          replace B := B.ext0 e50
          clear e50
          have hc51 := fopC hr48 (cnLit (k := .f64) (t := 4611686018427387904) (by kernel_rfl) (by kernel_rfl)) hk
          refine s_n rfl (n_arith (by decide) rfl rfl) ?_
          rintro _ w55 e56 ⟨r53, rfl, hr54⟩
          replace B := B.ext0 e56
          clear e56
          have hc57 := fopC hr54 hc51 (cnLit (k := .f64) (t := 4607182418800017408) (by kernel_rfl) (by kernel_rfl))
          refine s_n rfl (n_arith (by decide) rfl rfl) ?_
          rintro _ w61 e62 ⟨r59, rfl, hr60⟩
          replace B := B.ext0 e62
          clear e62
          have hc63 := fopC hr60 hc45 hc57
          refine s_n rfl (n_arith (by decide) rfl rfl) ?_
          rintro _ w67 e68 ⟨r65, rfl, hr66⟩
          replace B := B.ext0 e68
          clear e68
          have hc69 := fopC hr66 hc39 hc63
          refine s_n rfl (n_arith (by decide) rfl rfl) ?_
          rintro _ w73 e74 ⟨r71, rfl, hr72⟩
          replace B := B.ext0 e74
          clear e74
          have hc75 := fopC hr72 (cnLit (k := .f64) (t := 4607182418800017408) (by kernel_rfl) (by kernel_rfl)) hc69
          refine s_y (v := .float .f64 r71) rfl (y_assign rfl) ?_
          refine s_nil ?_
          refine W_region (by kernel_rfl) ?_
          refine s_y (v := .float .f64 rk) rfl (y_move rfl) ?_
          refine s_n rfl (n_arith (by decide) rfl rfl) ?_
          rintro _ w79 e80 ⟨r77, rfl, hr78⟩
          replace B := B.ext0 e80
          clear e80
          have hc81 := fopC hr78 hk (cnLit (k := .f64) (t := 4607182418800017408) (by kernel_rfl) (by kernel_rfl))
          refine s_y (v := .float .f64 r77) rfl (y_assign rfl) ?_
          refine s_nil ?_
          have hlt := kT_lt hi8 c33
          refine ⟨⟨_, i + 1, r77, r71, Fits.eq ⟨rfl, rfl, rfl, rfl, rfl, rfl, trivial⟩, B, (by omega), hc81, hc75⟩, ?_⟩
          exact kidx_step hk hc81 hlt
        · refine s_y (v := .bool false) rfl (y_fgeq rfl rfl (fgeC hk (cnLit (k := .f64) (t := 4607182418800017408) (by kernel_rfl) (by kernel_rfl)) (Bool.eq_false_iff.2 c33))) ?_
          refine s_nil ?_
          refine W_if_f (by decide) rfl ?_
          refine W_exit ?_
          obtain rfl := kT_end hi8 c33
          refine W_seq ?_
          refine W_seq ?_
          refine W_region (by kernel_rfl) ?_
          refine s_y (v := .bool true) rfl (y_move rfl) ?_
          refine s_nil ?_
          refine W_if_t (by decide) rfl ?_
          refine W_seq ?_
          refine W_region (by kernel_rfl) ?_
          refine s_y (v := .float .f64 r20) rfl (y_move rfl) ?_
          refine s_y (v := .float .f64 rp) rfl (y_move rfl) ?_
          refine s_n rfl (n_arith (by decide) rfl rfl) ?_
          rintro _ w85 e86 ⟨r83, rfl, hr84⟩
          replace B := B.ext0 e86
          clear e86
          have hc87 := fopC hr84 hc24 hp
          refine s_y (v := .float .f64 (Op.negFloat .f64 r83)) rfl (y_fneg rfl) ?_
          refine s_y (v := .float .f64 (Op.negFloat .f64 r83)) rfl (y_assign rfl) ?_
          refine s_nil ?_
          refine W_ret ?_
          refine ret1 (v := .float .f64 (Op.negFloat .f64 r83)) rfl rfl rfl ⟨_, rfl, ?_⟩
          exact ⟨⟨_, rfl, cnT (negC hc87) (sinT_1 c5 (folT_1 c12))⟩, B.ext⟩
    · refine s_y (v := .bool false) rfl (y_fgtr rfl rfl (fgtC hc11 (cnLit (k := .f64) (t := 4598175219545276416) (by kernel_rfl) (by kernel_rfl)) (Bool.eq_false_iff.2 c12))) ?_
      refine s_nil ?_
      refine W_if_f (by decide) rfl ?_
      refine W_skip ?_
      refine W_seq ?_
      refine W_region (by kernel_rfl) ?_
      refine s_y (v := .float .f64 r7) rfl (y_move rfl) ?_
      refine s_n rfl (n_arith (by decide) rfl rfl) ?_
      rintro _ w91 e92 ⟨r89, rfl, hr90⟩
      replace B := B.ext0 e92
      clear e92
      have hc93 := fopC hr90 hc11 (cnLit (k := .f64) (t := 4618760256179416344) (by kernel_rfl) (by kernel_rfl))
      refine s_y (v := .float .f64 r89) rfl (y_assign rfl) ?_
      refine s_nil ?_
      refine W_seq ?_
      refine W_region (by kernel_rfl) ?_
      refine s_y (v := .float .f64 r89) rfl (y_move rfl) ?_
      refine s_y (v := .float .f64 r89) rfl (y_move rfl) ?_
      refine s_n rfl (n_arith (by decide) rfl rfl) ?_
      rintro _ w97 e98 ⟨r95, rfl, hr96⟩
      replace B := B.ext0 e98
      clear e98
      have hc99 := fopC hr96 hc93 hc93
      refine s_y (v := .float .f64 r95) rfl (y_assign rfl) ?_
      refine s_nil ?_
      refine W_seq ?_
      refine W_region (by kernel_rfl) ?_
      refine s_y (v := .float .f64 4607182418800017408) rfl (y_assign rfl) ?_
      refine s_nil ?_
      refine W_seq ?_
      refine W_seq ?_
      refine W_region (by kernel_rfl) ?_
      refine s_y (v := .float .f64 4620693217682128896) rfl (y_assign rfl) ?_
      refine s_nil ?_
      refine W_block ?_
      refine W_loop (fun ρ' w' => ∃ (ρ1 : Env) (i : Nat) (rk : Nat) (rp : Nat), ρ' = updL ρ1 [(2, .float .f64 0), (4, .bool true), (5, .float .f64 r89), (6, .float .f64 r95), (7, .float .f64 rp), (8, .float .f64 rk)] ∧ Bu w no w' [] ∧ (i ≤ 8) ∧ (Cn .f64 rk (kT i)) ∧ (Cn .f64 rp (pT (fop .mul .f64 (fop .mul .f64 (fop .sub .f64 (frT X) 4602678819172646912) 4618760256179416344) (fop .mul .f64 (fop .sub .f64 (frT X) 4602678819172646912) 4618760256179416344)) i))) (fun ρ' _ => kmea (ρ' 8)) ?_ ?_
      · exact ⟨_, 0, 4620693217682128896, 4607182418800017408, Fits.eq ⟨rfl, rfl, rfl, rfl, rfl, rfl, trivial⟩, B, (by omega), (cnLit (k := .f64) (t := 4620693217682128896) (by kernel_rfl) (by kernel_rfl)), (cnLit (k := .f64) (t := 4607182418800017408) (by kernel_rfl) (by kernel_rfl))⟩
      · clear B; rintro _ w100 ⟨ρ101, i, rk, rp, rfl, B, hi8, hk, hp⟩
        refine W_seq ?_
        refine W_seq ?_
        refine W_region (by kernel_rfl) ?_
        refine s_y (v := .float .f64 rk) rfl (y_move rfl) ?_
        by_cases c102 : fge .f64 (kT i) 4607182418800017408 = true
        · refine s_y (v := .bool true) rfl (y_fgeq rfl rfl (fgeC hk (cnLit (k := .f64) (t := 4607182418800017408) (by kernel_rfl) (by kernel_rfl)) c102)) ?_
          refine s_nil ?_
          refine W_if_t (by decide) rfl ?_
          refine W_skip ?_
          refine W_seq ?_
          refine W_block ?_
          refine W_region (by kernel_rfl) ?_
          refine s_y (v := .float .f64 r95) rfl (y_move rfl) ?_
          refine s_y (v := .float .f64 rp) rfl (y_move rfl) ?_
          refine s_n rfl (n_arith (by decide) rfl rfl) ?_
          rintro _ w106 e107 ⟨r104, rfl, hr105⟩
          replace B := B.ext0 e107
          clear e107
          have hc108 := fopC hr105 hc99 hp
          refine s_y (v := .float .f64 rk) rfl (y_move rfl) ?_
          refine s_n rfl (n_arith (by decide) rfl rfl) ?_
          rintro _ w112 e113 ⟨r110, rfl, hr111⟩
          replace B := B.ext0 e113
          clear e113
          have hc114 := fopC hr111 (cnLit (k := .f64) (t := 4611686018427387904) (by kernel_rfl) (by kernel_rfl)) hk
          refine s_y (v := .float .f64 rk) rfl (y_move rfl) ?_
          refine s_n rfl (n_arith (by decide) rfl rfl) ?_
          rintro _ w118 e119 ⟨r116, rfl, hr117⟩
          replace B := B.ext0 e119
          clear e119
          have hc120 := fopC hr117 (cnLit (k := .f64) (t := 4611686018427387904) (by kernel_rfl) (by kernel_rfl)) hk
          refine s_n rfl (n_arith (by decide) rfl rfl) ?_
          rintro _ w124 e125 ⟨r122, rfl, hr123⟩
          replace B := B.ext0 e125
          clear e125
          have hc126 := fopC hr123 hc120 (cnLit (k := .f64) (t := 4607182418800017408) (by kernel_rfl) (by kernel_rfl))
          refine s_n rfl (n_arith (by decide) rfl rfl) ?_
          rintro _ w130 e131 ⟨r128, rfl, hr129⟩
          replace B := B.ext0 e131
          clear e131
          have hc132 := fopC hr129 hc114 hc126
          refine s_n rfl (n_arith (by decide) rfl rfl) ?_
          rintro _ w136 e137 ⟨r134, rfl, hr135⟩
          replace B := B.ext0 e137
          clear e137
          have hc138 := fopC hr135 hc108 hc132
          refine s_n rfl (n_arith (by decide) rfl rfl) ?_
          rintro _ w142 e143 ⟨r140, rfl, hr141⟩
          replace B := B.ext0 e143
          clear e143
          have hc144 := fopC hr141 (cnLit (k := .f64) (t := 4607182418800017408) (by kernel_rfl) (by kernel_rfl)) hc138
          refine s_y (v := .float .f64 r140) rfl (y_assign rfl) ?_
          refine s_nil ?_
          refine W_region (by kernel_rfl) ?_
          refine s_y (v := .float .f64 rk) rfl (y_move rfl) ?_
          refine s_n rfl (n_arith (by decide) rfl rfl) ?_
          rintro _ w148 e149 ⟨r146, rfl, hr147⟩
          replace B := B.ext0 e149
          clear e149
          have hc150 := fopC hr147 hk (cnLit (k := .f64) (t := 4607182418800017408) (by kernel_rfl) (by kernel_rfl))
          refine s_y (v := .float .f64 r146) rfl (y_assign rfl) ?_
          refine s_nil ?_
          have hlt := kT_lt hi8 c102
          refine ⟨⟨_, i + 1, r146, r140, Fits.eq ⟨rfl, rfl, rfl, rfl, rfl, rfl, trivial⟩, B, (by omega), hc150, hc144⟩, ?_⟩
          exact kidx_step hk hc150 hlt
        · refine s_y (v := .bool false) rfl (y_fgeq rfl rfl (fgeC hk (cnLit (k := .f64) (t := 4607182418800017408) (by kernel_rfl) (by kernel_rfl)) (Bool.eq_false_iff.2 c102))) ?_
          refine s_nil ?_
          refine W_if_f (by decide) rfl ?_
          refine W_exit ?_
          obtain rfl := kT_end hi8 c102
          refine W_seq ?_
          refine W_seq ?_
          refine W_region (by kernel_rfl) ?_
          refine s_y (v := .bool true) rfl (y_move rfl) ?_
          refine s_nil ?_
          refine W_if_t (by decide) rfl ?_
          refine W_seq ?_
          refine W_region (by kernel_rfl) ?_
          refine s_y (v := .float .f64 r89) rfl (y_move rfl) ?_
          refine s_y (v := .float .f64 rp) rfl (y_move rfl) ?_
          refine s_n rfl (n_arith (by decide) rfl rfl) ?_
          rintro _ w154 e155 ⟨r152, rfl, hr153⟩
          replace B := B.ext0 e155
          clear e155
          have hc156 := fopC hr153 hc93 hp
          refine s_y (v := .float .f64 (Op.negFloat .f64 r152)) rfl (y_fneg rfl) ?_
          refine s_y (v := .float .f64 (Op.negFloat .f64 r152)) rfl (y_assign rfl) ?_
          refine s_nil ?_
          refine W_ret ?_
          refine ret1 (v := .float .f64 (Op.negFloat .f64 r152)) rfl rfl rfl ⟨_, rfl, ?_⟩
          exact ⟨⟨_, rfl, cnT (negC hc156) (sinT_1 c5 (folT_2 c12))⟩, B.ext⟩
  · refine s_y (v := .bool false) rfl (y_fgeq rfl rfl (fgeC hr4 (cnLit (k := .f64) (t := 4602678819172646912) (by kernel_rfl) (by kernel_rfl)) (Bool.eq_false_iff.2 c5))) ?_
    refine s_y (v := .bool false) rfl (y_assign rfl) ?_
    refine s_nil ?_
    refine W_seq ?_
    refine W_seq ?_
    refine W_region (by kernel_rfl) ?_
    refine s_y (v := .bool false) rfl (y_move rfl) ?_
    refine s_nil ?_
    refine W_if_f (by decide) rfl ?_
    refine W_skip ?_
    refine W_seq ?_
    refine W_seq ?_
    refine W_region (by kernel_rfl) ?_
    refine s_y (v := .float .f64 r3) rfl (y_move rfl) ?_
    by_cases c157 : fgt .f64 (frT X) 4598175219545276416 = true
    · refine s_y (v := .bool true) rfl (y_fgtr rfl rfl (fgtC hr4 (cnLit (k := .f64) (t := 4598175219545276416) (by kernel_rfl) (by kernel_rfl)) c157)) ?_
      refine s_nil ?_
      refine W_if_t (by decide) rfl ?_
      refine W_region (by kernel_rfl) ?_
      refine s_y (v := .float .f64 r3) rfl (y_move rfl) ?_
      refine s_n rfl (n_arith (by decide) rfl rfl) ?_
      rintro _ w161 e162 ⟨r159, rfl, hr160⟩
      replace B := B.ext0 e162
      clear e162
      have hc163 := fopC hr160 (cnLit (k := .f64) (t := 4602678819172646912) (by kernel_rfl) (by kernel_rfl)) hr4
      refine s_y (v := .float .f64 r159) rfl (y_assign rfl) ?_
      refine s_nil ?_
      refine W_seq ?_
      refine W_region (by kernel_rfl) ?_
      refine s_y (v := .float .f64 r159) rfl (y_move rfl) ?_
      refine s_n rfl (n_arith (by decide) rfl rfl) ?_
      rintro _ w167 e168 ⟨r165, rfl, hr166⟩
      replace B := B.ext0 e168
      clear e168
      have hc169 := fopC hr166 hc163 (cnLit (k := .f64) (t := 4618760256179416344) (by kernel_rfl) (by kernel_rfl))
      refine s_y (v := .float .f64 r165) rfl (y_assign rfl) ?_
      refine s_nil ?_
      refine W_seq ?_
      refine W_region (by kernel_rfl) ?_
      refine s_y (v := .float .f64 r165) rfl (y_move rfl) ?_
      refine s_y (v := .float .f64 r165) rfl (y_move rfl) ?_
      refine s_n rfl (n_arith (by decide) rfl rfl) ?_
      rintro _ w173 e174 ⟨r171, rfl, hr172⟩
      replace B := B.ext0 e174
      clear e174
      have hc175 := fopC hr172 hc169 hc169
      refine s_y (v := .float .f64 r171) rfl (y_assign rfl) ?_
      refine s_nil ?_
      refine W_seq ?_
      refine W_region (by kernel_rfl) ?_
      refine s_y (v := .float .f64 4607182418800017408) rfl (y_assign rfl) ?_
      refine s_nil ?_
      refine W_seq ?_
      refine W_seq ?_
      refine W_region (by kernel_rfl) ?_
      refine s_y (v := .float .f64 4620693217682128896) rfl (y_assign rfl) ?_
      refine s_nil ?_
      refine W_block ?_
      refine W_loop (fun ρ' w' => ∃ (ρ1 : Env) (i : Nat) (rk : Nat) (rp : Nat), ρ' = updL ρ1 [(2, .float .f64 0), (4, .bool false), (5, .float .f64 r165), (6, .float .f64 r171), (7, .float .f64 rp), (8, .float .f64 rk)] ∧ Bu w no w' [] ∧ (i ≤ 8) ∧ (Cn .f64 rk (kT i)) ∧ (Cn .f64 rp (pT (fop .mul .f64 (fop .mul .f64 (fop .sub .f64 4602678819172646912 (frT X)) 4618760256179416344) (fop .mul .f64 (fop .sub .f64 4602678819172646912 (frT X)) 4618760256179416344)) i))) (fun ρ' _ => kmea (ρ' 8)) ?_ ?_
      · exact ⟨_, 0, 4620693217682128896, 4607182418800017408, Fits.eq ⟨rfl, rfl, rfl, rfl, rfl, rfl, trivial⟩, B, (by omega), (cnLit (k := .f64) (t := 4620693217682128896) (by kernel_rfl) (by kernel_rfl)), (cnLit (k := .f64) (t := 4607182418800017408) (by kernel_rfl) (by kernel_rfl))⟩
      · clear B; rintro _ w176 ⟨ρ177, i, rk, rp, rfl, B, hi8, hk, hp⟩
        refine W_seq ?_
        refine W_seq ?_
        refine W_region (by kernel_rfl) ?_
        refine s_y (v := .float .f64 rk) rfl (y_move rfl) ?_
        by_cases c178 : fge .f64 (kT i) 4607182418800017408 = true
        · refine s_y (v := .bool true) rfl (y_fgeq rfl rfl (fgeC hk (cnLit (k := .f64) (t := 4607182418800017408) (by kernel_rfl) (by kernel_rfl)) c178)) ?_
          refine s_nil ?_
          refine W_if_t (by decide) rfl ?_
          refine W_skip ?_
          refine W_seq ?_
          refine W_block ?_
          refine W_region (by kernel_rfl) ?_
          refine s_y (v := .float .f64 r171) rfl (y_move rfl) ?_
          refine s_y (v := .float .f64 rp) rfl (y_move rfl) ?_
          refine s_n rfl (n_arith (by decide) rfl rfl) ?_
          rintro _ w182 e183 ⟨r180, rfl, hr181⟩
          replace B := B.ext0 e183
          clear e183
          have hc184 := fopC hr181 hc175 hp
          refine s_y (v := .float .f64 rk) rfl (y_move rfl) ?_
          refine s_n rfl (n_arith (by decide) rfl rfl) ?_
          rintro _ w188 e189 ⟨r186, rfl, hr187⟩
          replace B := B.ext0 e189
          clear e189
          have hc190 := fopC hr187 (cnLit (k := .f64) (t := 4611686018427387904) (by kernel_rfl) (by kernel_rfl)) hk
          refine s_y (v := .float .f64 rk) rfl (y_move rfl) ?_
          refine s_n rfl (n_arith (by decide) rfl rfl) ?_
          rintro _ w194 e195 ⟨r192, rfl, hr193⟩
          replace B := B.ext0 e195
          clear e195
          have hc196 := fopC hr193 (cnLit (k := .f64) (t := 4611686018427387904) (by kernel_rfl) (by kernel_rfl)) hk
          refine s_n rfl (n_arith (by decide) rfl rfl) ?_
          rintro _ w200 e201 ⟨r198, rfl, hr199⟩
          replace B := B.ext0 e201
          clear e201
          have hc202 := fopC hr199 hc196 (cnLit (k := .f64) (t := 4607182418800017408) (by kernel_rfl) (by kernel_rfl))
          refine s_n rfl (n_arith (by decide) rfl rfl) ?_
          rintro _ w206 e207 ⟨r204, rfl, hr205⟩
          replace B := B.ext0 e207
          clear e207
          have hc208 := fopC hr205 hc190 hc202
          refine s_n rfl (n_arith (by decide) rfl rfl) ?_
          rintro _ w212 e213 ⟨r210, rfl, hr211⟩
          replace B := B.ext0 e213
          clear e213
          have hc214 := fopC hr211 hc184 hc208
          refine s_n rfl (n_arith (by decide) rfl rfl) ?_
          rintro _ w218 e219 ⟨r216, rfl, hr217⟩
          replace B := B.ext0 e219
          clear e219
          have hc220 := fopC hr217 (cnLit (k := .f64) (t := 4607182418800017408) (by kernel_rfl) (by kernel_rfl)) hc214
          refine s_y (v := .float .f64 r216) rfl (y_assign rfl) ?_
          refine s_nil ?_
          refine W_region (by kernel_rfl) ?_
          refine s_y (v := .float .f64 rk) rfl (y_move rfl) ?_
          refine s_n rfl (n_arith (by decide) rfl rfl) ?_
          rintro _ w224 e225 ⟨r222, rfl, hr223⟩
          replace B := B.ext0 e225
          clear e225
          have hc226 := fopC hr223 hk (cnLit (k := .f64) (t := 4607182418800017408) (by kernel_rfl) (by kernel_rfl))
          refine s_y (v := .float .f64 r222) rfl (y_assign rfl) ?_
          refine s_nil ?_
          have hlt := kT_lt hi8 c178
          refine ⟨⟨_, i + 1, r222, r216, Fits.eq ⟨rfl, rfl, rfl, rfl, rfl, rfl, trivial⟩, B, (by omega), hc226, hc220⟩, ?_⟩
          exact kidx_step hk hc226 hlt
        · refine s_y (v := .bool false) rfl (y_fgeq rfl rfl (fgeC hk (cnLit (k := .f64) (t := 4607182418800017408) (by kernel_rfl) (by kernel_rfl)) (Bool.eq_false_iff.2 c178))) ?_
          refine s_nil ?_
          refine W_if_f (by decide) rfl ?_
          refine W_exit ?_
          obtain rfl := kT_end hi8 c178
          refine W_seq ?_
          refine W_seq ?_
          refine W_region (by kernel_rfl) ?_
          refine s_y (v := .bool false) rfl (y_move rfl) ?_
          refine s_nil ?_
          refine W_if_f (by decide) rfl ?_
          refine W_skip ?_
          refine W_seq ?_
          refine W_region (by kernel_rfl) ?_
          refine s_y (v := .float .f64 r165) rfl (y_move rfl) ?_
          refine s_y (v := .float .f64 rp) rfl (y_move rfl) ?_
          refine s_n rfl (n_arith (by decide) rfl rfl) ?_
          rintro _ w230 e231 ⟨r228, rfl, hr229⟩
          replace B := B.ext0 e231
          clear e231
          have hc232 := fopC hr229 hc169 hp
          refine s_y (v := .float .f64 r228) rfl (y_assign rfl) ?_
          refine s_nil ?_
          refine W_ret ?_
          refine ret1 (v := .float .f64 r228) rfl rfl rfl ⟨_, rfl, ?_⟩
          exact ⟨⟨_, rfl, cnT hc232 (sinT_2 c5 (folT_1 c157))⟩, B.ext⟩
    · refine s_y (v := .bool false) rfl (y_fgtr rfl rfl (fgtC hr4 (cnLit (k := .f64) (t := 4598175219545276416) (by kernel_rfl) (by kernel_rfl)) (Bool.eq_false_iff.2 c157))) ?_
      refine s_nil ?_
      refine W_if_f (by decide) rfl ?_
      refine W_skip ?_
      refine W_seq ?_
      refine W_region (by kernel_rfl) ?_
      refine s_y (v := .float .f64 r3) rfl (y_move rfl) ?_
      refine s_n rfl (n_arith (by decide) rfl rfl) ?_
      rintro _ w236 e237 ⟨r234, rfl, hr235⟩
      replace B := B.ext0 e237
      clear e237
      have hc238 := fopC hr235 hr4 (cnLit (k := .f64) (t := 4618760256179416344) (by kernel_rfl) (by kernel_rfl))
      refine s_y (v := .float .f64 r234) rfl (y_assign rfl) ?_
      refine s_nil ?_
      refine W_seq ?_
      refine W_region (by kernel_rfl) ?_
      refine s_y (v := .float .f64 r234) rfl (y_move rfl) ?_
      refine s_y (v := .float .f64 r234) rfl (y_move rfl) ?_
      refine s_n rfl (n_arith (by decide) rfl rfl) ?_
      rintro _ w242 e243 ⟨r240, rfl, hr241⟩
      replace B := B.ext0 e243
      clear e243
      have hc244 := fopC hr241 hc238 hc238
      refine s_y (v := .float .f64 r240) rfl (y_assign rfl) ?_
      refine s_nil ?_
      refine W_seq ?_
      refine W_region (by kernel_rfl) ?_
      refine s_y (v := .float .f64 4607182418800017408) rfl (y_assign rfl) ?_
      refine s_nil ?_
      refine W_seq ?_
      refine W_seq ?_
      refine W_region (by kernel_rfl) ?_
      refine s_y (v := .float .f64 4620693217682128896) rfl (y_assign rfl) ?_
      refine s_nil ?_
      refine W_block ?_
      refine W_loop (fun ρ' w' => ∃ (ρ1 : Env) (i : Nat) (rk : Nat) (rp : Nat), ρ' = updL ρ1 [(2, .float .f64 0), (4, .bool false), (5, .float .f64 r234), (6, .float .f64 r240), (7, .float .f64 rp), (8, .float .f64 rk)] ∧ Bu w no w' [] ∧ (i ≤ 8) ∧ (Cn .f64 rk (kT i)) ∧ (Cn .f64 rp (pT (fop .mul .f64 (fop .mul .f64 (frT X) 4618760256179416344) (fop .mul .f64 (frT X) 4618760256179416344)) i))) (fun ρ' _ => kmea (ρ' 8)) ?_ ?_
      · exact ⟨_, 0, 4620693217682128896, 4607182418800017408, Fits.eq ⟨rfl, rfl, rfl, rfl, rfl, rfl, trivial⟩, B, (by omega), (cnLit (k := .f64) (t := 4620693217682128896) (by kernel_rfl) (by kernel_rfl)), (cnLit (k := .f64) (t := 4607182418800017408) (by kernel_rfl) (by kernel_rfl))⟩
      · clear B; rintro _ w245 ⟨ρ246, i, rk, rp, rfl, B, hi8, hk, hp⟩
        refine W_seq ?_
        refine W_seq ?_
        refine W_region (by kernel_rfl) ?_
        refine s_y (v := .float .f64 rk) rfl (y_move rfl) ?_
        by_cases c247 : fge .f64 (kT i) 4607182418800017408 = true
        · refine s_y (v := .bool true) rfl (y_fgeq rfl rfl (fgeC hk (cnLit (k := .f64) (t := 4607182418800017408) (by kernel_rfl) (by kernel_rfl)) c247)) ?_
          refine s_nil ?_
          refine W_if_t (by decide) rfl ?_
          refine W_skip ?_
          refine W_seq ?_
          refine W_block ?_
          refine W_region (by kernel_rfl) ?_
          refine s_y (v := .float .f64 r240) rfl (y_move rfl) ?_
          refine s_y (v := .float .f64 rp) rfl (y_move rfl) ?_
          refine s_n rfl (n_arith (by decide) rfl rfl) ?_
          rintro _ w251 e252 ⟨r249, rfl, hr250⟩
          replace B := B.ext0 e252
          clear e252
          have hc253 := fopC hr250 hc244 hp
          refine s_y (v := .float .f64 rk) rfl (y_move rfl) ?_
          refine s_n rfl (n_arith (by decide) rfl rfl) ?_
          rintro _ w257 e258 ⟨r255, rfl, hr256⟩
          replace B := B.ext0 e258
          clear e258
          have hc259 := fopC hr256 (cnLit (k := .f64) (t := 4611686018427387904) (by kernel_rfl) (by kernel_rfl)) hk
          refine s_y (v := .float .f64 rk) rfl (y_move rfl) ?_
          refine s_n rfl (n_arith (by decide) rfl rfl) ?_
          rintro _ w263 e264 ⟨r261, rfl, hr262⟩
          replace B := B.ext0 e264
          clear e264
          have hc265 := fopC hr262 (cnLit (k := .f64) (t := 4611686018427387904) (by kernel_rfl) (by kernel_rfl)) hk
          refine s_n rfl (n_arith (by decide) rfl rfl) ?_
          rintro _ w269 e270 ⟨r267, rfl, hr268⟩
          replace B := B.ext0 e270
          clear e270
          have hc271 := fopC hr268 hc265 (cnLit (k := .f64) (t := 4607182418800017408) (by kernel_rfl) (by kernel_rfl))
          refine s_n rfl (n_arith (by decide) rfl rfl) ?_
          rintro _ w275 e276 ⟨r273, rfl, hr274⟩
          replace B := B.ext0 e276
          clear e276
          have hc277 := fopC hr274 hc259 hc271
          refine s_n rfl (n_arith (by decide) rfl rfl) ?_
          rintro _ w281 e282 ⟨r279, rfl, hr280⟩
          replace B := B.ext0 e282
          clear e282
          have hc283 := fopC hr280 hc253 hc277
          refine s_n rfl (n_arith (by decide) rfl rfl) ?_
          rintro _ w287 e288 ⟨r285, rfl, hr286⟩
          replace B := B.ext0 e288
          clear e288
          have hc289 := fopC hr286 (cnLit (k := .f64) (t := 4607182418800017408) (by kernel_rfl) (by kernel_rfl)) hc283
          refine s_y (v := .float .f64 r285) rfl (y_assign rfl) ?_
          refine s_nil ?_
          refine W_region (by kernel_rfl) ?_
          refine s_y (v := .float .f64 rk) rfl (y_move rfl) ?_
          refine s_n rfl (n_arith (by decide) rfl rfl) ?_
          rintro _ w293 e294 ⟨r291, rfl, hr292⟩
          replace B := B.ext0 e294
          clear e294
          have hc295 := fopC hr292 hk (cnLit (k := .f64) (t := 4607182418800017408) (by kernel_rfl) (by kernel_rfl))
          refine s_y (v := .float .f64 r291) rfl (y_assign rfl) ?_
          refine s_nil ?_
          have hlt := kT_lt hi8 c247
          refine ⟨⟨_, i + 1, r291, r285, Fits.eq ⟨rfl, rfl, rfl, rfl, rfl, rfl, trivial⟩, B, (by omega), hc295, hc289⟩, ?_⟩
          exact kidx_step hk hc295 hlt
        · refine s_y (v := .bool false) rfl (y_fgeq rfl rfl (fgeC hk (cnLit (k := .f64) (t := 4607182418800017408) (by kernel_rfl) (by kernel_rfl)) (Bool.eq_false_iff.2 c247))) ?_
          refine s_nil ?_
          refine W_if_f (by decide) rfl ?_
          refine W_exit ?_
          obtain rfl := kT_end hi8 c247
          refine W_seq ?_
          refine W_seq ?_
          refine W_region (by kernel_rfl) ?_
          refine s_y (v := .bool false) rfl (y_move rfl) ?_
          refine s_nil ?_
          refine W_if_f (by decide) rfl ?_
          refine W_skip ?_
          refine W_seq ?_
          refine W_region (by kernel_rfl) ?_
          refine s_y (v := .float .f64 r234) rfl (y_move rfl) ?_
          refine s_y (v := .float .f64 rp) rfl (y_move rfl) ?_
          refine s_n rfl (n_arith (by decide) rfl rfl) ?_
          rintro _ w299 e300 ⟨r297, rfl, hr298⟩
          replace B := B.ext0 e300
          clear e300
          have hc301 := fopC hr298 hc238 hp
          refine s_y (v := .float .f64 r297) rfl (y_assign rfl) ?_
          refine s_nil ?_
          refine W_ret ?_
          refine ret1 (v := .float .f64 r297) rfl rfl rfl ⟨_, rfl, ?_⟩
          exact ⟨⟨_, rfl, cnT hc301 (sinT_2 c5 (folT_2 c157))⟩, B.ext⟩
namespace T128
theorem mx : Try.prog.follows .mixedOrders = true := by kernel_rfl
theorem flt_34_f32 : Try.prog.underlying 34 = some (.float .f32) := by kernel_rfl
theorem flt_53_f64 : Try.prog.underlying 53 = some (.float .f64) := by kernel_rfl
theorem fn_147 : fnB Try.prog 147 = true := by kernel_rfl
theorem fn_148 : fnB Try.prog 148 = true := by kernel_rfl
theorem fn_85 : fnB Try.prog 85 = true := by kernel_rfl
theorem und_34 : (Try.prog.underlying 34).isSome = true := by kernel_rfl
theorem und_53 : (Try.prog.underlying 53).isSome = true := by kernel_rfl
end T128
set_option maxRecDepth 100000 in
set_option maxHeartbeats 4000000 in
theorem c_i_SineTurns {x : Nat} {X : Nat} {w : World} (hx : Cn .f32 x X) (hok : sinOK X = true) :
    Calls Try.prog 128 #[.float .f32 x] w (Rt fun v w' => (∃ r, v = .float .f32 r ∧ Cn .f32 r (SN X)) ∧ Ext0 w w') := by
  have B : Bu w no w [] := Bu.ro All.nil rfl
  refine calls_W (n := 16) Try.func128 rfl rfl (Nat.le_of_ble_eq_true rfl) ?_
  refine W_seq ?_
  refine W_region (by kernel_rfl) ?_
  refine s_y (v := .float .f32 0) rfl (y_assign rfl) ?_
  refine s_nil ?_
  refine W_seq ?_
  refine W_seq ?_
  refine W_region (by kernel_rfl) ?_
  refine s_y (v := .float .f32 x) rfl (y_move rfl) ?_
  refine s_k rfl (k_call T128.fn_85 (c_i_IsFinite hx) rfl ?_)
  rintro v3 w1 ⟨hv4, e2⟩
  replace B := B.ext0 e2
  clear e2
  have hk5 : finB X = true := (sinOK_all hok).1
  obtain rfl : v3 = .bool true := hv4.trans (congrArg Value.bool hk5)
  refine s_y (v := .bool false) rfl (y_not rfl rfl) ?_
  refine s_nil ?_
  refine W_if_f (by decide) rfl ?_
  refine W_skip ?_
  refine W_seq ?_
  refine W_seq ?_
  refine W_region (by kernel_rfl) ?_
  refine s_y (v := .float .f32 x) rfl (y_move rfl) ?_
  refine s_n rfl (n_wide T128.und_34 T128.flt_53_f64 rfl) ?_
  rintro _ w8 e9 ⟨r6, rfl, hr7⟩
  replace B := B.ext0 e9
  clear e9
  have hc10 := wideC hr7 hx
  refine s_k rfl (k_call T128.fn_147 (c_m_Abs hc10 ((sinOK_all hok).2.2.2.2)) rfl ?_)
  rintro _ w11 ⟨⟨r13, rfl, hr14⟩, e12⟩
  replace B := B.ext0 e12
  clear e12
  have hk15 : ¬ (fge .f64 (can .f64 (absT (widen X))) 4841369599423283200 = true) := (sinOK_all hok).2.1
  refine s_y (v := .bool false) rfl (y_fgeq rfl rfl (fgeC hr14 (cnLit (k := .f64) (t := 4841369599423283200) (by kernel_rfl) (by kernel_rfl)) (Bool.eq_false_iff.2 hk15))) ?_
  refine s_nil ?_
  refine W_if_f (by decide) rfl ?_
  refine W_skip ?_
  refine W_seq ?_
  refine W_region (by kernel_rfl) ?_
  refine s_y (v := .float .f32 x) rfl (y_move rfl) ?_
  refine s_n rfl (n_wide T128.und_34 T128.flt_53_f64 rfl) ?_
  rintro _ w18 e19 ⟨r16, rfl, hr17⟩
  replace B := B.ext0 e19
  clear e19
  have hc20 := wideC hr17 hx
  refine s_k rfl (k_call T128.fn_148 (c_i_sine hc20 ((sinOK_all hok).2.2.1)) rfl ?_)
  rintro _ w21 ⟨⟨r23, rfl, hr24⟩, e22⟩
  replace B := B.ext0 e22
  clear e22
  refine s_n rfl (n_narrow T128.und_53 T128.flt_34_f32 rfl hr24 (sinOK_all hok).2.2.2.1) ?_
  rintro _ w27 e28 ⟨r25, rfl, hr26⟩
  replace B := B.ext0 e28
  clear e28
  refine s_y (v := .float .f32 r25) rfl (y_assign rfl) ?_
  refine s_nil ?_
  refine W_ret ?_
  refine ret1 (v := .float .f32 r25) rfl rfl rfl ⟨_, rfl, ?_⟩
  exact ⟨⟨_, rfl, hr26⟩, B.ext⟩
namespace T127
theorem mx : Try.prog.follows .mixedOrders = true := by kernel_rfl
theorem fld_44_3_3 : fldB Try.prog 44 3 3 = true := by kernel_rfl
theorem fld_44_4_4 : fldB Try.prog 44 4 4 = true := by kernel_rfl
theorem flt_34_f32 : Try.prog.underlying 34 = some (.float .f32) := by kernel_rfl
theorem flt_53_f64 : Try.prog.underlying 53 = some (.float .f64) := by kernel_rfl
theorem fn_128 : fnB Try.prog 128 = true := by kernel_rfl
theorem one_34 : oneB Try.prog 34 = true := by kernel_rfl
theorem und_2 : (Try.prog.underlying 2).isSome = true := by kernel_rfl
theorem und_34 : (Try.prog.underlying 34).isSome = true := by kernel_rfl
theorem und_53 : (Try.prog.underlying 53).isSome = true := by kernel_rfl
end T127
set_option maxRecDepth 100000 in
set_option maxHeartbeats 4000000 in
theorem c_i_toneAt {kd : Int} {tt : Int} {ln : Int} {tn : Nat} {TN : Nat} {sz : Nat} {SZ : Nat} {sd : Int} {t : Int} {w : World} (htn : Cn .f32 tn TN) (hsz : Cn .f32 sz SZ) (h0 : 0 ≤ t) (h1 : t ≤ 2000000) (hok : tonOK TN t = true) :
    Calls Try.prog 127 #[.agg #[.int .i64 kd, .int .i64 tt, .int .i64 ln, .float .f32 tn, .float .f32 sz, .int .i64 sd], .int .i64 t] w (Rt fun v w' => (∃ r, v = .float .f32 r ∧ Cn .f32 r (tonT TN SZ t)) ∧ Ext0 w w') := by
  have B : Bu w no w [] := Bu.ro All.nil rfl
  refine calls_W (n := 16) Try.func127 rfl rfl (Nat.le_of_ble_eq_true rfl) ?_
  refine W_seq ?_
  refine W_region (by kernel_rfl) ?_
  refine s_k rfl (k_boxN (v := .agg #[.int .i64 kd, .int .i64 tt, .int .i64 ln, .float .f32 tn, .float .f32 sz, .int .i64 sd]) (cs := [.int .i64 kd, .int .i64 tt, .int .i64 ln, .float .f32 tn, .float .f32 sz, .int .i64 sd]) rfl rfl (fun b1 w2 hN3 => ?_))
  replace B := B.new1 hN3
  clear hN3
  refine s_y (v := .float .f32 0) rfl (y_assign rfl) ?_
  refine s_nil ?_
  refine W_seq ?_
  have B0_8 := B
  refine W_draw (no) T127.mx (by kernel_rfl) (fun w6 e7 => ?_)
  have R9 := Ext.refl (no) w2
  replace R9 := R9.trans (Ext0.any e7)
  replace B := B.ext0 e7
  clear e7
  refine m_y (v := .pointer (some ⟨b1, 4, none⟩)) 0 rfl (by kernel_rfl) rfl rfl (fun w' e' => y_fld (o := 0) T127.fld_44_4_4 rfl) ?_
  refine m_y (v := .float .f32 sz) 1 rfl (by kernel_rfl) rfl rfl (fun w' e' => y_load T127.one_34 rfl (((B0_8.b 0 rfl).ext0 e').cell (j := 4) rfl)) ?_
  refine m_y (v := .int .i64 t) 2 rfl (by kernel_rfl) rfl rfl (fun w' e' => y_move rfl) ?_
  refine m_y (v := .float .f64 (FloatKind.nearest .f64 t)) 3 rfl (by kernel_rfl) rfl rfl (fun w' e' => y_if T127.und_2 T127.flt_53_f64 rfl) ?_
  refine m_y (v := .pointer (some ⟨b1, 3, none⟩)) 4 rfl (by kernel_rfl) rfl rfl (fun w' e' => y_fld (o := 0) T127.fld_44_3_3 rfl) ?_
  refine m_y (v := .float .f32 tn) 5 rfl (by kernel_rfl) rfl rfl (fun w' e' => y_load T127.one_34 rfl (((B0_8.b 0 rfl).ext0 e').cell (j := 3) rfl)) ?_
  refine m_n 6 [7, 8, 9, 10, 11] rfl (by kernel_rfl) rfl rfl (fun w' e' => n_wide T127.und_34 T127.flt_53_f64 rfl) ?_
  rintro _ ⟨r10, rfl, hr11⟩
  have hc14 := wideC hr11 htn
  refine m_n 7 [8, 9, 10, 11] rfl (by kernel_rfl) rfl rfl (fun w' e' => n_arith (by decide) rfl rfl) ?_
  rintro _ ⟨r16, rfl, hr17⟩
  have hc20 := fopC hr17 (cn_nearest .f64 t) hc14
  refine m_n 8 [9, 10, 11] rfl (by kernel_rfl) rfl rfl (fun w' e' => n_narrow T127.und_53 T127.flt_34_f32 rfl hc20 (tonOK_all hok).1) ?_
  rintro _ ⟨r21, rfl, hr22⟩
  refine m_k 9 [10, 11] rfl (by kernel_rfl) rfl rfl (fun w25 e26 => ?_)
  replace R9 := R9.trans (Ext0.any e26)
  replace B := B.ext0 e26
  clear e26
  refine k_call T127.fn_128 (c_i_SineTurns hr22 ((tonOK_all hok).2)) rfl ?_
  rintro _ w27 ⟨⟨r29, rfl, hr30⟩, e28⟩
  replace R9 := R9.trans (Ext0.any e28)
  replace B := B.ext0 e28
  clear e28
  refine ⟨fun _ => R9, ?_⟩
  refine m_n 10 [11] rfl (by kernel_rfl) rfl rfl (fun w' e' => n_arith (by decide) rfl rfl) ?_
  rintro _ ⟨r32, rfl, hr33⟩
  have hc36 := fopC hr33 hsz hr30
  refine m_y (v := .float .f32 r32) 11 rfl (by kernel_rfl) rfl rfl (fun w' e' => y_assign rfl) ?_
  refine m_done (by kernel_rfl) (fun w37 e38 => ?_)
  replace B := B.ext0 e38
  clear e38
  clear B0_8 R9
  refine W_ret ?_
  refine ret1 (v := .float .f32 r32) rfl rfl rfl ⟨_, rfl, ?_⟩
  exact ⟨⟨_, rfl, hc36⟩, B.ext⟩
namespace T88
theorem mx : Try.prog.follows .mixedOrders = true := by kernel_rfl
end T88
set_option maxRecDepth 100000 in
set_option maxHeartbeats 4000000 in
theorem c_i_nextSeed {x : Int} {w : World} (h0 : 0 ≤ x) (h1 : x ≤ 2147483647) :
    Calls Try.prog 88 #[.int .i64 x] w (Rt fun v w' => v = .int .i64 (nextS x) ∧ Ext0 w w') := by
  have B : Bu w no w [] := Bu.ro All.nil rfl
  refine calls_W (n := 7) Try.func88 rfl rfl (Nat.le_of_ble_eq_true rfl) ?_
  refine W_seq ?_
  refine W_region (by kernel_rfl) ?_
  refine s_y (v := .int .i64 0) rfl (y_assign rfl) ?_
  refine s_nil ?_
  refine W_seq ?_
  refine W_region (by kernel_rfl) ?_
  refine s_y (v := .int .i64 x) rfl (y_move rfl) ?_
  refine s_y (v := .int .i64 (1103515245 * x)) rfl (y_mul rfl rfl rfl (by omega)) ?_
  refine s_y (v := .int .i64 ((1103515245 * x) + 12345)) rfl (y_add rfl rfl rfl (by omega)) ?_
  refine s_y (v := .int .i64 (((1103515245 * x) + 12345) % 2147483648)) rfl (y_rem rfl rfl (by omega) (by omega) rfl) ?_
  refine s_y (v := .int .i64 (((1103515245 * x) + 12345) % 2147483648)) rfl (y_assign rfl) ?_
  refine s_nil ?_
  refine W_ret ?_
  refine ret1 (v := .int .i64 (((1103515245 * x) + 12345) % 2147483648)) rfl rfl rfl ⟨_, rfl, ?_⟩
  exact ⟨rfl, B.ext⟩
namespace T83
theorem mx : Try.prog.follows .mixedOrders = true := by kernel_rfl
theorem agg_44_6 : aggB Try.prog 44 6 = true := by kernel_rfl
theorem fld_44_0_0 : fldB Try.prog 44 0 0 = true := by kernel_rfl
theorem fld_44_1_1 : fldB Try.prog 44 1 1 = true := by kernel_rfl
theorem fld_44_2_2 : fldB Try.prog 44 2 2 = true := by kernel_rfl
theorem fld_44_4_4 : fldB Try.prog 44 4 4 = true := by kernel_rfl
theorem fld_44_5_5 : fldB Try.prog 44 5 5 = true := by kernel_rfl
theorem flt_34_f32 : Try.prog.underlying 34 = some (.float .f32) := by kernel_rfl
theorem fn_127 : fnB Try.prog 127 = true := by kernel_rfl
theorem fn_128 : fnB Try.prog 128 = true := by kernel_rfl
theorem fn_88 : fnB Try.prog 88 = true := by kernel_rfl
theorem one_2 : oneB Try.prog 2 = true := by kernel_rfl
theorem one_34 : oneB Try.prog 34 = true := by kernel_rfl
theorem und_2 : (Try.prog.underlying 2).isSome = true := by kernel_rfl
end T83
set_option maxRecDepth 100000 in
set_option maxHeartbeats 4000000 in
theorem c_i_waveAt {kd : Int} {tt : Int} {ln : Int} {tn : Nat} {TN : Nat} {sz : Nat} {SZ : Nat} {sd : Int} {st : Int} {w : World} (htn : Cn .f32 tn TN) (hsz : Cn .f32 sz SZ) (hst0 : 0 ≤ st) (hst1 : st ≤ 1000100) (hk0 : 0 ≤ kd) (hk1 : kd ≤ 4) (ht0 : 0 ≤ tt) (ht1 : tt ≤ 1000000) (hl0 : 1 ≤ ln) (hl1 : ln ≤ 1000000) (hs0 : 0 ≤ sd) (hs1 : sd ≤ 2147483647) (hok : wavOK kd tt ln TN st) :
    Calls Try.prog 83 #[.agg #[.int .i64 kd, .int .i64 tt, .int .i64 ln, .float .f32 tn, .float .f32 sz, .int .i64 sd], .int .i64 st] w (Rt fun v w' => (∃ r, v = .float .f32 r ∧ Cn .f32 r (wavT kd tt ln TN SZ sd st)) ∧ Ext0 w w') := by
  have B : Bu w no w [] := Bu.ro All.nil rfl
  refine calls_W (n := 92) Try.func83 rfl rfl (Nat.le_of_ble_eq_true rfl) ?_
  refine W_seq ?_
  refine W_region (by kernel_rfl) ?_
  refine s_k rfl (k_boxN (v := .agg #[.int .i64 kd, .int .i64 tt, .int .i64 ln, .float .f32 tn, .float .f32 sz, .int .i64 sd]) (cs := [.int .i64 kd, .int .i64 tt, .int .i64 ln, .float .f32 tn, .float .f32 sz, .int .i64 sd]) rfl rfl (fun b1 w2 hN3 => ?_))
  replace B := B.new1 hN3
  clear hN3
  refine s_y (v := .float .f32 0) rfl (y_assign rfl) ?_
  refine s_nil ?_
  refine W_seq ?_
  refine W_region (by kernel_rfl) ?_
  refine s_y (v := .int .i64 st) rfl (y_move rfl) ?_
  refine s_y (v := .pointer (some ⟨b1, 1, none⟩)) rfl (y_fld (o := 0) T83.fld_44_1_1 rfl) ?_
  refine s_y (v := .int .i64 tt) rfl (y_load T83.one_2 rfl ((B.b 0 rfl).cell (j := 1) rfl)) ?_
  refine s_y (v := .int .i64 (st - tt)) rfl (y_sub rfl rfl rfl (by omega)) ?_
  refine s_y (v := .int .i64 (st - tt)) rfl (y_assign rfl) ?_
  refine s_nil ?_
  refine W_seq ?_
  refine W_seq ?_
  refine W_region (by kernel_rfl) ?_
  refine s_y (v := .int .i64 (st - tt)) rfl (y_move rfl) ?_
  by_cases c4 : (st - tt) < 0
  · refine s_y (v := .bool true) rfl (y_lss rfl rfl (decide_eq_true c4)) ?_
    refine s_y (v := .bool true) rfl (y_move rfl) ?_
    refine s_skip rfl ?_
    refine s_skip rfl ?_
    refine s_skip rfl ?_
    refine s_skip rfl ?_
    refine s_skip rfl ?_
    refine s_skip rfl ?_
    refine s_skip rfl ?_
    refine s_skip rfl ?_
    refine s_skip rfl ?_
    refine s_skip rfl ?_
    refine s_skip rfl ?_
    refine s_skip rfl ?_
    refine s_skip rfl ?_
    refine s_skip rfl ?_
    refine s_y (v := .bool true) rfl (y_pick_t rfl rfl) ?_
    refine s_nil ?_
    refine W_if_t (by decide) rfl ?_
    refine W_seq ?_
    refine W_region (by kernel_rfl) ?_
    refine s_y (v := .float .f32 0) rfl (y_assign rfl) ?_
    refine s_nil ?_
    refine W_ret ?_
    refine ret1 (v := .float .f32 0) rfl rfl rfl ⟨_, rfl, ?_⟩
    exact ⟨⟨_, rfl, cnT (cnLit (k := .f32) (t := 0) (by kernel_rfl) (by kernel_rfl)) (by first | (exfalso; omega) | (unfold wavT burT burA noiT; rw [if_pos (by omega)]) | (unfold wavT burT burA noiT; rw [if_neg (by omega), if_pos (by omega)]) | (unfold wavT burT burA noiT; rw [if_neg (by omega), if_neg (by omega), if_pos (by omega)]) | (unfold wavT burT burA noiT; rw [if_neg (by omega), if_neg (by omega), if_neg (by omega), if_pos (by omega)]) | (unfold wavT burT burA noiT; rw [if_neg (by omega), if_neg (by omega), if_neg (by omega), if_neg (by omega), if_pos (by omega), if_pos (by omega)]) | (unfold wavT burT burA noiT; rw [if_neg (by omega), if_neg (by omega), if_neg (by omega), if_neg (by omega), if_pos (by omega), if_neg (by omega)]) | (unfold wavT burT burA noiT; rw [if_neg (by omega), if_neg (by omega), if_neg (by omega), if_neg (by omega), if_neg (by omega)]))⟩, B.ext⟩
  · refine s_y (v := .bool false) rfl (y_lss rfl rfl (decide_eq_false c4)) ?_
    refine s_y (v := .bool false) rfl (y_move rfl) ?_
    refine s_y (v := .int .i64 (st - tt)) rfl (y_move rfl) ?_
    refine s_y (v := .pointer (some ⟨b1, 2, none⟩)) rfl (y_fld (o := 0) T83.fld_44_2_2 rfl) ?_
    refine s_y (v := .int .i64 ln) rfl (y_load T83.one_2 rfl ((B.b 0 rfl).cell (j := 2) rfl)) ?_
    by_cases c5 : ln ≤ (st - tt)
    · refine s_y (v := .bool true) rfl (y_geq rfl rfl (decide_eq_true c5)) ?_
      refine s_y (v := .bool true) rfl (y_move rfl) ?_
      refine s_y (v := .pointer (some ⟨b1, 0, none⟩)) rfl (y_fld (o := 0) T83.fld_44_0_0 rfl) ?_
      refine s_y (v := .int .i64 kd) rfl (y_load T83.one_2 rfl ((B.b 0 rfl).cell (j := 0) rfl)) ?_
      by_cases c6 : kd ≠ 1
      · refine s_y (v := .bool true) rfl (y_neq rfl rfl (decide_eq_true c6)) ?_
        refine s_y (v := .bool true) rfl (y_pick_t rfl rfl) ?_
        refine s_y (v := .bool true) rfl (y_move rfl) ?_
        refine s_y (v := .pointer (some ⟨b1, 0, none⟩)) rfl (y_fld (o := 0) T83.fld_44_0_0 rfl) ?_
        refine s_y (v := .int .i64 kd) rfl (y_load T83.one_2 rfl ((B.b 0 rfl).cell (j := 0) rfl)) ?_
        by_cases c7 : kd ≠ 3
        · refine s_y (v := .bool true) rfl (y_neq rfl rfl (decide_eq_true c7)) ?_
          refine s_y (v := .bool true) rfl (y_pick_t rfl rfl) ?_
          refine s_y (v := .bool true) rfl (y_pick_f rfl rfl) ?_
          refine s_nil ?_
          refine W_if_t (by decide) rfl ?_
          refine W_seq ?_
          refine W_region (by kernel_rfl) ?_
          refine s_y (v := .float .f32 0) rfl (y_assign rfl) ?_
          refine s_nil ?_
          refine W_ret ?_
          refine ret1 (v := .float .f32 0) rfl rfl rfl ⟨_, rfl, ?_⟩
          exact ⟨⟨_, rfl, cnT (cnLit (k := .f32) (t := 0) (by kernel_rfl) (by kernel_rfl)) (by first | (exfalso; omega) | (unfold wavT burT burA noiT; rw [if_pos (by omega)]) | (unfold wavT burT burA noiT; rw [if_neg (by omega), if_pos (by omega)]) | (unfold wavT burT burA noiT; rw [if_neg (by omega), if_neg (by omega), if_pos (by omega)]) | (unfold wavT burT burA noiT; rw [if_neg (by omega), if_neg (by omega), if_neg (by omega), if_pos (by omega)]) | (unfold wavT burT burA noiT; rw [if_neg (by omega), if_neg (by omega), if_neg (by omega), if_neg (by omega), if_pos (by omega), if_pos (by omega)]) | (unfold wavT burT burA noiT; rw [if_neg (by omega), if_neg (by omega), if_neg (by omega), if_neg (by omega), if_pos (by omega), if_neg (by omega)]) | (unfold wavT burT burA noiT; rw [if_neg (by omega), if_neg (by omega), if_neg (by omega), if_neg (by omega), if_neg (by omega)]))⟩, B.ext⟩
        · refine s_y (v := .bool false) rfl (y_neq rfl rfl (decide_eq_false c7)) ?_
          refine s_y (v := .bool false) rfl (y_pick_t rfl rfl) ?_
          refine s_y (v := .bool false) rfl (y_pick_f rfl rfl) ?_
          refine s_nil ?_
          refine W_if_f (by decide) rfl ?_
          refine W_skip ?_
          refine W_seq ?_
          refine W_seq ?_
          refine W_region (by kernel_rfl) ?_
          refine s_y (v := .pointer (some ⟨b1, 0, none⟩)) rfl (y_fld (o := 0) T83.fld_44_0_0 rfl) ?_
          refine s_y (v := .int .i64 kd) rfl (y_load T83.one_2 rfl ((B.b 0 rfl).cell (j := 0) rfl)) ?_
          refine s_nil ?_
          refine W_block ?_
          refine W_seq ?_
          refine W_region (by kernel_rfl) ?_
          by_cases c8 : kd = 0
          · refine s_y (v := .bool true) rfl (y_eql rfl rfl (decide_eq_true c8)) ?_
            refine s_y (v := .bool true) rfl (y_assign rfl) ?_
            refine s_nil ?_
            refine W_if_t (by decide) rfl ?_
            refine W_seq ?_
            refine W_region (by kernel_rfl) ?_
            refine s_y (v := .pointer (some ⟨b1, 4, none⟩)) rfl (y_fld (o := 0) T83.fld_44_4_4 rfl) ?_
            refine s_y (v := .float .f32 sz) rfl (y_load T83.one_34 rfl ((B.b 0 rfl).cell (j := 4) rfl)) ?_
            refine s_y (v := .float .f32 sz) rfl (y_assign rfl) ?_
            refine s_nil ?_
            refine W_ret ?_
            refine ret1 (v := .float .f32 sz) rfl rfl rfl ⟨_, rfl, ?_⟩
            exact ⟨⟨_, rfl, cnT hsz (by first | (exfalso; omega) | (unfold wavT burT burA noiT; rw [if_pos (by omega)]) | (unfold wavT burT burA noiT; rw [if_neg (by omega), if_pos (by omega)]) | (unfold wavT burT burA noiT; rw [if_neg (by omega), if_neg (by omega), if_pos (by omega)]) | (unfold wavT burT burA noiT; rw [if_neg (by omega), if_neg (by omega), if_neg (by omega), if_pos (by omega)]) | (unfold wavT burT burA noiT; rw [if_neg (by omega), if_neg (by omega), if_neg (by omega), if_neg (by omega), if_pos (by omega), if_pos (by omega)]) | (unfold wavT burT burA noiT; rw [if_neg (by omega), if_neg (by omega), if_neg (by omega), if_neg (by omega), if_pos (by omega), if_neg (by omega)]) | (unfold wavT burT burA noiT; rw [if_neg (by omega), if_neg (by omega), if_neg (by omega), if_neg (by omega), if_neg (by omega)]))⟩, B.ext⟩
          · refine s_y (v := .bool false) rfl (y_eql rfl rfl (decide_eq_false c8)) ?_
            refine s_y (v := .bool false) rfl (y_assign rfl) ?_
            refine s_nil ?_
            refine W_if_f (by decide) rfl ?_
            refine W_seq ?_
            refine W_region (by kernel_rfl) ?_
            by_cases c9 : kd = 1
            · refine s_y (v := .bool true) rfl (y_eql rfl rfl (decide_eq_true c9)) ?_
              refine s_y (v := .bool true) rfl (y_assign rfl) ?_
              refine s_nil ?_
              refine W_if_t (by decide) rfl ?_
              refine W_seq ?_
              refine W_region (by kernel_rfl) ?_
              refine s_y (v := .agg #[.int .i64 kd, .int .i64 tt, .int .i64 ln, .float .f32 tn, .float .f32 sz, .int .i64 sd]) rfl (y_loadn (b := b1) (o := 0) (vs := [.int .i64 kd, .int .i64 tt, .int .i64 ln, .float .f32 tn, .float .f32 sz, .int .i64 sd]) T83.agg_44_6 rfl rfl ((B.b 0 rfl).cells (o := 0) rfl)) ?_
              refine s_y (v := .int .i64 (st - tt)) rfl (y_move rfl) ?_
              refine s_k rfl (k_call T83.fn_127 (c_i_toneAt htn hsz (by omega) (by omega) ((hok (by omega)).1 (by omega))) rfl ?_)
              rintro _ w10 ⟨⟨r12, rfl, hr13⟩, e11⟩
              replace B := B.ext0 e11
              clear e11
              refine s_y (v := .float .f32 r12) rfl (y_assign rfl) ?_
              refine s_nil ?_
              refine W_ret ?_
              refine ret1 (v := .float .f32 r12) rfl rfl rfl ⟨_, rfl, ?_⟩
              exact ⟨⟨_, rfl, cnT hr13 (by first | (exfalso; omega) | (unfold wavT burT burA noiT; rw [if_pos (by omega)]) | (unfold wavT burT burA noiT; rw [if_neg (by omega), if_pos (by omega)]) | (unfold wavT burT burA noiT; rw [if_neg (by omega), if_neg (by omega), if_pos (by omega)]) | (unfold wavT burT burA noiT; rw [if_neg (by omega), if_neg (by omega), if_neg (by omega), if_pos (by omega)]) | (unfold wavT burT burA noiT; rw [if_neg (by omega), if_neg (by omega), if_neg (by omega), if_neg (by omega), if_pos (by omega), if_pos (by omega)]) | (unfold wavT burT burA noiT; rw [if_neg (by omega), if_neg (by omega), if_neg (by omega), if_neg (by omega), if_pos (by omega), if_neg (by omega)]) | (unfold wavT burT burA noiT; rw [if_neg (by omega), if_neg (by omega), if_neg (by omega), if_neg (by omega), if_neg (by omega)]))⟩, B.ext⟩
            · refine s_y (v := .bool false) rfl (y_eql rfl rfl (decide_eq_false c9)) ?_
              refine s_y (v := .bool false) rfl (y_assign rfl) ?_
              refine s_nil ?_
              refine W_if_f (by decide) rfl ?_
              refine W_seq ?_
              refine W_region (by kernel_rfl) ?_
              by_cases c14 : kd = 2
              · refine s_y (v := .bool true) rfl (y_eql rfl rfl (decide_eq_true c14)) ?_
                refine s_y (v := .bool true) rfl (y_assign rfl) ?_
                refine s_nil ?_
                refine W_if_t (by decide) rfl ?_
                refine W_seq ?_
                refine W_region (by kernel_rfl) ?_
                refine s_y (v := .int .i64 (st - tt)) rfl (y_move rfl) ?_
                refine s_y (v := .float .f32 (FloatKind.nearest .f32 (st - tt))) rfl (y_if T83.und_2 T83.flt_34_f32 rfl) ?_
                refine s_y (v := .pointer (some ⟨b1, 2, none⟩)) rfl (y_fld (o := 0) T83.fld_44_2_2 rfl) ?_
                refine s_y (v := .int .i64 ln) rfl (y_load T83.one_2 rfl ((B.b 0 rfl).cell (j := 2) rfl)) ?_
                refine s_y (v := .float .f32 (FloatKind.nearest .f32 ln)) rfl (y_if T83.und_2 T83.flt_34_f32 rfl) ?_
                refine s_n rfl (n_arith (by decide) rfl rfl) ?_
                rintro _ w18 e19 ⟨r16, rfl, hr17⟩
                replace B := B.ext0 e19
                clear e19
                have hc20 := fopC hr17 (cn_nearest .f32 (st - tt)) (cn_nearest .f32 ln)
                refine s_n rfl (n_arith (by decide) rfl rfl) ?_
                rintro _ w24 e25 ⟨r22, rfl, hr23⟩
                replace B := B.ext0 e25
                clear e25
                have hc26 := fopC hr23 (cnLit (k := .f32) (t := 1048576000) (by kernel_rfl) (by kernel_rfl)) hc20
                refine s_k rfl (k_call T83.fn_128 (c_i_SineTurns hc26 (((hok (by omega)).2 (by omega) (by omega)).2)) rfl ?_)
                rintro _ w27 ⟨⟨r29, rfl, hr30⟩, e28⟩
                replace B := B.ext0 e28
                clear e28
                refine s_n rfl (n_arith (by decide) rfl rfl) ?_
                rintro _ w34 e35 ⟨r32, rfl, hr33⟩
                replace B := B.ext0 e35
                clear e35
                have hc36 := fopC hr33 hr30 (cnLit (k := .f32) (t := 1073741824) (by kernel_rfl) (by kernel_rfl))
                refine s_y (v := .float .f32 r32) rfl (y_assign rfl) ?_
                refine s_nil ?_
                refine W_seq ?_
                refine W_region (by kernel_rfl) ?_
                refine s_y (v := .agg #[.int .i64 kd, .int .i64 tt, .int .i64 ln, .float .f32 tn, .float .f32 sz, .int .i64 sd]) rfl (y_loadn (b := b1) (o := 0) (vs := [.int .i64 kd, .int .i64 tt, .int .i64 ln, .float .f32 tn, .float .f32 sz, .int .i64 sd]) T83.agg_44_6 rfl rfl ((B.b 0 rfl).cells (o := 0) rfl)) ?_
                refine s_y (v := .int .i64 (st - tt)) rfl (y_move rfl) ?_
                refine s_k rfl (k_call T83.fn_127 (c_i_toneAt htn hsz (by omega) (by omega) (((hok (by omega)).2 (by omega) (by omega)).1)) rfl ?_)
                rintro _ w37 ⟨⟨r39, rfl, hr40⟩, e38⟩
                replace B := B.ext0 e38
                clear e38
                refine s_y (v := .float .f32 r32) rfl (y_move rfl) ?_
                refine s_n rfl (n_arith (by decide) rfl rfl) ?_
                rintro _ w44 e45 ⟨r42, rfl, hr43⟩
                replace B := B.ext0 e45
                clear e45
                have hc46 := fopC hr43 (cnLit (k := .f32) (t := 1056964608) (by kernel_rfl) (by kernel_rfl)) hc36
                refine s_n rfl (n_arith (by decide) rfl rfl) ?_
                rintro _ w50 e51 ⟨r48, rfl, hr49⟩
                replace B := B.ext0 e51
                clear e51
                have hc52 := fopC hr49 hr40 hc46
                refine s_y (v := .float .f32 r48) rfl (y_assign rfl) ?_
                refine s_nil ?_
                refine W_ret ?_
                refine ret1 (v := .float .f32 r48) rfl rfl rfl ⟨_, rfl, ?_⟩
                exact ⟨⟨_, rfl, cnT hc52 (by first | (exfalso; omega) | (unfold wavT burT burA noiT; rw [if_pos (by omega)]) | (unfold wavT burT burA noiT; rw [if_neg (by omega), if_pos (by omega)]) | (unfold wavT burT burA noiT; rw [if_neg (by omega), if_neg (by omega), if_pos (by omega)]) | (unfold wavT burT burA noiT; rw [if_neg (by omega), if_neg (by omega), if_neg (by omega), if_pos (by omega)]) | (unfold wavT burT burA noiT; rw [if_neg (by omega), if_neg (by omega), if_neg (by omega), if_neg (by omega), if_pos (by omega), if_pos (by omega)]) | (unfold wavT burT burA noiT; rw [if_neg (by omega), if_neg (by omega), if_neg (by omega), if_neg (by omega), if_pos (by omega), if_neg (by omega)]) | (unfold wavT burT burA noiT; rw [if_neg (by omega), if_neg (by omega), if_neg (by omega), if_neg (by omega), if_neg (by omega)]))⟩, B.ext⟩
              · refine s_y (v := .bool false) rfl (y_eql rfl rfl (decide_eq_false c14)) ?_
                refine s_y (v := .bool false) rfl (y_assign rfl) ?_
                refine s_nil ?_
                refine W_if_f (by decide) rfl ?_
                refine W_seq ?_
                refine W_region (by kernel_rfl) ?_
                by_cases c53 : kd = 3
                · refine s_y (v := .bool true) rfl (y_eql rfl rfl (decide_eq_true c53)) ?_
                  refine s_y (v := .bool true) rfl (y_assign rfl) ?_
                  refine s_nil ?_
                  refine W_if_t (by decide) rfl ?_
                  refine W_seq ?_
                  refine W_seq ?_
                  refine W_region (by kernel_rfl) ?_
                  refine s_y (v := .int .i64 (st - tt)) rfl (y_move rfl) ?_
                  refine s_y (v := .pointer (some ⟨b1, 2, none⟩)) rfl (y_fld (o := 0) T83.fld_44_2_2 rfl) ?_
                  refine s_y (v := .int .i64 ln) rfl (y_load T83.one_2 rfl ((B.b 0 rfl).cell (j := 2) rfl)) ?_
                  refine s_y (v := .bool true) rfl (y_geq rfl rfl (decide_eq_true c5)) ?_
                  refine s_nil ?_
                  refine W_if_t (by decide) rfl ?_
                  refine W_seq ?_
                  refine W_region (by kernel_rfl) ?_
                  refine s_y (v := .pointer (some ⟨b1, 4, none⟩)) rfl (y_fld (o := 0) T83.fld_44_4_4 rfl) ?_
                  refine s_y (v := .float .f32 sz) rfl (y_load T83.one_34 rfl ((B.b 0 rfl).cell (j := 4) rfl)) ?_
                  refine s_y (v := .float .f32 sz) rfl (y_assign rfl) ?_
                  refine s_nil ?_
                  refine W_ret ?_
                  refine ret1 (v := .float .f32 sz) rfl rfl rfl ⟨_, rfl, ?_⟩
                  exact ⟨⟨_, rfl, cnT hsz (by first | (exfalso; omega) | (unfold wavT burT burA noiT; rw [if_pos (by omega)]) | (unfold wavT burT burA noiT; rw [if_neg (by omega), if_pos (by omega)]) | (unfold wavT burT burA noiT; rw [if_neg (by omega), if_neg (by omega), if_pos (by omega)]) | (unfold wavT burT burA noiT; rw [if_neg (by omega), if_neg (by omega), if_neg (by omega), if_pos (by omega)]) | (unfold wavT burT burA noiT; rw [if_neg (by omega), if_neg (by omega), if_neg (by omega), if_neg (by omega), if_pos (by omega), if_pos (by omega)]) | (unfold wavT burT burA noiT; rw [if_neg (by omega), if_neg (by omega), if_neg (by omega), if_neg (by omega), if_pos (by omega), if_neg (by omega)]) | (unfold wavT burT burA noiT; rw [if_neg (by omega), if_neg (by omega), if_neg (by omega), if_neg (by omega), if_neg (by omega)]))⟩, B.ext⟩
                · refine s_y (v := .bool false) rfl (y_eql rfl rfl (decide_eq_false c53)) ?_
                  refine s_y (v := .bool false) rfl (y_assign rfl) ?_
                  refine s_nil ?_
                  refine W_if_f (by decide) rfl ?_
                  refine W_skip ?_
                  refine W_seq ?_
                  refine W_region (by kernel_rfl) ?_
                  refine s_y (v := .pointer (some ⟨b1, 5, none⟩)) rfl (y_fld (o := 0) T83.fld_44_5_5 rfl) ?_
                  refine s_y (v := .int .i64 sd) rfl (y_load T83.one_2 rfl ((B.b 0 rfl).cell (j := 5) rfl)) ?_
                  refine s_y (v := .int .i64 st) rfl (y_move rfl) ?_
                  refine s_y (v := .int .i64 (40503 * st)) rfl (y_mul rfl rfl rfl (by omega)) ?_
                  refine s_y (v := .int .i64 (sd + (40503 * st))) rfl (y_add rfl rfl rfl (by omega)) ?_
                  refine s_y (v := .int .i64 ((sd + (40503 * st)) % 2147483648)) rfl (y_rem rfl rfl (by omega) (by omega) rfl) ?_
                  refine s_k rfl (k_call T83.fn_88 (c_i_nextSeed (by omega) (by omega)) rfl ?_)
                  rintro _ w54 ⟨rfl, e55⟩
                  replace B := B.ext0 e55
                  clear e55
                  have hns56 := nextS_b ((sd + (40503 * st)) % 2147483648)
                  refine s_k rfl (k_call T83.fn_88 (c_i_nextSeed (by omega) (by omega)) rfl ?_)
                  rintro _ w57 ⟨rfl, e58⟩
                  replace B := B.ext0 e58
                  clear e58
                  have hns59 := nextS_b (nextS ((sd + (40503 * st)) % 2147483648))
                  refine s_y (v := .int .i64 ((nextS (nextS ((sd + (40503 * st)) % 2147483648))) / 65536)) rfl (y_quo rfl rfl (by omega) (by omega) (by omega) rfl) ?_
                  refine s_y (v := .int .i64 ((nextS (nextS ((sd + (40503 * st)) % 2147483648))) / 65536)) rfl (y_assign rfl) ?_
                  refine s_nil ?_
                  refine W_seq ?_
                  refine W_region (by kernel_rfl) ?_
                  refine s_y (v := .pointer (some ⟨b1, 4, none⟩)) rfl (y_fld (o := 0) T83.fld_44_4_4 rfl) ?_
                  refine s_y (v := .float .f32 sz) rfl (y_load T83.one_34 rfl ((B.b 0 rfl).cell (j := 4) rfl)) ?_
                  refine s_y (v := .int .i64 ((nextS (nextS ((sd + (40503 * st)) % 2147483648))) / 65536)) rfl (y_move rfl) ?_
                  refine s_y (v := .float .f32 (FloatKind.nearest .f32 ((nextS (nextS ((sd + (40503 * st)) % 2147483648))) / 65536))) rfl (y_if T83.und_2 T83.flt_34_f32 rfl) ?_
                  refine s_n rfl (n_arith (by decide) rfl rfl) ?_
                  rintro _ w63 e64 ⟨r61, rfl, hr62⟩
                  replace B := B.ext0 e64
                  clear e64
                  have hc65 := fopC hr62 (cn_nearest .f32 ((nextS (nextS ((sd + (40503 * st)) % 2147483648))) / 65536)) (cnLit (k := .f32) (t := 1182793728) (by kernel_rfl) (by kernel_rfl))
                  refine s_n rfl (n_arith (by decide) rfl rfl) ?_
                  rintro _ w69 e70 ⟨r67, rfl, hr68⟩
                  replace B := B.ext0 e70
                  clear e70
                  have hc71 := fopC hr68 hc65 (cnLit (k := .f32) (t := 1182793728) (by kernel_rfl) (by kernel_rfl))
                  refine s_n rfl (n_arith (by decide) rfl rfl) ?_
                  rintro _ w75 e76 ⟨r73, rfl, hr74⟩
                  replace B := B.ext0 e76
                  clear e76
                  have hc77 := fopC hr74 hsz hc71
                  refine s_y (v := .float .f32 r73) rfl (y_assign rfl) ?_
                  refine s_nil ?_
                  refine W_ret ?_
                  refine ret1 (v := .float .f32 r73) rfl rfl rfl ⟨_, rfl, ?_⟩
                  exact ⟨⟨_, rfl, cnT hc77 (by first | (exfalso; omega) | (unfold wavT burT burA noiT; rw [if_pos (by omega)]) | (unfold wavT burT burA noiT; rw [if_neg (by omega), if_pos (by omega)]) | (unfold wavT burT burA noiT; rw [if_neg (by omega), if_neg (by omega), if_pos (by omega)]) | (unfold wavT burT burA noiT; rw [if_neg (by omega), if_neg (by omega), if_neg (by omega), if_pos (by omega)]) | (unfold wavT burT burA noiT; rw [if_neg (by omega), if_neg (by omega), if_neg (by omega), if_neg (by omega), if_pos (by omega), if_pos (by omega)]) | (unfold wavT burT burA noiT; rw [if_neg (by omega), if_neg (by omega), if_neg (by omega), if_neg (by omega), if_pos (by omega), if_neg (by omega)]) | (unfold wavT burT burA noiT; rw [if_neg (by omega), if_neg (by omega), if_neg (by omega), if_neg (by omega), if_neg (by omega)]))⟩, B.ext⟩
      · refine s_y (v := .bool false) rfl (y_neq rfl rfl (decide_eq_false c6)) ?_
        refine s_y (v := .bool false) rfl (y_pick_t rfl rfl) ?_
        refine s_y (v := .bool false) rfl (y_move rfl) ?_
        refine s_skip rfl ?_
        refine s_skip rfl ?_
        refine s_skip rfl ?_
        refine s_y (v := .bool false) rfl (y_pick_f rfl rfl) ?_
        refine s_y (v := .bool false) rfl (y_pick_f rfl rfl) ?_
        refine s_nil ?_
        refine W_if_f (by decide) rfl ?_
        refine W_skip ?_
        refine W_seq ?_
        refine W_seq ?_
        refine W_region (by kernel_rfl) ?_
        refine s_y (v := .pointer (some ⟨b1, 0, none⟩)) rfl (y_fld (o := 0) T83.fld_44_0_0 rfl) ?_
        refine s_y (v := .int .i64 kd) rfl (y_load T83.one_2 rfl ((B.b 0 rfl).cell (j := 0) rfl)) ?_
        refine s_nil ?_
        refine W_block ?_
        refine W_seq ?_
        refine W_region (by kernel_rfl) ?_
        by_cases c78 : kd = 0
        · refine s_y (v := .bool true) rfl (y_eql rfl rfl (decide_eq_true c78)) ?_
          refine s_y (v := .bool true) rfl (y_assign rfl) ?_
          refine s_nil ?_
          refine W_if_t (by decide) rfl ?_
          refine W_seq ?_
          refine W_region (by kernel_rfl) ?_
          refine s_y (v := .pointer (some ⟨b1, 4, none⟩)) rfl (y_fld (o := 0) T83.fld_44_4_4 rfl) ?_
          refine s_y (v := .float .f32 sz) rfl (y_load T83.one_34 rfl ((B.b 0 rfl).cell (j := 4) rfl)) ?_
          refine s_y (v := .float .f32 sz) rfl (y_assign rfl) ?_
          refine s_nil ?_
          refine W_ret ?_
          refine ret1 (v := .float .f32 sz) rfl rfl rfl ⟨_, rfl, ?_⟩
          exact ⟨⟨_, rfl, cnT hsz (by first | (exfalso; omega) | (unfold wavT burT burA noiT; rw [if_pos (by omega)]) | (unfold wavT burT burA noiT; rw [if_neg (by omega), if_pos (by omega)]) | (unfold wavT burT burA noiT; rw [if_neg (by omega), if_neg (by omega), if_pos (by omega)]) | (unfold wavT burT burA noiT; rw [if_neg (by omega), if_neg (by omega), if_neg (by omega), if_pos (by omega)]) | (unfold wavT burT burA noiT; rw [if_neg (by omega), if_neg (by omega), if_neg (by omega), if_neg (by omega), if_pos (by omega), if_pos (by omega)]) | (unfold wavT burT burA noiT; rw [if_neg (by omega), if_neg (by omega), if_neg (by omega), if_neg (by omega), if_pos (by omega), if_neg (by omega)]) | (unfold wavT burT burA noiT; rw [if_neg (by omega), if_neg (by omega), if_neg (by omega), if_neg (by omega), if_neg (by omega)]))⟩, B.ext⟩
        · refine s_y (v := .bool false) rfl (y_eql rfl rfl (decide_eq_false c78)) ?_
          refine s_y (v := .bool false) rfl (y_assign rfl) ?_
          refine s_nil ?_
          refine W_if_f (by decide) rfl ?_
          refine W_seq ?_
          refine W_region (by kernel_rfl) ?_
          by_cases c79 : kd = 1
          · refine s_y (v := .bool true) rfl (y_eql rfl rfl (decide_eq_true c79)) ?_
            refine s_y (v := .bool true) rfl (y_assign rfl) ?_
            refine s_nil ?_
            refine W_if_t (by decide) rfl ?_
            refine W_seq ?_
            refine W_region (by kernel_rfl) ?_
            refine s_y (v := .agg #[.int .i64 kd, .int .i64 tt, .int .i64 ln, .float .f32 tn, .float .f32 sz, .int .i64 sd]) rfl (y_loadn (b := b1) (o := 0) (vs := [.int .i64 kd, .int .i64 tt, .int .i64 ln, .float .f32 tn, .float .f32 sz, .int .i64 sd]) T83.agg_44_6 rfl rfl ((B.b 0 rfl).cells (o := 0) rfl)) ?_
            refine s_y (v := .int .i64 (st - tt)) rfl (y_move rfl) ?_
            refine s_k rfl (k_call T83.fn_127 (c_i_toneAt htn hsz (by omega) (by omega) ((hok (by omega)).1 (by omega))) rfl ?_)
            rintro _ w80 ⟨⟨r82, rfl, hr83⟩, e81⟩
            replace B := B.ext0 e81
            clear e81
            refine s_y (v := .float .f32 r82) rfl (y_assign rfl) ?_
            refine s_nil ?_
            refine W_ret ?_
            refine ret1 (v := .float .f32 r82) rfl rfl rfl ⟨_, rfl, ?_⟩
            exact ⟨⟨_, rfl, cnT hr83 (by first | (exfalso; omega) | (unfold wavT burT burA noiT; rw [if_pos (by omega)]) | (unfold wavT burT burA noiT; rw [if_neg (by omega), if_pos (by omega)]) | (unfold wavT burT burA noiT; rw [if_neg (by omega), if_neg (by omega), if_pos (by omega)]) | (unfold wavT burT burA noiT; rw [if_neg (by omega), if_neg (by omega), if_neg (by omega), if_pos (by omega)]) | (unfold wavT burT burA noiT; rw [if_neg (by omega), if_neg (by omega), if_neg (by omega), if_neg (by omega), if_pos (by omega), if_pos (by omega)]) | (unfold wavT burT burA noiT; rw [if_neg (by omega), if_neg (by omega), if_neg (by omega), if_neg (by omega), if_pos (by omega), if_neg (by omega)]) | (unfold wavT burT burA noiT; rw [if_neg (by omega), if_neg (by omega), if_neg (by omega), if_neg (by omega), if_neg (by omega)]))⟩, B.ext⟩
          · refine s_y (v := .bool false) rfl (y_eql rfl rfl (decide_eq_false c79)) ?_
            refine s_y (v := .bool false) rfl (y_assign rfl) ?_
            refine s_nil ?_
            refine W_if_f (by decide) rfl ?_
            refine W_seq ?_
            refine W_region (by kernel_rfl) ?_
            by_cases c84 : kd = 2
            · refine s_y (v := .bool true) rfl (y_eql rfl rfl (decide_eq_true c84)) ?_
              refine s_y (v := .bool true) rfl (y_assign rfl) ?_
              refine s_nil ?_
              refine W_if_t (by decide) rfl ?_
              refine W_seq ?_
              refine W_region (by kernel_rfl) ?_
              refine s_y (v := .int .i64 (st - tt)) rfl (y_move rfl) ?_
              refine s_y (v := .float .f32 (FloatKind.nearest .f32 (st - tt))) rfl (y_if T83.und_2 T83.flt_34_f32 rfl) ?_
              refine s_y (v := .pointer (some ⟨b1, 2, none⟩)) rfl (y_fld (o := 0) T83.fld_44_2_2 rfl) ?_
              refine s_y (v := .int .i64 ln) rfl (y_load T83.one_2 rfl ((B.b 0 rfl).cell (j := 2) rfl)) ?_
              refine s_y (v := .float .f32 (FloatKind.nearest .f32 ln)) rfl (y_if T83.und_2 T83.flt_34_f32 rfl) ?_
              refine s_n rfl (n_arith (by decide) rfl rfl) ?_
              rintro _ w88 e89 ⟨r86, rfl, hr87⟩
              replace B := B.ext0 e89
              clear e89
              have hc90 := fopC hr87 (cn_nearest .f32 (st - tt)) (cn_nearest .f32 ln)
              refine s_n rfl (n_arith (by decide) rfl rfl) ?_
              rintro _ w94 e95 ⟨r92, rfl, hr93⟩
              replace B := B.ext0 e95
              clear e95
              have hc96 := fopC hr93 (cnLit (k := .f32) (t := 1048576000) (by kernel_rfl) (by kernel_rfl)) hc90
              refine s_k rfl (k_call T83.fn_128 (c_i_SineTurns hc96 (((hok (by omega)).2 (by omega) (by omega)).2)) rfl ?_)
              rintro _ w97 ⟨⟨r99, rfl, hr100⟩, e98⟩
              replace B := B.ext0 e98
              clear e98
              refine s_n rfl (n_arith (by decide) rfl rfl) ?_
              rintro _ w104 e105 ⟨r102, rfl, hr103⟩
              replace B := B.ext0 e105
              clear e105
              have hc106 := fopC hr103 hr100 (cnLit (k := .f32) (t := 1073741824) (by kernel_rfl) (by kernel_rfl))
              refine s_y (v := .float .f32 r102) rfl (y_assign rfl) ?_
              refine s_nil ?_
              refine W_seq ?_
              refine W_region (by kernel_rfl) ?_
              refine s_y (v := .agg #[.int .i64 kd, .int .i64 tt, .int .i64 ln, .float .f32 tn, .float .f32 sz, .int .i64 sd]) rfl (y_loadn (b := b1) (o := 0) (vs := [.int .i64 kd, .int .i64 tt, .int .i64 ln, .float .f32 tn, .float .f32 sz, .int .i64 sd]) T83.agg_44_6 rfl rfl ((B.b 0 rfl).cells (o := 0) rfl)) ?_
              refine s_y (v := .int .i64 (st - tt)) rfl (y_move rfl) ?_
              refine s_k rfl (k_call T83.fn_127 (c_i_toneAt htn hsz (by omega) (by omega) (((hok (by omega)).2 (by omega) (by omega)).1)) rfl ?_)
              rintro _ w107 ⟨⟨r109, rfl, hr110⟩, e108⟩
              replace B := B.ext0 e108
              clear e108
              refine s_y (v := .float .f32 r102) rfl (y_move rfl) ?_
              refine s_n rfl (n_arith (by decide) rfl rfl) ?_
              rintro _ w114 e115 ⟨r112, rfl, hr113⟩
              replace B := B.ext0 e115
              clear e115
              have hc116 := fopC hr113 (cnLit (k := .f32) (t := 1056964608) (by kernel_rfl) (by kernel_rfl)) hc106
              refine s_n rfl (n_arith (by decide) rfl rfl) ?_
              rintro _ w120 e121 ⟨r118, rfl, hr119⟩
              replace B := B.ext0 e121
              clear e121
              have hc122 := fopC hr119 hr110 hc116
              refine s_y (v := .float .f32 r118) rfl (y_assign rfl) ?_
              refine s_nil ?_
              refine W_ret ?_
              refine ret1 (v := .float .f32 r118) rfl rfl rfl ⟨_, rfl, ?_⟩
              exact ⟨⟨_, rfl, cnT hc122 (by first | (exfalso; omega) | (unfold wavT burT burA noiT; rw [if_pos (by omega)]) | (unfold wavT burT burA noiT; rw [if_neg (by omega), if_pos (by omega)]) | (unfold wavT burT burA noiT; rw [if_neg (by omega), if_neg (by omega), if_pos (by omega)]) | (unfold wavT burT burA noiT; rw [if_neg (by omega), if_neg (by omega), if_neg (by omega), if_pos (by omega)]) | (unfold wavT burT burA noiT; rw [if_neg (by omega), if_neg (by omega), if_neg (by omega), if_neg (by omega), if_pos (by omega), if_pos (by omega)]) | (unfold wavT burT burA noiT; rw [if_neg (by omega), if_neg (by omega), if_neg (by omega), if_neg (by omega), if_pos (by omega), if_neg (by omega)]) | (unfold wavT burT burA noiT; rw [if_neg (by omega), if_neg (by omega), if_neg (by omega), if_neg (by omega), if_neg (by omega)]))⟩, B.ext⟩
            · refine s_y (v := .bool false) rfl (y_eql rfl rfl (decide_eq_false c84)) ?_
              refine s_y (v := .bool false) rfl (y_assign rfl) ?_
              refine s_nil ?_
              refine W_if_f (by decide) rfl ?_
              refine W_seq ?_
              refine W_region (by kernel_rfl) ?_
              by_cases c123 : kd = 3
              · refine s_y (v := .bool true) rfl (y_eql rfl rfl (decide_eq_true c123)) ?_
                refine s_y (v := .bool true) rfl (y_assign rfl) ?_
                refine s_nil ?_
                refine W_if_t (by decide) rfl ?_
                refine W_seq ?_
                refine W_seq ?_
                refine W_region (by kernel_rfl) ?_
                refine s_y (v := .int .i64 (st - tt)) rfl (y_move rfl) ?_
                refine s_y (v := .pointer (some ⟨b1, 2, none⟩)) rfl (y_fld (o := 0) T83.fld_44_2_2 rfl) ?_
                refine s_y (v := .int .i64 ln) rfl (y_load T83.one_2 rfl ((B.b 0 rfl).cell (j := 2) rfl)) ?_
                refine s_y (v := .bool true) rfl (y_geq rfl rfl (decide_eq_true c5)) ?_
                refine s_nil ?_
                refine W_if_t (by decide) rfl ?_
                refine W_seq ?_
                refine W_region (by kernel_rfl) ?_
                refine s_y (v := .pointer (some ⟨b1, 4, none⟩)) rfl (y_fld (o := 0) T83.fld_44_4_4 rfl) ?_
                refine s_y (v := .float .f32 sz) rfl (y_load T83.one_34 rfl ((B.b 0 rfl).cell (j := 4) rfl)) ?_
                refine s_y (v := .float .f32 sz) rfl (y_assign rfl) ?_
                refine s_nil ?_
                refine W_ret ?_
                refine ret1 (v := .float .f32 sz) rfl rfl rfl ⟨_, rfl, ?_⟩
                exact ⟨⟨_, rfl, cnT hsz (by first | (exfalso; omega) | (unfold wavT burT burA noiT; rw [if_pos (by omega)]) | (unfold wavT burT burA noiT; rw [if_neg (by omega), if_pos (by omega)]) | (unfold wavT burT burA noiT; rw [if_neg (by omega), if_neg (by omega), if_pos (by omega)]) | (unfold wavT burT burA noiT; rw [if_neg (by omega), if_neg (by omega), if_neg (by omega), if_pos (by omega)]) | (unfold wavT burT burA noiT; rw [if_neg (by omega), if_neg (by omega), if_neg (by omega), if_neg (by omega), if_pos (by omega), if_pos (by omega)]) | (unfold wavT burT burA noiT; rw [if_neg (by omega), if_neg (by omega), if_neg (by omega), if_neg (by omega), if_pos (by omega), if_neg (by omega)]) | (unfold wavT burT burA noiT; rw [if_neg (by omega), if_neg (by omega), if_neg (by omega), if_neg (by omega), if_neg (by omega)]))⟩, B.ext⟩
              · refine s_y (v := .bool false) rfl (y_eql rfl rfl (decide_eq_false c123)) ?_
                refine s_y (v := .bool false) rfl (y_assign rfl) ?_
                refine s_nil ?_
                refine W_if_f (by decide) rfl ?_
                refine W_skip ?_
                refine W_seq ?_
                refine W_region (by kernel_rfl) ?_
                refine s_y (v := .pointer (some ⟨b1, 5, none⟩)) rfl (y_fld (o := 0) T83.fld_44_5_5 rfl) ?_
                refine s_y (v := .int .i64 sd) rfl (y_load T83.one_2 rfl ((B.b 0 rfl).cell (j := 5) rfl)) ?_
                refine s_y (v := .int .i64 st) rfl (y_move rfl) ?_
                refine s_y (v := .int .i64 (40503 * st)) rfl (y_mul rfl rfl rfl (by omega)) ?_
                refine s_y (v := .int .i64 (sd + (40503 * st))) rfl (y_add rfl rfl rfl (by omega)) ?_
                refine s_y (v := .int .i64 ((sd + (40503 * st)) % 2147483648)) rfl (y_rem rfl rfl (by omega) (by omega) rfl) ?_
                refine s_k rfl (k_call T83.fn_88 (c_i_nextSeed (by omega) (by omega)) rfl ?_)
                rintro _ w124 ⟨rfl, e125⟩
                replace B := B.ext0 e125
                clear e125
                have hns126 := nextS_b ((sd + (40503 * st)) % 2147483648)
                refine s_k rfl (k_call T83.fn_88 (c_i_nextSeed (by omega) (by omega)) rfl ?_)
                rintro _ w127 ⟨rfl, e128⟩
                replace B := B.ext0 e128
                clear e128
                have hns129 := nextS_b (nextS ((sd + (40503 * st)) % 2147483648))
                refine s_y (v := .int .i64 ((nextS (nextS ((sd + (40503 * st)) % 2147483648))) / 65536)) rfl (y_quo rfl rfl (by omega) (by omega) (by omega) rfl) ?_
                refine s_y (v := .int .i64 ((nextS (nextS ((sd + (40503 * st)) % 2147483648))) / 65536)) rfl (y_assign rfl) ?_
                refine s_nil ?_
                refine W_seq ?_
                refine W_region (by kernel_rfl) ?_
                refine s_y (v := .pointer (some ⟨b1, 4, none⟩)) rfl (y_fld (o := 0) T83.fld_44_4_4 rfl) ?_
                refine s_y (v := .float .f32 sz) rfl (y_load T83.one_34 rfl ((B.b 0 rfl).cell (j := 4) rfl)) ?_
                refine s_y (v := .int .i64 ((nextS (nextS ((sd + (40503 * st)) % 2147483648))) / 65536)) rfl (y_move rfl) ?_
                refine s_y (v := .float .f32 (FloatKind.nearest .f32 ((nextS (nextS ((sd + (40503 * st)) % 2147483648))) / 65536))) rfl (y_if T83.und_2 T83.flt_34_f32 rfl) ?_
                refine s_n rfl (n_arith (by decide) rfl rfl) ?_
                rintro _ w133 e134 ⟨r131, rfl, hr132⟩
                replace B := B.ext0 e134
                clear e134
                have hc135 := fopC hr132 (cn_nearest .f32 ((nextS (nextS ((sd + (40503 * st)) % 2147483648))) / 65536)) (cnLit (k := .f32) (t := 1182793728) (by kernel_rfl) (by kernel_rfl))
                refine s_n rfl (n_arith (by decide) rfl rfl) ?_
                rintro _ w139 e140 ⟨r137, rfl, hr138⟩
                replace B := B.ext0 e140
                clear e140
                have hc141 := fopC hr138 hc135 (cnLit (k := .f32) (t := 1182793728) (by kernel_rfl) (by kernel_rfl))
                refine s_n rfl (n_arith (by decide) rfl rfl) ?_
                rintro _ w145 e146 ⟨r143, rfl, hr144⟩
                replace B := B.ext0 e146
                clear e146
                have hc147 := fopC hr144 hsz hc141
                refine s_y (v := .float .f32 r143) rfl (y_assign rfl) ?_
                refine s_nil ?_
                refine W_ret ?_
                refine ret1 (v := .float .f32 r143) rfl rfl rfl ⟨_, rfl, ?_⟩
                exact ⟨⟨_, rfl, cnT hc147 (by first | (exfalso; omega) | (unfold wavT burT burA noiT; rw [if_pos (by omega)]) | (unfold wavT burT burA noiT; rw [if_neg (by omega), if_pos (by omega)]) | (unfold wavT burT burA noiT; rw [if_neg (by omega), if_neg (by omega), if_pos (by omega)]) | (unfold wavT burT burA noiT; rw [if_neg (by omega), if_neg (by omega), if_neg (by omega), if_pos (by omega)]) | (unfold wavT burT burA noiT; rw [if_neg (by omega), if_neg (by omega), if_neg (by omega), if_neg (by omega), if_pos (by omega), if_pos (by omega)]) | (unfold wavT burT burA noiT; rw [if_neg (by omega), if_neg (by omega), if_neg (by omega), if_neg (by omega), if_pos (by omega), if_neg (by omega)]) | (unfold wavT burT burA noiT; rw [if_neg (by omega), if_neg (by omega), if_neg (by omega), if_neg (by omega), if_neg (by omega)]))⟩, B.ext⟩
    · refine s_y (v := .bool false) rfl (y_geq rfl rfl (decide_eq_false c5)) ?_
      refine s_y (v := .bool false) rfl (y_move rfl) ?_
      refine s_skip rfl ?_
      refine s_skip rfl ?_
      refine s_skip rfl ?_
      refine s_y (v := .bool false) rfl (y_pick_f rfl rfl) ?_
      refine s_y (v := .bool false) rfl (y_move rfl) ?_
      refine s_skip rfl ?_
      refine s_skip rfl ?_
      refine s_skip rfl ?_
      refine s_y (v := .bool false) rfl (y_pick_f rfl rfl) ?_
      refine s_y (v := .bool false) rfl (y_pick_f rfl rfl) ?_
      refine s_nil ?_
      refine W_if_f (by decide) rfl ?_
      refine W_skip ?_
      refine W_seq ?_
      refine W_seq ?_
      refine W_region (by kernel_rfl) ?_
      refine s_y (v := .pointer (some ⟨b1, 0, none⟩)) rfl (y_fld (o := 0) T83.fld_44_0_0 rfl) ?_
      refine s_y (v := .int .i64 kd) rfl (y_load T83.one_2 rfl ((B.b 0 rfl).cell (j := 0) rfl)) ?_
      refine s_nil ?_
      refine W_block ?_
      refine W_seq ?_
      refine W_region (by kernel_rfl) ?_
      by_cases c148 : kd = 0
      · refine s_y (v := .bool true) rfl (y_eql rfl rfl (decide_eq_true c148)) ?_
        refine s_y (v := .bool true) rfl (y_assign rfl) ?_
        refine s_nil ?_
        refine W_if_t (by decide) rfl ?_
        refine W_seq ?_
        refine W_region (by kernel_rfl) ?_
        refine s_y (v := .pointer (some ⟨b1, 4, none⟩)) rfl (y_fld (o := 0) T83.fld_44_4_4 rfl) ?_
        refine s_y (v := .float .f32 sz) rfl (y_load T83.one_34 rfl ((B.b 0 rfl).cell (j := 4) rfl)) ?_
        refine s_y (v := .float .f32 sz) rfl (y_assign rfl) ?_
        refine s_nil ?_
        refine W_ret ?_
        refine ret1 (v := .float .f32 sz) rfl rfl rfl ⟨_, rfl, ?_⟩
        exact ⟨⟨_, rfl, cnT hsz (by first | (exfalso; omega) | (unfold wavT burT burA noiT; rw [if_pos (by omega)]) | (unfold wavT burT burA noiT; rw [if_neg (by omega), if_pos (by omega)]) | (unfold wavT burT burA noiT; rw [if_neg (by omega), if_neg (by omega), if_pos (by omega)]) | (unfold wavT burT burA noiT; rw [if_neg (by omega), if_neg (by omega), if_neg (by omega), if_pos (by omega)]) | (unfold wavT burT burA noiT; rw [if_neg (by omega), if_neg (by omega), if_neg (by omega), if_neg (by omega), if_pos (by omega), if_pos (by omega)]) | (unfold wavT burT burA noiT; rw [if_neg (by omega), if_neg (by omega), if_neg (by omega), if_neg (by omega), if_pos (by omega), if_neg (by omega)]) | (unfold wavT burT burA noiT; rw [if_neg (by omega), if_neg (by omega), if_neg (by omega), if_neg (by omega), if_neg (by omega)]))⟩, B.ext⟩
      · refine s_y (v := .bool false) rfl (y_eql rfl rfl (decide_eq_false c148)) ?_
        refine s_y (v := .bool false) rfl (y_assign rfl) ?_
        refine s_nil ?_
        refine W_if_f (by decide) rfl ?_
        refine W_seq ?_
        refine W_region (by kernel_rfl) ?_
        by_cases c149 : kd = 1
        · refine s_y (v := .bool true) rfl (y_eql rfl rfl (decide_eq_true c149)) ?_
          refine s_y (v := .bool true) rfl (y_assign rfl) ?_
          refine s_nil ?_
          refine W_if_t (by decide) rfl ?_
          refine W_seq ?_
          refine W_region (by kernel_rfl) ?_
          refine s_y (v := .agg #[.int .i64 kd, .int .i64 tt, .int .i64 ln, .float .f32 tn, .float .f32 sz, .int .i64 sd]) rfl (y_loadn (b := b1) (o := 0) (vs := [.int .i64 kd, .int .i64 tt, .int .i64 ln, .float .f32 tn, .float .f32 sz, .int .i64 sd]) T83.agg_44_6 rfl rfl ((B.b 0 rfl).cells (o := 0) rfl)) ?_
          refine s_y (v := .int .i64 (st - tt)) rfl (y_move rfl) ?_
          refine s_k rfl (k_call T83.fn_127 (c_i_toneAt htn hsz (by omega) (by omega) ((hok (by omega)).1 (by omega))) rfl ?_)
          rintro _ w150 ⟨⟨r152, rfl, hr153⟩, e151⟩
          replace B := B.ext0 e151
          clear e151
          refine s_y (v := .float .f32 r152) rfl (y_assign rfl) ?_
          refine s_nil ?_
          refine W_ret ?_
          refine ret1 (v := .float .f32 r152) rfl rfl rfl ⟨_, rfl, ?_⟩
          exact ⟨⟨_, rfl, cnT hr153 (by first | (exfalso; omega) | (unfold wavT burT burA noiT; rw [if_pos (by omega)]) | (unfold wavT burT burA noiT; rw [if_neg (by omega), if_pos (by omega)]) | (unfold wavT burT burA noiT; rw [if_neg (by omega), if_neg (by omega), if_pos (by omega)]) | (unfold wavT burT burA noiT; rw [if_neg (by omega), if_neg (by omega), if_neg (by omega), if_pos (by omega)]) | (unfold wavT burT burA noiT; rw [if_neg (by omega), if_neg (by omega), if_neg (by omega), if_neg (by omega), if_pos (by omega), if_pos (by omega)]) | (unfold wavT burT burA noiT; rw [if_neg (by omega), if_neg (by omega), if_neg (by omega), if_neg (by omega), if_pos (by omega), if_neg (by omega)]) | (unfold wavT burT burA noiT; rw [if_neg (by omega), if_neg (by omega), if_neg (by omega), if_neg (by omega), if_neg (by omega)]))⟩, B.ext⟩
        · refine s_y (v := .bool false) rfl (y_eql rfl rfl (decide_eq_false c149)) ?_
          refine s_y (v := .bool false) rfl (y_assign rfl) ?_
          refine s_nil ?_
          refine W_if_f (by decide) rfl ?_
          refine W_seq ?_
          refine W_region (by kernel_rfl) ?_
          by_cases c154 : kd = 2
          · refine s_y (v := .bool true) rfl (y_eql rfl rfl (decide_eq_true c154)) ?_
            refine s_y (v := .bool true) rfl (y_assign rfl) ?_
            refine s_nil ?_
            refine W_if_t (by decide) rfl ?_
            refine W_seq ?_
            refine W_region (by kernel_rfl) ?_
            refine s_y (v := .int .i64 (st - tt)) rfl (y_move rfl) ?_
            refine s_y (v := .float .f32 (FloatKind.nearest .f32 (st - tt))) rfl (y_if T83.und_2 T83.flt_34_f32 rfl) ?_
            refine s_y (v := .pointer (some ⟨b1, 2, none⟩)) rfl (y_fld (o := 0) T83.fld_44_2_2 rfl) ?_
            refine s_y (v := .int .i64 ln) rfl (y_load T83.one_2 rfl ((B.b 0 rfl).cell (j := 2) rfl)) ?_
            refine s_y (v := .float .f32 (FloatKind.nearest .f32 ln)) rfl (y_if T83.und_2 T83.flt_34_f32 rfl) ?_
            refine s_n rfl (n_arith (by decide) rfl rfl) ?_
            rintro _ w158 e159 ⟨r156, rfl, hr157⟩
            replace B := B.ext0 e159
            clear e159
            have hc160 := fopC hr157 (cn_nearest .f32 (st - tt)) (cn_nearest .f32 ln)
            refine s_n rfl (n_arith (by decide) rfl rfl) ?_
            rintro _ w164 e165 ⟨r162, rfl, hr163⟩
            replace B := B.ext0 e165
            clear e165
            have hc166 := fopC hr163 (cnLit (k := .f32) (t := 1048576000) (by kernel_rfl) (by kernel_rfl)) hc160
            refine s_k rfl (k_call T83.fn_128 (c_i_SineTurns hc166 (((hok (by omega)).2 (by omega) (by omega)).2)) rfl ?_)
            rintro _ w167 ⟨⟨r169, rfl, hr170⟩, e168⟩
            replace B := B.ext0 e168
            clear e168
            refine s_n rfl (n_arith (by decide) rfl rfl) ?_
            rintro _ w174 e175 ⟨r172, rfl, hr173⟩
            replace B := B.ext0 e175
            clear e175
            have hc176 := fopC hr173 hr170 (cnLit (k := .f32) (t := 1073741824) (by kernel_rfl) (by kernel_rfl))
            refine s_y (v := .float .f32 r172) rfl (y_assign rfl) ?_
            refine s_nil ?_
            refine W_seq ?_
            refine W_region (by kernel_rfl) ?_
            refine s_y (v := .agg #[.int .i64 kd, .int .i64 tt, .int .i64 ln, .float .f32 tn, .float .f32 sz, .int .i64 sd]) rfl (y_loadn (b := b1) (o := 0) (vs := [.int .i64 kd, .int .i64 tt, .int .i64 ln, .float .f32 tn, .float .f32 sz, .int .i64 sd]) T83.agg_44_6 rfl rfl ((B.b 0 rfl).cells (o := 0) rfl)) ?_
            refine s_y (v := .int .i64 (st - tt)) rfl (y_move rfl) ?_
            refine s_k rfl (k_call T83.fn_127 (c_i_toneAt htn hsz (by omega) (by omega) (((hok (by omega)).2 (by omega) (by omega)).1)) rfl ?_)
            rintro _ w177 ⟨⟨r179, rfl, hr180⟩, e178⟩
            replace B := B.ext0 e178
            clear e178
            refine s_y (v := .float .f32 r172) rfl (y_move rfl) ?_
            refine s_n rfl (n_arith (by decide) rfl rfl) ?_
            rintro _ w184 e185 ⟨r182, rfl, hr183⟩
            replace B := B.ext0 e185
            clear e185
            have hc186 := fopC hr183 (cnLit (k := .f32) (t := 1056964608) (by kernel_rfl) (by kernel_rfl)) hc176
            refine s_n rfl (n_arith (by decide) rfl rfl) ?_
            rintro _ w190 e191 ⟨r188, rfl, hr189⟩
            replace B := B.ext0 e191
            clear e191
            have hc192 := fopC hr189 hr180 hc186
            refine s_y (v := .float .f32 r188) rfl (y_assign rfl) ?_
            refine s_nil ?_
            refine W_ret ?_
            refine ret1 (v := .float .f32 r188) rfl rfl rfl ⟨_, rfl, ?_⟩
            exact ⟨⟨_, rfl, cnT hc192 (by first | (exfalso; omega) | (unfold wavT burT burA noiT; rw [if_pos (by omega)]) | (unfold wavT burT burA noiT; rw [if_neg (by omega), if_pos (by omega)]) | (unfold wavT burT burA noiT; rw [if_neg (by omega), if_neg (by omega), if_pos (by omega)]) | (unfold wavT burT burA noiT; rw [if_neg (by omega), if_neg (by omega), if_neg (by omega), if_pos (by omega)]) | (unfold wavT burT burA noiT; rw [if_neg (by omega), if_neg (by omega), if_neg (by omega), if_neg (by omega), if_pos (by omega), if_pos (by omega)]) | (unfold wavT burT burA noiT; rw [if_neg (by omega), if_neg (by omega), if_neg (by omega), if_neg (by omega), if_pos (by omega), if_neg (by omega)]) | (unfold wavT burT burA noiT; rw [if_neg (by omega), if_neg (by omega), if_neg (by omega), if_neg (by omega), if_neg (by omega)]))⟩, B.ext⟩
          · refine s_y (v := .bool false) rfl (y_eql rfl rfl (decide_eq_false c154)) ?_
            refine s_y (v := .bool false) rfl (y_assign rfl) ?_
            refine s_nil ?_
            refine W_if_f (by decide) rfl ?_
            refine W_seq ?_
            refine W_region (by kernel_rfl) ?_
            by_cases c193 : kd = 3
            · refine s_y (v := .bool true) rfl (y_eql rfl rfl (decide_eq_true c193)) ?_
              refine s_y (v := .bool true) rfl (y_assign rfl) ?_
              refine s_nil ?_
              refine W_if_t (by decide) rfl ?_
              refine W_seq ?_
              refine W_seq ?_
              refine W_region (by kernel_rfl) ?_
              refine s_y (v := .int .i64 (st - tt)) rfl (y_move rfl) ?_
              refine s_y (v := .pointer (some ⟨b1, 2, none⟩)) rfl (y_fld (o := 0) T83.fld_44_2_2 rfl) ?_
              refine s_y (v := .int .i64 ln) rfl (y_load T83.one_2 rfl ((B.b 0 rfl).cell (j := 2) rfl)) ?_
              refine s_y (v := .bool false) rfl (y_geq rfl rfl (decide_eq_false c5)) ?_
              refine s_nil ?_
              refine W_if_f (by decide) rfl ?_
              refine W_skip ?_
              refine W_seq ?_
              refine W_region (by kernel_rfl) ?_
              refine s_y (v := .pointer (some ⟨b1, 4, none⟩)) rfl (y_fld (o := 0) T83.fld_44_4_4 rfl) ?_
              refine s_y (v := .float .f32 sz) rfl (y_load T83.one_34 rfl ((B.b 0 rfl).cell (j := 4) rfl)) ?_
              refine s_y (v := .int .i64 (st - tt)) rfl (y_move rfl) ?_
              refine s_y (v := .int .i64 ((st - tt) + 1)) rfl (y_add rfl rfl rfl (by omega)) ?_
              refine s_y (v := .float .f32 (FloatKind.nearest .f32 ((st - tt) + 1))) rfl (y_if T83.und_2 T83.flt_34_f32 rfl) ?_
              refine s_y (v := .pointer (some ⟨b1, 2, none⟩)) rfl (y_fld (o := 0) T83.fld_44_2_2 rfl) ?_
              refine s_y (v := .int .i64 ln) rfl (y_load T83.one_2 rfl ((B.b 0 rfl).cell (j := 2) rfl)) ?_
              refine s_y (v := .float .f32 (FloatKind.nearest .f32 ln)) rfl (y_if T83.und_2 T83.flt_34_f32 rfl) ?_
              refine s_n rfl (n_arith (by decide) rfl rfl) ?_
              rintro _ w197 e198 ⟨r195, rfl, hr196⟩
              replace B := B.ext0 e198
              clear e198
              have hc199 := fopC hr196 (cn_nearest .f32 ((st - tt) + 1)) (cn_nearest .f32 ln)
              refine s_n rfl (n_arith (by decide) rfl rfl) ?_
              rintro _ w203 e204 ⟨r201, rfl, hr202⟩
              replace B := B.ext0 e204
              clear e204
              have hc205 := fopC hr202 hsz hc199
              refine s_y (v := .float .f32 r201) rfl (y_assign rfl) ?_
              refine s_nil ?_
              refine W_ret ?_
              refine ret1 (v := .float .f32 r201) rfl rfl rfl ⟨_, rfl, ?_⟩
              exact ⟨⟨_, rfl, cnT hc205 (by first | (exfalso; omega) | (unfold wavT burT burA noiT; rw [if_pos (by omega)]) | (unfold wavT burT burA noiT; rw [if_neg (by omega), if_pos (by omega)]) | (unfold wavT burT burA noiT; rw [if_neg (by omega), if_neg (by omega), if_pos (by omega)]) | (unfold wavT burT burA noiT; rw [if_neg (by omega), if_neg (by omega), if_neg (by omega), if_pos (by omega)]) | (unfold wavT burT burA noiT; rw [if_neg (by omega), if_neg (by omega), if_neg (by omega), if_neg (by omega), if_pos (by omega), if_pos (by omega)]) | (unfold wavT burT burA noiT; rw [if_neg (by omega), if_neg (by omega), if_neg (by omega), if_neg (by omega), if_pos (by omega), if_neg (by omega)]) | (unfold wavT burT burA noiT; rw [if_neg (by omega), if_neg (by omega), if_neg (by omega), if_neg (by omega), if_neg (by omega)]))⟩, B.ext⟩
            · refine s_y (v := .bool false) rfl (y_eql rfl rfl (decide_eq_false c193)) ?_
              refine s_y (v := .bool false) rfl (y_assign rfl) ?_
              refine s_nil ?_
              refine W_if_f (by decide) rfl ?_
              refine W_skip ?_
              refine W_seq ?_
              refine W_region (by kernel_rfl) ?_
              refine s_y (v := .pointer (some ⟨b1, 5, none⟩)) rfl (y_fld (o := 0) T83.fld_44_5_5 rfl) ?_
              refine s_y (v := .int .i64 sd) rfl (y_load T83.one_2 rfl ((B.b 0 rfl).cell (j := 5) rfl)) ?_
              refine s_y (v := .int .i64 st) rfl (y_move rfl) ?_
              refine s_y (v := .int .i64 (40503 * st)) rfl (y_mul rfl rfl rfl (by omega)) ?_
              refine s_y (v := .int .i64 (sd + (40503 * st))) rfl (y_add rfl rfl rfl (by omega)) ?_
              refine s_y (v := .int .i64 ((sd + (40503 * st)) % 2147483648)) rfl (y_rem rfl rfl (by omega) (by omega) rfl) ?_
              refine s_k rfl (k_call T83.fn_88 (c_i_nextSeed (by omega) (by omega)) rfl ?_)
              rintro _ w206 ⟨rfl, e207⟩
              replace B := B.ext0 e207
              clear e207
              have hns208 := nextS_b ((sd + (40503 * st)) % 2147483648)
              refine s_k rfl (k_call T83.fn_88 (c_i_nextSeed (by omega) (by omega)) rfl ?_)
              rintro _ w209 ⟨rfl, e210⟩
              replace B := B.ext0 e210
              clear e210
              have hns211 := nextS_b (nextS ((sd + (40503 * st)) % 2147483648))
              refine s_y (v := .int .i64 ((nextS (nextS ((sd + (40503 * st)) % 2147483648))) / 65536)) rfl (y_quo rfl rfl (by omega) (by omega) (by omega) rfl) ?_
              refine s_y (v := .int .i64 ((nextS (nextS ((sd + (40503 * st)) % 2147483648))) / 65536)) rfl (y_assign rfl) ?_
              refine s_nil ?_
              refine W_seq ?_
              refine W_region (by kernel_rfl) ?_
              refine s_y (v := .pointer (some ⟨b1, 4, none⟩)) rfl (y_fld (o := 0) T83.fld_44_4_4 rfl) ?_
              refine s_y (v := .float .f32 sz) rfl (y_load T83.one_34 rfl ((B.b 0 rfl).cell (j := 4) rfl)) ?_
              refine s_y (v := .int .i64 ((nextS (nextS ((sd + (40503 * st)) % 2147483648))) / 65536)) rfl (y_move rfl) ?_
              refine s_y (v := .float .f32 (FloatKind.nearest .f32 ((nextS (nextS ((sd + (40503 * st)) % 2147483648))) / 65536))) rfl (y_if T83.und_2 T83.flt_34_f32 rfl) ?_
              refine s_n rfl (n_arith (by decide) rfl rfl) ?_
              rintro _ w215 e216 ⟨r213, rfl, hr214⟩
              replace B := B.ext0 e216
              clear e216
              have hc217 := fopC hr214 (cn_nearest .f32 ((nextS (nextS ((sd + (40503 * st)) % 2147483648))) / 65536)) (cnLit (k := .f32) (t := 1182793728) (by kernel_rfl) (by kernel_rfl))
              refine s_n rfl (n_arith (by decide) rfl rfl) ?_
              rintro _ w221 e222 ⟨r219, rfl, hr220⟩
              replace B := B.ext0 e222
              clear e222
              have hc223 := fopC hr220 hc217 (cnLit (k := .f32) (t := 1182793728) (by kernel_rfl) (by kernel_rfl))
              refine s_n rfl (n_arith (by decide) rfl rfl) ?_
              rintro _ w227 e228 ⟨r225, rfl, hr226⟩
              replace B := B.ext0 e228
              clear e228
              have hc229 := fopC hr226 hsz hc223
              refine s_y (v := .float .f32 r225) rfl (y_assign rfl) ?_
              refine s_nil ?_
              refine W_ret ?_
              refine ret1 (v := .float .f32 r225) rfl rfl rfl ⟨_, rfl, ?_⟩
              exact ⟨⟨_, rfl, cnT hc229 (by first | (exfalso; omega) | (unfold wavT burT burA noiT; rw [if_pos (by omega)]) | (unfold wavT burT burA noiT; rw [if_neg (by omega), if_pos (by omega)]) | (unfold wavT burT burA noiT; rw [if_neg (by omega), if_neg (by omega), if_pos (by omega)]) | (unfold wavT burT burA noiT; rw [if_neg (by omega), if_neg (by omega), if_neg (by omega), if_pos (by omega)]) | (unfold wavT burT burA noiT; rw [if_neg (by omega), if_neg (by omega), if_neg (by omega), if_neg (by omega), if_pos (by omega), if_pos (by omega)]) | (unfold wavT burT burA noiT; rw [if_neg (by omega), if_neg (by omega), if_neg (by omega), if_neg (by omega), if_pos (by omega), if_neg (by omega)]) | (unfold wavT burT burA noiT; rw [if_neg (by omega), if_neg (by omega), if_neg (by omega), if_neg (by omega), if_neg (by omega)]))⟩, B.ext⟩
namespace T90
theorem mx : Try.prog.follows .mixedOrders = true := by kernel_rfl
theorem agg_26_5 : aggB Try.prog 26 5 = true := by kernel_rfl
theorem agg_44_6 : aggB Try.prog 44 6 = true := by kernel_rfl
theorem agg_57_9 : aggB Try.prog 57 9 = true := by kernel_rfl
theorem fld_30_0_0 : fldB Try.prog 30 0 0 = true := by kernel_rfl
theorem fld_57_0_0 : fldB Try.prog 57 0 0 = true := by kernel_rfl
theorem fld_57_1_1 : fldB Try.prog 57 1 1 = true := by kernel_rfl
theorem fld_57_2_2 : fldB Try.prog 57 2 2 = true := by kernel_rfl
theorem fld_57_3_3 : fldB Try.prog 57 3 3 = true := by kernel_rfl
theorem fn_69 : fnB Try.prog 69 = true := by kernel_rfl
theorem fn_83 : fnB Try.prog 83 = true := by kernel_rfl
theorem one_2 : oneB Try.prog 2 = true := by kernel_rfl
theorem one_24 : oneB Try.prog 24 = true := by kernel_rfl
theorem one_34 : oneB Try.prog 34 = true := by kernel_rfl
theorem one_4 : oneB Try.prog 4 = true := by kernel_rfl
theorem sl_24_34_1 : slB Try.prog 24 34 1 = true := by kernel_rfl
theorem sl_58_57_9 : slB Try.prog 58 57 9 = true := by kernel_rfl
theorem sz_34_1 : szB Try.prog 34 1 = true := by kernel_rfl
theorem sz_57_9 : szB Try.prog 57 9 = true := by kernel_rfl
theorem zero_57 : zeroB Try.prog 57 (.agg #[.int .i64 0, .int .i64 0, .bool false, .int .i64 0, .int .i64 0, .int .i64 0, .float .f32 0, .float .f32 0, .int .i64 0]) := by unfold zeroB; kernel_rfl
end T90
set_option maxRecDepth 100000 in
set_option maxHeartbeats 4000000 in
theorem c_i_feed {wd : Int} {hi : Int} {wr : Bool} {asp : Option Addr} {nsp : Nat} {csp : Nat} {als : Option Addr} {nls : Nat} {cls : Nat} {b : Nat} {afe : Option Addr} {nfe : Nat} {cfe : Nat} {afx : Option Addr} {nfx : Nat} {cfx : Nat} {afy : Option Addr} {nfy : Nat} {cfy : Nat} {aq : Option Addr} {nq : Nat} {cq : Nat} {Xq : List Src} {st : Int} {Xfe : List Nat} {w : World} (h1 : 3 ≤ wd) (h2 : wd ≤ 16) (h3 : 3 ≤ hi) (h4 : hi ≤ 16) (gfe : (nfe : Int) = wd * hi) (hst0 : 0 ≤ st) (hst1 : st ≤ 1000100) (hnq : nq ≤ 1000000) (hsr : ∀ i, 0 ≤ i → i < (nq : Int) → srcB wd hi wr (gl Xq i) = true) (hwv : ∀ i, 0 ≤ i → i < (nq : Int) → wavOK (gl Xq i).kd (gl Xq i).tt (gl Xq i).ln (gl Xq i).tn st) (HA : All w [.ow kF afe nfe cfe 34 Xfe, .sl (some ⟨b, 0, none⟩) [.slice afe nfe cfe, .slice afx nfx cfx, .slice afy nfy cfy], .rd kS aq nq Xq]) (HP : Pw [.ow kF afe nfe cfe 34 Xfe, .sl (some ⟨b, 0, none⟩) [.slice afe nfe cfe, .slice afx nfx cfx, .slice afy nfy cfy], .rd kS aq nq Xq]) :
    Calls Try.prog 90 #[.agg #[.int .i64 wd, .int .i64 hi, .bool wr, .slice asp nsp csp, .slice als nls cls], .pointer (some ⟨b, 0, none⟩), .slice aq nq cq, .int .i64 st] w (Rt fun v w' => v = .tuple #[] ∧ Upd w w' [.ow kF afe nfe cfe 34 Xfe] [.ow kF afe nfe cfe 34 (fedT wd hi Xfe Xq st nq)]) := by
  have B : Bu w (hasW [.ow kF afe nfe cfe 34 Xfe]) w [.ow kF afe nfe cfe 34 Xfe, .sl (some ⟨b, 0, none⟩) [.slice afe nfe cfe, .slice afx nfx cfx, .slice afy nfy cfy], .rd kS aq nq Xq] := Bu.initW (W := [.ow kF afe nfe cfe 34 Xfe]) (R := [.sl (some ⟨b, 0, none⟩) [.slice afe nfe cfe, .slice afx nfx cfx, .slice afy nfy cfy], .rd kS aq nq Xq]) HA HP rfl
  have hlfe := (B.o 0 rfl).len
  have hlq := (B.r 2 rfl).len
  refine calls_W (n := 48) Try.func90 rfl rfl (Nat.le_of_ble_eq_true rfl) ?_
  refine W_seq ?_
  refine W_region (by kernel_rfl) ?_
  refine s_k rfl (k_boxN (v := .agg #[.int .i64 wd, .int .i64 hi, .bool wr, .slice asp nsp csp, .slice als nls cls]) (cs := [.int .i64 wd, .int .i64 hi, .bool wr, .slice asp nsp csp, .slice als nls cls]) rfl rfl (fun b1 w2 hN3 => ?_))
  replace B := B.new1 hN3
  clear hN3
  refine s_nil ?_
  refine W_seq ?_
  refine W_region (by kernel_rfl) ?_
  refine s_y (v := .slice aq nq cq) rfl (y_move rfl) ?_
  refine s_y (v := .int .i64 ((nq : Nat) : Int)) rfl (y_len T90.sl_58_57_9 rfl rfl) ?_
  refine s_y (v := .int .i64 0) rfl (y_move rfl) ?_
  refine s_nil ?_
  refine W_block ?_
  refine W_loop (fun ρ' w' => ∃ (ρ1 : Env) (k : Int), ρ' = updL ρ1 [(1, .pointer (some ⟨b, 0, none⟩)), (3, .int .i64 st), (4, .pointer (some ⟨b1, 0, none⟩)), (12, .slice aq nq cq), (13, .int .i64 ((nq : Nat) : Int)), (14, .int .i64 k)] ∧ Bu w (hasW [.ow kF afe nfe cfe 34 Xfe]) w' [.ow kF afe nfe cfe 34 (fedT wd hi Xfe Xq st (Int.toNat k)), .blk b1 [.int .i64 wd, .int .i64 hi, .bool wr, .slice asp nsp csp, .slice als nls cls] 26, .sl (some ⟨b, 0, none⟩) [.slice afe nfe cfe, .slice afx nfx cfx, .slice afy nfy cfy], .rd kS aq nq Xq] ∧ (0 ≤ k) ∧ (k ≤ (nq : Int))) (fun ρ' _ => ((nq : Int) - iv (ρ' 14)).toNat) ?_ ?_
  · replace B : Bu w (hasW [.ow kF afe nfe cfe 34 Xfe]) w2 [.blk b1 [.int .i64 wd, .int .i64 hi, .bool wr, .slice asp nsp csp, .slice als nls cls] 26, .ow kF afe nfe cfe 34 (fedT wd hi Xfe Xq st (Int.toNat 0)), .sl (some ⟨b, 0, none⟩) [.slice afe nfe cfe, .slice afx nfx cfx, .slice afy nfy cfy], .rd kS aq nq Xq] := B.castX 1 rfl rfl rfl
    exact ⟨_, 0, Fits.eq ⟨rfl, rfl, rfl, rfl, rfl, rfl, trivial⟩, (B.pick [1, 0, 2, 3] rfl rfl), (Int.le_refl _), (by omega)⟩
  · clear B; rintro _ w4 ⟨ρ5, k, rfl, B, h0k, h1k⟩
    have hlf := (B.o 0 rfl).len
    refine W_seq ?_
    refine W_region (by kernel_rfl) ?_
    by_cases c6 : k < ((nq : Nat) : Int)
    · refine s_y (v := .bool true) rfl (y_lss rfl rfl (decide_eq_true c6)) ?_
      refine s_nil ?_
      refine W_seq ?_
      refine W_if_t (by decide) rfl ?_
      refine W_skip ?_
      refine W_seq ?_
      refine W_block ?_
      refine W_seq ?_
      refine W_region (by kernel_rfl) ?_
      have hsq := src_b (hsr k h0k (by omega))
      refine s_y (v := .pointer (some (sat aq ((k).toNat * 9)))) rfl (y_idx T90.sl_58_57_9 rfl rfl ((B.r 3 rfl).addr (by omega)) (by omega) (by omega)) ?_
      obtain ⟨r8, r9, hr10, hr11, hR7⟩ := Rd.atS (B.r 3 rfl) k (by omega) (by omega)
      refine s_y (v := .agg #[.int .i64 ((gl Xq k).x), .int .i64 ((gl Xq k).y), .bool ((gl Xq k).hd), .int .i64 ((gl Xq k).kd), .int .i64 ((gl Xq k).tt), .int .i64 ((gl Xq k).ln), .float .f32 r8, .float .f32 r9, .int .i64 ((gl Xq k).sd)]) rfl (y_loadR (vs := [.int .i64 ((gl Xq k).x), .int .i64 ((gl Xq k).y), .bool ((gl Xq k).hd), .int .i64 ((gl Xq k).kd), .int .i64 ((gl Xq k).tt), .int .i64 ((gl Xq k).ln), .float .f32 r8, .float .f32 r9, .int .i64 ((gl Xq k).sd)]) T90.agg_57_9 rfl rfl (by decide) hR7) ?_
      refine s_k rfl (k_allocN (z := (.agg #[.int .i64 0, .int .i64 0, .bool false, .int .i64 0, .int .i64 0, .int .i64 0, .float .f32 0, .float .f32 0, .int .i64 0])) (cs := [.int .i64 0, .int .i64 0, .bool false, .int .i64 0, .int .i64 0, .int .i64 0, .float .f32 0, .float .f32 0, .int .i64 0]) T90.zero_57 rfl (fun b12 w13 hN14 => ?_))
      replace B := B.new1 hN14
      clear hN14
      refine s_k0 rfl (k_stB (v := .agg #[.int .i64 ((gl Xq k).x), .int .i64 ((gl Xq k).y), .bool ((gl Xq k).hd), .int .i64 ((gl Xq k).kd), .int .i64 ((gl Xq k).tt), .int .i64 ((gl Xq k).ln), .float .f32 r8, .float .f32 r9, .int .i64 ((gl Xq k).sd)]) (n := 9) (cs' := [.int .i64 ((gl Xq k).x), .int .i64 ((gl Xq k).y), .bool ((gl Xq k).hd), .int .i64 ((gl Xq k).kd), .int .i64 ((gl Xq k).tt), .int .i64 ((gl Xq k).ln), .float .f32 r8, .float .f32 r9, .int .i64 ((gl Xq k).sd)]) T90.sz_57_9 rfl rfl rfl (B.b 0 rfl) (by simp [Value.cells, Value.oneCell']) (Nat.le_of_ble_eq_true rfl) rfl (fun w15 hU16 => ?_))
      replace B : Bu w (hasW [.ow kF afe nfe cfe 34 Xfe]) w15 [.blk b12 [.int .i64 ((gl Xq k).x), .int .i64 ((gl Xq k).y), .bool ((gl Xq k).hd), .int .i64 ((gl Xq k).kd), .int .i64 ((gl Xq k).tt), .int .i64 ((gl Xq k).ln), .float .f32 r8, .float .f32 r9, .int .i64 ((gl Xq k).sd)] 57, .ow kF afe nfe cfe 34 (fedT wd hi Xfe Xq st (Int.toNat k)), .blk b1 [.int .i64 wd, .int .i64 hi, .bool wr, .slice asp nsp csp, .slice als nls cls] 26, .sl (some ⟨b, 0, none⟩) [.slice afe nfe cfe, .slice afx nfx cfx, .slice afy nfy cfy], .rd kS aq nq Xq] := B.upd [0] rfl hU16
      clear hU16
      refine s_nil ?_
      refine W_seq ?_
      have B0_21 := B
      refine W_draw (no) T90.mx (by kernel_rfl) (fun w19 e20 => ?_)
      have R22 := Ext.refl (no) w15
      replace R22 := R22.trans (Ext0.any e20)
      replace B := B.ext0 e20
      clear e20
      refine m_y (v := .agg #[.int .i64 wd, .int .i64 hi, .bool wr, .slice asp nsp csp, .slice als nls cls]) 0 rfl (by kernel_rfl) rfl rfl (fun w' e' => y_loadn (b := b1) (o := 0) (vs := [.int .i64 wd, .int .i64 hi, .bool wr, .slice asp nsp csp, .slice als nls cls]) T90.agg_26_5 rfl rfl (((B0_21.b 2 rfl).ext0 e').cells (o := 0) rfl)) ?_
      refine m_y (v := .pointer (some ⟨b12, 0, none⟩)) 1 rfl (by kernel_rfl) rfl rfl (fun w' e' => y_fld (o := 0) T90.fld_57_0_0 rfl) ?_
      refine m_y (v := .int .i64 ((gl Xq k).x)) 2 rfl (by kernel_rfl) rfl rfl (fun w' e' => y_load T90.one_2 rfl (((B0_21.b 0 rfl).ext0 e').cell (j := 0) rfl)) ?_
      refine m_y (v := .pointer (some ⟨b12, 1, none⟩)) 3 rfl (by kernel_rfl) rfl rfl (fun w' e' => y_fld (o := 0) T90.fld_57_1_1 rfl) ?_
      refine m_y (v := .int .i64 ((gl Xq k).y)) 4 rfl (by kernel_rfl) rfl rfl (fun w' e' => y_load T90.one_2 rfl (((B0_21.b 0 rfl).ext0 e').cell (j := 1) rfl)) ?_
      refine m_y (v := .pointer (some ⟨b12, 3, none⟩)) 6 rfl (by kernel_rfl) rfl rfl (fun w' e' => y_fld (o := 0) T90.fld_57_3_3 rfl) ?_
      refine m_y (v := .agg #[.int .i64 ((gl Xq k).kd), .int .i64 ((gl Xq k).tt), .int .i64 ((gl Xq k).ln), .float .f32 r8, .float .f32 r9, .int .i64 ((gl Xq k).sd)]) 7 rfl (by kernel_rfl) rfl rfl (fun w' e' => y_loadn (b := b12) (o := 3) (vs := [.int .i64 ((gl Xq k).kd), .int .i64 ((gl Xq k).tt), .int .i64 ((gl Xq k).ln), .float .f32 r8, .float .f32 r9, .int .i64 ((gl Xq k).sd)]) T90.agg_44_6 rfl rfl (((B0_21.b 0 rfl).ext0 e').cells (o := 3) rfl)) ?_
      refine m_y (v := .int .i64 st) 8 rfl (by kernel_rfl) rfl rfl (fun w' e' => y_move rfl) ?_
      refine m_k 5 [9, 10, 11] rfl (by kernel_rfl) rfl rfl (fun w23 e24 => ?_)
      replace R22 := R22.trans (Ext0.any e24)
      replace B := B.ext0 e24
      clear e24
      refine k_call T90.fn_69 (c_i_at (by omega) (by omega) (by omega) (by omega) (by omega) (by omega) (by omega) (by omega)) rfl ?_
      rintro _ w25 ⟨rfl, e26⟩
      replace R22 := R22.trans (Ext0.any e26)
      replace B := B.ext0 e26
      clear e26
      refine ⟨fun _ => R22, ?_⟩
      have hat27 := atI_b (wd := wd) (hi := hi) (x := (gl Xq k).x) (y := (gl Xq k).y) (by omega) (by omega)
      refine m_k 9 [10, 11] rfl (by kernel_rfl) rfl rfl (fun w28 e29 => ?_)
      replace R22 := R22.trans (Ext0.any e29)
      replace B := B.ext0 e29
      clear e29
      refine k_call T90.fn_83 (c_i_waveAt hr10 hr11 (by omega) (by omega) (by omega) (by omega) (by omega) (by omega) (by omega) (by omega) (by omega) (by omega) (hwv k h0k (by omega))) rfl ?_
      rintro _ w30 ⟨⟨r32, rfl, hr33⟩, e31⟩
      replace R22 := R22.trans (Ext0.any e31)
      replace B := B.ext0 e31
      clear e31
      refine ⟨fun _ => R22, ?_⟩
      refine m_y (v := .int .i64 (atI wd hi ((gl Xq k).x) ((gl Xq k).y))) 10 rfl (by kernel_rfl) rfl rfl (fun w' e' => y_assign rfl) ?_
      refine m_y (v := .float .f32 r32) 11 rfl (by kernel_rfl) rfl rfl (fun w' e' => y_assign rfl) ?_
      refine m_done (by kernel_rfl) (fun w34 e35 => ?_)
      replace B := B.ext0 e35
      clear e35
      clear B0_21 R22
      refine W_seq ?_
      refine W_region (by kernel_rfl) ?_
      refine s_y (v := .pointer (some ⟨b12, 2, none⟩)) rfl (y_fld (o := 0) T90.fld_57_2_2 rfl) ?_
      refine s_y (v := .bool ((gl Xq k).hd)) rfl (y_load T90.one_4 rfl ((B.b 0 rfl).cell (j := 2) rfl)) ?_
      refine s_nil ?_
      cases c36 : (gl Xq k).hd
      · refine W_if_f (by decide) rfl ?_
        refine W_region (by kernel_rfl) ?_
        refine s_y (v := .pointer (some ⟨b, 0, none⟩)) rfl (y_move rfl) ?_
        refine s_y (v := .pointer (some ⟨b, 0, none⟩)) rfl (y_nil rfl) ?_
        refine s_y (v := .pointer (some ⟨b, 0, none⟩)) rfl (y_fld (o := 0 + 0) T90.fld_30_0_0 rfl) ?_
        refine s_y (v := .slice afe nfe cfe) rfl (y_load T90.one_24 rfl ((B.s 3 rfl).cell (j := 0) rfl)) ?_
        refine s_y (v := .int .i64 (atI wd hi ((gl Xq k).x) ((gl Xq k).y))) rfl (y_move rfl) ?_
        refine s_y (v := .pointer (some (sat afe ((atI wd hi ((gl Xq k).x) ((gl Xq k).y)).toNat * 1)))) rfl (y_idx T90.sl_24_34_1 rfl rfl ((B.o 1 rfl).rd.addr (by omega)) (by omega) (by omega)) ?_
        obtain ⟨r38, hr39, hR37⟩ := Rd.atF (B.o 1 rfl).rd (atI wd hi ((gl Xq k).x) ((gl Xq k).y)) (by omega) (by omega)
        refine s_y (v := .float .f32 r38) rfl (y_load T90.one_34 rfl (hR37.cell (i := 0) rfl)) ?_
        refine s_y (v := .float .f32 r32) rfl (y_move rfl) ?_
        refine s_n rfl (n_arith (by decide) rfl rfl) ?_
        rintro _ w43 e44 ⟨r41, rfl, hr42⟩
        replace B := B.ext0 e44
        clear e44
        have hc45 := fopC hr42 hr39 hr33
        refine s_y (v := .pointer (some (sat afe ((atI wd hi ((gl Xq k).x) ((gl Xq k).y)).toNat * 1)))) rfl (y_idx T90.sl_24_34_1 rfl rfl ((B.o 1 rfl).rd.addr (by omega)) (by omega) (by omega)) ?_
        refine s_k0 rfl (k_stO (k := kF) (i := atI wd hi ((gl Xq k).x) ((gl Xq k).y)) (j := 0) (x' := fop .add .f32 (el (fedT wd hi Xfe Xq st (Int.toNat k)) (atI wd hi ((gl Xq k).x) ((gl Xq k).y))) (wavT ((gl Xq k).kd) ((gl Xq k).tt) ((gl Xq k).ln) ((gl Xq k).tn) ((gl Xq k).sz) ((gl Xq k).sd) st)) (new := [.float .f32 r41]) T90.sz_34_1 rfl rfl rfl rfl rfl (by simp [Value.oneCell']) (by decide) (B.o 1 rfl) (by omega) (by omega) (by decide) (by rintro q ⟨_, rfl, _⟩; exact ⟨_, rfl, hc45⟩) (fun w46 hU47 => ?_))
        replace B : Bu w (hasW [.ow kF afe nfe cfe 34 Xfe]) w46 [.ow kF afe nfe cfe 34 (put (fedT wd hi Xfe Xq st (Int.toNat k)) (atI wd hi ((gl Xq k).x) ((gl Xq k).y)) (fop .add .f32 (el (fedT wd hi Xfe Xq st (Int.toNat k)) (atI wd hi ((gl Xq k).x) ((gl Xq k).y))) (wavT ((gl Xq k).kd) ((gl Xq k).tt) ((gl Xq k).ln) ((gl Xq k).tn) ((gl Xq k).sz) ((gl Xq k).sd) st))), .blk b12 [.int .i64 ((gl Xq k).x), .int .i64 ((gl Xq k).y), .bool ((gl Xq k).hd), .int .i64 ((gl Xq k).kd), .int .i64 ((gl Xq k).tt), .int .i64 ((gl Xq k).ln), .float .f32 r8, .float .f32 r9, .int .i64 ((gl Xq k).sd)] 57, .blk b1 [.int .i64 wd, .int .i64 hi, .bool wr, .slice asp nsp csp, .slice als nls cls] 26, .sl (some ⟨b, 0, none⟩) [.slice afe nfe cfe, .slice afx nfx cfx, .slice afy nfy cfy], .rd kS aq nq Xq] := B.upd [1] rfl hU47
        clear hU47
        refine s_nil ?_
        refine W_region (by kernel_rfl) ?_
        refine s_y (v := .int .i64 (k + 1)) rfl (y_add rfl rfl rfl (by omega)) ?_
        refine s_y (v := .int .i64 (k + 1)) rfl (y_move rfl) ?_
        refine s_nil ?_
        replace B : Bu w (hasW [.ow kF afe nfe cfe 34 Xfe]) w46 [.ow kF afe nfe cfe 34 (fedT wd hi Xfe Xq st (Int.toNat (k + 1))), .blk b12 [.int .i64 ((gl Xq k).x), .int .i64 ((gl Xq k).y), .bool ((gl Xq k).hd), .int .i64 ((gl Xq k).kd), .int .i64 ((gl Xq k).tt), .int .i64 ((gl Xq k).ln), .float .f32 r8, .float .f32 r9, .int .i64 ((gl Xq k).sd)] 57, .blk b1 [.int .i64 wd, .int .i64 hi, .bool wr, .slice asp nsp csp, .slice als nls cls] 26, .sl (some ⟨b, 0, none⟩) [.slice afe nfe cfe, .slice afx nfx cfx, .slice afy nfy cfy], .rd kS aq nq Xq] := B.castX 0 rfl rfl (fed_soft h0k c36)
        refine ⟨⟨_, k + 1, Fits.eq ⟨rfl, rfl, rfl, rfl, rfl, rfl, trivial⟩, (B.pick [0, 2, 3, 4] rfl rfl), (by omega), (by omega)⟩, ?_⟩
        show ((nq : Int) - (k + 1)).toNat < ((nq : Int) - k).toNat
        omega
      · refine W_if_t (by decide) rfl ?_
        refine W_region (by kernel_rfl) ?_
        refine s_y (v := .pointer (some ⟨b, 0, none⟩)) rfl (y_move rfl) ?_
        refine s_y (v := .pointer (some ⟨b, 0, none⟩)) rfl (y_nil rfl) ?_
        refine s_y (v := .pointer (some ⟨b, 0, none⟩)) rfl (y_fld (o := 0 + 0) T90.fld_30_0_0 rfl) ?_
        refine s_y (v := .slice afe nfe cfe) rfl (y_load T90.one_24 rfl ((B.s 3 rfl).cell (j := 0) rfl)) ?_
        refine s_y (v := .int .i64 (atI wd hi ((gl Xq k).x) ((gl Xq k).y))) rfl (y_move rfl) ?_
        refine s_y (v := .float .f32 r32) rfl (y_move rfl) ?_
        refine s_y (v := .pointer (some (sat afe ((atI wd hi ((gl Xq k).x) ((gl Xq k).y)).toNat * 1)))) rfl (y_idx T90.sl_24_34_1 rfl rfl ((B.o 1 rfl).rd.addr (by omega)) (by omega) (by omega)) ?_
        refine s_k0 rfl (k_stO (k := kF) (i := atI wd hi ((gl Xq k).x) ((gl Xq k).y)) (j := 0) (x' := wavT ((gl Xq k).kd) ((gl Xq k).tt) ((gl Xq k).ln) ((gl Xq k).tn) ((gl Xq k).sz) ((gl Xq k).sd) st) (new := [.float .f32 r32]) T90.sz_34_1 rfl rfl rfl rfl rfl (by simp [Value.oneCell']) (by decide) (B.o 1 rfl) (by omega) (by omega) (by decide) (by rintro q ⟨_, rfl, _⟩; exact ⟨_, rfl, hr33⟩) (fun w48 hU49 => ?_))
        replace B : Bu w (hasW [.ow kF afe nfe cfe 34 Xfe]) w48 [.ow kF afe nfe cfe 34 (put (fedT wd hi Xfe Xq st (Int.toNat k)) (atI wd hi ((gl Xq k).x) ((gl Xq k).y)) (wavT ((gl Xq k).kd) ((gl Xq k).tt) ((gl Xq k).ln) ((gl Xq k).tn) ((gl Xq k).sz) ((gl Xq k).sd) st)), .blk b12 [.int .i64 ((gl Xq k).x), .int .i64 ((gl Xq k).y), .bool ((gl Xq k).hd), .int .i64 ((gl Xq k).kd), .int .i64 ((gl Xq k).tt), .int .i64 ((gl Xq k).ln), .float .f32 r8, .float .f32 r9, .int .i64 ((gl Xq k).sd)] 57, .blk b1 [.int .i64 wd, .int .i64 hi, .bool wr, .slice asp nsp csp, .slice als nls cls] 26, .sl (some ⟨b, 0, none⟩) [.slice afe nfe cfe, .slice afx nfx cfx, .slice afy nfy cfy], .rd kS aq nq Xq] := B.upd [1] rfl hU49
        clear hU49
        refine s_nil ?_
        refine W_region (by kernel_rfl) ?_
        refine s_y (v := .int .i64 (k + 1)) rfl (y_add rfl rfl rfl (by omega)) ?_
        refine s_y (v := .int .i64 (k + 1)) rfl (y_move rfl) ?_
        refine s_nil ?_
        replace B : Bu w (hasW [.ow kF afe nfe cfe 34 Xfe]) w48 [.ow kF afe nfe cfe 34 (fedT wd hi Xfe Xq st (Int.toNat (k + 1))), .blk b12 [.int .i64 ((gl Xq k).x), .int .i64 ((gl Xq k).y), .bool ((gl Xq k).hd), .int .i64 ((gl Xq k).kd), .int .i64 ((gl Xq k).tt), .int .i64 ((gl Xq k).ln), .float .f32 r8, .float .f32 r9, .int .i64 ((gl Xq k).sd)] 57, .blk b1 [.int .i64 wd, .int .i64 hi, .bool wr, .slice asp nsp csp, .slice als nls cls] 26, .sl (some ⟨b, 0, none⟩) [.slice afe nfe cfe, .slice afx nfx cfx, .slice afy nfy cfy], .rd kS aq nq Xq] := B.castX 0 rfl rfl (fed_hard h0k c36)
        refine ⟨⟨_, k + 1, Fits.eq ⟨rfl, rfl, rfl, rfl, rfl, rfl, trivial⟩, (B.pick [0, 2, 3, 4] rfl rfl), (by omega), (by omega)⟩, ?_⟩
        show ((nq : Int) - (k + 1)).toNat < ((nq : Int) - k).toNat
        omega
    · refine s_y (v := .bool false) rfl (y_lss rfl rfl (decide_eq_false c6)) ?_
      refine s_nil ?_
      refine W_seq ?_
      refine W_if_f (by decide) rfl ?_
      refine W_exit ?_
      refine ret0 rfl ⟨_, rfl, ?_⟩
      replace B : Bu w (hasW [.ow kF afe nfe cfe 34 Xfe]) w4 [.ow kF afe nfe cfe 34 (fedT wd hi Xfe Xq st nq), .blk b1 [.int .i64 wd, .int .i64 hi, .bool wr, .slice asp nsp csp, .slice als nls cls] 26, .sl (some ⟨b, 0, none⟩) [.slice afe nfe cfe, .slice afx nfx cfx, .slice afy nfy cfy], .rd kS aq nq Xq] := B.castX 0 rfl rfl (congrArg (fedT wd hi Xfe Xq st) (by omega))
      exact ⟨rfl, B.wrote [0] rfl rfl rfl⟩
end Go.Proofs.Ytgohmocjjmkepaa
