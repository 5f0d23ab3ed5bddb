/- Texts that the walks rest on, joined. -/
import Derived.Test.YtgohmocjjmkepaaModD
set_option linter.unusedSimpArgs false
set_option linter.unusedVariables false
/- Lists of lists. -/
namespace Go.Wv
/-- Cells that hold lists. -/
def kL : Kd (Option Addr × Nat × Nat) := ⟨1, fun x cs => cs = [.slice x.1 x.2.1 x.2.2], by decide, fun h => by subst h; rfl, fun h => by subst h; simp [Value.oneCell']⟩
section
variable {α : Type} {k : Kd α} {w w0 : World} {S : Nat → Prop} {L : List Fact} {T n c : Nat} {a : Option Addr} {Y : List α} {Z : List (Option Addr × Nat × Nat)} {X : List (List α)} {i : Int}
def allP (_ : Nat) : Prop := True
def butP (i : Int) (j : Nat) : Prop := j ≠ i.toNat
theorem New.famNil (w : World) (k : Kd α) (T n : Nat) : New w w [.fam k T allP (List.replicate n (none, 0, 0)) (List.replicate n ([] : List α))] := by
  refine New.one (Ext.refl _ _) ⟨by simp, fun i _ z x hz hx => ?_, fun i j _ _ _ zi zj hi hj b hb => ?_⟩ fun b hb => ?_
  · obtain ⟨h1, rfl⟩ := List.getElem?_eq_some_iff.1 hz
    obtain ⟨h2, rfl⟩ := List.getElem?_eq_some_iff.1 hx
    rw [List.getElem_replicate, List.getElem_replicate]
    exact Ow.nil w k T
  · obtain ⟨h1, rfl⟩ := List.getElem?_eq_some_iff.1 hi
    rw [List.getElem_replicate] at hb
    simp [inA] at hb
  · obtain ⟨i, z, _, hz, hb⟩ := hb
    obtain ⟨h1, rfl⟩ := List.getElem?_eq_some_iff.1 hz
    rw [List.getElem_replicate] at hb
    simp [inA] at hb
theorem gl_some {β : Type} [Inhabited β] {X : List β} {i : Int} (h0 : 0 ≤ i) (h1 : i < (X.length : Int)) : X[i.toNat]? = some (gl X i) := by
  have h : i.toNat < X.length := by omega
  simp [gl, h]
/-- One of a family. -/
theorem Fam.own (h : Fam w k T allP Z X) (h0 : 0 ≤ i) (h1 : i < (Z.length : Int)) (hz : gl Z i = (a, n, c)) : Ow w k a n c T (gl X i) := by
  have := h.2.1 i.toNat trivial _ _ (gl_some h0 h1) (gl_some h0 (by rw [← h.1]; exact h1))
  rw [hz] at this; exact this
theorem Upd.split (h : Fam w k T allP Z X) (h0 : 0 ≤ i) (h1 : i < (Z.length : Int)) (hz : gl Z i = (a, n, c)) : Upd w w [.fam k T allP Z X] [.ow k a n c T (gl X i), .fam k T (butP i) Z X] := by
  have hzi : Z[i.toNat]? = some (a, n, c) := by rw [gl_some h0 h1, hz]
  refine ⟨Ext.refl _ _, All.cons (h.own h0 h1 hz) (All.cons ⟨h.1, fun j _ z x => h.2.1 j trivial z x, fun j j' _ _ => h.2.2 j j' trivial trivial⟩ All.nil), ?_, ?_⟩
  · refine List.pairwise_cons.2 ⟨fun g hg => ?_, Pw.one _⟩
    rcases List.mem_cons.1 hg with rfl | hg
    · refine .inr fun b hb ⟨j, z, hp, hj, hb'⟩ => ?_
      exact h.2.2 i.toNat j trivial trivial (fun e => hp e.symm) _ _ hzi hj b hb hb'
    · cases hg
  · intro g hg b hb _
    refine ⟨.fam k T allP Z X, by simp, rfl, ?_⟩
    rcases List.mem_cons.1 hg with rfl | hg
    · exact ⟨i.toNat, _, trivial, hzi, hb⟩
    · rcases List.mem_cons.1 hg with rfl | hg
      · obtain ⟨j, z, _, hj, hb⟩ := hb
        exact ⟨j, z, trivial, hj, hb⟩
      · cases hg
theorem Upd.join {Xi : List α} (B : Bu w0 S w L) (j1 j2 : Nat) (ho : L[j1]? = some (.ow k a n c T Xi)) (hf : L[j2]? = some (.fam k T (butP i) Z X)) (hne : (j1 != j2) = true) : Upd w w [.ow k a n c T Xi, .fam k T (butP i) Z X] [.fam k T allP (pl Z i (a, n, c)) (pl X i Xi)] := by
  have h1 : Ow w k a n c T Xi := B.o j1 ho
  have h2 : Fam w k T (butP i) Z X := B.all.get j2 hf
  have hap : ∀ b, inA a b → (Fact.fam k T (butP i) Z X).has b → False := fun b x y => B.ap j1 j2 ho hf hne rfl b x y
  have key : ∀ j z, (pl Z i (a, n, c))[j]? = some z → (j = i.toNat ∧ z = (a, n, c)) ∨ (butP i j ∧ Z[j]? = some z) := fun j z hz => by
    unfold pl at hz
    rw [List.getElem?_set] at hz
    split at hz
    · rename_i e
      split at hz
      · exact .inl ⟨e.symm, by injection hz with hz; exact hz.symm⟩
      · cases hz
    · rename_i e; exact .inr ⟨fun e' => e e'.symm, hz⟩
  refine ⟨Ext.refl _ _, All.cons ⟨by rw [pl_length, pl_length]; exact h2.1, fun j _ z x hz hx => ?_, fun j j' _ _ hjj z z' hz hz' b hb hb' => ?_⟩ All.nil, Pw.one _, ?_⟩
  · rcases key j z hz with ⟨rfl, rfl⟩ | ⟨hp, hz'⟩
    · unfold pl at hx
      rw [List.getElem?_set] at hx
      split at hx
      · split at hx
        · injection hx with hx; subst hx; exact h1
        · cases hx
      · rename_i e; exact absurd rfl e
    · refine h2.2.1 j hp z x hz' ?_
      unfold pl at hx
      rw [List.getElem?_set, if_neg (fun e => hp e.symm)] at hx
      exact hx
  · rcases key j z hz with ⟨rfl, rfl⟩ | ⟨hp, hzz⟩
    · rcases key j' z' hz' with ⟨rfl, rfl⟩ | ⟨hp', hzz'⟩
      · exact hjj rfl
      · exact hap b hb ⟨j', z', hp', hzz', hb'⟩
    · rcases key j' z' hz' with ⟨rfl, rfl⟩ | ⟨hp', hzz'⟩
      · exact hap b hb' ⟨j, z, hp, hzz, hb⟩
      · exact h2.2.2 j j' hp hp' hjj z z' hzz hzz' b hb hb'
  · intro g hg b hb _
    rcases List.mem_cons.1 hg with rfl | hg
    · obtain ⟨j, z, _, hz, hb⟩ := hb
      rcases key j z hz with ⟨rfl, rfl⟩ | ⟨hp, hzz⟩
      · exact ⟨_, List.mem_cons_self, rfl, hb⟩
      · exact ⟨.fam k T (butP i) Z X, by simp, rfl, ⟨j, z, hp, hzz, hb⟩⟩
    · cases hg
theorem Bu.f (B : Bu w0 S w L) (j : Nat) {p : Nat → Prop} (h : L[j]? = some (.fam k T p Z X)) : Fam w k T p Z X := B.all.get j h
theorem Bu.castF {X' : List (List α)} {p : Nat → Prop} (B : Bu w0 S w L) (j : Nat) (h : L[j]? = some (.fam k T p Z X)) (hX : X = X') : Bu w0 S w (L.set j (.fam k T p Z X')) := by
  subst hX
  exact B.cast j h (B.f j h) rfl fun _ h => h
end
theorem Rd.atL {w : World} {a : Option Addr} {n : Nat} {Z : List (Option Addr × Nat × Nat)} (h : Rd w kL a n Z) (i : Int) (h0 : 0 ≤ i) (h1 : i < (n : Int)) {z : Option Addr × Nat × Nat} (hz : gl Z i = z) : Row w a (i.toNat * 1) [.slice z.1 z.2.1 z.2.2] := by
  obtain ⟨_, rfl, hR⟩ := h.at i h0 h1
  subst hz; exact hR
end Go.Wv

/- Runs with sources: their records, step by step. -/
namespace Go.Wv
section
variable {wd hi fr : Int} {wr : Bool} {P L : List Nat} {ss : List Src} {F : Fld} {ps : List (Int × Int)} {n : Nat} {k j : Int}
/-- The records behind k steps; while step k + 1 is told to the probes, j of them have been told. -/
def rcs (wd hi : Int) (wr : Bool) (P L : List Nat) (ss : List Src) (fr : Int) (F : Fld) (ps : List (Int × Int)) (n : Nat) (k : Int) : List (List Nat) := gtab (n : Int) fun i => rcT wd hi wr P L ss fr F (gl ps i) k
def rcj (wd hi : Int) (wr : Bool) (P L : List Nat) (ss : List Src) (fr : Int) (F : Fld) (ps : List (Int × Int)) (n : Nat) (k j : Int) : List (List Nat) := gtab (n : Int) fun i => rcT wd hi wr P L ss fr F (gl ps i) (if i < j then k + 1 else k)
theorem rcs_zero {m : Nat} (hm : m = n) : List.replicate m ([] : List Nat) = rcs wd hi wr P L ss fr F ps n 0 := by
  subst hm
  unfold rcs
  refine gtab_of (by simp) fun i h0 h1 => ?_
  have h : i.toNat < m := by omega
  simp [gl, h, rcT, tab_zero]
theorem rcj_zero : rcs wd hi wr P L ss fr F ps n k = rcj wd hi wr P L ss fr F ps n k 0 := by
  unfold rcs rcj
  exact gtab_ext fun i h0 _ => by rw [if_neg (by omega)]
theorem rcj_end (h : ¬ j < (n : Int)) : rcj wd hi wr P L ss fr F ps n k j = rcs wd hi wr P L ss fr F ps n (k + 1) := by
  unfold rcs rcj
  exact gtab_ext fun i h0 h1 => by rw [if_pos (by omega)]
theorem rcj_gl (h0 : 0 ≤ j) (h1 : j < (n : Int)) : gl (rcj wd hi wr P L ss fr F ps n k j) j = rcT wd hi wr P L ss fr F (gl ps j) k := by
  unfold rcj; rw [gl_gtab h0 h1, if_neg (by omega)]
theorem rcs_gl {i : Int} (h0 : 0 ≤ i) (h1 : i < (n : Int)) : gl (rcs wd hi wr P L ss fr F ps n k) i = rcT wd hi wr P L ss fr F (gl ps i) k := by
  unfold rcs; rw [gl_gtab h0 h1]
theorem rcT_len {p : Int × Int} : (rcT wd hi wr P L ss fr F p k).length = k.toNat := by unfold rcT; exact tab_length _ _
theorem rcj_len {m : Nat} (h0 : 0 ≤ j) (h1 : j < (n : Int)) (h : (gl (rcj wd hi wr P L ss fr F ps n k j) j).length = m) : m = k.toNat := by
  rw [rcj_gl h0 h1, rcT_len] at h; exact h.symm
theorem rcs_len : (rcs wd hi wr P L ss fr F ps n k).length = n := by unfold rcs; rw [gtab_length]; omega
theorem rcj_step {v : Nat} (hk : 0 ≤ k) (h0 : 0 ≤ j) (h1 : j < (n : Int)) (hv : v = el (rsT wd hi wr P L ss fr F (k + 1).toNat).1 (atI wd hi (gl ps j).1 (gl ps j).2)) :
    pl (rcj wd hi wr P L ss fr F ps n k j) j (gl (rcj wd hi wr P L ss fr F ps n k j) j ++ [v]) = rcj wd hi wr P L ss fr F ps n k (j + 1) := by
  rw [rcj_gl h0 h1]
  have hl : (rcj wd hi wr P L ss fr F ps n k j).length = n := by unfold rcj; rw [gtab_length]; omega
  have e : rcT wd hi wr P L ss fr F (gl ps j) k ++ [v] = rcT wd hi wr P L ss fr F (gl ps j) (k + 1) := by
    unfold rcT; exact tab_snoc hk hv
  rw [e]
  unfold rcj at hl ⊢
  refine gtab_of (by rw [pl_length, hl]) fun i h2 h3 => ?_
  rw [pl_get h0 (by omega) h2]
  by_cases hij : i = j
  · rw [if_pos hij, hij, if_pos (by omega)]
  · rw [if_neg hij, gl_gtab h2 h3]
    by_cases h4 : i < j
    · rw [if_pos h4, if_pos (by omega)]
    · rw [if_neg h4, if_neg (by omega)]
theorem rsT_next (h : 0 ≤ k) : rsT wd hi wr P L ss fr F (k + 1).toNat = rstT wd hi wr P L ss (fr + k) (rsT wd hi wr P L ss fr F k.toNat) := by
  rw [show (k + 1).toNat = k.toNat + 1 by omega]
  simp only [rsT, Int.toNat_of_nonneg h]
theorem rs_E {m : Nat} (h : 0 ≤ k) (hn : ss.length = m) : fedT wd hi (nwL wd hi wr P L (rsT wd hi wr P L ss fr F k.toNat).1 (hxL wd hi wr (rsT wd hi wr P L ss fr F k.toNat).1 (rsT wd hi wr P L ss fr F k.toNat).2.1) (hyL wd hi wr (rsT wd hi wr P L ss fr F k.toNat).1 (rsT wd hi wr P L ss fr F k.toNat).2.2)) ss (fr + k) m = (rsT wd hi wr P L ss fr F (k + 1).toNat).1 := by
  rw [rsT_next h, ← hn]; rfl
theorem rs_X (h : 0 ≤ k) : hxL wd hi wr (rsT wd hi wr P L ss fr F k.toNat).1 (rsT wd hi wr P L ss fr F k.toNat).2.1 = (rsT wd hi wr P L ss fr F (k + 1).toNat).2.1 := by rw [rsT_next h]; rfl
theorem rs_Y (h : 0 ≤ k) : hyL wd hi wr (rsT wd hi wr P L ss fr F k.toNat).1 (rsT wd hi wr P L ss fr F k.toNat).2.2 = (rsT wd hi wr P L ss fr F (k + 1).toNat).2.2 := by rw [rsT_next h]; rfl
def rsB (wd hi : Int) (wr : Bool) (P L : List Nat) (E X Y : List Nat) (ss : List Src) (ps : List (Int × Int)) (fr ct : Int) : Bool := fieldB wd hi wr P L E X Y && areSrcB wd hi wr P L ss && areProbesB wd hi P L ps && ticksB fr ct
theorem areSrc_src (h : areSrcB wd hi wr P L ss = true) : srcsB wd hi wr ss = true := by simp only [areSrcB, Bool.and_eq_true] at h; exact h.2
theorem areProbes_pr (h : areProbesB wd hi P L ps = true) : prB wd hi ps = true := by simp only [areProbesB, Bool.and_eq_true] at h; exact h.2
end
end Go.Wv

/- The law of arrivals. -/
namespace Go.Wv
open Ieee
section
variable {X : List Nat} {L n : Nat} {k : Int}
theorem arr_k (h : k < (n : Int)) (hM : arrI X L = firstGe X L ((n : Int) - k).toNat k) (hc : fge .f32 (szX (el X k)) L = true) : arrI X L = k := by
  rw [hM, firstGe_step h, if_pos hc]
theorem arr_0 (h : ¬ k < (n : Int)) (hM : arrI X L = firstGe X L ((n : Int) - k).toNat k) : arrI X L = -1 := by rw [hM, firstGe_end h]
theorem arr_n (h : arrOk X L = false) : arrI X L = -1 := by simp [arrI, h]
theorem arr_to (hok : arrOk X L = true) (hn : X.length = n) : ∀ d : Nat, (d : Int) ≤ n → (∀ j : Int, 0 ≤ j → j < d → ¬ fge .f32 (szX (el X j)) L = true) → arrI X L = firstGe X L ((n : Int) - d).toNat d
  | 0, _, _ => arr_start hok hn
  | d + 1, h, hq => by
    have := arr_step (k := d) (by omega) (arr_to hok hn d (by omega) fun j h0 h1 => hq j h0 (by omega)) (hq d (by omega) (by omega))
    rw [show ((d + 1 : Nat) : Int) = (d : Int) + 1 by omega]; exact this
theorem arr_first (hok : arrOk X L = true) (hn : X.length = n) (h0 : 0 ≤ k) (h1 : k < (n : Int)) (hq : ∀ j : Int, 0 ≤ j → j < k → ¬ fge .f32 (szX (el X j)) L = true) (hk : fge .f32 (szX (el X k)) L = true) : arrI X L = k := by
  have := arr_to hok hn k.toNat (by omega) fun j a b => hq j a (by omega)
  rw [Int.toNat_of_nonneg h0] at this
  exact arr_k h1 this hk
theorem arr_none (hok : arrOk X L = true) (hn : X.length = n) (h1 : ¬ k < (n : Int)) (hq : ∀ j : Int, 0 ≤ j → j < k → ¬ fge .f32 (szX (el X j)) L = true) : arrI X L = -1 := by
  have := arr_to hok hn n (Int.le_refl _) fun j a b => hq j a (by omega)
  exact arr_0 (Int.lt_irrefl _) this
end
theorem fin_mhalf : fin .f32 3204448256 ∧ val .f32 3204448256 = -2 ^ 148 := ⟨fin_finb (by decide +kernel), by decide +kernel⟩
theorem szh_pos {x : Nat} (h : fin .f32 x) (hc : fge .f32 x 1056964608 = true) : fge .f32 (szX x) 1056964608 = true := by
  rw [fge_val h fin_half, val_half] at hc
  rw [fge_val (szX_val h).1 fin_half, val_half, (szX_val h).2]
  exact decide_eq_true (by have := of_decide_eq_true hc; omega)
theorem szh_neg {x : Nat} (h : fin .f32 x) (hc : fle .f32 x 3204448256 = true) : fge .f32 (szX x) 1056964608 = true := by
  rw [fle_val h fin_mhalf.1, fin_mhalf.2] at hc
  rw [fge_val (szX_val h).1 fin_half, val_half, (szX_val h).2]
  exact decide_eq_true (by have := of_decide_eq_true hc; omega)
theorem szh_no {x : Nat} (h : fin .f32 x) (h1 : ¬ fge .f32 x 1056964608 = true) (h2 : ¬ fle .f32 x 3204448256 = true) : ¬ fge .f32 (szX x) 1056964608 = true := by
  rw [fge_val h fin_half, val_half] at h1
  rw [fle_val h fin_mhalf.1, fin_mhalf.2] at h2
  rw [fge_val (szX_val h).1 fin_half, val_half, (szX_val h).2]
  intro hc
  have a := of_decide_eq_true hc
  have b : ¬ 2 ^ 148 ≤ val .f32 x := fun h => h1 (decide_eq_true h)
  have c : ¬ val .f32 x ≤ -2 ^ 148 := fun h => h2 (decide_eq_true h)
  omega
theorem half_ok : finB 1056964608 = true ∧ fgt .f32 1056964608 0 = true := ⟨by decide +kernel, by decide +kernel⟩
section
variable {wd hi x0 y0 fr : Int} {wr : Bool} {P L : List Nat} {F : Fld} {s : Src} {n k : Nat}
theorem rst_one : rstT wd hi wr P L [s] fr F = (put (stpT wd hi wr P L F).1 (atI wd hi s.x s.y) (if s.hd = true then srcV s fr else fop .add .f32 (el (stpT wd hi wr P L F).1 (atI wd hi s.x s.y)) (srcV s fr)), (stpT wd hi wr P L F).2.1, (stpT wd hi wr P L F).2.2) := rfl
theorem stp_len : ((stpT wd hi wr P L F).1.length : Int) = ((wd * hi).toNat : Nat) := by
  show ((nwL wd hi wr P L F.1 _ _).length : Int) = _
  rw [nwL_len]
/-- What one source sends is nought where it has not come. -/
theorem one_cone (hv : validS wd hi P L = true) (hx0 : 0 ≤ s.x ∧ s.x < wd) (hy0 : 0 ≤ s.y ∧ s.y < hi) (hz : ZF wd hi wr s.x s.y F (-1)) : ∀ n : Nat, ZF wd hi wr s.x s.y (rsT wd hi wr P L [s] fr F n) ((n : Int) - 1)
  | 0 => by simpa [rsT] using hz
  | n + 1 => by
    have hb := validS_b hv
    have h1 := cone_step (wr := wr) hv hx0 hy0 (one_cone hv hx0 hy0 hz n)
    intro x y a b c d hk
    have h2 := h1 x y a b c d (by omega)
    have hr := row_lt a b c d
    have hr0 := row_lt (wd := wd) (hi := hi) (a := s.x) (b := s.y) hx0.1 hx0.2 hy0.1 hy0.2
    have hne : x + wd * y ≠ s.x + wd * s.y := by
      intro e
      have e1 := divmod_row (y := y) a b
      have e2 := divmod_row (y := s.y) hx0.1 hx0.2
      rw [e] at e1
      have ex : x = s.x := e1.1.symm.trans e2.1
      have ey : y = s.y := e1.2.symm.trans e2.2
      rw [ex, ey] at hk
      unfold dst at hk
      rw [way_self (by omega), way_self (by omega)] at hk
      omega
    refine ⟨?_, h2.2.1, h2.2.2⟩
    show zr (el (put _ _ _) _)
    have hl : ((stpT wd hi wr P L (rsT wd hi wr P L [s] fr F n)).1.length : Int) = ((wd * hi).toNat : Nat) := stp_len
    have ea : atI wd hi (gl [s] 0).x (gl [s] 0).y = s.x + wd * s.y := atI_in hx0.1 hx0.2 hy0.1 hy0.2
    have ez : ((0 : Nat) : Int) = 0 := rfl
    rw [ez, ea, el_put hr0.1 (by show _ < ((stpT wd hi wr P L (rsT wd hi wr P L [s] fr F n)).1.length : Int); omega) _ _ hr.1, if_neg hne]
    exact h2.1
theorem zero_ZF {m : Nat} {k : Int} : ZF wd hi wr x0 y0 (List.replicate m 0, List.replicate m 0, List.replicate m 0) k := fun x y _ _ _ _ _ => by
  refine ⟨?_, ?_, ?_⟩ <;> (show zr (el (List.replicate m 0) _); rw [el_rep0]; exact zr_zero)
/-- A record of a probe to which it has not come. -/
theorem arr_zero {m : Nat} {u v q ct : Int} (hv : validS wd hi P L = true) (hx0 : 0 ≤ s.x ∧ s.x < wd) (hy0 : 0 ≤ s.y ∧ s.y < hi) (hu : 0 ≤ u ∧ u < wd) (hv' : 0 ≤ v ∧ v < hi) (h0 : 0 ≤ q) (h1 : q < ct) (hw : q < wayI wr s.x u wd + wayI wr s.y v hi) :
    ¬ fne .f32 (el (rcT wd hi wr P L [s] fr (List.replicate m 0, List.replicate m 0, List.replicate m 0) (u, v) ct) q) 0 = true := by
  unfold rcT
  rw [el_tab h0 h1]
  have := one_cone (wr := wr) (fr := fr) hv hx0 hy0 (zero_ZF (m := m) (k := -1)) (q + 1).toNat u v hu.1 hu.2 hv'.1 hv'.2 (by unfold dst; omega)
  show ¬ fne .f32 (el _ (atI wd hi u v)) 0 = true
  rw [atI_in hu.1 hu.2 hv'.1 hv'.2, fne_feq, this.1]; simp
/-- The record at a hard source. -/
theorem arr_src {ct : Int} {m : Nat} (hm : (m : Int) = wd * hi) (hx0 : 0 ≤ s.x ∧ s.x < wd) (hy0 : 0 ≤ s.y ∧ s.y < hi) (hh : s.hd = true) {G : Fld} : rcT wd hi wr P L [s] fr G (s.x, s.y) ct = tab ct fun q => wavT s.kd s.tt s.ln s.tn s.sz s.sd (fr + q) := by
  unfold rcT
  refine tab_ext fun q h0 h1 => ?_
  have hr0 := row_lt (wd := wd) (hi := hi) (a := s.x) (b := s.y) hx0.1 hx0.2 hy0.1 hy0.2
  show el (rsT wd hi wr P L [s] fr G (q + 1).toNat).1 (atI wd hi s.x s.y) = _
  rw [rsT_next h0, rst_one]
  have hl : ((stpT wd hi wr P L (rsT wd hi wr P L [s] fr G q.toNat)).1.length : Int) = ((wd * hi).toNat : Nat) := stp_len
  show el (put _ _ _) _ = _
  rw [atI_in hx0.1 hx0.2 hy0.1 hy0.2, el_put hr0.1 (by rw [hl]; omega) _ _ hr0.1, if_pos rfl, if_pos hh]; rfl
theorem ra_ok {u v ct : Int} {m : Nat} (hv : validS wd hi P L = true) (hm : (m : Int) = wd * hi) (hx : 1 ≤ s.x ∧ s.x ≤ wd - 2) (hy : 1 ≤ s.y ∧ s.y ≤ hi - 2) (hu : 0 ≤ u ∧ u < wd) (hw : 0 ≤ v ∧ v < hi) (hs : validW s.kd s.tt s.ln s.tn s.sd = true) (hf : 0 ≤ fr ∧ fr ≤ 1000) (hc : 1 ≤ ct ∧ ct ≤ 64) :
    rsB wd hi wr P L (List.replicate m 0) (List.replicate m 0) (List.replicate m 0) [s] [(u, v), (s.x, s.y)] fr ct = true := by
  have h1 : srcB wd hi wr s = true := by
    have hb : bordB wd hi wr s.x s.y = false := by
      cases wr
      · have : ¬ bordB wd hi false s.x s.y = true := fun h => by have := bord_iff.1 h; omega
        simpa using this
      · simp [bordB]
    simp only [srcB, hb, hs, cellB, within, Bool.not_false, Bool.and_true, Bool.and_eq_true, decide_eq_true_eq]; omega
  have h2 : areSrcB wd hi wr P L [s] = true := areSrc_yes hv (by simp) fun i h0 h1' => by
    have : i = 0 := by simp at h1'; omega
    subst this; exact h1
  have h3 : areProbesB wd hi P L [(u, v), (s.x, s.y)] = true := probesB_yes hv (by simp) fun i h0 h1' => by
    simp at h1'
    rcases (by omega : i = 0 ∨ i = 1) with rfl | rfl
    · show cellB wd hi u v = true
      simp only [cellB, within, Bool.and_eq_true, decide_eq_true_eq]; omega
    · show cellB wd hi s.x s.y = true
      simp only [cellB, within, Bool.and_eq_true, decide_eq_true_eq]; omega
  have h4 : ticksB fr ct = true := by
    simp only [ticksB, isTick, within, Bool.and_eq_true, Bool.or_eq_true, decide_eq_true_eq]; omega
  simp only [rsB, field_zero (wr := wr) hv hm, h2, h3, h4, Bool.and_self]
end
end Go.Wv

/- Reading in a family of lists. -/
namespace Go.Wv
open Ieee
theorem Fam.rdx {α : Type} [Inhabited α] {w : World} {k : Kd α} {T : Nat} {Z : List (Option Addr × Nat × Nat)} {X : List (List α)} {i : Int} {a : Option Addr} {n c : Nat} {Y : List α} (h : Fam w k T allP Z X) (h0 : 0 ≤ i) (h1 : i < (Z.length : Int)) (hz : gl Z i = (a, n, c)) (hx : gl X i = Y) : Rd w k a n Y := hx ▸ (h.own h0 h1 hz).rd
theorem arr_same {wd hi x y kd tt ln sd ct : Int} {wr : Bool} {P L : List Nat} {tn sz : Nat} {G : Fld} (hm : 0 ≤ wd * hi) (hx0 : 0 ≤ x ∧ x < wd) (hy0 : 0 ≤ y ∧ y < hi) : sameL (rcT wd hi wr P L [⟨x, y, true, kd, tt, ln, tn, sz, sd⟩] 0 G (x, y) ct) (tab ct fun q => wavT kd tt ln tn sz sd (0 + q)) = true := by
  rw [arr_src (s := ⟨x, y, true, kd, tt, ln, tn, sz, sd⟩) (m := (wd * hi).toNat) (by omega) hx0 hy0 rfl]; exact sameL_refl _
end Go.Wv

