/- Bytes, numbers without sign, and the source of choices that the laws draw from. -/
import Derived.Test.YtgohmocjjmkepaaM10
set_option linter.unusedSimpArgs false
set_option linter.unusedVariables false
namespace Go.Wv
def kY : Kd Nat := ⟨1, fun x cs => cs = [.int .u8 (x : Int)] ∧ x < 256, by decide, fun h => by obtain ⟨h, _⟩ := h; subst h; rfl, fun h => by obtain ⟨h, _⟩ := h; subst h; simp [Value.oneCell']⟩
def byt (X : List Nat) (i : Int) : Int := ((gl X i : Nat) : Int)
theorem Rd.atY {w : World} {a : Option Addr} {n : Nat} {X : List Nat} (h : Rd w kY a n X) (i : Int) (h0 : 0 ≤ i) (h1 : i < (n : Int)) : (0 ≤ byt X i ∧ byt X i ≤ 255) ∧ Row w a (i.toNat * 1) [.int .u8 (byt X i)] := by
  obtain ⟨_, ⟨rfl, hr⟩, hR⟩ := h.at i h0 h1
  exact ⟨⟨Int.natCast_nonneg _, by unfold byt; omega⟩, hR⟩
theorem Bu.blkEq {w0 w : World} {S : Nat → Prop} {L : List Fact} (B : Bu w0 S w L) (i : Nat) {b T : Nat} {cs cs' : List Value} (h : L[i]? = some (.blk b cs T)) (hc : cs = cs') : Bu w0 S w (L.set i (.blk b cs' T)) := by
  subst hc
  exact B.cast i h (B.b i h) rfl fun _ h => h
section
variable {P : Program} {ρ : Env} {w : World} {d : Option Tmp} {ty : TypeId} {pos : String} {aft : Array Edge} {g : Option (Nat × Bool)} {x y : Operand}
theorem y_wmul {k : IntKind} {a b : Int} {T U : Nat} (hx : ev ρ x = .int k a) (hy : ev ρ y = .int k b) : Yv P ρ ⟨d, .binOp .mul T x y U, ty, pos, aft, g⟩ (.int k (k.wrap (a * b))) w := by
  simp [Yv, execOp, eqGuard, hx, hy, binOp, Op.intArith]
theorem y_wadd {k : IntKind} {a b : Int} {T U : Nat} (hx : ev ρ x = .int k a) (hy : ev ρ y = .int k b) : Yv P ρ ⟨d, .binOp .add T x y U, ty, pos, aft, g⟩ (.int k (k.wrap (a + b))) w := by
  simp [Yv, execOp, eqGuard, hx, hy, binOp, Op.intArith]
theorem y_shr40 {k : IntKind} {a : Int} {T U : Nat} (hx : ev ρ x = .int .u64 a) (hy : ev ρ y = .int k 40) : Yv P ρ ⟨d, .binOp .shr T x y U, ty, pos, aft, g⟩ (.int .u64 (a / 1099511627776)) w := by
  have h : a.fdiv (2 ^ min (40 : Int).toNat IntKind.u64.bits) = a / 1099511627776 := by
    rw [show (2 : Int) ^ min (40 : Int).toNat IntKind.u64.bits = 1099511627776 by decide, Int.fdiv_eq_ediv_of_nonneg _ (by decide)]
  rw [← h]
  simp [Yv, execOp, eqGuard, hx, hy, binOp, Op.shift]
/-- The last eight bits. -/
def lo8 (a : Int) : Int := IntKind.u64.wrap ((BitVec.ofInt IntKind.u64.bits a &&& BitVec.ofInt IntKind.u64.bits 255).toNat : Int)
theorem lo8_b (a : Int) : 0 ≤ lo8 a ∧ lo8 a ≤ 255 := by
  have h : (BitVec.ofInt IntKind.u64.bits a &&& BitVec.ofInt IntKind.u64.bits 255).toNat ≤ 255 := by
    rw [BitVec.toNat_and]
    exact Nat.le_trans Nat.and_le_right (by decide)
  unfold lo8
  rw [IntWalk.u64_in _ (by omega)]
  omega
theorem y_and255 {a : Int} {T U : Nat} (hx : ev ρ x = .int .u64 a) (hy : ev ρ y = .int .u64 255) : Yv P ρ ⟨d, .binOp .and T x y U, ty, pos, aft, g⟩ (.int .u64 (lo8 a)) w := by
  simp [Yv, execOp, eqGuard, hx, hy, binOp, Op.intBits, lo8]
end
/-- The byte at a place of the input; 0 behind its end. -/
def bY (X : List Nat) (p : Int) : Int := if p < (X.length : Int) then byt X p else 0
/-- The seed behind a choice. -/
def nxS (X : List Nat) (p sd : Int) : Int := IntKind.u64.wrap (IntKind.u64.wrap (IntKind.u64.wrap (sd * 6364136223846793005) + bY X p) + 1442695040888963407)
/-- The choice: 0 to 255. -/
def nxV (X : List Nat) (p sd : Int) : Int := if p + 1 ≤ (X.length : Int) then bY X p else lo8 (nxS X p sd / 1099511627776)
theorem byt_b {X : List Nat} (h : ∀ x ∈ X, x < 256) {p : Int} : 0 ≤ byt X p ∧ byt X p ≤ 255 := by
  refine ⟨Int.natCast_nonneg _, ?_⟩
  unfold byt gl
  by_cases hp : p.toNat < X.length
  · have := h _ (List.getElem_mem hp)
    rw [List.getD_eq_getElem?_getD, List.getElem?_eq_getElem hp]; show ((X[p.toNat] : Nat) : Int) ≤ 255; omega
  · rw [List.getD_eq_getElem?_getD, List.getElem?_eq_none (by omega)]; decide
theorem reps_y : ∀ {X : List Nat} {cs : List Value}, Reps kY X cs → ∀ x ∈ X, x < 256 := by
  intro X
  induction X with
  | nil => intro cs _ x hx; cases hx
  | cons a X ih =>
    intro cs h x hx
    obtain ⟨c, d, hc, ha, hd⟩ : ∃ c d, cs = c ++ d ∧ kY.rep a c ∧ Reps kY X d := by simpa [Reps] using h
    rcases List.mem_cons.1 hx with rfl | hx
    · exact ha.2
    · exact ih hd x hx
theorem Rd.bytes {w : World} {a : Option Addr} {n : Nat} {X : List Nat} (h : Rd w kY a n X) : ∀ x ∈ X, x < 256 := let ⟨_, _, h, _⟩ := h; reps_y h
theorem nxV_b {X : List Nat} (h : ∀ x ∈ X, x < 256) {p sd : Int} : 0 ≤ nxV X p sd ∧ nxV X p sd ≤ 255 := by
  unfold nxV
  split
  · unfold bY; split
    · exact byt_b h
    · omega
  · exact lo8_b _
/-- A choice among 'n'. -/
def pkV (X : List Nat) (n p sd : Int) : Int := nxV X p sd % n
theorem pkV_b {X : List Nat} {n p sd : Int} (h : 0 < n) : 0 ≤ pkV X n p sd ∧ pkV X n p sd < n := ⟨Int.emod_nonneg _ (by omega), Int.emod_lt_of_pos _ h⟩
theorem nx_cells {X : List Nat} {p sd t : Int} {v : Value} (h : bY X p = t) : [v, .int .i64 (p + 1), .int .u64 (IntKind.u64.wrap (IntKind.u64.wrap (IntKind.u64.wrap (sd * 6364136223846793005) + t) + 1442695040888963407))] = [v, .int .i64 (p + 1), .int .u64 (nxS X p sd)] := by
  subst h; rfl
theorem bY_in {X : List Nat} {n : Nat} {p : Int} (hl : X.length = n) (h : p < (n : Int)) : bY X p = byt X p := if_pos (by omega)
theorem bY_out {X : List Nat} {n : Nat} {p : Int} (hl : X.length = n) (h : ¬ p < (n : Int)) : bY X p = 0 := if_neg (by omega)
theorem nxV_in {X : List Nat} {n : Nat} {p sd t : Int} (hl : X.length = n) (h : p + 1 ≤ (n : Int)) (ht : bY X p = t) : t = nxV X p sd := by
  unfold nxV; rw [if_pos (by omega)]; exact ht.symm
theorem nxV_out {X : List Nat} {n : Nat} {p sd : Int} (hl : X.length = n) (h : ¬ p + 1 ≤ (n : Int)) : lo8 (nxS X p sd / 1099511627776) = nxV X p sd := by
  unfold nxV; rw [if_neg (by omega)]
/-- The seed behind so many choices. -/
def sdN (X : List Nat) : Nat → Int
  | 0 => 0
  | k + 1 => nxS X k (sdN X k)
def sdY (X : List Nat) (p : Int) : Int := sdN X p.toNat
theorem sdY_next {X : List Nat} {p : Int} (h : 0 ≤ p) : nxS X p (sdY X p) = sdY X (p + 1) := by
  unfold sdY
  rw [show (p + 1).toNat = p.toNat + 1 by omega]
  show _ = nxS X (p.toNat : Int) (sdN X p.toNat)
  rw [show ((p.toNat : Nat) : Int) = p by omega]
theorem sdY_cells {X : List Nat} {p : Int} {v : Value} (h : 0 ≤ p) : [v, .int .i64 (p + 1), .int .u64 (nxS X p (sdY X p))] = [v, .int .i64 (p + 1), .int .u64 (sdY X (p + 1))] := by rw [sdY_next h]
/-- Choice 'p' among 'n'. -/
def pk (X : List Nat) (n p : Int) : Int := nxV X p (sdY X p) % n
theorem pk_b (X : List Nat) {n : Int} (p : Int) (h : 0 < n) : 0 ≤ pk X n p ∧ pk X n p < n := ⟨Int.emod_nonneg _ (by omega), Int.emod_lt_of_pos _ h⟩
/-- A drawn sheet: the choice at which a cell begins, its speed and its loss. -/
def dwStep (X : List Nat) (plain : Bool) (p : Int) : Int := if plain = true then p else if decide (pk X 3 (p + 1) = 0) = true then p + 1 + 1 + 1 else p + 1 + 1
def dwN (X : List Nat) (plain : Bool) (p : Int) : Nat → Int
  | 0 => p
  | k + 1 => dwStep X plain (dwN X plain p k)
def dwP (X : List Nat) (plain : Bool) (p k : Int) : Int := dwN X plain p k.toNat
theorem dwP_zero {X : List Nat} {plain : Bool} {p : Int} : dwP X plain p 0 = p := rfl
theorem dwP_next {X : List Nat} {plain : Bool} {p k : Int} (h : 0 ≤ k) : dwStep X plain (dwP X plain p k) = dwP X plain p (k + 1) := by
  unfold dwP; rw [show (k + 1).toNat = k.toNat + 1 by omega]; rfl
theorem dwN_b (X : List Nat) (plain : Bool) (p : Int) : ∀ k : Nat, p ≤ dwN X plain p k ∧ dwN X plain p k ≤ p + 3 * (k : Int)
  | 0 => ⟨Int.le_refl _, by simp [dwN]⟩
  | k + 1 => by
    have := dwN_b X plain p k
    simp only [dwN, dwStep]
    split
    · omega
    · split <;> omega
theorem dwP_b (X : List Nat) (plain : Bool) (p : Int) {k : Int} (h : 0 ≤ k) : p ≤ dwP X plain p k ∧ dwP X plain p k ≤ p + 3 * k := by
  have := dwN_b X plain p k.toNat
  unfold dwP; omega
def dwSp (X : List Nat) (plain : Bool) (q : Int) : Nat := if plain = true then 1056964608 else fop .quo .f32 (FloatKind.nearest .f32 (pk X 9 q)) 1098907648
def dwLs (X : List Nat) (plain : Bool) (q : Int) : Nat := if plain = true then 0 else if decide (pk X 3 (q + 1) = 0) = true then fop .quo .f32 (FloatKind.nearest .f32 (pk X 9 (q + 1 + 1))) 1090519040 else 0
def dwSpL (X : List Nat) (plain : Bool) (p k : Int) : List Nat := tab k fun i => dwSp X plain (dwP X plain p i)
def dwLsL (X : List Nat) (plain : Bool) (p k : Int) : List Nat := tab k fun i => dwLs X plain (dwP X plain p i)
theorem dwSpL_len {X : List Nat} {plain : Bool} {p k : Int} : (dwSpL X plain p k).length = k.toNat := tab_length _ _
theorem dwLsL_len {X : List Nat} {plain : Bool} {p k : Int} : (dwLsL X plain p k).length = k.toNat := tab_length _ _
theorem dwSpL_next {X : List Nat} {plain : Bool} {p k : Int} {v : Nat} (h : 0 ≤ k) (hv : v = dwSp X plain (dwP X plain p k)) : dwSpL X plain p k ++ [v] = dwSpL X plain p (k + 1) := tab_snoc h hv
theorem dwLsL_next {X : List Nat} {plain : Bool} {p k : Int} {v : Nat} (h : 0 ≤ k) (hv : v = dwLs X plain (dwP X plain p k)) : dwLsL X plain p k ++ [v] = dwLsL X plain p (k + 1) := tab_snoc h hv
theorem dw_yes {X : List Nat} {q : Int} (h : decide (pk X 3 (q + 1) = 0) = true) : fop .quo .f32 (FloatKind.nearest .f32 (pk X 9 (q + 1 + 1))) 1090519040 = dwLs X false q ∧ q + 1 + 1 + 1 = dwStep X false q := by
  unfold dwLs dwStep; rw [h]; exact ⟨rfl, rfl⟩
theorem dw_no {X : List Nat} {q : Int} (h : decide (pk X 3 (q + 1) = 0) = false) : 0 = dwLs X false q ∧ q + 1 + 1 = dwStep X false q := by
  unfold dwLs dwStep; rw [h]; exact ⟨rfl, rfl⟩
theorem pos_cells {X : List Nat} {p q : Int} {v : Value} (h : p = q) : [v, .int .i64 p, .int .u64 (sdY X p)] = [v, .int .i64 q, .int .u64 (sdY X q)] := by rw [h]
end Go.Wv
