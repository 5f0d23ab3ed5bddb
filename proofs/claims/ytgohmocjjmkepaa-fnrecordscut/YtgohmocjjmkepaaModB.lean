/- Texts that the walks rest on, joined. -/
import Derived.Test.YtgohmocjjmkepaaModA
import Derived.Laws.StructEq
set_option linter.unusedSimpArgs false
set_option linter.unusedVariables false
/- What the functions compute: rings of probes. -/
namespace Go.Wv
/-- Those numbers from 'u0' on, of 'n', for which 'p' holds. -/
def rowN (u0 : Int) (p : Int → Bool) : Nat → List Int
  | 0 => []
  | n + 1 => rowN u0 p n ++ if p (u0 + n) = true then [u0 + (n : Int)] else []
/-- Those cells of a box, row by row, for which 'p' holds. -/
def boxN (u0 v0 : Int) (nu : Nat) (p : Int → Int → Bool) : Nat → List (Int × Int)
  | 0 => []
  | n + 1 => boxN u0 v0 nu p n ++ (rowN u0 (fun u => p u (v0 + n)) nu).map fun u => (u, v0 + (n : Int))
theorem rowN_add (u0 : Int) (p : Int → Bool) (a : Nat) : ∀ b, rowN u0 p (a + b) = rowN u0 p a ++ rowN (u0 + a) p b
  | 0 => by simp [rowN]
  | b + 1 => by
    show rowN u0 p (a + b + 1) = _
    simp only [rowN]
    rw [rowN_add u0 p a b, List.append_assoc, show u0 + ((a + b : Nat) : Int) = u0 + a + b by omega]
theorem rowN_congr {u0 : Int} {p q : Int → Bool} : ∀ {n : Nat}, (∀ u, u0 ≤ u → u < u0 + n → p u = q u) → rowN u0 p n = rowN u0 q n
  | 0, _ => rfl
  | n + 1, h => by
    simp only [rowN]
    rw [rowN_congr (fun u h0 h1 => h u h0 (by omega)), h (u0 + n) (by omega) (by omega)]
theorem rowN_none (u0 : Int) : ∀ n, rowN u0 (fun _ => false) n = []
  | 0 => rfl
  | n + 1 => by simp [rowN, rowN_none u0 n]
theorem rowN_len (u0 : Int) (p : Int → Bool) : ∀ n, (rowN u0 p n).length ≤ n
  | 0 => Nat.le_refl _
  | n + 1 => by
    simp only [rowN, List.length_append]
    have := rowN_len u0 p n
    split <;> simp <;> omega
theorem boxN_add (u0 v0 : Int) (nu : Nat) (p : Int → Int → Bool) (a : Nat) : ∀ b, boxN u0 v0 nu p (a + b) = boxN u0 v0 nu p a ++ boxN u0 (v0 + a) nu p b
  | 0 => by simp [boxN]
  | b + 1 => by
    show boxN u0 v0 nu p (a + b + 1) = _
    simp only [boxN]
    rw [boxN_add u0 v0 nu p a b, List.append_assoc, show v0 + ((a + b : Nat) : Int) = v0 + a + b by omega]
theorem boxN_congr {u0 u1 v0 : Int} {nu nu1 : Nat} {p q : Int → Int → Bool} : ∀ {n : Nat}, (∀ v, v0 ≤ v → v < v0 + n → rowN u0 (fun u => p u v) nu = rowN u1 (fun u => q u v) nu1) → boxN u0 v0 nu p n = boxN u1 v0 nu1 q n
  | 0, _ => rfl
  | n + 1, h => by
    simp only [boxN]
    rw [boxN_congr (fun v h0 h1 => h v h0 (by omega)), h (v0 + n) (by omega) (by omega)]
theorem boxN_none (u0 v0 : Int) (nu : Nat) : ∀ n, boxN u0 v0 nu (fun _ _ => false) n = []
  | 0 => rfl
  | n + 1 => by simp [boxN, boxN_none u0 v0 nu n, rowN_none]
/-- The same in a greater box. -/
theorem rowN_big {u0 A : Int} {n N : Nat} {p : Int → Bool} (h0 : A ≤ u0) (h1 : u0 + n ≤ A + N) : rowN u0 p n = rowN A (fun u => decide (u0 ≤ u) && decide (u < u0 + n) && p u) N := by
  obtain ⟨a, ha⟩ := Int.eq_ofNat_of_zero_le (show 0 ≤ u0 - A by omega)
  obtain ⟨b, hb⟩ := Int.eq_ofNat_of_zero_le (show 0 ≤ A + N - (u0 + n) by omega)
  rw [show N = a + n + b by omega, rowN_add, rowN_add, show A + (a : Int) = u0 by omega]
  rw [show rowN A (fun u => decide (u0 ≤ u) && decide (u < u0 + n) && p u) a = [] from (rowN_congr (q := fun _ => false) fun u h2 h3 => by rw [decide_eq_false (by omega)]; simp).trans (rowN_none _ _)]
  rw [show rowN (A + ((a + n : Nat) : Int)) (fun u => decide (u0 ≤ u) && decide (u < u0 + n) && p u) b = [] from (rowN_congr (q := fun _ => false) fun u h2 h3 => by rw [decide_eq_false (p := u < u0 + n) (by omega)]; simp).trans (rowN_none _ _)]
  rw [List.nil_append, List.append_nil]
  exact rowN_congr fun u h2 h3 => by rw [decide_eq_true (by omega), decide_eq_true (by omega)]; simp
theorem boxN_big {u0 v0 A B : Int} {nu nv N M : Nat} {p : Int → Int → Bool} (h0 : A ≤ u0) (h1 : u0 + nu ≤ A + N) (h2 : B ≤ v0) (h3 : v0 + nv ≤ B + M) :
    boxN u0 v0 nu p nv = boxN A B N (fun u v => decide (v0 ≤ v) && decide (v < v0 + nv) && (decide (u0 ≤ u) && decide (u < u0 + nu) && p u v)) M := by
  obtain ⟨a, ha⟩ := Int.eq_ofNat_of_zero_le (show 0 ≤ v0 - B by omega)
  obtain ⟨b, hb⟩ := Int.eq_ofNat_of_zero_le (show 0 ≤ B + M - (v0 + nv) by omega)
  rw [show M = a + nv + b by omega, boxN_add, boxN_add, show B + (a : Int) = v0 by omega]
  rw [show boxN A B N (fun u v => decide (v0 ≤ v) && decide (v < v0 + nv) && (decide (u0 ≤ u) && decide (u < u0 + nu) && p u v)) a = [] from (boxN_congr (q := fun _ _ => false) fun v h4 h5 => rowN_congr fun u _ _ => by rw [decide_eq_false (by omega)]; simp).trans (boxN_none _ _ _ _)]
  rw [show boxN A (B + ((a + nv : Nat) : Int)) N (fun u v => decide (v0 ≤ v) && decide (v < v0 + nv) && (decide (u0 ≤ u) && decide (u < u0 + nu) && p u v)) b = [] from (boxN_congr (q := fun _ _ => false) fun v h4 h5 => rowN_congr fun u _ _ => by rw [decide_eq_false (p := v < v0 + nv) (by omega)]; simp).trans (boxN_none _ _ _ _)]
  rw [List.nil_append, List.append_nil]
  refine boxN_congr fun v h4 h5 => (rowN_big h0 h1).trans (rowN_congr fun u _ _ => ?_)
  rw [decide_eq_true (show v0 ≤ v by omega), decide_eq_true (show v < v0 + nv by omega), Bool.true_and, Bool.true_and]
/-- Two boxes with the same cells. -/
theorem boxN_ext {u0 v0 u1 v1 : Int} {nu nv mu mv : Nat} {p q : Int → Int → Bool}
    (h : ∀ u v, (v0 ≤ v ∧ v < v0 + nv) ∧ (u0 ≤ u ∧ u < u0 + nu) ∧ p u v = true ↔ (v1 ≤ v ∧ v < v1 + mv) ∧ (u1 ≤ u ∧ u < u1 + mu) ∧ q u v = true) : boxN u0 v0 nu p nv = boxN u1 v1 mu q mv := by
  rw [boxN_big (A := min u0 u1) (B := min v0 v1) (N := (max (u0 + nu) (u1 + mu) - min u0 u1).toNat) (M := (max (v0 + nv) (v1 + mv) - min v0 v1).toNat) (by omega) (by omega) (by omega) (by omega)]
  rw [boxN_big (u0 := u1) (v0 := v1) (A := min u0 u1) (B := min v0 v1) (N := (max (u0 + nu) (u1 + mu) - min u0 u1).toNat) (M := (max (v0 + nv) (v1 + mv) - min v0 v1).toNat) (by omega) (by omega) (by omega) (by omega)]
  refine boxN_congr fun v _ _ => rowN_congr fun u _ _ => ?_
  rw [Bool.eq_iff_iff]
  simp only [Bool.and_eq_true, decide_eq_true_eq]
  exact h u v
/-- Some rows and a part of the next one. -/
def inL (u0 v0 : Int) (nu : Nat) (p : Int → Int → Bool) (a : Nat) (v k : Int) : List (Int × Int) := boxN u0 v0 nu p a ++ (rowN u0 (fun u => p u v) k.toNat).map fun u => (u, v)
section
variable {u0 v0 u v k : Int} {nu a : Nat} {p : Int → Int → Bool}
theorem inL_zero : boxN u0 v0 nu p a = inL u0 v0 nu p a v 0 := by simp [inL, rowN]
theorem inL_yes (h0 : 0 ≤ k) (hu : u = u0 + k) (hp : p u v = true) : inL u0 v0 nu p a v k ++ [(u, v)] = inL u0 v0 nu p a v (k + 1) := by
  subst hu
  unfold inL
  rw [show (k + 1).toNat = k.toNat + 1 by omega]
  simp only [rowN, Int.toNat_of_nonneg h0]
  rw [if_pos hp]; simp
theorem inL_no (h0 : 0 ≤ k) (hu : u = u0 + k) (hp : p u v = false) : inL u0 v0 nu p a v k = inL u0 v0 nu p a v (k + 1) := by
  subst hu
  unfold inL
  rw [show (k + 1).toNat = k.toNat + 1 by omega]
  simp only [rowN, Int.toNat_of_nonneg h0]
  rw [if_neg (by rw [hp]; simp)]; simp
theorem inL_row {y : Int} (h0 : 0 ≤ y) (hv : v = v0 + y) (hk : k.toNat = nu) : inL u0 v0 nu p y.toNat v k = boxN u0 v0 nu p (y + 1).toNat := by
  subst hv; subst hk
  unfold inL
  rw [show (y + 1).toNat = y.toNat + 1 by omega]
  simp only [boxN, Int.toNat_of_nonneg h0]
theorem boxN_len (hn : nu ≤ 64) : ∀ n, n ≤ 64 → (boxN u0 v0 nu p n).length ≤ 64 * n
  | 0, _ => Nat.le_refl _
  | n + 1, h => by
    simp only [boxN, List.length_append, List.length_map]
    have h1 := boxN_len hn n (by omega)
    have h2 := rowN_len u0 (fun u => p u (v0 + n)) nu
    omega
theorem inL_len (hn : nu ≤ 64) (ha : a ≤ 64) (hk : k ≤ 64) : (inL u0 v0 nu p a v k).length ≤ 5000 := by
  unfold inL
  rw [List.length_append, List.length_map]
  have h1 := boxN_len (u0 := u0) (v0 := v0) (p := p) hn a ha
  have h2 := rowN_len u0 (fun u => p u v) k.toNat
  omega
end
section
variable {wd hi x y far : Int} {wr : Bool} {P L : List Nat}
def ringP (x y far u v : Int) : Bool := decide (max (max (max (u - x) (x - u)) (v - y)) (y - v) = far)
def ringQ (wd hi x y far u v : Int) : Bool := (decide (v = y - far) || decide (v = y + far) || decide (u = x - far) || decide (u = x + far)) && cellB wd hi u v
def ringL (wd hi x y far : Int) : List (Int × Int) := boxN 0 0 wd.toNat (ringP x y far) hi.toNat
theorem ring_s (hx : 0 ≤ wd) (hy : 0 ≤ hi) (hf : 0 ≤ far) : boxN (x - far) (y - far) (2 * far + 1).toNat (ringQ wd hi x y far) (2 * far + 1).toNat = ringL wd hi x y far := by
  unfold ringL
  refine boxN_ext fun u v => ?_
  simp only [ringP, ringQ, Bool.and_eq_true, Bool.or_eq_true, decide_eq_true_eq, cellB, within]
  omega
def ringB (wd hi : Int) (P L : List Nat) (x y far : Int) : Bool := vcellB wd hi P L x y && within far 1 16 && decide ((ringL wd hi x y far).length ≤ 8)
theorem ringB_b (h : ringB wd hi P L x y far = true) : (ringL wd hi x y far).length ≤ 8 := by
  simp only [ringB, Bool.and_eq_true, decide_eq_true_eq] at h; exact h.2
end
end Go.Wv

/- Bytes, numbers without sign, and the source of choices that the laws draw from. -/
namespace Go.Wv
def kY : Kd Nat := ⟨1, fun x cs => cs = [.int .u8 (x : Int)] ∧ x < 256, by decide, fun h => by obtain ⟨h, _⟩ := h; subst h; rfl, fun h => by obtain ⟨h, _⟩ := h; subst h; simp [Value.oneCell']⟩
def byt (X : List Nat) (i : Int) : Int := ((gl X i : Nat) : Int)
theorem Rd.atY {w : World} {a : Option Addr} {n : Nat} {X : List Nat} (h : Rd w kY a n X) (i : Int) (h0 : 0 ≤ i) (h1 : i < (n : Int)) : (0 ≤ byt X i ∧ byt X i ≤ 255) ∧ Row w a (i.toNat * 1) [.int .u8 (byt X i)] := by
  obtain ⟨_, ⟨rfl, hr⟩, hR⟩ := h.at i h0 h1
  exact ⟨⟨Int.natCast_nonneg _, by unfold byt; omega⟩, hR⟩
theorem Bu.blkEq {w0 w : World} {S : Nat → Prop} {L : List Fact} (B : Bu w0 S w L) (i : Nat) {b T : Nat} {cs cs' : List Value} (h : L[i]? = some (.blk b cs T)) (hc : cs = cs') : Bu w0 S w (L.set i (.blk b cs' T)) := by
  subst hc
  exact B.cast i h (B.b i h) rfl fun _ h => h
section
variable {P : Program} {ρ : Env} {w : World} {d : Option Tmp} {ty : TypeId} {pos : String} {aft : Array Edge} {g : Option (Nat × Bool)} {x y : Operand}
theorem y_wmul {k : IntKind} {a b : Int} {T U : Nat} (hx : ev ρ x = .int k a) (hy : ev ρ y = .int k b) : Yv P ρ ⟨d, .binOp .mul T x y U, ty, pos, aft, g⟩ (.int k (k.wrap (a * b))) w := by
  simp [Yv, execOp, eqGuard, hx, hy, binOp, Op.intArith]
theorem y_wadd {k : IntKind} {a b : Int} {T U : Nat} (hx : ev ρ x = .int k a) (hy : ev ρ y = .int k b) : Yv P ρ ⟨d, .binOp .add T x y U, ty, pos, aft, g⟩ (.int k (k.wrap (a + b))) w := by
  simp [Yv, execOp, eqGuard, hx, hy, binOp, Op.intArith]
theorem y_shr40 {k : IntKind} {a : Int} {T U : Nat} (hx : ev ρ x = .int .u64 a) (hy : ev ρ y = .int k 40) : Yv P ρ ⟨d, .binOp .shr T x y U, ty, pos, aft, g⟩ (.int .u64 (a / 1099511627776)) w := by
  have h : a.fdiv (2 ^ min (40 : Int).toNat IntKind.u64.bits) = a / 1099511627776 := by
    rw [show (2 : Int) ^ min (40 : Int).toNat IntKind.u64.bits = 1099511627776 by decide, Int.fdiv_eq_ediv_of_nonneg _ (by decide)]
  rw [← h]
  simp [Yv, execOp, eqGuard, hx, hy, binOp, Op.shift]
/-- The last eight bits. -/
def lo8 (a : Int) : Int := IntKind.u64.wrap ((BitVec.ofInt IntKind.u64.bits a &&& BitVec.ofInt IntKind.u64.bits 255).toNat : Int)
theorem lo8_b (a : Int) : 0 ≤ lo8 a ∧ lo8 a ≤ 255 := by
  have h : (BitVec.ofInt IntKind.u64.bits a &&& BitVec.ofInt IntKind.u64.bits 255).toNat ≤ 255 := by
    rw [BitVec.toNat_and]
    exact Nat.le_trans Nat.and_le_right (by decide)
  unfold lo8
  rw [IntWalk.u64_in _ (by omega)]
  omega
theorem y_and255 {a : Int} {T U : Nat} (hx : ev ρ x = .int .u64 a) (hy : ev ρ y = .int .u64 255) : Yv P ρ ⟨d, .binOp .and T x y U, ty, pos, aft, g⟩ (.int .u64 (lo8 a)) w := by
  simp [Yv, execOp, eqGuard, hx, hy, binOp, Op.intBits, lo8]
end
/-- The byte at a place of the input; 0 behind its end. -/
def bY (X : List Nat) (p : Int) : Int := if p < (X.length : Int) then byt X p else 0
/-- The seed behind a choice. -/
def nxS (X : List Nat) (p sd : Int) : Int := IntKind.u64.wrap (IntKind.u64.wrap (IntKind.u64.wrap (sd * 6364136223846793005) + bY X p) + 1442695040888963407)
/-- The choice: 0 to 255. -/
def nxV (X : List Nat) (p sd : Int) : Int := if p + 1 ≤ (X.length : Int) then bY X p else lo8 (nxS X p sd / 1099511627776)
theorem byt_b {X : List Nat} (h : ∀ x ∈ X, x < 256) {p : Int} : 0 ≤ byt X p ∧ byt X p ≤ 255 := by
  refine ⟨Int.natCast_nonneg _, ?_⟩
  unfold byt gl
  by_cases hp : p.toNat < X.length
  · have := h _ (List.getElem_mem hp)
    rw [List.getD_eq_getElem?_getD, List.getElem?_eq_getElem hp]; show ((X[p.toNat] : Nat) : Int) ≤ 255; omega
  · rw [List.getD_eq_getElem?_getD, List.getElem?_eq_none (by omega)]; decide
theorem reps_y : ∀ {X : List Nat} {cs : List Value}, Reps kY X cs → ∀ x ∈ X, x < 256 := by
  intro X
  induction X with
  | nil => intro cs _ x hx; cases hx
  | cons a X ih =>
    intro cs h x hx
    obtain ⟨c, d, hc, ha, hd⟩ : ∃ c d, cs = c ++ d ∧ kY.rep a c ∧ Reps kY X d := by simpa [Reps] using h
    rcases List.mem_cons.1 hx with rfl | hx
    · exact ha.2
    · exact ih hd x hx
theorem Rd.bytes {w : World} {a : Option Addr} {n : Nat} {X : List Nat} (h : Rd w kY a n X) : ∀ x ∈ X, x < 256 := let ⟨_, _, h, _⟩ := h; reps_y h
theorem nxV_b {X : List Nat} (h : ∀ x ∈ X, x < 256) {p sd : Int} : 0 ≤ nxV X p sd ∧ nxV X p sd ≤ 255 := by
  unfold nxV
  split
  · unfold bY; split
    · exact byt_b h
    · omega
  · exact lo8_b _
/-- A choice among 'n'. -/
def pkV (X : List Nat) (n p sd : Int) : Int := nxV X p sd % n
theorem pkV_b {X : List Nat} {n p sd : Int} (h : 0 < n) : 0 ≤ pkV X n p sd ∧ pkV X n p sd < n := ⟨Int.emod_nonneg _ (by omega), Int.emod_lt_of_pos _ h⟩
theorem nx_cells {X : List Nat} {p sd t : Int} {v : Value} (h : bY X p = t) : [v, .int .i64 (p + 1), .int .u64 (IntKind.u64.wrap (IntKind.u64.wrap (IntKind.u64.wrap (sd * 6364136223846793005) + t) + 1442695040888963407))] = [v, .int .i64 (p + 1), .int .u64 (nxS X p sd)] := by
  subst h; rfl
theorem bY_in {X : List Nat} {n : Nat} {p : Int} (hl : X.length = n) (h : p < (n : Int)) : bY X p = byt X p := if_pos (by omega)
theorem bY_out {X : List Nat} {n : Nat} {p : Int} (hl : X.length = n) (h : ¬ p < (n : Int)) : bY X p = 0 := if_neg (by omega)
theorem nxV_in {X : List Nat} {n : Nat} {p sd t : Int} (hl : X.length = n) (h : p + 1 ≤ (n : Int)) (ht : bY X p = t) : t = nxV X p sd := by
  unfold nxV; rw [if_pos (by omega)]; exact ht.symm
theorem nxV_out {X : List Nat} {n : Nat} {p sd : Int} (hl : X.length = n) (h : ¬ p + 1 ≤ (n : Int)) : lo8 (nxS X p sd / 1099511627776) = nxV X p sd := by
  unfold nxV; rw [if_neg (by omega)]
/-- The seed behind so many choices. -/
def sdN (X : List Nat) : Nat → Int
  | 0 => 0
  | k + 1 => nxS X k (sdN X k)
def sdY (X : List Nat) (p : Int) : Int := sdN X p.toNat
theorem sdY_next {X : List Nat} {p : Int} (h : 0 ≤ p) : nxS X p (sdY X p) = sdY X (p + 1) := by
  unfold sdY
  rw [show (p + 1).toNat = p.toNat + 1 by omega]
  show _ = nxS X (p.toNat : Int) (sdN X p.toNat)
  rw [show ((p.toNat : Nat) : Int) = p by omega]
theorem sdY_cells {X : List Nat} {p : Int} {v : Value} (h : 0 ≤ p) : [v, .int .i64 (p + 1), .int .u64 (nxS X p (sdY X p))] = [v, .int .i64 (p + 1), .int .u64 (sdY X (p + 1))] := by rw [sdY_next h]
/-- Choice 'p' among 'n'. -/
def pk (X : List Nat) (n p : Int) : Int := nxV X p (sdY X p) % n
theorem pk_b (X : List Nat) {n : Int} (p : Int) (h : 0 < n) : 0 ≤ pk X n p ∧ pk X n p < n := ⟨Int.emod_nonneg _ (by omega), Int.emod_lt_of_pos _ h⟩
/-- A drawn sheet: the choice at which a cell begins, its speed and its loss. -/
def dwStep (X : List Nat) (plain : Bool) (p : Int) : Int := if plain = true then p else if decide (pk X 3 (p + 1) = 0) = true then p + 1 + 1 + 1 else p + 1 + 1
def dwN (X : List Nat) (plain : Bool) (p : Int) : Nat → Int
  | 0 => p
  | k + 1 => dwStep X plain (dwN X plain p k)
def dwP (X : List Nat) (plain : Bool) (p k : Int) : Int := dwN X plain p k.toNat
theorem dwP_zero {X : List Nat} {plain : Bool} {p : Int} : dwP X plain p 0 = p := rfl
theorem dwP_next {X : List Nat} {plain : Bool} {p k : Int} (h : 0 ≤ k) : dwStep X plain (dwP X plain p k) = dwP X plain p (k + 1) := by
  unfold dwP; rw [show (k + 1).toNat = k.toNat + 1 by omega]; rfl
theorem dwN_b (X : List Nat) (plain : Bool) (p : Int) : ∀ k : Nat, p ≤ dwN X plain p k ∧ dwN X plain p k ≤ p + 3 * (k : Int)
  | 0 => ⟨Int.le_refl _, by simp [dwN]⟩
  | k + 1 => by
    have := dwN_b X plain p k
    simp only [dwN, dwStep]
    split
    · omega
    · split <;> omega
theorem dwP_b (X : List Nat) (plain : Bool) (p : Int) {k : Int} (h : 0 ≤ k) : p ≤ dwP X plain p k ∧ dwP X plain p k ≤ p + 3 * k := by
  have := dwN_b X plain p k.toNat
  unfold dwP; omega
def dwSp (X : List Nat) (plain : Bool) (q : Int) : Nat := if plain = true then 1056964608 else fop .quo .f32 (FloatKind.nearest .f32 (pk X 9 q)) 1098907648
def dwLs (X : List Nat) (plain : Bool) (q : Int) : Nat := if plain = true then 0 else if decide (pk X 3 (q + 1) = 0) = true then fop .quo .f32 (FloatKind.nearest .f32 (pk X 9 (q + 1 + 1))) 1090519040 else 0
def dwSpL (X : List Nat) (plain : Bool) (p k : Int) : List Nat := tab k fun i => dwSp X plain (dwP X plain p i)
def dwLsL (X : List Nat) (plain : Bool) (p k : Int) : List Nat := tab k fun i => dwLs X plain (dwP X plain p i)
theorem dwSpL_len {X : List Nat} {plain : Bool} {p k : Int} : (dwSpL X plain p k).length = k.toNat := tab_length _ _
theorem dwLsL_len {X : List Nat} {plain : Bool} {p k : Int} : (dwLsL X plain p k).length = k.toNat := tab_length _ _
theorem dwSpL_next {X : List Nat} {plain : Bool} {p k : Int} {v : Nat} (h : 0 ≤ k) (hv : v = dwSp X plain (dwP X plain p k)) : dwSpL X plain p k ++ [v] = dwSpL X plain p (k + 1) := tab_snoc h hv
theorem dwLsL_next {X : List Nat} {plain : Bool} {p k : Int} {v : Nat} (h : 0 ≤ k) (hv : v = dwLs X plain (dwP X plain p k)) : dwLsL X plain p k ++ [v] = dwLsL X plain p (k + 1) := tab_snoc h hv
theorem dw_yes {X : List Nat} {q : Int} (h : decide (pk X 3 (q + 1) = 0) = true) : fop .quo .f32 (FloatKind.nearest .f32 (pk X 9 (q + 1 + 1))) 1090519040 = dwLs X false q ∧ q + 1 + 1 + 1 = dwStep X false q := by
  unfold dwLs dwStep; rw [h]; exact ⟨rfl, rfl⟩
theorem dw_no {X : List Nat} {q : Int} (h : decide (pk X 3 (q + 1) = 0) = false) : 0 = dwLs X false q ∧ q + 1 + 1 = dwStep X false q := by
  unfold dwLs dwStep; rw [h]; exact ⟨rfl, rfl⟩
theorem pos_cells {X : List Nat} {p q : Int} {v : Value} (h : p = q) : [v, .int .i64 p, .int .u64 (sdY X p)] = [v, .int .i64 q, .int .u64 (sdY X q)] := by rw [h]
end Go.Wv

/- Drawn sheets are valid. -/
namespace Go.Wv
theorem el_tab' {n i : Int} {g : Int → Nat} (h0 : 0 ≤ i) (h1 : i < n) : el (tab n g) i = g i := el_tab h0 h1
theorem dwSp_ok {v : Int} (h0 : 0 ≤ v) (h1 : v < 9) : fge .f32 (fop .quo .f32 (FloatKind.nearest .f32 v) 1098907648) 0 = true ∧ fle .f32 (fop .quo .f32 (FloatKind.nearest .f32 v) 1098907648) 1056964608 = true := by
  rcases (by omega : v = 0 ∨ v = 1 ∨ v = 2 ∨ v = 3 ∨ v = 4 ∨ v = 5 ∨ v = 6 ∨ v = 7 ∨ v = 8) with h | h | h | h | h | h | h | h | h <;> subst h <;> exact ⟨by kernel_rfl, by kernel_rfl⟩
theorem dwLs_ok {v : Int} (h0 : 0 ≤ v) (h1 : v < 9) : fge .f32 (fop .quo .f32 (FloatKind.nearest .f32 v) 1090519040) 0 = true ∧ fle .f32 (fop .quo .f32 (FloatKind.nearest .f32 v) 1090519040) 1065353216 = true := by
  rcases (by omega : v = 0 ∨ v = 1 ∨ v = 2 ∨ v = 3 ∨ v = 4 ∨ v = 5 ∨ v = 6 ∨ v = 7 ∨ v = 8) with h | h | h | h | h | h | h | h | h <;> subst h <;> exact ⟨by kernel_rfl, by kernel_rfl⟩
theorem dw_valid {X : List Nat} {pl : Bool} {p wd hi : Int} (h1 : 3 ≤ wd) (h2 : wd ≤ 6) (h3 : 3 ≤ hi) (h4 : hi ≤ 6) : validS wd hi (dwSpL X pl p (wd * hi)) (dwLsL X pl p (wd * hi)) = true := by
  have hm := mul16 (a := wd) (b := hi) (by omega)
  refine validS_yes (sides_of (by simp [within]; omega) (by simp [within]; omega)) (by rw [dwSpL_len]; omega) (by rw [dwLsL_len]; omega) fun i h0 h1 => ?_
  rw [Bool.and_eq_true]
  have e1 : el (dwSpL X pl p (wd * hi)) i = dwSp X pl (dwP X pl p i) := el_tab' h0 h1
  have e2 : el (dwLsL X pl p (wd * hi)) i = dwLs X pl (dwP X pl p i) := el_tab' h0 h1
  generalize dwP X pl p i = q at e1 e2
  constructor
  · refine betw_yes ?_ ?_ <;> rw [e1] <;> unfold dwSp <;> split
    · kernel_rfl
    · exact (dwSp_ok (pk_b X q (by decide)).1 (pk_b X q (by decide)).2).1
    · kernel_rfl
    · exact (dwSp_ok (pk_b X q (by decide)).1 (pk_b X q (by decide)).2).2
  · refine betw_yes ?_ ?_ <;> rw [e2] <;> unfold dwLs <;> split
    · kernel_rfl
    · split
      · exact (dwLs_ok (pk_b X _ (by decide)).1 (pk_b X _ (by decide)).2).1
      · kernel_rfl
    · kernel_rfl
    · split
      · exact (dwLs_ok (pk_b X _ (by decide)).1 (pk_b X _ (by decide)).2).2
      · kernel_rfl
/-- A number below 'n' that a byte of the input chooses. -/
def r8A (X : List Nat) (k n : Int) : Int := if n ≤ 1 ∨ (X.length : Int) ≤ k then 0 else byt X k % n
theorem r8A_b (X : List Nat) (k : Int) {n : Int} (h : 1 ≤ n) : 0 ≤ r8A X k n ∧ r8A X k n < n := by
  unfold r8A
  split
  · omega
  · exact ⟨Int.emod_nonneg _ (by omega), Int.emod_lt_of_pos _ (by omega)⟩
theorem r8A_zero {X : List Nat} {k n : Int} {m : Nat} (hl : X.length = m) (h : n ≤ 1 ∨ (m : Int) ≤ k) : r8A X k n = 0 := if_pos (by omega)
theorem r8A_at {X : List Nat} {k n : Int} {m : Nat} (hl : X.length = m) (h0 : ¬ n ≤ 1) (h1 : ¬ (m : Int) ≤ k) : r8A X k n = byt X k % n := if_neg (by omega)
/-- A struct of two numbers, of which the compiler's '==' asks both. -/
def intB (P : Program) (t : Nat) : Bool :=
  match P.underlying t with
  | some (.int .i64) => oneB P t
  | _ => false
def eq2B (P : Program) (T : Nat) : Bool :=
  match P.underlying T with
  | some (.struct fs) => match fs.toList with
    | [f, g] => f.name != "_" && g.name != "_" && f.offset == 0 && g.offset == 1 && intB P f.type && intB P g.type && !P.stoodInHeld T && !P.eqGuardType P.depth T
    | _ => false
  | _ => false
section
variable {P : Program} {ρ : Env} {w : World} {d : Option Tmp} {ty : TypeId} {pos : String} {aft : Array Edge} {g : Option (Nat × Bool)} {x y : Operand}
theorem intB_spec {t : Nat} (h : intB P t = true) : P.underlying t = some (.int .i64) ∧ oneB P t = true := by
  unfold intB at h
  split at h
  · rename_i hu; exact ⟨hu, h⟩
  · cases h
theorem run_part1 {t off : Nat} {cs : Array Value} {v : Value} (h : oneB P t = true) (hv : cs[off]? = some v) : (part t cs off).run P w = .ok v w := by
  obtain ⟨_, i, hu, hi, hs, ha⟩ := oneB_spec h
  simp [part, ha, hv]
theorem eq2_run {T : Nat} {a b a' b' : Int} (h : eq2B P T = true) : (Op.equalIn 10000 T (.agg #[.int .i64 a, .int .i64 b]) (.agg #[.int .i64 a', .int .i64 b'])).run P w = .ok (a == a' && b == b') w ∧ P.eqGuardType P.depth T = false := by
  unfold eq2B at h
  split at h
  · rename_i fs hu
    split at h
    · rename_i f g hf
      simp only [Bool.and_eq_true, Bool.not_eq_true', bne_iff_ne, beq_iff_eq, ne_eq] at h
      obtain ⟨⟨⟨⟨⟨⟨⟨n0, n1⟩, o0⟩, o1⟩, t0⟩, t1⟩, hp⟩, hg⟩ := h
      refine ⟨?_, hg⟩
      have hF : P.fieldsOf T = fs := by simp [Program.fieldsOf, hu]
      obtain ⟨u0, i0⟩ := intB_spec t0
      obtain ⟨u1, i1⟩ := intB_spec t1
      have q0 (c d : Int) : (part f.type #[.int .i64 c, .int .i64 d] f.offset).run P w = .ok (.int .i64 c) w := run_part1 i0 (by rw [o0]; rfl)
      have q1 (c d : Int) : (part g.type #[.int .i64 c, .int .i64 d] g.offset).run P w = .ok (.int .i64 d) w := run_part1 i1 (by rw [o1]; rfl)
      rw [run_equalIn_struct w 9999 T _ _ (by rw [hF]; exact hu) hp, hF, hf]
      have e0 := run_equalIn_int w 9998 f.type .i64 .i64 a a' u0
      have e1 := run_equalIn_int w 9998 g.type .i64 .i64 b b' u1
      generalize (a == a') = s at e0 ⊢
      generalize (b == b') = t at e1 ⊢
      simp only [Op.eqFields, ne_eq, n0, n1, not_false_eq_true, if_true, Sem.run_bind, q0, Result.andThen_ok, e0]
      cases s
      · simp
      · simp only [Bool.not_true, Bool.false_eq_true, if_false, Sem.run_bind, q1, Result.andThen_ok, e1]
        cases t <;> simp
    · cases h
  · cases h
theorem y_neq2 {T U : Nat} {a b a' b' : Int} {t : Bool} (h : eq2B P T = true) (hx : ev ρ x = .agg #[.int .i64 a, .int .i64 b]) (hy : ev ρ y = .agg #[.int .i64 a', .int .i64 b']) (ht : (!(a == a' && b == b')) = t) : Yv P ρ ⟨d, .binOp .neq T x y U, ty, pos, aft, g⟩ (.bool t) w := by
  obtain ⟨h1, h2⟩ := eq2_run (w := w) (a := a) (b := b) (a' := a') (b' := b') h
  subst ht
  simp [Yv, execOp, hx, hy, run_eqGuard_agg w _ _ _ _ _ _ h2, run_neq_struct, h1]
end
theorem ringP_of {x y far u v : Int} {t : Bool} (h : decide (max (max (u - x) (x - u)) (max (v - y) (y - v)) = far) = t) : ringP x y far u v = t := by
  rw [← h]; unfold ringP
  congr 1
  apply propext
  constructor <;> intro h <;> omega
theorem ring_far {wd hi x y far : Int} {P L : List Nat} (hv : validS wd hi P L = true) (h0 : 0 ≤ x) (h1 : x < wd) (h2 : 0 ≤ y) (h3 : y < hi) (h4 : 1 ≤ far) (h5 : far ≤ 16) (h : ¬ ringB wd hi P L x y far = true) : ¬ (ringL wd hi x y far).length ≤ 8 := by
  intro hl
  apply h
  simp [ringB, vcellB, cellB, within, hv, hl]
  omega
theorem ring_probes {wd hi x y far : Int} : ∀ q ∈ ringL wd hi x y far, 0 ≤ q.1 ∧ q.1 < wd ∧ 0 ≤ q.2 ∧ q.2 < hi := by
  intro q hq
  have row : ∀ (u0 : Int) (p : Int → Bool) (n : Nat), ∀ u ∈ rowN u0 p n, u0 ≤ u ∧ u < u0 + n := by
    intro u0 p n
    induction n with
    | zero => intro u hu; cases hu
    | succ n ih =>
      intro u hu
      simp only [rowN, List.mem_append] at hu
      rcases hu with hu | hu
      · have := ih u hu; omega
      · split at hu
        · rw [List.mem_singleton] at hu; omega
        · cases hu
  have box : ∀ (u0 v0 : Int) (nu : Nat) (p : Int → Int → Bool) (n : Nat), ∀ q ∈ boxN u0 v0 nu p n, (u0 ≤ q.1 ∧ q.1 < u0 + nu) ∧ v0 ≤ q.2 ∧ q.2 < v0 + n := by
    intro u0 v0 nu p n
    induction n with
    | zero => intro q hq; cases hq
    | succ n ih =>
      intro q hq
      simp only [boxN, List.mem_append, List.mem_map] at hq
      rcases hq with hq | ⟨u, hu, rfl⟩
      · have := ih q hq; omega
      · have := row _ _ _ u hu
        exact ⟨this, by show v0 ≤ v0 + (n : Int); omega, by show v0 + (n : Int) < v0 + ((n + 1 : Nat) : Int); omega⟩
  have := box _ _ _ _ _ q hq
  omega
theorem ring_areProbes {wd hi x y far : Int} {P L : List Nat} (hv : validS wd hi P L = true) (hl : (ringL wd hi x y far).length ≤ 8) : areProbesB wd hi P L (ringL wd hi x y far) = true := by
  refine probesB_yes hv hl fun i h0 h1 => ?_
  have hi' : i.toNat < (ringL wd hi x y far).length := by omega
  have := ring_probes _ (List.getElem_mem hi')
  rw [show gl (ringL wd hi x y far) i = (ringL wd hi x y far)[i.toNat] by unfold gl; rw [List.getD_eq_getElem?_getD, List.getElem?_eq_getElem hi']; rfl]
  simp [cellB, within]
  omega
end Go.Wv

/- Numbers out of their bits. -/
namespace Go.Wv
theorem u32_wid (n : Int) : (IntKind.u32.wrap n).toNat < wid .f32 := by
  show _ < 4294967296
  rw [show IntKind.u32.wrap n = n % 4294967296 from rfl]
  omega
def frombitsB (P : Program) (f : Nat) : Prop := ∃ fn, P.funcs[f]? = some fn ∧ (fn.name == "runtime.NumGoroutine") = false ∧ fn.body.isNone = true ∧ (Extern.findNext fn).isNone = true ∧ Extern.find fn = some Extern.MathFloatBits.float32frombits
section
variable {P : Program} {ρ : Env} {w : World} {d : Option Tmp} {ty : TypeId} {pos : String} {aft : Array Edge} {g : Option (Nat × Bool)} {x : Operand} {K : Value → World → Prop}
theorem k_frombits {f : Nat} {as : List Operand} {ts : Array TypeId} {n : Int} (h : frombitsB P f) (ha : as.map (ev ρ) = [.int .u32 n]) (k : K (.float .f32 n.toNat) w) :
    opk P ⟨d, .call { callee := .value (.func f), args := as.toArray, argTypes := ts }, ty, pos, aft, g⟩ ρ w K := by
  obtain ⟨fn, hf, h1, h2, h3, h4⟩ := h
  have h3' : Extern.findNext fn = none := by simpa using h3
  have he : Extern.MathFloatBits.float32frombits #[.int .u32 n] = pure (.float .f32 n.toNat) := rfl
  have hr : (callFunc f #[.int .u32 n]).run P w = .ok (.value (.float .f32 n.toNat)) w := by
    have n1 : ¬ fn.name = "runtime.NumGoroutine" := by simpa using h1
    have n2 : fn.body = none := by simpa using h2
    simp [callFunc, hf, n1, n2, h3', h4, he]
  have hm : as.toArray.map (ev ρ) = #[.int .u32 n] := by rw [List.map_toArray, ha]
  unfold opk
  simp only [execOp, resolve, Sem.run_bind, Sem.run_pure, Deferred.ofValue, ev, Result.andThen_ok, invoke, Array.empty_append, Array.append_empty, hm, hr]
  exact k
end
end Go.Wv

/- Drawn fields. -/
namespace Go.Wv
section
variable {wd hi i : Int} {E X Y E' X' Y' : List Nat}
/-- One cell of a drawn field: what lies before it stays, it has zeros where it must. -/
theorem edge_step (hE : ∀ j, 0 ≤ j → j < i → el E' j = el E j) (hX : ∀ j, 0 ≤ j → j < i → el X' j = el X j) (hY : ∀ j, 0 ≤ j → j < i → el Y' j = el Y j)
    (h : ∀ j, 0 ≤ j → j < i → edgeB wd hi E X Y (j % wd) (j / wd) j = false) (h1 : bordB wd hi false (i % wd) (i / wd) = true → el E' i = 0) (h2 : i / wd = hi - 1 → el X' i = 0) (h3 : i % wd = wd - 1 → el Y' i = 0) :
    ∀ j, 0 ≤ j → j < i + 1 → edgeB wd hi E' X' Y' (j % wd) (j / wd) j = false := fun j h4 h5 => by
  by_cases e : j = i
  · subst e
    have hz : fne .f32 0 0 = false := by kernel_rfl
    unfold edgeB
    have a1 : (bordB wd hi false (j % wd) (j / wd) && fne .f32 (el E' j) 0) = false := by
      cases hb : bordB wd hi false (j % wd) (j / wd)
      · rfl
      · rw [h1 hb, hz]; rfl
    have a2 : (decide (j / wd = hi - 1) && fne .f32 (el X' j) 0) = false := by
      by_cases hb : j / wd = hi - 1
      · rw [h2 hb, hz, Bool.and_false]
      · rw [decide_eq_false hb, Bool.false_and]
    have a3 : (decide (j % wd = wd - 1) && fne .f32 (el Y' j) 0) = false := by
      by_cases hb : j % wd = wd - 1
      · rw [h3 hb, hz, Bool.and_false]
      · rw [decide_eq_false hb, Bool.false_and]
    rw [a1, a2, a3]; rfl
  · have := h j h4 (by omega)
    unfold edgeB at this ⊢
    rw [hE j h4 (by omega), hX j h4 (by omega), hY j h4 (by omega)]
    exact this
end
theorem put_pre {xs : List Nat} {i : Int} {v n : Nat} (hl : xs.length = n) (h0 : 0 ≤ i) (h1 : i < (n : Int)) : ∀ j, 0 ≤ j → j < i → el (put xs i v) j = el xs j := fun j h2 h3 => by
  rw [el_put h0 (by omega) v j h2, if_neg (by omega)]
theorem put_self {xs : List Nat} {i : Int} {v n : Nat} (hl : xs.length = n) (h0 : 0 ≤ i) (h1 : i < (n : Int)) : el (put xs i v) i = v := by
  rw [el_put h0 (by omega) v i h0, if_pos rfl]
end Go.Wv

/- The sign of a number; numbers that are the same. -/
namespace Go.Wv
def f64bitsB (P : Program) (f : Nat) : Prop := ∃ fn, P.funcs[f]? = some fn ∧ (fn.name == "runtime.NumGoroutine") = false ∧ fn.body.isNone = true ∧ (Extern.findNext fn).isNone = true ∧ Extern.find fn = some Extern.MathFloatBits.float64bits
section
variable {P : Program} {ρ : Env} {w : World} {d : Option Tmp} {ty : TypeId} {pos : String} {aft : Array Edge} {g : Option (Nat × Bool)} {x : Operand} {K : Value → World → Prop}
theorem k_f64bits {f : Nat} {as : List Operand} {ts : Array TypeId} {b : Nat} (h : f64bitsB P f) (ha : as.map (ev ρ) = [.float .f64 b]) (k : K (.int .u64 (b : Int)) w) :
    opk P ⟨d, .call { callee := .value (.func f), args := as.toArray, argTypes := ts }, ty, pos, aft, g⟩ ρ w K := by
  obtain ⟨fn, hf, h1, h2, h3, h4⟩ := h
  have h3' : Extern.findNext fn = none := by simpa using h3
  have he : Extern.MathFloatBits.float64bits #[.float .f64 b] = pure (.int .u64 (b : Int)) := rfl
  have hr : (callFunc f #[.float .f64 b]).run P w = .ok (.value (.int .u64 (b : Int))) w := by
    have n1 : ¬ fn.name = "runtime.NumGoroutine" := by simpa using h1
    have n2 : fn.body = none := by simpa using h2
    simp [callFunc, hf, n1, n2, h3', h4, he]
  have hm : as.toArray.map (ev ρ) = #[.float .f64 b] := by rw [List.map_toArray, ha]
  unfold opk
  simp only [execOp, resolve, Sem.run_bind, Sem.run_pure, Deferred.ofValue, ev, Result.andThen_ok, invoke, Array.empty_append, Array.append_empty, hm, hr]
  exact k
end
/-- A number of 64 bits, not a not-a-number, has its sign set. -/
def sgnB (R : Nat) : Bool := decide (IntKind.i64.wrap (R : Int) < 0)
theorem sgn_can {r R : Nat} (h0 : Cn .f64 r R) (hn : nanb .f64 R = false) : IntKind.i64.wrap (r : Int) = IntKind.i64.wrap (R : Int) := by
  obtain ⟨h, _⟩ := h0
  subst h
  rw [nanb_can] at hn
  rw [can_of_not' hn, IntKind.wrap_i64, IntKind.wrap_i64]
  have : wid .f64 = 18446744073709551616 := by decide
  rw [this]
  omega
def sameN (A B : Nat) : Bool := if (fne .f32 A A || fne .f32 B B) = true then fne .f32 A A && fne .f32 B B else feq .f32 A B && (sgnB (widen A) == sgnB (widen B))
theorem sameN_refl (A : Nat) : sameN A A = true := by
  unfold sameN
  cases h : fne .f32 A A
  · have : feq .f32 A A = true := by
      unfold fne at h; unfold feq
      simpa using h
    simp [this]
  · simp
open Ieee in
theorem widen_num {b : Nat} (h : nanb .f32 b = false) : nanb .f64 (widen b) = false := by
  rcases read32 b with ⟨s, m, p, hr, h1, h2, h3⟩ | ⟨s, hr⟩ | ⟨s, t, hr⟩
  · obtain ⟨r, e1, e2⟩ := wide_rung s m p h1 h2 h3
    have hinf : (double.read (double.write (.number s m p))).isInfinity = false := by
      rw [e1, read_rung _ _ (Nat.lt_trans e2 (Format.infRung_lt _))]; exact mkR_inf _ _ e2
    have hb : floatToFloatBits .f32 b .f64 = some (double.write (.number s m p)) := by
      unfold floatToFloatBits
      rw [if_neg (by decide)]
      show (match single.read b with | .nan _ _ => none | .infinity s => some (double.write (.infinity s)) | .number s m e => if (double.read (double.write (.number s m e))).isInfinity then none else some (double.write (.number s m e))) = _
      rw [hr]; simp only [hinf]; rfl
    unfold widen; rw [hb]; exact nanb_write (k := .f64) (d := .number s m p) rfl
  · have hb : floatToFloatBits .f32 b .f64 = some (double.write (.infinity s)) := by
      unfold floatToFloatBits
      rw [if_neg (by decide)]
      show (match single.read b with | .nan _ _ => none | .infinity s => some (double.write (.infinity s)) | .number s m e => if (double.read (double.write (.number s m e))).isInfinity then none else some (double.write (.number s m e))) = _
      rw [hr]
    unfold widen; rw [hb]; exact nanb_write (k := .f64) (d := .infinity s) rfl
  · exfalso
    have : (single.read b).isNaN = false := h
    rw [hr] at this; cases this
theorem widen_ok {b : Nat} (h : ¬ fne .f32 b b = true) : nanb .f64 (widen b) = false := widen_num (by rw [← fne_self]; simpa using h)
/-- Lists of numbers that are the same. -/
def sameL (X Y : List Nat) : Bool := decide (X.length = Y.length) && allI X.length fun i => sameN (el X i) (el Y i)
theorem sameL_yes {X Y : List Nat} (hl : X.length = Y.length) (h : ∀ i, 0 ≤ i → i < (X.length : Int) → sameN (el X i) (el Y i) = true) : sameL X Y = true := by
  simp only [sameL, hl, decide_true, Bool.true_and]; exact allI_true (fun i h0 h1 => h i h0 (by omega))
theorem sameL_no {X Y : List Nat} {i : Int} (h0 : 0 ≤ i) (h1 : i < (X.length : Int)) (h : ¬ sameN (el X i) (el Y i) = true) : sameL X Y = false := by
  simp only [sameL, Bool.and_eq_false_iff]; exact .inr (allI_false h0 h1 h)
theorem sameL_n {X Y : List Nat} (h : X.length ≠ Y.length) : sameL X Y = false := by simp [sameL, h]
theorem sameL_refl (X : List Nat) : sameL X X = true := sameL_yes rfl fun _ _ _ => sameN_refl _
end Go.Wv

/- Mirrored twice, exchanged twice, shifted forth and back: as it was. -/
namespace Go.Wv
theorem el_movL {W H x y : Int} {g : Int → Int → Int} {X : List Nat} (h0 : 0 ≤ x) (h1 : x < W) (h2 : 0 ≤ y) (h3 : y < H) : el (movL W H g X) (x + W * y) = el X (g x y) := by
  have h4 := row_lt h0 h1 h2 h3
  have h5 := divmod_row (y := y) h0 h1
  unfold movL
  rw [el_tab h4.1 h4.2, h5.1, h5.2]
theorem movL_id {W H W' H' : Int} {g g' : Int → Int → Int} {X : List Nat} (hl : (X.length : Int) = W * H) (hW : 0 < W)
    (hc : ∀ x y, 0 ≤ x → x < W → 0 ≤ y → y < H → ∃ x' y', (0 ≤ x' ∧ x' < W' ∧ 0 ≤ y' ∧ y' < H') ∧ g' x y = x' + W' * y' ∧ g x' y' = x + W * y) : movL W H g' (movL W' H' g X) = X := by
  refine (tab_of hl fun i h0 h1 => ?_).symm
  have hx := rem_b (x := i) (m := W) h0 hW
  have hy0 : 0 ≤ i / W := Int.ediv_nonneg h0 (by omega)
  have hy1 : i / W < H := Int.ediv_lt_of_lt_mul hW (by rw [Int.mul_comm]; exact h1)
  obtain ⟨x', y', ⟨a1, a2, a3, a4⟩, e1, e2⟩ := hc (i % W) (i / W) hx.1 hx.2 hy0 hy1
  rw [e1, el_movL a1 a2 a3 a4, e2, Int.emod_add_mul_ediv]
theorem mir_mir {wd hi : Int} {X : List Nat} (hl : (X.length : Int) = wd * hi) (hW : 0 < wd) : mirS wd hi (mirS wd hi X) = X :=
  movL_id hl hW fun x y a b c d => ⟨wd - 1 - x, y, ⟨by omega, by omega, c, d⟩, rfl, by omega⟩
theorem swp_swp {wd hi : Int} {X : List Nat} (hl : (X.length : Int) = wd * hi) (hW : 0 < wd) : swpS hi wd (swpS wd hi X) = X :=
  movL_id hl hW fun x y a b c d => ⟨y, x, ⟨c, d, a, b⟩, rfl, rfl⟩
theorem shf_shf {wd hi dx dy : Int} {X : List Nat} (hl : (X.length : Int) = wd * hi) (hW : 0 < wd) (hH : 0 < hi) : shfS wd hi (-dx) (-dy) (shfS wd hi dx dy X) = X := by
  refine movL_id hl hW fun x y a b c d => ⟨(x - -dx) % wd, (y - -dy) % hi, ⟨Int.emod_nonneg _ (by omega), Int.emod_lt_of_pos _ hW, Int.emod_nonneg _ (by omega), Int.emod_lt_of_pos _ hH⟩, rfl, ?_⟩
  have e (z m k : Int) (h0 : 0 ≤ z) (h1 : z < m) : ((z - -k) % m - k) % m = z := by
    rw [Int.emod_sub_emod, show z - -k - k = z by omega, Int.emod_eq_of_lt h0 h1]
  show ((x - -dx) % wd - dx) % wd + wd * (((y - -dy) % hi - dy) % hi) = x + wd * y
  rw [e x wd dx a b, e y hi dy c d]
theorem fneg_fneg {k : FloatKind} {x : Nat} (h : can k x = x) : fneg k (fneg k x) = x := by
  by_cases hn : nanb k x = true
  · have e : fneg k x = qnan k := by unfold fneg; rw [if_pos hn]
    rw [e]; unfold fneg; rw [if_pos (nanb_qnan k), ← h, can_of_nan hn]
  · have e : fneg k x = Op.negFloat k x := by unfold fneg; rw [if_neg hn]
    rw [e]; unfold fneg; rw [nanb_neg, if_neg hn]
    unfold Op.negFloat
    rw [Nat.xor_assoc, Nat.xor_self, Nat.xor_zero]
/-- All elements are as they are told. -/
def canL (X : List Nat) : Prop := ∀ x ∈ X, can .f32 x = x
theorem reps_can : ∀ {X : List Nat} {cs : List Value}, Reps kF X cs → canL X := by
  intro X
  induction X with
  | nil => intro cs _ x hx; cases hx
  | cons a X ih =>
    intro cs h x hx
    obtain ⟨c, d, hc, ha, hd⟩ : ∃ c d, cs = c ++ d ∧ kF.rep a c ∧ Reps kF X d := by simpa [Reps] using h
    rcases List.mem_cons.1 hx with rfl | hx
    · obtain ⟨r, _, hr⟩ := ha; rw [← hr.1, can_can]
    · exact ih hd x hx
theorem Rd.can {w : World} {a : Option Addr} {n : Nat} {X : List Nat} (h : Rd w kF a n X) : canL X := let ⟨_, _, h, _⟩ := h; reps_can h
theorem canL_el {X : List Nat} {i : Int} (h : canL X) (h0 : 0 ≤ i) (h1 : i < (X.length : Int)) : can .f32 (el X i) = el X i := by
  have h2 : i.toNat < X.length := by omega
  have := h _ (List.getElem_mem h2)
  rw [show el X i = X[i.toNat] by have := el_get h0 h1; rw [List.getElem?_eq_getElem h2] at this; simpa using this.symm]
  exact this
theorem mirY_mirY {wd hi : Int} {X : List Nat} (hc : canL X) (hl : (X.length : Int) = wd * hi) (hW : 0 < wd) : mirY wd hi (mirY wd hi X) = X := by
  refine (tab_of hl fun i h0 h1 => ?_).symm
  have hx := rem_b (x := i) (m := wd) h0 hW
  have hy0 : 0 ≤ i / wd := Int.ediv_nonneg h0 (by omega)
  have hy1 : i / wd < hi := Int.ediv_lt_of_lt_mul hW (by rw [Int.mul_comm]; exact h1)
  have e := Int.emod_add_mul_ediv i wd
  generalize i % wd = x at *
  generalize i / wd = y at *
  have hq0 : 0 ≤ (2 * wd - 2 - x) % wd := Int.emod_nonneg _ (by omega)
  have hq1 : (2 * wd - 2 - x) % wd < wd := Int.emod_lt_of_pos _ hW
  have h4 := row_lt hq0 hq1 hy0 hy1
  have h5 := divmod_row (y := y) hq0 hq1
  unfold mirY
  rw [el_tab h4.1 h4.2, h5.1, h5.2]
  have hb : (2 * wd - 2 - (2 * wd - 2 - x) % wd) % wd = x := by
    rw [Int.sub_emod_emod, show 2 * wd - 2 - (2 * wd - 2 - x) = x by omega, Int.emod_eq_of_lt hx.1 hx.2]
  rw [hb, e, fneg_fneg (canL_el hc h0 (by omega))]
theorem negL_swp {wd hi : Int} {X : List Nat} (hc : canL X) (hl : (X.length : Int) = wd * hi) (hW : 0 < wd) : negL (wd * hi) (swpS hi wd (negL (hi * wd) (swpS wd hi X))) = X := by
  refine (tab_of hl fun i h0 h1 => ?_).symm
  have hx := rem_b (x := i) (m := wd) h0 hW
  have hy0 : 0 ≤ i / wd := Int.ediv_nonneg h0 (by omega)
  have hy1 : i / wd < hi := Int.ediv_lt_of_lt_mul hW (by rw [Int.mul_comm]; exact h1)
  have e := Int.emod_add_mul_ediv i wd
  have h4 := row_lt hy0 hy1 hx.1 hx.2
  have h5 := row_lt hx.1 hx.2 hy0 hy1
  rw [show i = i % wd + wd * (i / wd) from e.symm]
  unfold swpS
  rw [el_movL hx.1 hx.2 hy0 hy1]
  unfold negL
  rw [el_tab h4.1 h4.2, el_movL hy0 hy1 hx.1 hx.2, e, fneg_fneg (canL_el hc h0 (by omega))]
theorem el_mov {W H i : Int} {g : Int → Int → Int} {X : List Nat} (h0 : 0 ≤ i) (h1 : i < W * H) : el (movL W H g X) i = el X (g (i % W) (i / W)) := by
  unfold movL; exact el_tab h0 h1
theorem betw_mov {M : Nat} {W H n : Int} {g : Int → Int → Int} {X : List Nat} (h : ∀ i, 0 ≤ i → i < n → betw M X i = true) (hW : 0 < W) (hg : ∀ x y, 0 ≤ x → x < W → 0 ≤ y → y < H → 0 ≤ g x y ∧ g x y < n) :
    ∀ i, 0 ≤ i → i < W * H → betw M (movL W H g X) i = true := fun i h0 h1 => by
  have hx := rem_b (x := i) (m := W) h0 hW
  have hy0 : 0 ≤ i / W := Int.ediv_nonneg h0 (by omega)
  have hy1 : i / W < H := Int.ediv_lt_of_lt_mul hW (by rw [Int.mul_comm]; exact h1)
  obtain ⟨a, b⟩ := hg _ _ hx.1 hx.2 hy0 hy1
  have := h _ a b
  unfold betw at this ⊢
  rw [el_mov h0 h1]; exact this
theorem movL_len' (W H : Int) (g : Int → Int → Int) (X : List Nat) : (movL W H g X).length = (W * H).toNat := tab_length _ _
theorem validS_mov {W H W' H' : Int} {g : Int → Int → Int} {P L : List Nat} (hv : validS W' H' P L = true) (hs : sidesB W H = true) (hg : ∀ x y, 0 ≤ x → x < W → 0 ≤ y → y < H → 0 ≤ g x y ∧ g x y < W' * H') : validS W H (movL W H g P) (movL W H g L) = true := by
  obtain ⟨_, _, _, h4, h5⟩ := validS_iff.1 hv
  obtain ⟨⟨⟨a, _⟩, _⟩, b, _⟩ := sides_b hs
  exact validS_iff.2 ⟨hs, by rw [movL_len']; omega, by rw [movL_len']; omega, betw_mov h4 (by omega) hg, betw_mov h5 (by omega) hg⟩
theorem validS_mir {wd hi : Int} {P L : List Nat} (hv : validS wd hi P L = true) : validS wd hi (mirS wd hi P) (mirS wd hi L) = true :=
  validS_mov hv (validS_iff.1 hv).1 fun x y a b c d => row_lt (by omega) (by omega) c d
theorem validS_swp {wd hi : Int} {P L : List Nat} (hv : validS wd hi P L = true) : validS hi wd (swpS wd hi P) (swpS wd hi L) = true := by
  have hs := (validS_iff.1 hv).1
  simp only [sidesB, Bool.and_eq_true] at hs
  exact validS_mov hv (sides_of hs.2 hs.1) fun x y a b c d => row_lt c d a b
theorem validS_shf {wd hi dx dy : Int} {P L : List Nat} (hv : validS wd hi P L = true) : validS wd hi (shfS wd hi dx dy P) (shfS wd hi dx dy L) = true := by
  have hb := (validS_b hv).1.1
  exact validS_mov hv (validS_iff.1 hv).1 fun x y a b c d => row_lt (Int.emod_nonneg _ (by omega)) (Int.emod_lt_of_pos _ (by omega)) (Int.emod_nonneg _ (by omega)) (Int.emod_lt_of_pos _ (by omega))
end Go.Wv

/- Mirrored, exchanged, shifted fields are fields. -/
namespace Go.Wv
open Ieee
theorem mkR_opp (f : Format) (s : Bool) (r : Nat) : (mkR f s r).opposite = mkR f (!s) r := by
  unfold mkR
  by_cases h1 : r < f.binade
  · rw [if_pos h1, if_pos h1]; rfl
  · rw [if_neg h1, if_neg h1]
    by_cases h2 : r < f.infRung
    · rw [if_pos h2, if_pos h2]; rfl
    · rw [if_neg h2, if_neg h2]
      by_cases h3 : r = f.infRung
      · rw [if_pos h3, if_pos h3]; rfl
      · rw [if_neg h3, if_neg h3]; rfl
/-- What a word with the other sign stands for. -/
theorem read_neg (k : FloatKind) (b : Nat) : k.format.read (Op.negFloat k b) = (k.format.read b).opposite := by
  rw [← read_mod k (Op.negFloat k b), neg_wid, ← read_mod k b]
  have hlt : b % wid k < 2 * k.format.signWeight := by rw [← wid_eq]; exact Nat.mod_lt _ (Nat.two_pow_pos _)
  generalize b % wid k = c at *
  unfold Op.negFloat
  rw [neg_word k.format c hlt, read_rung _ _ (Nat.mod_lt _ (Nat.two_pow_pos _))]
  exact (mkR_opp _ _ _).symm
theorem fne_feq {k : FloatKind} {x y : Nat} : fne k x y = !feq k x y := rfl
/-- Equal to nought. -/
theorem isz_read {k : FloatKind} {x : Nat} (h : feq k x 0 = true) : ∃ t j, k.format.read x = .number t 0 j := by
  cases hd : k.format.read x with
  | nan s t => unfold feq at h; rw [order_nan (by unfold nanb; rw [hd]; rfl)] at h; cases h
  | infinity s =>
    unfold feq at h
    rw [show k.format.order x 0 = (k.format.read x).order (k.format.read 0) from rfl, hd, read_zero] at h
    cases s <;> cases h
  | number t n j =>
    rw [feq_zero hd] at h
    obtain rfl : n = 0 := of_decide_eq_true h
    exact ⟨t, j, rfl⟩
theorem isz_of {k : FloatKind} {x : Nat} {t : Bool} {j : Int} (h : k.format.read x = .number t 0 j) : feq k x 0 = true := by
  rw [feq_zero h]; rfl
theorem isz_neg {k : FloatKind} {x : Nat} (h : feq k x 0 = true) : feq k (fneg k x) 0 = true := by
  obtain ⟨t, j, hr⟩ := isz_read h
  have hn : nanb k x = false := by unfold nanb; rw [hr]; rfl
  have e : fneg k x = Op.negFloat k x := by unfold fneg; rw [hn]; rfl
  rw [e]
  exact isz_of (t := !t) (j := j) (by rw [read_neg, hr]; rfl)
section
variable {wd hi : Int} {wr : Bool} {P L E X Y : List Nat}
/-- What a field that is not joined has at its edges. -/
theorem edge_iff {x y i : Int} : edgeB wd hi E X Y x y i = false ↔ (bordB wd hi false x y = true → feq .f32 (el E i) 0 = true) ∧ (y = hi - 1 → feq .f32 (el X i) 0 = true) ∧ (x = wd - 1 → feq .f32 (el Y i) 0 = true) := by
  unfold edgeB
  simp only [fne_feq, Bool.or_eq_false_iff, Bool.and_eq_false_iff, Bool.not_eq_false', decide_eq_false_iff_not]
  constructor
  · rintro ⟨⟨h1, h2⟩, h3⟩
    exact ⟨fun h => h1.resolve_left (by rw [h]; simp), fun h => h2.resolve_left (by simp [h]), fun h => h3.resolve_left (by simp [h])⟩
  · rintro ⟨h1, h2, h3⟩
    refine ⟨⟨?_, ?_⟩, ?_⟩
    · cases hb : bordB wd hi false x y
      · exact .inl rfl
      · exact .inr (h1 hb)
    · by_cases e : y = hi - 1
      · exact .inr (h2 e)
      · exact .inl e
    · by_cases e : x = wd - 1
      · exact .inr (h3 e)
      · exact .inl e
theorem edge_xy (h : fieldB wd hi false P L E X Y = true) {x y : Int} (h0 : 0 ≤ x) (h1 : x < wd) (h2 : 0 ≤ y) (h3 : y < hi) : edgeB wd hi E X Y x y (x + wd * y) = false := by
  have h4 := row_lt h0 h1 h2 h3
  have h5 := divmod_row (y := y) h0 h1
  have h6 := (fits_iff.1 (fieldB_iff.1 h).2).2.resolve_left (by simp) _ h4.1 h4.2
  rwa [h5.1, h5.2] at h6
theorem field_xy {P' L' E' X' Y' : List Nat} (hv : validS wd hi P' L' = true) (h1 : (E'.length : Int) = wd * hi) (h2 : (X'.length : Int) = wd * hi) (h3 : (Y'.length : Int) = wd * hi)
    (h : wr = false → ∀ x y, 0 ≤ x → x < wd → 0 ≤ y → y < hi → edgeB wd hi E' X' Y' x y (x + wd * y) = false) : fieldB wd hi wr P' L' E' X' Y' = true := by
  cases wr with
  | true => exact field_wrap hv h1 h2 h3
  | false =>
    refine field_yes hv h1 h2 h3 fun i h4 h5 => ?_
    have hb := (validS_b hv).1.1
    have hr := row_of h4 h5 (by omega)
    have := h rfl _ _ hr.1.1 hr.1.2 hr.2.1.1 hr.2.1.2
    rwa [hr.2.2] at this
theorem bord_iff {x y : Int} : bordB wd hi false x y = true ↔ x = 0 ∨ x = wd - 1 ∨ y = 0 ∨ y = hi - 1 := by
  simp only [bordB, Bool.not_false, Bool.true_and, Bool.or_eq_true, decide_eq_true_eq, or_assoc]
theorem el_mirY {x y : Int} (h0 : 0 ≤ x) (h1 : x < wd) (h2 : 0 ≤ y) (h3 : y < hi) : el (mirY wd hi Y) (x + wd * y) = fneg .f32 (el Y ((2 * wd - 2 - x) % wd + wd * y)) := by
  have h4 := row_lt h0 h1 h2 h3
  have h5 := divmod_row (y := y) h0 h1
  unfold mirY
  rw [el_tab h4.1 h4.2, h5.1, h5.2]
theorem el_negL {n i : Int} (h0 : 0 ≤ i) (h1 : i < n) : el (negL n X) i = fneg .f32 (el X i) := by
  unfold negL; rw [el_tab h0 h1]
theorem fieldB_mir (h : fieldB wd hi wr P L E X Y = true) : fieldB wd hi wr (mirS wd hi P) (mirS wd hi L) (mirS wd hi E) (mirS wd hi X) (mirY wd hi Y) = true := by
  have hb := fieldB_b h
  refine field_xy (validS_mir (fieldB_iff.1 h).1) ?_ ?_ ?_ fun hw x y h0 h1 h2 h3 => ?_
  · unfold mirS; rw [movL_len']; omega
  · unfold mirS; rw [movL_len']; omega
  · unfold mirY; rw [tab_length]; omega
  · subst hw
    have he := edge_iff.1 (edge_xy h (x := wd - 1 - x) (y := y) (by omega) (by omega) h2 h3)
    refine edge_iff.2 ⟨fun hc => ?_, fun hc => ?_, fun hc => ?_⟩
    · rw [mirS, el_movL h0 h1 h2 h3]
      refine he.1 (bord_iff.2 ?_)
      have := bord_iff.1 hc
      omega
    · rw [mirS, el_movL h0 h1 h2 h3]; exact he.2.1 hc
    · rw [el_mirY h0 h1 h2 h3]
      subst hc
      have hz := edge_iff.1 (edge_xy h (x := wd - 1) (y := y) (by omega) (by omega) h2 h3)
      rw [show 2 * wd - 2 - (wd - 1) = wd - 1 by omega, Int.emod_eq_of_lt (by omega) (by omega)]
      exact isz_neg (hz.2.2 rfl)
theorem fieldB_swp (h : fieldB wd hi wr P L E X Y = true) : fieldB hi wd wr (swpS wd hi P) (swpS wd hi L) (swpS wd hi E) (negL (wd * hi) (swpS wd hi Y)) (negL (wd * hi) (swpS wd hi X)) = true := by
  have hb := fieldB_b h
  have hcm := Int.mul_comm hi wd
  refine field_xy (validS_swp (fieldB_iff.1 h).1) ?_ ?_ ?_ fun hw x y h0 h1 h2 h3 => ?_
  · unfold swpS; rw [movL_len']; omega
  · unfold negL; rw [tab_length]; omega
  · unfold negL; rw [tab_length]; omega
  · subst hw
    have he := edge_iff.1 (edge_xy h (x := y) (y := x) (by omega) (by omega) h0 h1)
    have hr := row_lt (wd := hi) (hi := wd) h0 h1 h2 h3
    refine edge_iff.2 ⟨fun hc => ?_, fun hc => ?_, fun hc => ?_⟩
    · rw [swpS, el_movL h0 h1 h2 h3]
      refine he.1 (bord_iff.2 ?_)
      have := bord_iff.1 hc
      omega
    · rw [el_negL hr.1 (by omega), swpS, el_movL h0 h1 h2 h3]; exact isz_neg (he.2.2 hc)
    · rw [el_negL hr.1 (by omega), swpS, el_movL h0 h1 h2 h3]; exact isz_neg (he.2.1 hc)
theorem fieldB_shf {dx dy : Int} (h : fieldB wd hi true P L E X Y = true) : fieldB wd hi true (shfS wd hi dx dy P) (shfS wd hi dx dy L) (shfS wd hi dx dy E) (shfS wd hi dx dy X) (shfS wd hi dx dy Y) = true := by
  have hb := fieldB_b h
  refine field_wrap (validS_shf (fieldB_iff.1 h).1) ?_ ?_ ?_ <;> unfold shfS <;> rw [movL_len'] <;> omega
end
end Go.Wv

/- Laws on mirrors. -/
namespace Go.Wv
section
variable {P : Program} {ρ : Env} {w : World} {d : Option Tmp} {ty : TypeId} {pos : String} {aft : Array Edge} {g : Option (Nat × Bool)} {x : Operand}
theorem y_ineg {b c : Int} {T : Nat} (hx : ev ρ x = .int .i64 b) (hc : -b = c) (h : -9223372036854775808 ≤ c ∧ c ≤ 9223372036854775807) : Yv P ρ ⟨d, .unOp .neg T x, ty, pos, aft, g⟩ (.int .i64 c) w := by
  subst hc
  have : IntKind.i64.wrap (-b) = -b := by rw [IntKind.wrap_i64]; omega
  simp [Yv, execOp, hx, Op.unary, Op.intArith, this]
end
section
variable {wd hi dx dy : Int} {wr : Bool} {P L E X Y : List Nat}
theorem lenle {a : Int} (h : a ≤ 256) : a.toNat ≤ 9223372036854775807 := by omega
theorem lenle6 {a : Int} (h : a ≤ 256) : a.toNat ≤ 9223372036854775806 := by omega
theorem negL_swp' {n m : Int} (hc : canL X) (hl : (X.length : Int) = wd * hi) (hW : 0 < wd) (hn : n = wd * hi) (hm : m = wd * hi) : negL n (swpS hi wd (negL m (swpS wd hi X))) = X := by
  have e := negL_swp hc hl hW
  rw [Int.mul_comm hi wd] at e
  rw [hn, hm]; exact e
theorem len_of (h : fieldB wd hi wr P L E X Y = true) : 0 < wd ∧ 0 < hi ∧ (E.length : Int) = wd * hi ∧ (X.length : Int) = wd * hi ∧ (Y.length : Int) = wd * hi := by
  have := fieldB_b h; omega
theorem same_sheet {a b c d : Int} {wr : Bool} {P' L' : List Nat} (h1 : a = b) (h2 : c = d) (h3 : P' = P) (h4 : L' = L) : (decide (a = b) && decide (c = d) && (wr == wr) && sameL P' P && sameL L' L) = true := by
  subst h1; subst h2; subst h3; subst h4; simp [sameL_refl]
theorem same_field {E' X' Y' : List Nat} (h1 : E' = E) (h2 : X' = X) (h3 : Y' = Y) : (sameL E' E && sameL X' X && sameL Y' Y) = true := by
  subst h1; subst h2; subst h3; simp [sameL_refl]
theorem sh_mir (h : validS wd hi P L = true) : (decide (wd = wd) && decide (hi = hi) && (wr == wr) && sameL (mirS wd hi (mirS wd hi P)) P && sameL (mirS wd hi (mirS wd hi L)) L) = true := by
  have := validS_b h
  exact same_sheet rfl rfl (mir_mir this.2.1 (by omega)) (mir_mir this.2.2 (by omega))
theorem sh_swp (h : validS wd hi P L = true) : (decide (wd = wd) && decide (hi = hi) && (wr == wr) && sameL (swpS hi wd (swpS wd hi P)) P && sameL (swpS hi wd (swpS wd hi L)) L) = true := by
  have := validS_b h
  exact same_sheet rfl rfl (swp_swp this.2.1 (by omega)) (swp_swp this.2.2 (by omega))
theorem sh_shf (h : validS wd hi P L = true) : (decide (wd = wd) && decide (hi = hi) && (wr == wr) && sameL (shfS wd hi (-dx) (-dy) (shfS wd hi dx dy P)) P && sameL (shfS wd hi (-dx) (-dy) (shfS wd hi dx dy L)) L) = true := by
  have := validS_b h
  exact same_sheet rfl rfl (shf_shf this.2.1 (by omega) (by omega)) (shf_shf this.2.2 (by omega) (by omega))
theorem fd_mir (h : fieldB wd hi wr P L E X Y = true) (hc : canL Y) : (sameL (mirS wd hi (mirS wd hi E)) E && sameL (mirS wd hi (mirS wd hi X)) X && sameL (mirY wd hi (mirY wd hi Y)) Y) = true := by
  have := len_of h
  exact same_field (mir_mir (by omega) (by omega)) (mir_mir (by omega) (by omega)) (mirY_mirY hc (by omega) (by omega))
theorem fd_swp (h : fieldB wd hi wr P L E X Y = true) (hx : canL X) (hc : canL Y) : (sameL (swpS hi wd (swpS wd hi E)) E && sameL (negL (hi * wd) (swpS hi wd (negL (wd * hi) (swpS wd hi X)))) X && sameL (negL (hi * wd) (swpS hi wd (negL (wd * hi) (swpS wd hi Y)))) Y) = true := by
  have := len_of h
  exact same_field (swp_swp (by omega) (by omega)) (negL_swp' hx (by omega) (by omega) (Int.mul_comm _ _) rfl) (negL_swp' hc (by omega) (by omega) (Int.mul_comm _ _) rfl)
theorem fd_shf (h : fieldB wd hi wr P L E X Y = true) : (sameL (shfS wd hi (-dx) (-dy) (shfS wd hi dx dy E)) E && sameL (shfS wd hi (-dx) (-dy) (shfS wd hi dx dy X)) X && sameL (shfS wd hi (-dx) (-dy) (shfS wd hi dx dy Y)) Y) = true := by
  have := len_of h
  exact same_field (shf_shf (by omega) (by omega) (by omega)) (shf_shf (by omega) (by omega) (by omega)) (shf_shf (by omega) (by omega) (by omega))
theorem shB_no (h : wr = false) : shB wd hi wr P L dx dy = false := by subst h; simp [shB]
theorem shB_yes (h : validS wd hi P L = true) (h1 : -16 ≤ dx ∧ dx ≤ 16) (h2 : -16 ≤ dy ∧ dy ≤ 16) : shB wd hi true P L dx dy = true := by
  simp only [shB, h, within, Bool.true_and, Bool.and_eq_true, decide_eq_true_eq]; omega
theorem shfB_no (h : wr = false) : shfB wd hi wr P L E X Y dx dy = false := by unfold shfB; rw [shB_no h, Bool.false_and]
theorem shfB_yes (h : fieldB wd hi true P L E X Y = true) (h1 : -16 ≤ dx ∧ dx ≤ 16) (h2 : -16 ≤ dy ∧ dy ≤ 16) : shfB wd hi true P L E X Y dx dy = true := by
  unfold shfB; rw [shB_yes (fieldB_iff.1 h).1 h1 h2, h, Bool.true_and]
end
end Go.Wv

