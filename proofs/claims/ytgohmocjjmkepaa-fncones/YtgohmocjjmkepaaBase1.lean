/- Weakest preconditions over environments: the frame's temporaries are shown as a function from slots to values; a region that draws its order is walked in one order of the prover's choice, where what an operation yields may be one of many values. -/
import Derived.WalkKit
import Derived.Deep.Draws
set_option linter.unusedSimpArgs false
set_option linter.unusedVariables false
namespace Go.Wv

abbrev Env := Nat → Value
def upd (ρ : Env) (d : Nat) (v : Value) : Env := fun t => if t = d then v else ρ t
def ev (ρ : Env) : Operand → Value
  | .tmp t => ρ t
  | .const v => v
  | .global g => .pointer (some ⟨g, 0, none⟩)
  | .func f => .func (.func f) #[] #[]
def setd (ρ : Env) : Option Nat → Value → Env
  | some d, v => upd ρ d v
  | none, _ => ρ

/-- The frame 'a' of 'n' slots shows 'ρ'. -/
def Fr (n : Nat) (a : Act) (ρ : Env) : Prop := a.defers = [] ∧ a.tmps.size = n ∧ ∀ t, t < n → a.tmps[t]? = some (ρ t)

def okx (n : Nat) : Operand → Bool
  | .tmp t => decide (t < n)
  | _ => true
def okop (n : Nat) (ops : Array Oper) (o : Oper) : Bool :=
  (match o.op with | .select .. => false | _ => true) && o.op.operands.all (okx n) &&
  (match o.guard with
   | none => true
   | some (j, _) => match (ops[j]?).bind (·.dst) with
     | some d => decide (d < n)
     | none => true)
def okops (n : Nat) (ops : Array Oper) : Bool := ops.all (okop n ops)

theorem Fr.eval {n : Nat} {a : Act} {ρ : Env} (h : Fr n a ρ) {x : Operand} (hx : okx n x = true) : a.eval x = ev ρ x := by
  cases x with
  | tmp t =>
    have := h.2.2 t (by simpa [okx] using hx)
    simp [Act.eval, ev, this]
  | _ => rfl

theorem Fr.put {n : Nat} {a : Act} {ρ : Env} (h : Fr n a ρ) (d : Option Nat) (v : Value) : Fr n (a.put d v) (setd ρ d v) := by
  cases d with
  | none => exact h
  | some d =>
    refine ⟨h.1, by simp [Act.put, h.2.1], fun t ht => ?_⟩
    simp only [Act.put, setd, upd]
    by_cases e : t = d
    · subst e
      have : t < a.tmps.size := by rw [h.2.1]; exact ht
      simp [this]
    · rw [Array.getElem?_setIfInBounds_ne (fun x => e x.symm), h.2.2 t ht]
      simp [e]

theorem okop_spec {n : Nat} {ops : Array Oper} {o : Oper} (h : okop n ops o = true) :
    (∀ cs b, o.op ≠ .select cs b) ∧ (∀ x ∈ o.op.operands, okx n x = true) := by
  simp only [okop, Bool.and_eq_true] at h
  refine ⟨fun cs b e => ?_, fun x hx => ?_⟩
  · rw [e] at h; simp at h
  · exact Array.all_eq_true_iff_forall_mem.1 h.1.2 x hx

theorem Fr.exec {n : Nat} {a : Act} {ρ : Env} (h : Fr n a ρ) {ops : Array Oper} {o : Oper} (ho : okop n ops o = true) : execOp a.eval o = execOp (ev ρ) o :=
  execOp_congr o (okop_spec ho).1 fun x hx => h.eval ((okop_spec ho).2 x hx)

/-- Is the operation carried out? -/
def want (ops : Array Oper) (ρ : Env) (o : Oper) : Bool :=
  match o.guard with
  | none => true
  | some (j, b) => match (ops[j]?).bind (·.dst) with
    | some d => match ρ d with
      | .bool x => x == b
      | _ => false
    | none => false

theorem Fr.wanted {n : Nat} {a : Act} {ρ : Env} (h : Fr n a ρ) {ops : Array Oper} {o : Oper} (ho : okop n ops o = true) : Region.wanted o (yielded ops a.tmps) = want ops ρ o := by
  unfold Region.wanted want
  cases hg : o.guard with
  | none => rfl
  | some g =>
    obtain ⟨j, b⟩ := g
    simp only [yielded]
    cases hd : (ops[j]?).bind (·.dst) with
    | none => simp
    | some d =>
      have hdn : d < n := by
        simp only [okop, Bool.and_eq_true, hg, hd] at ho
        simpa using ho.2
      simp only [Option.bind_some, h.2.2 d hdn]
      cases ρ d <;> simp

def retK (K : Value → World → Prop) : Ending → World → Prop
  | .returned v, w => K v w
  | _, _ => False

/-- What an operation may do: it yields a value, or it calls a function that returns one. -/
def opk (P : Program) (o : Oper) (ρ : Env) (w : World) (K : Value → World → Prop) : Prop :=
  match (execOp (ev ρ) o).run P w with
  | .ok (.value v) w' => K v w'
  | .ok .skip w' => K undef w'
  | .ok (.enter f args) w' => Calls P f args w' (retK K)
  | _ => False

section
variable {P : Program}

theorem opk_mono {o : Oper} {ρ : Env} {w : World} {K K' : Value → World → Prop} (h : opk P o ρ w K) (hk : ∀ v w', K v w' → K' v w') : opk P o ρ w K' := by
  unfold opk at *
  generalize (execOp (ev ρ) o).run P w = r at *
  cases r with
  | ok n w' =>
    cases n <;> simp only at h ⊢
    · exact hk _ _ h
    · exact hk _ _ h
    · refine Calls.mono h fun e w'' he => ?_
      cases e <;> simp only [retK] at he ⊢
      exact hk _ _ he
  | halt x w' => exact h

theorem opk_some {o : Oper} {ρ : Env} {w : World} {K : Value → World → Prop} (h : opk P o ρ w K) : ∃ v w', K v w' := by
  unfold opk at h
  generalize (execOp (ev ρ) o).run P w = r at *
  cases r with
  | ok n w' =>
    cases n <;> simp only at h
    · exact ⟨_, _, h⟩
    · exact ⟨_, _, h⟩
    · obtain ⟨e, w'', fr, hR, _⟩ := h []
      cases e <;> simp only [retK] at hR
      exact ⟨_, _, hR⟩
  | halt x w' => exact h.elim

theorem opk_wp {n : Nat} {ops : Array Oper} {a : Act} {o : Oper} {ρ : Env} {w : World} {K : Value → World → Prop} {K' : Act → World → Prop} {Q' : Exit → Act → World → Prop}
    (hf : Fr n a ρ) (ho : okop n ops o = true) (h : opk P o ρ w K) (hk : ∀ v w', K v w' → K' (a.put o.dst v) w') : o.wp P a w K' Q' := by
  unfold Oper.wp
  rw [hf.exec ho]
  unfold opk at h
  generalize (execOp (ev ρ) o).run P w = r at *
  cases r with
  | ok n w' =>
    cases n <;> simp only [Oper.upon] at h ⊢
    · exact hk _ _ h
    · exact hk _ _ h
    · refine Calls.mono h fun e w'' he => ?_
      cases e <;> simp only [retK] at he ⊢
      exact hk _ _ he
  | halt x w' => exact h.elim

/-- The operations in their order. -/
def wpo (P : Program) (ops : Array Oper) (Q : Env → World → Prop) : List Oper → Env → World → Prop
  | [], ρ, w => Q ρ w
  | o :: rest, ρ, w =>
    if want ops ρ o = true then opk P o ρ w (fun v w' => wpo P ops Q rest (setd ρ o.dst v) w') else wpo P ops Q rest (setd ρ o.dst undef) w

theorem wpo_sound {n : Nat} {ops : Array Oper} {Q : Env → World → Prop} {Q' : Exit → Act → World → Prop} (hQ : ∀ a ρ w, Fr n a ρ → Q ρ w → Q' .normal a w) :
    ∀ (l : List Oper), (∀ o ∈ l, okop n ops o = true) → ∀ (a : Act) (ρ : Env) (w : World), Fr n a ρ → wpo P ops Q l ρ w → wpList P ops Q' l a w
  | [], _, a, ρ, w, hf, h => hQ a ρ w hf h
  | o :: rest, hl, a, ρ, w, hf, h => by
    have ho := hl o (by simp)
    have ih := wpo_sound (ops := ops) hQ rest (fun o' h' => hl o' (by simp [h']))
    unfold wpo at h
    unfold wpList
    rw [hf.wanted ho]
    split
    · rename_i hw
      rw [if_pos hw] at h
      exact .inl (opk_wp hf ho h fun v w' hk => ih _ _ _ (hf.put _ _) hk)
    · rename_i hw
      rw [if_neg hw] at h
      exact ih _ _ _ (hf.put _ _) h

/-- The code, over environments. -/
def W (P : Program) (n : Nat) (c : Code) (Q : Exit → Env → World → Prop) (ρ : Env) (w : World) : Prop :=
  ∀ a, Fr n a ρ → c.wp P (fun e a' w' => ∃ ρ', Fr n a' ρ' ∧ Q e ρ' w') a w

def seqQ (K : Env → World → Prop) (Q : Exit → Env → World → Prop) : Exit → Env → World → Prop
  | .normal, ρ, w => K ρ w
  | e, ρ, w => Q e ρ w

def blockQ (id : Nat) (Q : Exit → Env → World → Prop) : Exit → Env → World → Prop
  | .exit id', ρ, w => if id' = id then Q .normal ρ w else Q (.exit id') ρ w
  | e, ρ, w => Q e ρ w

section
variable {n : Nat} {Q : Exit → Env → World → Prop} {ρ : Env} {w : World}

theorem W_mono {c : Code} {Q' : Exit → Env → World → Prop} (h : W P n c Q ρ w) (hq : ∀ e ρ w, Q e ρ w → Q' e ρ w) : W P n c Q' ρ w :=
  fun a hf => Code.wp_mono (fun _ _ _ ⟨ρ', h1, h2⟩ => ⟨ρ', h1, hq _ _ _ h2⟩) (h a hf)

theorem W_skip (h : Q .normal ρ w) : W P n .skip Q ρ w := fun _ hf => wp_skip ⟨_, hf, h⟩
theorem W_ret (h : Q .ret ρ w) : W P n .ret Q ρ w := fun _ hf => wp_ret ⟨_, hf, h⟩
theorem W_exit {id : Nat} (h : Q (.exit id) ρ w) : W P n (.exit id) Q ρ w := fun _ hf => wp_exit ⟨_, hf, h⟩
theorem W_seq {x y : Code} (h : W P n x (seqQ (W P n y Q) Q) ρ w) : W P n (.seq x y) Q ρ w := fun a hf => by
  refine wp_seq (Code.wp_mono (fun e a' w' hq => ?_) (h a hf))
  obtain ⟨ρ', hf', hq⟩ := hq
  cases e <;> simp only [Exit.then, seqQ] at hq ⊢
  · exact hq a' hf'
  all_goals exact ⟨ρ', hf', hq⟩
theorem W_block {id : Nat} {c : Code} (h : W P n c (blockQ id Q) ρ w) : W P n (.block id c) Q ρ w := fun a hf => by
  refine wp_block (Code.wp_mono (fun e a' w' hq => ?_) (h a hf))
  obtain ⟨ρ', hf', hq⟩ := hq
  cases e <;> simp only [Exit.inBlock, blockQ] at hq ⊢
  case exit id' =>
    split
    · rename_i e; rw [if_pos e] at hq; exact ⟨ρ', hf', hq⟩
    · rename_i e; rw [if_neg e] at hq; exact ⟨ρ', hf', hq⟩
  all_goals exact ⟨ρ', hf', hq⟩
theorem W_if_t {t : Nat} {x y : Code} (ht : t < n) (hv : ρ t = .bool true) (h : W P n x Q ρ w) : W P n (.cond (.tmp t) x y) Q ρ w := fun a hf =>
  wp_cond_true (by rw [hf.eval (by simpa [okx] using ht)]; exact hv) (h a hf)
theorem W_if_f {t : Nat} {x y : Code} (ht : t < n) (hv : ρ t = .bool false) (h : W P n y Q ρ w) : W P n (.cond (.tmp t) x y) Q ρ w := fun a hf =>
  wp_cond_false (by rw [hf.eval (by simpa [okx] using ht)]; exact hv) (h a hf)
theorem least_of {p : Nat → Prop} (h : ∃ k, p k) : ∃ k, p k ∧ ∀ m, p m → k ≤ m := by
  obtain ⟨k, hk⟩ := h
  induction k using Nat.strongRecOn with
  | _ k ih =>
    by_cases hx : ∃ m, p m ∧ m < k
    · obtain ⟨m, hm, hlt⟩ := hx
      exact ih m hlt hm
    · exact ⟨k, hk, fun m hm => Nat.le_of_not_lt fun hlt => hx ⟨m, hm, hlt⟩⟩

open Classical in
noncomputable def leastN (p : Nat → Prop) : Nat := if h : ∃ k, p k then Classical.choose (least_of h) else 0
theorem leastN_spec {p : Nat → Prop} (h : ∃ k, p k) : p (leastN p) ∧ ∀ m, p m → leastN p ≤ m := by
  unfold leastN
  rw [dif_pos h]
  exact Classical.choose_spec (least_of h)

theorem W_loop {c : Code} (I : Env → World → Prop) (μ : Env → World → Nat) (h0 : I ρ w)
    (hr : ∀ ρ w, I ρ w → W P n c (seqQ (fun ρ' w' => I ρ' w' ∧ μ ρ' w' < μ ρ w) Q) ρ w) : W P n (.loop c) Q ρ w := fun a hf => by
  refine wp_loop (fun a w => ∃ ρ, Fr n a ρ ∧ I ρ w) (fun a w => leastN fun m => ∃ ρ, Fr n a ρ ∧ I ρ w ∧ μ ρ w = m) ⟨ρ, hf, h0⟩ ?_
  intro a w hI
  obtain ⟨⟨ρ1, hf1, hI1, hm1⟩, _⟩ := leastN_spec (p := fun m => ∃ ρ, Fr n a ρ ∧ I ρ w ∧ μ ρ w = m) (by obtain ⟨ρ, h1, h2⟩ := hI; exact ⟨_, ρ, h1, h2, rfl⟩)
  refine Code.wp_mono (fun e a' w' hq => ?_) (hr ρ1 w hI1 a hf1)
  obtain ⟨ρ', hf', hq⟩ := hq
  cases e <;> simp only [Exit.then, seqQ] at hq ⊢
  case normal =>
    refine ⟨⟨ρ', hf', hq.1⟩, ?_⟩
    have := (leastN_spec (p := fun m => ∃ ρ, Fr n a' ρ ∧ I ρ w' ∧ μ ρ w' = m) ⟨_, ρ', hf', hq.1, rfl⟩).2 _ ⟨ρ', hf', hq.1, rfl⟩
    rw [← hm1]
    exact Nat.lt_of_le_of_lt this hq.2
  all_goals exact ⟨ρ', hf', hq⟩

theorem W_region {id : Nat} {l : List Oper} (hok : okops n l.toArray = true) (h : wpo P l.toArray (Q .normal) l ρ w) : W P n (.region id l.toArray false) Q ρ w := fun a hf =>
  wp_region_lit (wpo_sound (Q := Q .normal) (fun _ ρ _ h1 h2 => ⟨ρ, h1, h2⟩) l (fun o ho => by simp only [okops, List.all_toArray, List.all_eq_true] at hok; exact hok o ho) a ρ w hf h)
end
end
end Go.Wv
