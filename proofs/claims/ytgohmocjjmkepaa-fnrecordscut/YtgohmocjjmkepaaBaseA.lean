/- Texts that the walks rest on, joined. -/
import Derived.WalkKit
import Derived.Deep.Draws
import Derived.Laws.FloatArith
import Derived.Laws.AppendOwn
set_option linter.unusedSimpArgs false
set_option linter.unusedVariables false
/- Weakest preconditions over environments: the frame's temporaries are shown as a function from slots to values; a region that draws its order is walked in one order of the prover's choice, where what an operation yields may be one of many values. -/
namespace Go.Wv

abbrev Env := Nat → Value
def upd (ρ : Env) (d : Nat) (v : Value) : Env := fun t => if t = d then v else ρ t
def ev (ρ : Env) : Operand → Value
  | .tmp t => ρ t
  | .const v => v
  | .global g => .pointer (some ⟨g, 0, none⟩)
  | .func f => .func (.func f) #[] #[]
def setd (ρ : Env) : Option Nat → Value → Env
  | some d, v => upd ρ d v
  | none, _ => ρ

/-- The frame 'a' of 'n' slots shows 'ρ'. -/
def Fr (n : Nat) (a : Act) (ρ : Env) : Prop := a.defers = [] ∧ a.tmps.size = n ∧ ∀ t, t < n → a.tmps[t]? = some (ρ t)

def okx (n : Nat) : Operand → Bool
  | .tmp t => decide (t < n)
  | _ => true
def okop (n : Nat) (ops : Array Oper) (o : Oper) : Bool :=
  (match o.op with | .select .. => false | _ => true) && o.op.operands.all (okx n) &&
  (match o.guard with
   | none => true
   | some (j, _) => match (ops[j]?).bind (·.dst) with
     | some d => decide (d < n)
     | none => true)
def okops (n : Nat) (ops : Array Oper) : Bool := ops.all (okop n ops)

theorem Fr.eval {n : Nat} {a : Act} {ρ : Env} (h : Fr n a ρ) {x : Operand} (hx : okx n x = true) : a.eval x = ev ρ x := by
  cases x with
  | tmp t =>
    have := h.2.2 t (by simpa [okx] using hx)
    simp [Act.eval, ev, this]
  | _ => rfl

theorem Fr.put {n : Nat} {a : Act} {ρ : Env} (h : Fr n a ρ) (d : Option Nat) (v : Value) : Fr n (a.put d v) (setd ρ d v) := by
  cases d with
  | none => exact h
  | some d =>
    refine ⟨h.1, by simp [Act.put, h.2.1], fun t ht => ?_⟩
    simp only [Act.put, setd, upd]
    by_cases e : t = d
    · subst e
      have : t < a.tmps.size := by rw [h.2.1]; exact ht
      simp [this]
    · rw [Array.getElem?_setIfInBounds_ne (fun x => e x.symm), h.2.2 t ht]
      simp [e]

theorem okop_spec {n : Nat} {ops : Array Oper} {o : Oper} (h : okop n ops o = true) :
    (∀ cs b, o.op ≠ .select cs b) ∧ (∀ x ∈ o.op.operands, okx n x = true) := by
  simp only [okop, Bool.and_eq_true] at h
  refine ⟨fun cs b e => ?_, fun x hx => ?_⟩
  · rw [e] at h; simp at h
  · exact Array.all_eq_true_iff_forall_mem.1 h.1.2 x hx

theorem Fr.exec {n : Nat} {a : Act} {ρ : Env} (h : Fr n a ρ) {ops : Array Oper} {o : Oper} (ho : okop n ops o = true) : execOp a.eval o = execOp (ev ρ) o :=
  execOp_congr o (okop_spec ho).1 fun x hx => h.eval ((okop_spec ho).2 x hx)

/-- Is the operation carried out? -/
def want (ops : Array Oper) (ρ : Env) (o : Oper) : Bool :=
  match o.guard with
  | none => true
  | some (j, b) => match (ops[j]?).bind (·.dst) with
    | some d => match ρ d with
      | .bool x => x == b
      | _ => false
    | none => false

theorem Fr.wanted {n : Nat} {a : Act} {ρ : Env} (h : Fr n a ρ) {ops : Array Oper} {o : Oper} (ho : okop n ops o = true) : Region.wanted o (yielded ops a.tmps) = want ops ρ o := by
  unfold Region.wanted want
  cases hg : o.guard with
  | none => rfl
  | some g =>
    obtain ⟨j, b⟩ := g
    simp only [yielded]
    cases hd : (ops[j]?).bind (·.dst) with
    | none => simp
    | some d =>
      have hdn : d < n := by
        simp only [okop, Bool.and_eq_true, hg, hd] at ho
        simpa using ho.2
      simp only [Option.bind_some, h.2.2 d hdn]
      cases ρ d <;> simp

def retK (K : Value → World → Prop) : Ending → World → Prop
  | .returned v, w => K v w
  | _, _ => False

/-- What an operation may do: it yields a value, or it calls a function that returns one. -/
def opk (P : Program) (o : Oper) (ρ : Env) (w : World) (K : Value → World → Prop) : Prop :=
  match (execOp (ev ρ) o).run P w with
  | .ok (.value v) w' => K v w'
  | .ok .skip w' => K undef w'
  | .ok (.enter f args) w' => Calls P f args w' (retK K)
  | _ => False

section
variable {P : Program}

theorem opk_mono {o : Oper} {ρ : Env} {w : World} {K K' : Value → World → Prop} (h : opk P o ρ w K) (hk : ∀ v w', K v w' → K' v w') : opk P o ρ w K' := by
  unfold opk at *
  generalize (execOp (ev ρ) o).run P w = r at *
  cases r with
  | ok n w' =>
    cases n <;> simp only at h ⊢
    · exact hk _ _ h
    · exact hk _ _ h
    · refine Calls.mono h fun e w'' he => ?_
      cases e <;> simp only [retK] at he ⊢
      exact hk _ _ he
  | halt x w' => exact h

theorem opk_some {o : Oper} {ρ : Env} {w : World} {K : Value → World → Prop} (h : opk P o ρ w K) : ∃ v w', K v w' := by
  unfold opk at h
  generalize (execOp (ev ρ) o).run P w = r at *
  cases r with
  | ok n w' =>
    cases n <;> simp only at h
    · exact ⟨_, _, h⟩
    · exact ⟨_, _, h⟩
    · obtain ⟨e, w'', fr, hR, _⟩ := h []
      cases e <;> simp only [retK] at hR
      exact ⟨_, _, hR⟩
  | halt x w' => exact h.elim

theorem opk_wp {n : Nat} {ops : Array Oper} {a : Act} {o : Oper} {ρ : Env} {w : World} {K : Value → World → Prop} {K' : Act → World → Prop} {Q' : Exit → Act → World → Prop}
    (hf : Fr n a ρ) (ho : okop n ops o = true) (h : opk P o ρ w K) (hk : ∀ v w', K v w' → K' (a.put o.dst v) w') : o.wp P a w K' Q' := by
  unfold Oper.wp
  rw [hf.exec ho]
  unfold opk at h
  generalize (execOp (ev ρ) o).run P w = r at *
  cases r with
  | ok n w' =>
    cases n <;> simp only [Oper.upon] at h ⊢
    · exact hk _ _ h
    · exact hk _ _ h
    · refine Calls.mono h fun e w'' he => ?_
      cases e <;> simp only [retK] at he ⊢
      exact hk _ _ he
  | halt x w' => exact h.elim

/-- The operations in their order. -/
def wpo (P : Program) (ops : Array Oper) (Q : Env → World → Prop) : List Oper → Env → World → Prop
  | [], ρ, w => Q ρ w
  | o :: rest, ρ, w =>
    if want ops ρ o = true then opk P o ρ w (fun v w' => wpo P ops Q rest (setd ρ o.dst v) w') else wpo P ops Q rest (setd ρ o.dst undef) w

theorem wpo_sound {n : Nat} {ops : Array Oper} {Q : Env → World → Prop} {Q' : Exit → Act → World → Prop} (hQ : ∀ a ρ w, Fr n a ρ → Q ρ w → Q' .normal a w) :
    ∀ (l : List Oper), (∀ o ∈ l, okop n ops o = true) → ∀ (a : Act) (ρ : Env) (w : World), Fr n a ρ → wpo P ops Q l ρ w → wpList P ops Q' l a w
  | [], _, a, ρ, w, hf, h => hQ a ρ w hf h
  | o :: rest, hl, a, ρ, w, hf, h => by
    have ho := hl o (by simp)
    have ih := wpo_sound (ops := ops) hQ rest (fun o' h' => hl o' (by simp [h']))
    unfold wpo at h
    unfold wpList
    rw [hf.wanted ho]
    split
    · rename_i hw
      rw [if_pos hw] at h
      exact .inl (opk_wp hf ho h fun v w' hk => ih _ _ _ (hf.put _ _) hk)
    · rename_i hw
      rw [if_neg hw] at h
      exact ih _ _ _ (hf.put _ _) h

/-- The code, over environments. -/
def W (P : Program) (n : Nat) (c : Code) (Q : Exit → Env → World → Prop) (ρ : Env) (w : World) : Prop :=
  ∀ a, Fr n a ρ → c.wp P (fun e a' w' => ∃ ρ', Fr n a' ρ' ∧ Q e ρ' w') a w

def seqQ (K : Env → World → Prop) (Q : Exit → Env → World → Prop) : Exit → Env → World → Prop
  | .normal, ρ, w => K ρ w
  | e, ρ, w => Q e ρ w

def blockQ (id : Nat) (Q : Exit → Env → World → Prop) : Exit → Env → World → Prop
  | .exit id', ρ, w => if id' = id then Q .normal ρ w else Q (.exit id') ρ w
  | e, ρ, w => Q e ρ w

section
variable {n : Nat} {Q : Exit → Env → World → Prop} {ρ : Env} {w : World}

theorem W_mono {c : Code} {Q' : Exit → Env → World → Prop} (h : W P n c Q ρ w) (hq : ∀ e ρ w, Q e ρ w → Q' e ρ w) : W P n c Q' ρ w :=
  fun a hf => Code.wp_mono (fun _ _ _ ⟨ρ', h1, h2⟩ => ⟨ρ', h1, hq _ _ _ h2⟩) (h a hf)

theorem W_skip (h : Q .normal ρ w) : W P n .skip Q ρ w := fun _ hf => wp_skip ⟨_, hf, h⟩
theorem W_ret (h : Q .ret ρ w) : W P n .ret Q ρ w := fun _ hf => wp_ret ⟨_, hf, h⟩
theorem W_exit {id : Nat} (h : Q (.exit id) ρ w) : W P n (.exit id) Q ρ w := fun _ hf => wp_exit ⟨_, hf, h⟩
theorem W_seq {x y : Code} (h : W P n x (seqQ (W P n y Q) Q) ρ w) : W P n (.seq x y) Q ρ w := fun a hf => by
  refine wp_seq (Code.wp_mono (fun e a' w' hq => ?_) (h a hf))
  obtain ⟨ρ', hf', hq⟩ := hq
  cases e <;> simp only [Exit.then, seqQ] at hq ⊢
  · exact hq a' hf'
  all_goals exact ⟨ρ', hf', hq⟩
theorem W_block {id : Nat} {c : Code} (h : W P n c (blockQ id Q) ρ w) : W P n (.block id c) Q ρ w := fun a hf => by
  refine wp_block (Code.wp_mono (fun e a' w' hq => ?_) (h a hf))
  obtain ⟨ρ', hf', hq⟩ := hq
  cases e <;> simp only [Exit.inBlock, blockQ] at hq ⊢
  case exit id' =>
    split
    · rename_i e; rw [if_pos e] at hq; exact ⟨ρ', hf', hq⟩
    · rename_i e; rw [if_neg e] at hq; exact ⟨ρ', hf', hq⟩
  all_goals exact ⟨ρ', hf', hq⟩
theorem W_if_t {t : Nat} {x y : Code} (ht : t < n) (hv : ρ t = .bool true) (h : W P n x Q ρ w) : W P n (.cond (.tmp t) x y) Q ρ w := fun a hf =>
  wp_cond_true (by rw [hf.eval (by simpa [okx] using ht)]; exact hv) (h a hf)
theorem W_if_f {t : Nat} {x y : Code} (ht : t < n) (hv : ρ t = .bool false) (h : W P n y Q ρ w) : W P n (.cond (.tmp t) x y) Q ρ w := fun a hf =>
  wp_cond_false (by rw [hf.eval (by simpa [okx] using ht)]; exact hv) (h a hf)
theorem least_of {p : Nat → Prop} (h : ∃ k, p k) : ∃ k, p k ∧ ∀ m, p m → k ≤ m := by
  obtain ⟨k, hk⟩ := h
  induction k using Nat.strongRecOn with
  | _ k ih =>
    by_cases hx : ∃ m, p m ∧ m < k
    · obtain ⟨m, hm, hlt⟩ := hx
      exact ih m hlt hm
    · exact ⟨k, hk, fun m hm => Nat.le_of_not_lt fun hlt => hx ⟨m, hm, hlt⟩⟩

open Classical in
noncomputable def leastN (p : Nat → Prop) : Nat := if h : ∃ k, p k then Classical.choose (least_of h) else 0
theorem leastN_spec {p : Nat → Prop} (h : ∃ k, p k) : p (leastN p) ∧ ∀ m, p m → leastN p ≤ m := by
  unfold leastN
  rw [dif_pos h]
  exact Classical.choose_spec (least_of h)

theorem W_loop {c : Code} (I : Env → World → Prop) (μ : Env → World → Nat) (h0 : I ρ w)
    (hr : ∀ ρ w, I ρ w → W P n c (seqQ (fun ρ' w' => I ρ' w' ∧ μ ρ' w' < μ ρ w) Q) ρ w) : W P n (.loop c) Q ρ w := fun a hf => by
  refine wp_loop (fun a w => ∃ ρ, Fr n a ρ ∧ I ρ w) (fun a w => leastN fun m => ∃ ρ, Fr n a ρ ∧ I ρ w ∧ μ ρ w = m) ⟨ρ, hf, h0⟩ ?_
  intro a w hI
  obtain ⟨⟨ρ1, hf1, hI1, hm1⟩, _⟩ := leastN_spec (p := fun m => ∃ ρ, Fr n a ρ ∧ I ρ w ∧ μ ρ w = m) (by obtain ⟨ρ, h1, h2⟩ := hI; exact ⟨_, ρ, h1, h2, rfl⟩)
  refine Code.wp_mono (fun e a' w' hq => ?_) (hr ρ1 w hI1 a hf1)
  obtain ⟨ρ', hf', hq⟩ := hq
  cases e <;> simp only [Exit.then, seqQ] at hq ⊢
  case normal =>
    refine ⟨⟨ρ', hf', hq.1⟩, ?_⟩
    have := (leastN_spec (p := fun m => ∃ ρ, Fr n a' ρ ∧ I ρ w' ∧ μ ρ w' = m) ⟨_, ρ', hf', hq.1, rfl⟩).2 _ ⟨ρ', hf', hq.1, rfl⟩
    rw [← hm1]
    exact Nat.lt_of_le_of_lt this hq.2
  all_goals exact ⟨ρ', hf', hq⟩

theorem W_region {id : Nat} {l : List Oper} (hok : okops n l.toArray = true) (h : wpo P l.toArray (Q .normal) l ρ w) : W P n (.region id l.toArray false) Q ρ w := fun a hf =>
  wp_region_lit (wpo_sound (Q := Q .normal) (fun _ ρ _ h1 h2 => ⟨ρ, h1, h2⟩) l (fun o ho => by simp only [okops, List.all_toArray, List.all_eq_true] at hok; exact hok o ho) a ρ w hf h)
end
end
end Go.Wv

/- A region that draws its order, walked in one order: operations that only look (their values may be any of several, as for NaNs), and operations that act. -/
namespace Go.Wv

section
variable {P : Program} {ops : Array Oper} {C : World → Prop} {Q : Env → World → Prop}

theorem ev_setd {ρ : Env} {d : Option Nat} {v : Value} {x : Operand} (h : ∀ t, d = some t → x ≠ .tmp t) : ev (setd ρ d v) x = ev ρ x := by
  cases d with
  | none => rfl
  | some d =>
    cases x with
    | tmp t =>
      have : t ≠ d := fun e => h d rfl (e ▸ rfl)
      simp [ev, setd, upd, this]
    | _ => rfl

theorem exec_setd (o : Oper) (hs : ∀ cs b, o.op ≠ .select cs b) (ρ : Env) (d : Option Nat) (v : Value) (h : ∀ t, d = some t → t ∉ o.looksAt ops) :
    execOp (ev (setd ρ d v)) o = execOp (ev ρ) o :=
  execOp_congr o hs fun x hx => ev_setd fun t ht hxt => h t ht (by
    subst hxt
    exact List.mem_append_left _ (List.mem_filterMap.2 ⟨.tmp t, by simpa using hx, rfl⟩))

theorem want_setd (o : Oper) (ρ : Env) (d : Option Nat) (v : Value) (h : ∀ t, d = some t → t ∉ o.looksAt ops) : want ops (setd ρ d v) o = want ops ρ o := by
  unfold want
  cases hg : o.guard with
  | none => rfl
  | some g =>
    obtain ⟨j, b⟩ := g
    simp only
    cases ht : (ops[j]?).bind (·.dst) with
    | none => rfl
    | some t =>
      cases d with
      | none => rfl
      | some d =>
        have hne : t ≠ d := fun e => h d rfl (by subst e; simp [Oper.looksAt, hg, ht])
        simp [setd, upd, hne]

theorem setd_comm (ρ : Env) {x y : Option Nat} (v u : Value) (h : ∀ d, x = some d → y ≠ some d) : setd (setd ρ x v) y u = setd (setd ρ y u) x v := by
  cases x with
  | none => rfl
  | some d =>
    cases y with
    | none => rfl
    | some e =>
      have hne : d ≠ e := fun he => h d rfl (he ▸ rfl)
      funext t
      simp only [setd, upd]
      by_cases h1 : t = e <;> by_cases h2 : t = d <;> simp_all

/-- Does the operation act (write, make memory, call)? -/
def acts : Op → Bool
  | .move _ | .assign _ | .pick .. | .load .. | .nilCheck _ | .binOp .. | .unOp .. | .convert .. | .fieldAddr .. | .field .. | .indexAddr .. | .index .. | .extract .. | .slice .. | .build .. | .makeFunc .. => false
  | .call { callee := .builtin .len, .. } | .call { callee := .builtin .max, .. } | .call { callee := .builtin .min, .. } => false
  | _ => true

/-- Is there an operation left that only looks? -/
def looksLeft (ops : Array Oper) (listed : Array Bool) : Bool :=
  (List.range ops.size).any fun j => !listed.getD j true && match ops[j]? with
    | some o => !acts o.op
    | none => false

theorem getD_set_self {listed : Array Bool} {i : Nat} : (listed.setIfInBounds i true).getD i true = true := by
  rcases Nat.lt_or_ge i listed.size with hl | hl
  · simp [hl]
  · simp

theorem looksLeft_mono {listed : Array Bool} {i : Nat} (h : looksLeft ops (listed.setIfInBounds i true) = true) : looksLeft ops listed = true := by
  simp only [looksLeft, List.any_eq_true, List.mem_range, Bool.and_eq_true, Bool.not_eq_true'] at *
  obtain ⟨j, h1, h2, h3⟩ := h
  refine ⟨j, h1, ?_, h3⟩
  by_cases e : i = j
  · subst e
    rw [getD_set_self] at h2; cases h2
  · rw [getD_set_ne true e] at h2; exact h2

/-- The operations that operation 'j' waits for, and those that they wait for. -/
def depsOf (ops : Array Oper) (j : Nat) : List Nat := match ops[j]? with
  | some o => (o.after.toList.filter fun e => Region.binds .any e).map (·.on)
  | none => []
def befores (ops : Array Oper) (j : Nat) : List Nat :=
  (List.range j).reverse.foldl (fun l k => if (j :: l).any (fun m => (depsOf ops m).contains k) then k :: l else l) []
/-- May an operation that only looks come behind operation 'j'? -/
def mustC (ops : Array Oper) (j : Nat) : Bool :=
  (fun b : List Nat => (List.range ops.size).any fun k => k != j && match ops[k]? with
    | some o => !acts o.op && !b.contains k
    | none => false) (befores ops j)
def ClosedL (ops : Array Oper) (listed : Array Bool) : Prop := listed.size = ops.size ∧ ∀ k, listed.getD k false = true → ∀ m ∈ depsOf ops k, listed.getD m true = true

theorem ready_deps {listed : Array Bool} {j : Nat} (hr : j ∈ Region.ready .any ops listed) : ∀ m ∈ depsOf ops j, listed.getD m true = true := fun m hm => by
  obtain ⟨_, oj, hoj, hall⟩ := mem_ready.1 hr
  simp only [depsOf, hoj, List.mem_map, List.mem_filter, Array.mem_toList_iff] at hm
  obtain ⟨e, ⟨he, hb⟩, rfl⟩ := hm
  have := hall e he hb
  rcases Nat.lt_or_ge e.on listed.size with hs | hs
  · simp [hs] at this ⊢; exact this
  · simp [Array.getElem?_eq_none hs]
theorem getD_in {listed : Array Bool} {m : Nat} (hs : m < listed.size) (h : listed.getD m true = true) : listed.getD m false = true := by
  simp [hs] at h ⊢; exact h
theorem ready_lt {listed : Array Bool} {j : Nat} (hr : j ∈ Region.ready .any ops listed) : j < ops.size := by
  obtain ⟨_, oj, hoj, _⟩ := mem_ready.1 hr
  exact (Array.getElem?_eq_some_iff.1 hoj).1
theorem closed_set {listed : Array Bool} {j : Nat} (hr : j ∈ Region.ready .any ops listed) (hc : ClosedL ops listed) : ClosedL ops (listed.setIfInBounds j true) := by
  refine ⟨by simpa using hc.1, fun k hk m hm => ?_⟩
  have h1 : listed.getD m true = true := by
    by_cases e : j = k
    · subst e; exact ready_deps hr m hm
    · rw [getD_set_ne false e] at hk
      exact hc.2 k hk m hm
  by_cases e : j = m
  · subst e; exact getD_set_self
  · rw [getD_set_ne true e]; exact h1
theorem befores_listed {listed : Array Bool} {j : Nat} (hr : j ∈ Region.ready .any ops listed) (hc : ClosedL ops listed) : ∀ k ∈ befores ops j, listed.getD k true = true := by
  have hj := ready_lt hr
  have key : ∀ (ks : List Nat), (∀ k ∈ ks, k < j) → ∀ (l : List Nat), (∀ k ∈ l, k < j ∧ listed.getD k true = true) →
      ∀ k ∈ ks.foldl (fun l k => if (j :: l).any (fun m => (depsOf ops m).contains k) then k :: l else l) l, k < j ∧ listed.getD k true = true := by
    intro ks
    induction ks with
    | nil => intro _ l h; exact h
    | cons x ks ih =>
      intro hks l h
      simp only [List.foldl_cons]
      refine ih (fun k hk => hks k (List.mem_cons_of_mem _ hk)) _ fun k hk => ?_
      split at hk
      · rename_i hx
        rcases List.mem_cons.1 hk with rfl | hk
        · refine ⟨hks _ (by simp), ?_⟩
          obtain ⟨m, hm, hmk⟩ := List.any_eq_true.1 hx
          simp only [List.contains_iff_mem] at hmk
          rcases List.mem_cons.1 hm with rfl | hm
          · exact ready_deps hr _ hmk
          · obtain ⟨h1, h2⟩ := h m hm
            exact hc.2 m (getD_in (by rw [hc.1]; omega) h2) _ hmk
        · exact h k hk
      · exact h k hk
  intro k hk
  unfold befores at hk
  exact (key _ (fun k hk => by simpa using hk) [] (fun k hk => by cases hk) k hk).2

theorem looksLeft_after {listed : Array Bool} {j : Nat} (hr : j ∈ Region.ready .any ops listed) (hc : ClosedL ops listed) (hm : mustC ops j = false) : looksLeft ops (listed.setIfInBounds j true) = false := by
  rw [Bool.eq_false_iff]
  intro h
  simp only [looksLeft, List.any_eq_true, List.mem_range, Bool.and_eq_true, Bool.not_eq_true'] at h
  obtain ⟨k, h1, h2, h3⟩ := h
  have hkj : j ≠ k := fun e => by subst e; rw [getD_set_self] at h2; cases h2
  rw [getD_set_ne true hkj] at h2
  obtain ⟨o, ho⟩ : ∃ o, ops[k]? = some o := ⟨_, Array.getElem?_eq_getElem h1⟩
  simp only [ho] at h3
  have : mustC ops j = true := by
    simp only [mustC, List.any_eq_true, List.mem_range, Bool.and_eq_true, bne_iff_ne, ne_eq]
    refine ⟨k, h1, fun e => hkj e.symm, ?_⟩
    simp only [ho, h3, Bool.true_and, Bool.not_eq_true', List.contains_eq_mem, decide_eq_false_iff_not]
    intro hb
    rw [befores_listed hr hc k hb] at h2
    cases h2
  rw [hm] at this; cases this

/-- Whatever order is picked from here on, over environments. An operation that only looks is asked in every world of the class. -/
def wpM (P : Program) (ops : Array Oper) (C : World → Prop) (Q : Env → World → Prop) : Nat → Array Bool → Env → World → Prop
  | 0, listed, ρ, w => Region.ready .any ops listed = [] ∧ ∀ n, Q ρ (w.drewN n)
  | f + 1, listed, ρ, w =>
    (Region.ready .any ops listed = [] → ∀ n, Q ρ (w.drewN n)) ∧
    ∀ i ∈ Region.ready .any ops listed, ∀ o, ops[i]? = some o →
      (want ops ρ o = true → acts o.op = false →
        (∀ w', C w' → ∃ v n, (execOp (ev ρ) o).run P w' = .ok (.value v) (w'.drewN n)) ∧
        (∀ w' v n, C w' → (execOp (ev ρ) o).run P w' = .ok (.value v) (w'.drewN n) → wpM P ops C Q f (listed.setIfInBounds i true) (setd ρ o.dst v) w)) ∧
      (want ops ρ o = true → acts o.op = true →
        ∀ n, opk P o ρ (w.drewN n) fun v w' => (mustC ops i = true → C w') ∧ wpM P ops C Q f (listed.setIfInBounds i true) (setd ρ o.dst v) w') ∧
      (want ops ρ o = false → wpM P ops C Q f (listed.setIfInBounds i true) (setd ρ o.dst undef) w)

theorem wpM_drewN : ∀ (f : Nat) (listed : Array Bool) (ρ : Env) (w : World), wpM P ops C Q f listed ρ w → ∀ m, wpM P ops C Q f listed ρ (w.drewN m)
  | 0, _, _, _, h, m => ⟨h.1, fun n => by rw [World.drewN_drewN]; exact h.2 _⟩
  | f + 1, listed, ρ, w, h, m => by
    refine ⟨fun h0 n => by rw [World.drewN_drewN]; exact h.1 h0 _, fun i hi o ho => ?_⟩
    obtain ⟨h1, h2, h3⟩ := h.2 i hi o ho
    exact ⟨fun a b => ⟨(h1 a b).1, fun w' v n c d => wpM_drewN f _ _ _ ((h1 a b).2 w' v n c d) m⟩,
      fun a b n => by rw [World.drewN_drewN]; exact h2 a b _, fun a => wpM_drewN f _ _ _ (h3 a) m⟩

theorem wpM_done {f : Nat} {listed : Array Bool} {ρ : Env} {w : World} (hr : Region.ready .any ops listed = []) (h : ∀ n, Q ρ (w.drewN n)) : wpM P ops C Q f listed ρ w := by
  cases f with
  | zero => exact ⟨hr, h⟩
  | succ f => exact ⟨fun _ => h, fun i hi => by rw [hr] at hi; cases hi⟩

/-- It is a wpAny. -/
theorem wpM_sound {n : Nat} {Q' : Exit → Act → World → Prop} (hok : okops n ops = true) (hC : ∀ w m, C w → C (w.drewN m)) (hQ : ∀ a ρ w, Fr n a ρ → Q ρ w → Q' .normal a w) :
    ∀ (f : Nat) (listed : Array Bool) (a : Act) (ρ : Env) (w : World), Fr n a ρ → ClosedL ops listed → (looksLeft ops listed = true → C w) → wpM P ops C Q f listed ρ w → wpAny P .any ops Q' f listed a w
  | 0, _, a, ρ, w, hf, _, _, h => ⟨h.1, hQ a ρ w hf (h.2 0)⟩
  | f + 1, listed, a, ρ, w, hf, hcl, hw, h => by
    refine ⟨fun h0 => hQ a ρ w hf (h.1 h0 0), fun i hi => ?_⟩
    have hcl' := closed_set hi hcl
    obtain ⟨hun, o, ho, _⟩ := mem_ready.1 hi
    obtain ⟨h1, h2, h3⟩ := h.2 i hi o ho
    have hoko : okop n ops o = true := Array.all_eq_true_iff_forall_mem.1 hok o (Array.mem_of_getElem? ho)
    unfold wpOp
    simp only [ho]
    rw [hf.wanted hoko]
    have sub : ∀ w', (looksLeft ops listed = true → C w') → (looksLeft ops (listed.setIfInBounds i true) = true → C w') := fun w' hh hl => hh (looksLeft_mono hl)
    by_cases hwt : want ops ρ o = true
    · rw [if_pos hwt]
      refine .inl ?_
      by_cases hac : acts o.op = true
      · have hk := h2 hwt hac 0
        refine opk_wp hf hoko hk fun v w' hk' => wpM_sound hok hC hQ f _ _ _ _ (hf.put _ _) hcl' (fun hl => hk'.1 ?_) hk'.2
        cases hm : mustC ops i with
        | true => rfl
        | false => rw [looksLeft_after hi hcl hm] at hl; cases hl
      · have hac' : acts o.op = false := by simpa using hac
        obtain ⟨hex, hall⟩ := h1 hwt hac'
        have hcw : C w := hw (by
          simp only [looksLeft, List.any_eq_true, List.mem_range, Bool.and_eq_true, Bool.not_eq_true']
          exact ⟨i, (Array.getElem?_eq_some_iff.1 ho).1, hun, by simp [ho, hac']⟩)
        obtain ⟨v, m, hrun⟩ := hex w hcw
        have hk : opk P o ρ w fun v w' => (∃ m, w' = w.drewN m) ∧ wpM P ops C Q f (listed.setIfInBounds i true) (setd ρ o.dst v) w := by
          unfold opk
          rw [hrun]
          exact ⟨⟨m, rfl⟩, hall w v m hcw hrun⟩
        refine opk_wp hf hoko hk fun v w' hk' => ?_
        obtain ⟨⟨m, rfl⟩, hk'⟩ := hk'
        exact wpM_sound hok hC hQ f _ _ _ _ (hf.put _ _) hcl' (fun _ => hC _ _ hcw) (wpM_drewN _ _ _ _ hk' m)
    · rw [if_neg hwt]
      exact wpM_sound hok hC hQ f _ _ _ _ (hf.put _ _) hcl' (sub w hw) (h3 (by simpa using hwt))

/-! ### Taking one operation first -/

def dstApart (ops : Array Oper) (x y : Oper) : Prop := (∀ d, x.dst = some d → d ∉ y.looksAt ops) ∧ (∀ d, x.dst = some d → y.dst ≠ some d) ∧ (∀ d, y.dst = some d → d ∉ x.looksAt ops)

/-- The operations in 'l' wait, each directly or by another of 'l', for 'i'. -/
def depOk (ops : Array Oper) (i : Nat) (l : List Nat) : Bool :=
  l.all fun j => match ops[j]? with
    | some o => o.after.any fun e => Region.binds .any e && (e.on == i || l.contains e.on)
    | none => false

theorem not_dep {i j : Nat} {l : List Nat} {listed : Array Bool} (hd : depOk ops i l = true) (hi : listed.getD i true = false) (hinv : ∀ k ∈ l, listed.getD k true = false)
    (hj : j ∈ Region.ready .any ops listed) : j ∉ l := by
  intro hl
  simp only [depOk, List.all_eq_true] at hd
  have h1 := hd j hl
  obtain ⟨_, oj, hoj, hall⟩ := mem_ready.1 hj
  simp only [hoj] at h1
  obtain ⟨e, he, hb⟩ := Array.any_eq_true'.1 h1
  simp only [Bool.and_eq_true, Bool.or_eq_true, beq_iff_eq, List.contains_iff_mem] at hb
  have h2 := hall e he hb.1
  have h3 : listed.getD e.on true = false := by
    rcases hb.2 with h | h
    · rw [h]; exact hi
    · exact hinv _ h
  rcases Nat.lt_or_ge e.on listed.size with hs | hs
  · simp [hs] at h2 h3; rw [h3] at h2; cases h2
  · simp [Array.getElem?_eq_none hs] at h2

theorem inv_set {j : Nat} {l : List Nat} {listed : Array Bool} (hj : j ∉ l) (hinv : ∀ k ∈ l, listed.getD k true = false) : ∀ k ∈ l, (listed.setIfInBounds j true).getD k true = false := by
  intro k hk
  rw [getD_set_ne true (fun e => hj (by rw [e]; exact hk))]
  exact hinv k hk

section
variable (hsel : ∀ (j : Nat) (o : Oper) cs b, ops[j]? = some o → o.op ≠ .select cs b)
include hsel

/-- One value, in every world of the class: the operation may be taken first. -/
theorem wpM_det {i : Nat} {oi : Oper} {v : Value} (hi : ops[i]? = some oi) :
    ∀ (f : Nat) (listed : Array Bool) (ρ : Env) (w : World),
      (∀ j oj, ops[j]? = some oj → j ≠ i → listed.getD j true = false → (∀ e ∈ oj.after, Region.binds .any e = true → e.on ≠ i) → oi.apart ops oj = true) →
      i ∈ Region.ready .any ops listed →
      (want ops ρ oi = true → acts oi.op = false ∧ ∀ w', C w' → ∃ n, (execOp (ev ρ) oi).run P w' = .ok (.value v) (w'.drewN n)) → (want ops ρ oi = false → v = undef) →
      wpM P ops C Q f (listed.setIfInBounds i true) (setd ρ oi.dst v) w → wpM P ops C Q (f + 1) listed ρ w := by
  intro f
  induction f with
  | zero =>
    intro listed ρ w _ hr hy hn H
    refine ⟨fun h => (by rw [h] at hr; cases hr), fun j hj o ho => ?_⟩
    by_cases hji : j = i
    · subst hji
      obtain rfl : oi = o := Option.some.inj (hi.symm.trans ho)
      refine ⟨fun a b => ⟨fun w' hc => ?_, fun w' u m hc hrun => ?_⟩, fun a b => absurd (hy a).1 (by simp [b]), fun a => ?_⟩
      · obtain ⟨m, hm⟩ := (hy a).2 w' hc; exact ⟨v, m, hm⟩
      · obtain ⟨m', hm⟩ := (hy a).2 w' hc
        rw [hm] at hrun
        injection hrun with e1 e2
        injection e1 with e1
        subst e1; exact H
      · rw [hn a] at H; exact H
    · have := ready_mono hj hji
      rw [H.1] at this
      cases this
  | succ f ih =>
    intro listed ρ w hfree hr hy hn H
    refine ⟨fun h => (by rw [h] at hr; cases hr), fun j hj oj hoj => ?_⟩
    by_cases hji : j = i
    · subst hji
      obtain rfl : oi = oj := Option.some.inj (hi.symm.trans hoj)
      refine ⟨fun a b => ⟨fun w' hc => ?_, fun w' u m hc hrun => ?_⟩, fun a b => absurd (hy a).1 (by simp [b]), fun a => ?_⟩
      · obtain ⟨m, hm⟩ := (hy a).2 w' hc; exact ⟨v, m, hm⟩
      · obtain ⟨m', hm⟩ := (hy a).2 w' hc
        rw [hm] at hrun
        injection hrun with e1 e2
        injection e1 with e1
        subst e1; exact H
      · rw [hn a] at H; exact H
    · obtain ⟨g1, g2, g3⟩ := H.2 j (ready_mono hj hji) oj hoj
      obtain ⟨hjun, oj', hoj', hall⟩ := mem_ready.1 hj
      obtain rfl : oj = oj' := Option.some.inj (hoj.symm.trans hoj')
      have hnot : ∀ e ∈ oj.after, Region.binds .any e = true → e.on ≠ i := fun e he hb heq => by
        have h1 := hall e he hb
        have h0 := (mem_ready.1 hr).1
        rw [heq] at h1
        rcases Nat.lt_or_ge i listed.size with h' | h'
        · simp [h'] at h0 h1; rw [h0] at h1; cases h1
        · simp [Array.getElem?_eq_none h'] at h1
      obtain ⟨a1, a2, a3⟩ := Oper.apart_spec (hfree j oj hoj hji hjun hnot)
      have hfree' : ∀ k ok, ops[k]? = some ok → k ≠ i → (listed.setIfInBounds j true).getD k true = false →
          (∀ e ∈ ok.after, Region.binds .any e = true → e.on ≠ i) → oi.apart ops ok = true := fun k ok hk hki hun hno => by
        refine hfree k ok hk hki ?_ hno
        by_cases hjk : j = k
        · subst hjk; exact hjun
        · rw [getD_set_ne true hjk] at hun; exact hun
      have ex := exec_setd (ops := ops) oj (fun cs b => hsel j oj cs b hoj) ρ oi.dst v a1
      have wt := want_setd oj ρ oi.dst v a1
      have step : ∀ u w', wpM P ops C Q f ((listed.setIfInBounds i true).setIfInBounds j true) (setd (setd ρ oi.dst v) oj.dst u) w' → wpM P ops C Q (f + 1) (listed.setIfInBounds j true) (setd ρ oj.dst u) w' := fun u w' hh => by
        refine ih _ _ _ hfree' (ready_mono hr (Ne.symm hji)) ?_ ?_ ?_
        · rw [want_setd oi ρ oj.dst u a3, exec_setd (ops := ops) oi (fun cs b => hsel i oi cs b hi) ρ oj.dst u a3]; exact hy
        · rw [want_setd oi ρ oj.dst u a3]; exact hn
        · rw [Array.setIfInBounds_comm _ _ hji, ← setd_comm ρ v u a2]; exact hh
      rw [wt] at g1 g2 g3
      rw [ex] at g1
      refine ⟨fun a b => ⟨(g1 a b).1, fun w' u m hc hrun => step u w ((g1 a b).2 w' u m hc hrun)⟩, fun a b m => ?_, fun a => step undef w (g3 a)⟩
      have := g2 a b m
      unfold opk at this
      rw [ex] at this
      exact opk_mono (o := oj) (ρ := ρ) (P := P) (K := fun v_1 w' => (mustC ops j = true → C w') ∧ wpM P ops C Q f ((listed.setIfInBounds i true).setIfInBounds j true) (setd (setd ρ oi.dst v) oj.dst v_1) w') (by unfold opk; exact this) fun u w' hk => ⟨hk.1, step u w' hk.2⟩

/-- Many values: the operation may be taken first where no operation that acts can come before it. -/
theorem wpM_nd {i : Nat} {oi : Oper} (hi : ops[i]? = some oi) (l : List Nat) (hd : depOk ops i l = true) (hne : ∃ w', C w') (hac : acts oi.op = false) :
    ∀ (f : Nat) (listed : Array Bool) (ρ : Env) (w : World),
      (∀ j oj, ops[j]? = some oj → j ≠ i → listed.getD j true = false → (∀ e ∈ oj.after, Region.binds .any e = true → e.on ≠ i) → oi.apart ops oj = true) →
      (∀ k ∈ l, listed.getD k true = false) →
      (∀ j oj, ops[j]? = some oj → j ≠ i → listed.getD j true = false → acts oj.op = true → j ∈ l) →
      i ∈ Region.ready .any ops listed → want ops ρ oi = true →
      (∀ w', C w' → ∃ v n, (execOp (ev ρ) oi).run P w' = .ok (.value v) (w'.drewN n)) →
      (∀ w' v n, C w' → (execOp (ev ρ) oi).run P w' = .ok (.value v) (w'.drewN n) → wpM P ops C Q f (listed.setIfInBounds i true) (setd ρ oi.dst v) w) → wpM P ops C Q (f + 1) listed ρ w := by
  intro f
  induction f with
  | zero =>
    intro listed ρ w _ _ _ hr hw hy H
    refine ⟨fun h => (by rw [h] at hr; cases hr), fun j hj o ho => ?_⟩
    by_cases hji : j = i
    · subst hji
      obtain rfl : oi = o := Option.some.inj (hi.symm.trans ho)
      exact ⟨fun _ _ => ⟨hy, H⟩, fun _ b => absurd b (by simp [hac]), fun a => absurd a (by simp [hw])⟩
    · have := ready_mono hj hji
      obtain ⟨w', hc⟩ := hne
      obtain ⟨v, n, hrun⟩ := hy w' hc
      rw [(H w' v n hc hrun).1] at this
      cases this
  | succ f ih =>
    intro listed ρ w hfree hinv hact hr hw hy H
    refine ⟨fun h => (by rw [h] at hr; cases hr), fun j hj oj hoj => ?_⟩
    by_cases hji : j = i
    · subst hji
      obtain rfl : oi = oj := Option.some.inj (hi.symm.trans hoj)
      exact ⟨fun _ _ => ⟨hy, H⟩, fun _ b => absurd b (by simp [hac]), fun a => absurd a (by simp [hw])⟩
    · obtain ⟨w0, hc0⟩ := hne
      obtain ⟨v0, n0, hrun0⟩ := hy w0 hc0
      have hjl := not_dep hd (mem_ready.1 hr).1 hinv hj
      obtain ⟨hjun, oj', hoj', hall⟩ := mem_ready.1 hj
      obtain rfl : oj = oj' := Option.some.inj (hoj.symm.trans hoj')
      have hnot : ∀ e ∈ oj.after, Region.binds .any e = true → e.on ≠ i := fun e he hb heq => by
        have h1 := hall e he hb
        have h0 := (mem_ready.1 hr).1
        rw [heq] at h1
        rcases Nat.lt_or_ge i listed.size with h' | h'
        · simp [h'] at h0 h1; rw [h0] at h1; cases h1
        · simp [Array.getElem?_eq_none h'] at h1
      obtain ⟨a1, a2, a3⟩ := Oper.apart_spec (hfree j oj hoj hji hjun hnot)
      have hsub : ∀ k, (listed.setIfInBounds j true).getD k true = false → listed.getD k true = false := fun k hk => by
        by_cases hjk : j = k
        · subst hjk; exact hjun
        · rw [getD_set_ne true hjk] at hk; exact hk
      have key : ∀ v, (wpM P ops C Q (f + 1) (listed.setIfInBounds i true) (setd ρ oi.dst v) w) →
          (want ops ρ oj = true → acts oj.op = false →
            (∀ w', C w' → ∃ v n, (execOp (ev ρ) oj).run P w' = .ok (.value v) (w'.drewN n)) ∧
            (∀ w' u n, C w' → (execOp (ev ρ) oj).run P w' = .ok (.value u) (w'.drewN n) → wpM P ops C Q f ((listed.setIfInBounds i true).setIfInBounds j true) (setd (setd ρ oi.dst v) oj.dst u) w)) ∧
          (want ops ρ oj = false → wpM P ops C Q f ((listed.setIfInBounds i true).setIfInBounds j true) (setd (setd ρ oi.dst v) oj.dst undef) w) := fun v hv => by
        obtain ⟨g1, _, g3⟩ := hv.2 j (ready_mono hj hji) oj hoj
        rw [want_setd oj ρ oi.dst v a1] at g1 g3
        rw [exec_setd (ops := ops) oj (fun cs b => hsel j oj cs b hoj) ρ oi.dst v a1] at g1
        exact ⟨g1, g3⟩
      have step : ∀ u, (∀ w' v n, C w' → (execOp (ev ρ) oi).run P w' = .ok (.value v) (w'.drewN n) → wpM P ops C Q f ((listed.setIfInBounds i true).setIfInBounds j true) (setd (setd ρ oi.dst v) oj.dst u) w) →
          wpM P ops C Q (f + 1) (listed.setIfInBounds j true) (setd ρ oj.dst u) w := fun u hh => by
        have ex := exec_setd (ops := ops) oi (fun cs b => hsel i oi cs b hi) ρ oj.dst u a3
        refine ih _ _ _ (fun k ok hk hki hun hno => hfree k ok hk hki (hsub k hun) hno) (inv_set hjl hinv) (fun k ok hk hki hun ha => hact k ok hk hki (hsub k hun) ha) (ready_mono hr (Ne.symm hji)) ?_ ?_ ?_
        · rw [want_setd oi ρ oj.dst u a3]; exact hw
        · rw [ex]; exact hy
        · intro w' v n hc hrun
          rw [ex] at hrun
          rw [Array.setIfInBounds_comm _ _ hji, ← setd_comm ρ v u a2]
          exact hh w' v n hc hrun
      refine ⟨fun a b => ⟨((key v0 (H w0 v0 n0 hc0 hrun0)).1 a b).1, fun w' u m hc hrun => step u fun w1 v1 n1 hc1 hrun1 => ((key v1 (H w1 v1 n1 hc1 hrun1)).1 a b).2 w' u m hc hrun⟩,
        fun a b => absurd (hact j oj hoj hji hjun b) hjl, fun a => step undef fun w1 v1 n1 hc1 hrun1 => (key v1 (H w1 v1 n1 hc1 hrun1)).2 a⟩

/-- An operation that acts may be taken first where all others that can come before it only look. -/
theorem wpM_act {i : Nat} {oi : Oper} (hi : ops[i]? = some oi) (l : List Nat) (hd : depOk ops i l = true) (hac : acts oi.op = true) :
    ∀ (f : Nat) (listed : Array Bool) (ρ : Env) (w : World),
      (∀ j oj, ops[j]? = some oj → j ≠ i → listed.getD j true = false → (∀ e ∈ oj.after, Region.binds .any e = true → e.on ≠ i) → oi.apart ops oj = true) →
      (∀ k ∈ l, listed.getD k true = false) →
      (∀ j oj, ops[j]? = some oj → j ≠ i → listed.getD j true = false → acts oj.op = true → j ∈ l) →
      i ∈ Region.ready .any ops listed → want ops ρ oi = true →
      (∀ n, opk P oi ρ (w.drewN n) fun v w' => (mustC ops i = true → C w') ∧ wpM P ops C Q f (listed.setIfInBounds i true) (setd ρ oi.dst v) w') → wpM P ops C Q (f + 1) listed ρ w := by
  intro f
  induction f with
  | zero =>
    intro listed ρ w _ _ _ hr hw H
    refine ⟨fun h => (by rw [h] at hr; cases hr), fun j hj o ho => ?_⟩
    by_cases hji : j = i
    · subst hji
      obtain rfl : oi = o := Option.some.inj (hi.symm.trans ho)
      exact ⟨fun _ b => absurd b (by simp [hac]), fun _ _ => H, fun a => absurd a (by simp [hw])⟩
    · have := ready_mono hj hji
      obtain ⟨v, w', _, h0⟩ := opk_some (H 0)
      rw [h0.1] at this
      cases this
  | succ f ih =>
    intro listed ρ w hfree hinv hact hr hw H
    refine ⟨fun h => (by rw [h] at hr; cases hr), fun j hj oj hoj => ?_⟩
    by_cases hji : j = i
    · subst hji
      obtain rfl : oi = oj := Option.some.inj (hi.symm.trans hoj)
      exact ⟨fun _ b => absurd b (by simp [hac]), fun _ _ => H, fun a => absurd a (by simp [hw])⟩
    · have hjl := not_dep hd (mem_ready.1 hr).1 hinv hj
      obtain ⟨hjun, oj', hoj', hall⟩ := mem_ready.1 hj
      obtain rfl : oj = oj' := Option.some.inj (hoj.symm.trans hoj')
      have hnot : ∀ e ∈ oj.after, Region.binds .any e = true → e.on ≠ i := fun e he hb heq => by
        have h1 := hall e he hb
        have h0 := (mem_ready.1 hr).1
        rw [heq] at h1
        rcases Nat.lt_or_ge i listed.size with h' | h'
        · simp [h'] at h0 h1; rw [h0] at h1; cases h1
        · simp [Array.getElem?_eq_none h'] at h1
      obtain ⟨a1, a2, a3⟩ := Oper.apart_spec (hfree j oj hoj hji hjun hnot)
      have hsub : ∀ k, (listed.setIfInBounds j true).getD k true = false → listed.getD k true = false := fun k hk => by
        by_cases hjk : j = k
        · subst hjk; exact hjun
        · rw [getD_set_ne true hjk] at hk; exact hk
      have key : ∀ v w1, (wpM P ops C Q (f + 1) (listed.setIfInBounds i true) (setd ρ oi.dst v) w1) →
          (want ops ρ oj = true → acts oj.op = false →
            (∀ w', C w' → ∃ v n, (execOp (ev ρ) oj).run P w' = .ok (.value v) (w'.drewN n)) ∧
            (∀ w' u n, C w' → (execOp (ev ρ) oj).run P w' = .ok (.value u) (w'.drewN n) → wpM P ops C Q f ((listed.setIfInBounds i true).setIfInBounds j true) (setd (setd ρ oi.dst v) oj.dst u) w1)) ∧
          (want ops ρ oj = false → wpM P ops C Q f ((listed.setIfInBounds i true).setIfInBounds j true) (setd (setd ρ oi.dst v) oj.dst undef) w1) := fun v w1 hv => by
        obtain ⟨g1, _, g3⟩ := hv.2 j (ready_mono hj hji) oj hoj
        rw [want_setd oj ρ oi.dst v a1] at g1 g3
        rw [exec_setd (ops := ops) oj (fun cs b => hsel j oj cs b hoj) ρ oi.dst v a1] at g1
        exact ⟨g1, g3⟩
      have step : ∀ u, (∀ v w', wpM P ops C Q (f + 1) (listed.setIfInBounds i true) (setd ρ oi.dst v) w' → wpM P ops C Q f ((listed.setIfInBounds i true).setIfInBounds j true) (setd (setd ρ oi.dst v) oj.dst u) w') →
          wpM P ops C Q (f + 1) (listed.setIfInBounds j true) (setd ρ oj.dst u) w := fun u hh => by
        have ex := exec_setd (ops := ops) oi (fun cs b => hsel i oi cs b hi) ρ oj.dst u a3
        refine ih _ _ _ (fun k ok hk hki hun hno => hfree k ok hk hki (hsub k hun) hno) (inv_set hjl hinv) (fun k ok hk hki hun ha => hact k ok hk hki (hsub k hun) ha) (ready_mono hr (Ne.symm hji)) ?_ ?_
        · rw [want_setd oi ρ oj.dst u a3]; exact hw
        · intro n
          have hn := H n
          unfold opk at hn ⊢
          rw [ex]
          refine opk_mono (o := oi) (ρ := ρ) (P := P) (K := fun v w' => (mustC ops i = true → C w') ∧ wpM P ops C Q (f + 1) (listed.setIfInBounds i true) (setd ρ oi.dst v) w') (by unfold opk; exact hn) fun v w' hk => ⟨hk.1, ?_⟩
          rw [Array.setIfInBounds_comm _ _ hji, ← setd_comm ρ v u a2]
          exact hh v w' hk.2
      obtain ⟨v0, w0, _, h0⟩ := opk_some (H 0)
      refine ⟨fun a b => ⟨((key v0 w0 h0).1 a b).1, fun w' u m hc hrun => step u fun v1 w1 h1 => ((key v1 w1 h1).1 a b).2 w' u m hc hrun⟩,
        fun a b => absurd (hact j oj hoj hji hjun b) hjl, fun a => step undef fun v1 w1 h1 => (key v1 w1 h1).2 a⟩

end
end
end Go.Wv

/- Operations over environments: what each yields. -/
namespace Go.Wv

/-! ### The tables of types, asked by Bools -/
def fldB (P : Program) (T f off : Nat) : Bool :=
  match P.underlying T with
  | some (.struct fs) => match fs[f]? with
    | some fd => fd.offset == off && P.cellsOf fd.type != 0
    | none => false
  | _ => false
def slB (P : Program) (T e s : Nat) : Bool :=
  match P.underlying T, P.info? e with
  | some (.slice e'), some i => e' == e && i.size == s
  | _, _ => false
def aggB (P : Program) (T n : Nat) : Bool :=
  match P.underlying T, P.info? T with
  | some (.struct _), some i => i.size == n
  | _, _ => false
def oneB (P : Program) (T : Nat) : Bool :=
  match P.underlying T, P.info? T with
  | some (.struct _), _ => false
  | some (.array ..), _ => false
  | some _, some i => i.size == 1
  | _, _ => false
def fnB (P : Program) (f : Nat) : Bool :=
  match P.funcs[f]? with
  | some fn => !(fn.name == "runtime.NumGoroutine") && !fn.body.isNone
  | none => false

section
variable {P : Program}

theorem fldB_spec {T f off : Nat} (h : fldB P T f off = true) : ∃ fs fd i, P.underlying T = some (.struct fs) ∧ fs[f]? = some fd ∧ fd.offset = off ∧ P.info? fd.type = some i ∧ i.size ≠ 0 := by
  unfold fldB at h
  split at h
  · rename_i fs hu
    split at h
    · rename_i fd hf
      simp only [Bool.and_eq_true, beq_iff_eq, bne_iff_ne, ne_eq] at h
      cases hi : P.info? fd.type with
      | none => simp [Program.cellsOf, hi] at h
      | some i => exact ⟨fs, fd, i, hu, hf, h.1, hi, by simpa [Program.cellsOf, hi] using h.2⟩
    · cases h
  · cases h

theorem slB_spec {T e s : Nat} (h : slB P T e s = true) : ∃ i, P.underlying T = some (.slice e) ∧ P.info? e = some i ∧ i.size = s := by
  unfold slB at h
  split at h
  · rename_i e' i hu hi
    simp only [Bool.and_eq_true, beq_iff_eq] at h
    exact ⟨i, by rw [hu, h.1], hi, h.2⟩
  · cases h

theorem aggB_spec {T n : Nat} (h : aggB P T n = true) : ∃ fs i, P.underlying T = some (.struct fs) ∧ P.info? T = some i ∧ i.size = n := by
  unfold aggB at h
  split at h
  · rename_i fs i hu hi; exact ⟨fs, i, hu, hi, by simpa using h⟩
  · cases h

theorem oneB_spec {T : Nat} (h : oneB P T = true) : ∃ d i, P.underlying T = some d ∧ P.info? T = some i ∧ i.size = 1 ∧ (∀ w, (isAgg T).run P w = .ok false w) := by
  unfold oneB at h
  split at h
  · cases h
  · cases h
  · rename_i d i h1 h2 hu hi
    refine ⟨d, i, hu, hi, by simpa using h, fun w => ?_⟩
    unfold isAgg
    simp only [Sem.run_bind, run_underlying hu, Result.andThen_ok]
    cases d <;> first | rfl | (exfalso; exact h1 _ rfl) | (exfalso; exact h2 _ _ rfl)
  · cases h

theorem run_isAgg_struct {T n : Nat} (h : aggB P T n = true) (w : World) : (isAgg T).run P w = .ok true w ∧ (sizeOf T).run P w = .ok n w := by
  obtain ⟨fs, i, hu, hi, hs⟩ := aggB_spec h
  exact ⟨by simp [isAgg, run_underlying hu], by simp [sizeOf, typeInfo, hi, hs]⟩

/-! ### Operations that only look -/
abbrev Yv (P : Program) (ρ : Env) (o : Oper) (v : Value) (w : World) : Prop := (execOp (ev ρ) o).run P w = .ok (.value v) w

section
variable {ρ : Env} {w : World} {d : Option Tmp} {ty : TypeId} {pos : String} {aft : Array Edge} {g : Option (Nat × Bool)} {x y z : Operand} {v u : Value}

theorem y_move (h : ev ρ x = v) : Yv P ρ ⟨d, .move x, ty, pos, aft, g⟩ v w := by simp [Yv, execOp, h]
theorem y_assign (h : ev ρ x = v) : Yv P ρ ⟨d, .assign x, ty, pos, aft, g⟩ v w := by simp [Yv, execOp, h]
theorem y_pick_t (hc : ev ρ x = .bool true) (h : ev ρ y = v) : Yv P ρ ⟨d, .pick x y z, ty, pos, aft, g⟩ v w := by simp [Yv, execOp, hc, h, asBool]
theorem y_pick_f (hc : ev ρ x = .bool false) (h : ev ρ z = v) : Yv P ρ ⟨d, .pick x y z, ty, pos, aft, g⟩ v w := by simp [Yv, execOp, hc, h, asBool]
theorem y_nil {a : Addr} (h : ev ρ x = .pointer (some a)) : Yv P ρ ⟨d, .nilCheck x, ty, pos, aft, g⟩ (.pointer (some a)) w := by simp [Yv, execOp, h]
theorem y_nilF {fn : Fn} {a b : Array Value} (h : ev ρ x = .func fn a b) (hf : ∃ k, fn = .func k) : Yv P ρ ⟨d, .nilCheck x, ty, pos, aft, g⟩ (.func fn a b) w := by
  obtain ⟨k, rfl⟩ := hf
  simp [Yv, execOp, h]

theorem add_lit (b o n : Nat) : (⟨b, o, none⟩ : Addr).add n = ⟨b, o + n, none⟩ := by unfold Addr.add; split <;> simp_all

theorem y_fld {T f off b o : Nat} (hB : fldB P T f off = true) (h : ev ρ x = .pointer (some ⟨b, o, none⟩)) : Yv P ρ ⟨d, .fieldAddr T x f, ty, pos, aft, g⟩ (.pointer (some ⟨b, o + off, none⟩)) w := by
  obtain ⟨fs, fd, i, hu, hf, ho, hi, hn⟩ := fldB_spec hB
  simp [Yv, execOp, Instr.fieldAt, run_underlying hu, hf, Instr.sureAddr, h, fieldPlace, sizeOf, typeInfo, hi, hn, ho, add_lit]

theorem y_load {T : Nat} {a : Addr} (hB : oneB P T = true) (h : ev ρ x = .pointer (some a)) (hc : w.cell? a = some v) : Yv P ρ ⟨d, .load T x, ty, pos, aft, g⟩ v w := by
  obtain ⟨_, i, hu, hi, hs, ha⟩ := oneB_spec hB
  simp [Yv, execOp, Instr.loadAt, Instr.sureAddr, h, loadVar, ha, hc]

theorem y_loadn {T n b o : Nat} {vs : List Value} (hB : aggB P T n = true) (h : ev ρ x = .pointer (some ⟨b, o, none⟩)) (hn : vs.length = n)
    (hc : ∀ j u, vs[j]? = some u → w.cell? ⟨b, o + j, none⟩ = some u) : Yv P ρ ⟨d, .load T x, ty, pos, aft, g⟩ (.agg vs.toArray) w := by
  obtain ⟨h1, h2⟩ := run_isAgg_struct hB w
  have hl := run_loadCells_list (P := P) w ⟨b, o, none⟩ vs (fun j u hj => by rw [add_lit]; exact hc j u hj)
  subst hn
  simp [Yv, execOp, Instr.loadAt, Instr.sureAddr, h, loadVar, h1, h2, hl]

theorem y_extract {vs : Array Value} {i : Nat} (h : ev ρ x = .tuple vs) (hv : vs[i]? = some v) : Yv P ρ ⟨d, .extract x i, ty, pos, aft, g⟩ v w := by
  simp [Yv, execOp, Instr.extract, h, hv]

theorem y_func {f : FuncId} {first captured : List Operand} {vs us : List Value} (h : first.map (ev ρ) = vs) (h' : captured.map (ev ρ) = us) : Yv P ρ ⟨d, .makeFunc (.func f) first.toArray captured.toArray, ty, pos, aft, g⟩ (.func (.func f) vs.toArray us.toArray) w := by
  subst h; subst h'
  simp [Yv, execOp, Instr.makeFunc]

theorem y_build {T : Nat} {parts : List (Nat × Operand)} {cells : Array Value} (h : P.built T (parts.map fun p => (p.1, ev ρ p.2)) = some cells) : Yv P ρ ⟨d, .build T parts.toArray, ty, pos, aft, g⟩ (.agg cells) w := by
  have h' : P.built T (parts.toArray.map fun (i, x) => (i, ev ρ x)).toList = some cells := by
    rw [← h]; simp only [List.map_toArray]
  simp only [Yv, execOp, Sem.run_bind, run_build w T _ cells h']
  rfl

/-! integers -/
theorem y_add {a b c : Int} {T U : Nat} (hx : ev ρ x = .int .i64 a) (hy : ev ρ y = .int .i64 b) (hc : a + b = c) (h : -9223372036854775808 ≤ c ∧ c ≤ 9223372036854775807) : Yv P ρ ⟨d, .binOp .add T x y U, ty, pos, aft, g⟩ (.int .i64 c) w := by
  subst hc
  have : IntKind.i64.wrap (a + b) = a + b := by rw [IntKind.wrap_i64]; omega
  simp [Yv, execOp, eqGuard, hx, hy, binOp, Op.intArith, this]
theorem y_sub {a b c : Int} {T U : Nat} (hx : ev ρ x = .int .i64 a) (hy : ev ρ y = .int .i64 b) (hc : a - b = c) (h : -9223372036854775808 ≤ c ∧ c ≤ 9223372036854775807) : Yv P ρ ⟨d, .binOp .sub T x y U, ty, pos, aft, g⟩ (.int .i64 c) w := by
  subst hc
  have : IntKind.i64.wrap (a - b) = a - b := by rw [IntKind.wrap_i64]; omega
  simp [Yv, execOp, eqGuard, hx, hy, binOp, Op.intArith, this]
theorem y_mul {a b c : Int} {T U : Nat} (hx : ev ρ x = .int .i64 a) (hy : ev ρ y = .int .i64 b) (hc : a * b = c) (h : -9223372036854775808 ≤ c ∧ c ≤ 9223372036854775807) : Yv P ρ ⟨d, .binOp .mul T x y U, ty, pos, aft, g⟩ (.int .i64 c) w := by
  subst hc
  have : IntKind.i64.wrap (a * b) = a * b := by rw [IntKind.wrap_i64]; omega
  simp [Yv, execOp, eqGuard, hx, hy, binOp, Op.intArith, this]

theorem y_mulw {a b : Int} {T U : Nat} (hx : ev ρ x = .int .i64 a) (hy : ev ρ y = .int .i64 b) : Yv P ρ ⟨d, .binOp .mul T x y U, ty, pos, aft, g⟩ (.int .i64 (IntKind.i64.wrap (a * b))) w := by
  simp [Yv, execOp, eqGuard, hx, hy, binOp, Op.intArith]
theorem wrap64_b (a : Int) : -9223372036854775808 ≤ IntKind.i64.wrap a ∧ IntKind.i64.wrap a ≤ 9223372036854775807 := by rw [IntKind.wrap_i64]; omega
theorem y_lss {a b : Int} {T U : Nat} {k : IntKind} {t : Bool} (hx : ev ρ x = .int k a) (hy : ev ρ y = .int k b) (ht : decide (a < b) = t) : Yv P ρ ⟨d, .binOp .lss T x y U, ty, pos, aft, g⟩ (.bool t) w := by
  subst ht; simp [Yv, execOp, eqGuard, hx, hy, binOp, Op.intCmp]
theorem y_leq {a b : Int} {T U : Nat} {k : IntKind} {t : Bool} (hx : ev ρ x = .int k a) (hy : ev ρ y = .int k b) (ht : decide (a ≤ b) = t) : Yv P ρ ⟨d, .binOp .leq T x y U, ty, pos, aft, g⟩ (.bool t) w := by
  subst ht; simp [Yv, execOp, eqGuard, hx, hy, binOp, Op.intCmp]
theorem y_gtr {a b : Int} {T U : Nat} {k : IntKind} {t : Bool} (hx : ev ρ x = .int k a) (hy : ev ρ y = .int k b) (ht : decide (b < a) = t) : Yv P ρ ⟨d, .binOp .gtr T x y U, ty, pos, aft, g⟩ (.bool t) w := by
  subst ht; simp [Yv, execOp, eqGuard, hx, hy, binOp, Op.intCmp]
theorem y_geq {a b : Int} {T U : Nat} {k : IntKind} {t : Bool} (hx : ev ρ x = .int k a) (hy : ev ρ y = .int k b) (ht : decide (b ≤ a) = t) : Yv P ρ ⟨d, .binOp .geq T x y U, ty, pos, aft, g⟩ (.bool t) w := by
  subst ht; simp [Yv, execOp, eqGuard, hx, hy, binOp, Op.intCmp]
theorem y_eql {a b : Int} {T U : Nat} {k : IntKind} {t : Bool} (hx : ev ρ x = .int k a) (hy : ev ρ y = .int k b) (ht : decide (a = b) = t) : Yv P ρ ⟨d, .binOp .eql T x y U, ty, pos, aft, g⟩ (.bool t) w := by
  subst ht; simp [Yv, execOp, eqGuard, hx, hy, binOp, Op.intCmp]; rfl
theorem y_neq {a b : Int} {T U : Nat} {k : IntKind} {t : Bool} (hx : ev ρ x = .int k a) (hy : ev ρ y = .int k b) (ht : decide (a ≠ b) = t) : Yv P ρ ⟨d, .binOp .neq T x y U, ty, pos, aft, g⟩ (.bool t) w := by
  subst ht; simp [Yv, execOp, eqGuard, hx, hy, binOp, Op.intCmp]; rfl
theorem y_tmod {a b : Int} {T U : Nat} (hx : ev ρ x = .int .i64 a) (hy : ev ρ y = .int .i64 b) (h1 : 0 < b) : Yv P ρ ⟨d, .binOp .rem T x y U, ty, pos, aft, g⟩ (.int .i64 (a.tmod b)) w := by
  have hb : b ≠ 0 := by omega
  simp [Yv, execOp, eqGuard, hx, hy, binOp, Op.intDiv, hb]
theorem y_rem {a b c : Int} {T U : Nat} (hx : ev ρ x = .int .i64 a) (hy : ev ρ y = .int .i64 b) (h0 : 0 ≤ a) (h1 : 0 < b) (hc : a % b = c) : Yv P ρ ⟨d, .binOp .rem T x y U, ty, pos, aft, g⟩ (.int .i64 c) w := by
  subst hc
  have hb : b ≠ 0 := by omega
  simp [Yv, execOp, eqGuard, hx, hy, binOp, Op.intDiv, hb, Int.tmod_eq_emod_of_nonneg h0]
theorem y_quo {a b c : Int} {T U : Nat} (hx : ev ρ x = .int .i64 a) (hy : ev ρ y = .int .i64 b) (h0 : 0 ≤ a) (h1 : 0 < b) (h2 : a ≤ 9223372036854775807) (hc : a / b = c) : Yv P ρ ⟨d, .binOp .quo T x y U, ty, pos, aft, g⟩ (.int .i64 c) w := by
  subst hc
  have hb : b ≠ 0 := by omega
  have h3 := Int.ediv_nonneg h0 (Int.le_of_lt h1)
  have h4 := Int.ediv_le_self b h0
  have : IntKind.i64.wrap (a / b) = a / b := by rw [IntKind.wrap_i64]; omega
  simp [Yv, execOp, eqGuard, hx, hy, binOp, Op.intDiv, hb, Int.tdiv_eq_ediv_of_nonneg h0, this]
theorem y_not {b t : Bool} {T : Nat} (hx : ev ρ x = .bool b) (ht : (!b) = t) : Yv P ρ ⟨d, .unOp .not T x, ty, pos, aft, g⟩ (.bool t) w := by
  subst ht; simp [Yv, execOp, hx, Op.unary]
end
end
end Go.Wv

/- Floats: what an operation gives, up to the payload of NaNs ('can': every NaN as one). -/
namespace Go.Wv
open Ieee

def nanb (k : FloatKind) (b : Nat) : Bool := (k.format.read b).isNaN
def qnan : FloatKind → Nat
  | .f32 => 2143289344
  | .f64 => 9221120237041090560
def wid (k : FloatKind) : Nat := 2 ^ k.format.width
/-- Canonical bits: every NaN as one; no bit beyond the width. -/
def can (k : FloatKind) (b : Nat) : Nat := if nanb k b then qnan k else b % wid k
def fop (op : BinOp) (k : FloatKind) (x y : Nat) : Nat := (floatBits op k x y).getD (qnan k)

theorem read_mod (k : FloatKind) (b : Nat) : k.format.read (b % wid k) = k.format.read b := by
  have hw : wid k = k.format.signWeight * 2 := by
    unfold wid Format.width Format.signWeight
    rw [Nat.add_assoc, Nat.add_comm 1, Nat.pow_succ]
  have h1 : b % wid k % k.format.signWeight = b % k.format.signWeight := by rw [hw, Nat.mod_mul_right_mod]
  have h2 : b % wid k / k.format.signWeight % 2 = b / k.format.signWeight % 2 := by rw [hw, Nat.mod_mul_right_div_self, Nat.mod_mod]
  unfold Format.read
  simp only [h1, h2]
theorem nanb_mod (k : FloatKind) (b : Nat) : nanb k (b % wid k) = nanb k b := by unfold nanb; rw [read_mod]
theorem nanb_qnan (k : FloatKind) : nanb k (qnan k) = true := by cases k <;> decide
theorem nanb_can (k : FloatKind) (b : Nat) : nanb k (can k b) = nanb k b := by
  unfold can; split
  · rename_i h; rw [nanb_qnan, h]
  · exact nanb_mod k b
theorem can_of_not' {k : FloatKind} {b : Nat} (h : nanb k b = false) : can k b = b % wid k := by simp [can, h]
theorem can_of_not {k : FloatKind} {b : Nat} (h : nanb k b = false) (hb : b < wid k) : can k b = b := by rw [can_of_not' h, Nat.mod_eq_of_lt hb]
theorem can_of_nan {k : FloatKind} {b : Nat} (h : nanb k b = true) : can k b = qnan k := by simp [can, h]
theorem can_qnan (k : FloatKind) : can k (qnan k) = qnan k := can_of_nan (nanb_qnan k)
theorem can_lt (k : FloatKind) (b : Nat) : can k b < wid k := by
  unfold can; split
  · cases k <;> decide
  · exact Nat.mod_lt _ (Nat.two_pow_pos _)
theorem can_can (k : FloatKind) (b : Nat) : can k (can k b) = can k b := by
  by_cases h : nanb k b = true
  · rw [can_of_nan h, can_qnan]
  · exact can_of_not (by rw [nanb_can]; simpa using h) (can_lt k b)
/-- What a word stands for hangs on its canonical bits, but for NaNs. -/
theorem read_can {k : FloatKind} {b : Nat} (h : nanb k b = false) : k.format.read (can k b) = k.format.read b := by rw [can_of_not' h, read_mod]

theorem read_word (f : Format) (neg : Bool) {rung : Nat} (h : rung ≤ f.infRung) : (f.read (f.word neg rung)).isNaN = false := by
  have hs := f.infRung_lt
  have h1 : f.word neg rung % f.signWeight = rung := by
    unfold Format.word
    split
    · rw [Nat.add_mod_left, Nat.mod_eq_of_lt (by omega)]
    · exact Nat.mod_eq_of_lt (by omega)
  unfold Format.read
  simp only [h1]
  split
  · rfl
  · split
    · rfl
    · rw [if_pos (by omega)]; rfl

theorem nanb_write {k : FloatKind} {d : Datum} (h : d.isNaN = false) : nanb k (k.format.write d) = false := by
  unfold nanb
  cases d with
  | number neg mag place =>
    simp only [Format.write, Format.nearest]
    split
    · exact read_word _ _ (Nat.zero_le _)
    · exact read_word _ _ (Nat.min_le_right ..)
  | infinity neg => exact read_word _ _ (Nat.le_refl _)
  | nan neg t => cases h

theorem sum_notNaN {x y d : Datum} (h : x.sum y = some d) : d.isNaN = false := by
  cases x <;> cases y <;> simp only [Datum.sum] at h <;> first | cases h; done | (split at h <;> first | (cases h; rfl) | cases h) | (cases h; rfl)
theorem product_notNaN {x y d : Datum} (h : x.product y = some d) : d.isNaN = false := by
  cases x <;> cases y <;> simp only [Datum.product] at h <;> first | cases h; done | (split at h <;> first | (cases h; rfl) | cases h) | (cases h; rfl)
theorem quotient_notNaN {n : Nat} {x y d : Datum} (h : x.quotient n y = some d) : d.isNaN = false := by
  cases x <;> cases y <;> simp only [Datum.quotient] at h
  all_goals first
    | (cases h; done)
    | (cases h; rfl)
    | (split at h
       · split at h <;> first | (cases h; rfl) | cases h
       · cases h; rfl)

theorem floatBits_notNaN {op : BinOp} {k : FloatKind} {x y r : Nat} (h : floatBits op k x y = some r) : nanb k r = false := by
  unfold floatBits at h
  have key : ∀ {o : Option Datum} (_ : ∀ d, o = some d → d.isNaN = false), o.map k.format.write = some r → nanb k r = false := fun {o} ho hm => by
    cases o with
    | none => cases hm
    | some d => cases hm; exact nanb_write (ho d rfl)
  split at h
  · exact key (fun d => sum_notNaN) h
  · exact key (fun d => sum_notNaN) h
  · exact key (fun d => product_notNaN) h
  · exact key (fun d => quotient_notNaN) h
  · cases h

theorem sum_nan_l {x y : Datum} (h : x.isNaN = true) : x.sum y = none := by cases x <;> first | cases h; done | rfl
theorem sum_nan_r {x y : Datum} (h : y.isNaN = true) : x.sum y = none := by cases y <;> first | cases h; done | (cases x <;> rfl)
theorem product_nan_l {x y : Datum} (h : x.isNaN = true) : x.product y = none := by cases x <;> first | cases h; done | rfl
theorem product_nan_r {x y : Datum} (h : y.isNaN = true) : x.product y = none := by cases y <;> first | cases h; done | (cases x <;> rfl)
theorem quotient_nan_l {n : Nat} {x y : Datum} (h : x.isNaN = true) : x.quotient n y = none := by cases x <;> first | cases h; done | rfl
theorem quotient_nan_r {n : Nat} {x y : Datum} (h : y.isNaN = true) : x.quotient n y = none := by cases y <;> first | cases h; done | (cases x <;> rfl)
theorem order_nan_l {x y : Datum} (h : x.isNaN = true) : x.order y = none := by cases x <;> first | cases h; done | rfl
theorem order_nan_r {x y : Datum} (h : y.isNaN = true) : x.order y = none := by cases y <;> first | cases h; done | (cases x <;> rfl)
theorem opposite_nan {x : Datum} : x.opposite.isNaN = x.isNaN := by cases x <;> rfl

theorem floatBits_nan_l {op : BinOp} {k : FloatKind} {x y : Nat} (h : nanb k x = true) : floatBits op k x y = none := by
  unfold nanb at h
  unfold floatBits
  split <;> simp [Format.add, Format.sub, Format.mul, Format.div, sum_nan_l h, product_nan_l h, quotient_nan_l h]
theorem floatBits_nan_r {op : BinOp} {k : FloatKind} {x y : Nat} (h : nanb k y = true) : floatBits op k x y = none := by
  unfold nanb at h
  unfold floatBits
  split <;> simp [Format.add, Format.sub, Format.mul, Format.div, sum_nan_r h, sum_nan_r (opposite_nan.trans h), product_nan_r h, quotient_nan_r h]

theorem floatBits_read {op : BinOp} {k : FloatKind} {x y x' y' : Nat} (hx : k.format.read x = k.format.read x') (hy : k.format.read y = k.format.read y') : floatBits op k x y = floatBits op k x' y' := by
  unfold floatBits
  split <;> simp only [Format.add, Format.sub, Format.mul, Format.div, hx, hy]
theorem floatBits_can (op : BinOp) (k : FloatKind) (x y : Nat) : floatBits op k (can k x) (can k y) = floatBits op k x y := by
  by_cases hx : nanb k x = true
  · rw [floatBits_nan_l hx, floatBits_nan_l (by rw [nanb_can]; exact hx)]
  · by_cases hy : nanb k y = true
    · rw [floatBits_nan_r hy, floatBits_nan_r (by rw [nanb_can]; exact hy)]
    · exact floatBits_read (read_can (by simpa using hx)) (read_can (by simpa using hy))
theorem fop_can (op : BinOp) (k : FloatKind) (x y : Nat) : fop op k (can k x) (can k y) = fop op k x y := by unfold fop; rw [floatBits_can]
theorem floatBits_lt {op : BinOp} {k : FloatKind} {x y r : Nat} (h : floatBits op k x y = some r) : r < wid k := by
  unfold floatBits at h
  split at h
  · exact k.format.add_lt h
  · exact k.format.sub_lt h
  · exact k.format.mul_lt h
  · exact k.format.div_lt h
  · cases h
theorem can_fop (op : BinOp) (k : FloatKind) (x y : Nat) : can k (fop op k x y) = fop op k x y := by
  unfold fop
  cases h : floatBits op k x y with
  | none => exact can_qnan k
  | some r => exact can_of_not (floatBits_notNaN h) (floatBits_lt h)
theorem order_can (k : FloatKind) (x y : Nat) : k.format.order (can k x) (can k y) = k.format.order x y := by
  have hl : ∀ {x y}, nanb k x = true → k.format.order x y = none := fun h => order_nan_l h
  have hr : ∀ {x y}, nanb k y = true → k.format.order x y = none := fun h => order_nan_r h
  by_cases hx : nanb k x = true
  · rw [hl hx, hl (by rw [nanb_can]; exact hx)]
  · by_cases hy : nanb k y = true
    · rw [hr hy, hr (by rw [nanb_can]; exact hy)]
    · show (k.format.read _).order (k.format.read _) = (k.format.read _).order (k.format.read _)
      rw [read_can (by simpa using hx), read_can (by simpa using hy)]

/-- The word 'r' is of the kind's width, and its canonical bits are 'X'. -/
def Cn (k : FloatKind) (r X : Nat) : Prop := can k r = X ∧ r < wid k
theorem cnLit {k : FloatKind} {t : Nat} (h1 : can k t = t) (h2 : Nat.blt t (wid k) = true) : Cn k t t := ⟨h1, by simpa using h2⟩
theorem cnT {k : FloatKind} {r X Y : Nat} (h : Cn k r X) (e : X = Y) : Cn k r Y := e ▸ h
theorem cnR {k : FloatKind} {r : Nat} (h : r < wid k) : Cn k r (can k r) := ⟨rfl, h⟩
/-! comparisons, as functions of the bits -/
def feq (k : FloatKind) (a b : Nat) : Bool := k.format.order a b == some .eq
def fne (k : FloatKind) (a b : Nat) : Bool := k.format.order a b != some .eq
def flt (k : FloatKind) (a b : Nat) : Bool := k.format.order a b == some .lt
def fle (k : FloatKind) (a b : Nat) : Bool := k.format.order a b == some .lt || k.format.order a b == some .eq
def fgt (k : FloatKind) (a b : Nat) : Bool := k.format.order a b == some .gt
def fge (k : FloatKind) (a b : Nat) : Bool := k.format.order a b == some .gt || k.format.order a b == some .eq
section
variable {k : FloatKind} {a b A B : Nat} {t : Bool}
theorem ocan (h1 : can k a = A) (h2 : can k b = B) : k.format.order a b = k.format.order A B := by rw [← h1, ← h2, order_can]
theorem feqC (h1 : Cn k a A) (h2 : Cn k b B) (h : feq k A B = t) : feq k a b = t := by unfold feq at *; rw [ocan h1.1 h2.1]; exact h
theorem fneC (h1 : Cn k a A) (h2 : Cn k b B) (h : fne k A B = t) : fne k a b = t := by unfold fne at *; rw [ocan h1.1 h2.1]; exact h
theorem fltC (h1 : Cn k a A) (h2 : Cn k b B) (h : flt k A B = t) : flt k a b = t := by unfold flt at *; rw [ocan h1.1 h2.1]; exact h
theorem fleC (h1 : Cn k a A) (h2 : Cn k b B) (h : fle k A B = t) : fle k a b = t := by unfold fle at *; rw [ocan h1.1 h2.1]; exact h
theorem fgtC (h1 : Cn k a A) (h2 : Cn k b B) (h : fgt k A B = t) : fgt k a b = t := by unfold fgt at *; rw [ocan h1.1 h2.1]; exact h
theorem fgeC (h1 : Cn k a A) (h2 : Cn k b B) (h : fge k A B = t) : fge k a b = t := by unfold fge at *; rw [ocan h1.1 h2.1]; exact h
theorem fopC {op : BinOp} {r : Nat} (h : Cn k r (fop op k (can k a) (can k b))) (h1 : Cn k a A) (h2 : Cn k b B) : Cn k r (fop op k A B) := by rw [← h1.1, ← h2.1]; exact h
end
/-- The opposite. -/
def fneg (k : FloatKind) (x : Nat) : Nat := if nanb k x then qnan k else Op.negFloat k x

theorem testBit_xor_ne {x n i : Nat} (h : i ≠ n) : (x ^^^ 2 ^ n).testBit i = x.testBit i := by
  rw [Nat.testBit_xor, Nat.testBit_two_pow]
  simp [Ne.symm h]
theorem neg_mod (x n : Nat) : (x ^^^ 2 ^ n) % 2 ^ n = x % 2 ^ n := by
  apply Nat.eq_of_testBit_eq
  intro i
  rw [Nat.testBit_mod_two_pow, Nat.testBit_mod_two_pow]
  by_cases h : i < n
  · simp only [h, decide_true, Bool.true_and]; exact testBit_xor_ne (by omega)
  · simp [h]
def mkR (f : Format) (neg : Bool) (rung : Nat) : Datum :=
  if rung < f.binade then .number neg rung f.leastPlace
  else if rung < f.infRung then .number neg (f.binade + rung % f.binade) (f.leastPlace + (rung / f.binade - 1 : Nat))
  else if rung = f.infRung then .infinity neg
  else .nan neg (rung - f.infRung)
theorem mkR_nan (f : Format) (neg : Bool) (r : Nat) (hb : f.binade ≤ f.infRung) : (mkR f neg r).isNaN = decide (f.infRung < r) := by
  unfold mkR
  by_cases h1 : r < f.binade
  · rw [if_pos h1, decide_eq_false (by omega)]; rfl
  · rw [if_neg h1]
    by_cases h2 : r < f.infRung
    · rw [if_pos h2, decide_eq_false (by omega)]; rfl
    · rw [if_neg h2]
      by_cases h3 : r = f.infRung
      · rw [if_pos h3, decide_eq_false (by omega)]; rfl
      · rw [if_neg h3, decide_eq_true (by omega)]; rfl
theorem nan_iff (k : FloatKind) (x : Nat) : nanb k x = decide (k.format.infRung < x % 2 ^ (k.format.exponentBits + k.format.fractionBits)) :=
  mkR_nan k.format (x / k.format.signWeight % 2 == 1) _ (by cases k <;> decide)
theorem nanb_neg (k : FloatKind) (x : Nat) : nanb k (Op.negFloat k x) = nanb k x := by
  rw [nan_iff, nan_iff]
  unfold Op.negFloat
  rw [neg_mod]
theorem neg_wid (k : FloatKind) (x : Nat) : Op.negFloat k x % wid k = Op.negFloat k (x % wid k) := by
  have hw : wid k = 2 ^ (k.format.exponentBits + k.format.fractionBits + 1) := by
    unfold wid Format.width
    rw [Nat.add_assoc, Nat.add_comm 1]
  unfold Op.negFloat
  rw [hw]
  apply Nat.eq_of_testBit_eq
  intro i
  simp only [Nat.testBit_mod_two_pow, Nat.testBit_xor, Nat.testBit_two_pow]
  by_cases h : i < k.format.exponentBits + k.format.fractionBits + 1
  · simp [h]
  · have : ¬ (k.format.exponentBits + k.format.fractionBits = i) := by omega
    simp [h, this]
theorem can_neg (k : FloatKind) (x : Nat) : can k (Op.negFloat k x) = fneg k (can k x) := by
  unfold fneg
  rw [nanb_can]
  by_cases h : nanb k x = true
  · rw [if_pos h, can_of_nan (by rw [nanb_neg]; exact h)]
  · have h' : nanb k x = false := by simpa using h
    rw [if_neg h, can_of_not' (by rw [nanb_neg]; exact h'), can_of_not' h', neg_wid]
theorem neg_lt {k : FloatKind} {a : Nat} (h : a < wid k) : Op.negFloat k a < wid k := by
  have := neg_wid k a
  rw [Nat.mod_eq_of_lt h] at this
  rw [← this]; exact Nat.mod_lt _ (Nat.two_pow_pos _)
theorem negC {k : FloatKind} {a A : Nat} (h : Cn k a A) : Cn k (Op.negFloat k a) (fneg k A) := ⟨by rw [can_neg, h.1], neg_lt h.2⟩

/-- The bits that the tape gives for a NaN are a NaN's. -/
theorem nan_cut32 (t : Nat) : nanb .f32 ((t % 2) * 2 ^ 31 + 0x7f800000 + 1 + (t / 2) % (2 ^ 23 - 1)) = true := by
  have h1 := Nat.mod_lt (t / 2) (show 0 < 2 ^ 23 - 1 by decide)
  generalize (t / 2) % (2 ^ 23 - 1) = r at *
  have h2 := Nat.mod_lt t (show 0 < 2 by decide)
  generalize t % 2 = s at *
  have hm : (s * 2 ^ 31 + 0x7f800000 + 1 + r) % single.signWeight = 0x7f800001 + r := by
    show _ % 2 ^ (8 + 23) = _
    omega
  unfold nanb
  show (single.read _).isNaN = true
  unfold Format.read
  simp only [hm]
  have e1 : single.binade = 8388608 := rfl
  have e2 : single.infRung = 2139095040 := rfl
  rw [e1, e2, if_neg (by omega), if_neg (by omega), if_neg (by omega)]
  rfl
theorem nan_cut64 (t : Nat) : nanb .f64 ((t % 2) * 2 ^ 63 + 0x7ff0000000000000 + 1 + (t / 2) % (2 ^ 52 - 1)) = true := by
  have h1 := Nat.mod_lt (t / 2) (show 0 < 2 ^ 52 - 1 by decide)
  generalize (t / 2) % (2 ^ 52 - 1) = r at *
  have h2 := Nat.mod_lt t (show 0 < 2 by decide)
  generalize t % 2 = s at *
  have hm : (s * 2 ^ 63 + 0x7ff0000000000000 + 1 + r) % double.signWeight = 0x7ff0000000000001 + r := by
    show _ % 2 ^ (11 + 52) = _
    omega
  unfold nanb
  show (double.read _).isNaN = true
  unfold Format.read
  simp only [hm]
  have e1 : double.binade = 4503599627370496 := rfl
  have e2 : double.infRung = 9218868437227405312 := rfl
  rw [e1, e2, if_neg (by omega), if_neg (by omega), if_neg (by omega)]
  rfl

theorem cut_lt32 (t : Nat) : (t % 2) * 2 ^ 31 + 0x7f800000 + 1 + (t / 2) % (2 ^ 23 - 1) < wid .f32 := by
  have h1 := Nat.mod_lt (t / 2) (show 0 < 2 ^ 23 - 1 by decide)
  have h2 := Nat.mod_lt t (show 0 < 2 by decide)
  show _ < 4294967296
  omega
theorem cut_lt64 (t : Nat) : (t % 2) * 2 ^ 63 + 0x7ff0000000000000 + 1 + (t / 2) % (2 ^ 52 - 1) < wid .f64 := by
  have h1 := Nat.mod_lt (t / 2) (show 0 < 2 ^ 52 - 1 by decide)
  have h2 := Nat.mod_lt t (show 0 < 2 by decide)
  show _ < 18446744073709551616
  omega
/-- A float whose canonical bits are 'x'. -/
def Fl (k : FloatKind) (x : Nat) (v : Value) : Prop := ∃ b, v = .float k b ∧ can k b = x

section
variable {P : Program} {ρ : Env} {w : World} {d : Option Tmp} {ty : TypeId} {pos : String} {aft : Array Edge} {g : Option (Nat × Bool)} {x y : Operand}

/-- What an operation may yield: some value of 'S', behind some draws. -/
abbrev Yn (P : Program) (ρ : Env) (o : Oper) (S : Value → Prop) (w : World) : Prop := ∃ v n, (execOp (ev ρ) o).run P w = .ok (.value v) (w.drewN n) ∧ S v

theorem run_choose (q : Question) (hq : q.forced = false) (w : World) : (choose q).run P w = .ok (q.cut (w.tape w.drawn q)) (w.drewN 1) := by
  simp [choose, Sem.run, hq, World.drewN]

theorem n_arith {op : BinOp} {k : FloatKind} {a b : Nat} {T U : Nat} (hop : op = .add ∨ op = .sub ∨ op = .mul ∨ op = .quo) (hx : ev ρ x = .float k a) (hy : ev ρ y = .float k b) :
    Yn P ρ ⟨d, .binOp op T x y U, ty, pos, aft, g⟩ (fun v => ∃ r, v = .float k r ∧ Cn k r (fop op k (can k a) (can k b))) w := by
  have hfa : (Op.floatArith op k a b).run P w = match floatBits op k a b with
      | some r => .ok (.float k r) w
      | none => (do pure (.float k (← choose (.nanBits k a b))) : Sem Value).run P w := by
    rcases hop with rfl | rfl | rfl | rfl <;> simp only [Op.floatArith, floatBits] <;> (split <;> simp_all)
  have hb : binOp op T (.float k a) (.float k b) = Op.floatArith op k a b := by rcases hop with rfl | rfl | rfl | rfl <;> simp [binOp]
  have hg : (eqGuard op T x y (.float k a) (.float k b)).run P w = .ok () w := by rcases hop with rfl | rfl | rfl | rfl <;> simp [eqGuard]
  rw [fop_can]
  unfold fop
  cases h : floatBits op k a b with
  | some r =>
    refine ⟨.float k r, 0, ?_, r, rfl, can_of_not (floatBits_notNaN h) (floatBits_lt h), floatBits_lt h⟩
    simp only [execOp, hx, hy, Sem.run_bind, hg, Result.andThen_ok, hb, hfa, h]
    rfl
  | none =>
    refine ⟨_, 1, by simp only [execOp, hx, hy, Sem.run_bind, hg, Result.andThen_ok, hb, hfa, h, run_choose (.nanBits k a b) rfl w]; rfl, _, rfl, ?_⟩
    cases k
    · exact ⟨can_of_nan (nan_cut32 _), cut_lt32 _⟩
    · exact ⟨can_of_nan (nan_cut64 _), cut_lt64 _⟩

theorem y_feql {k : FloatKind} {a b : Nat} {T U : Nat} {t : Bool} (hx : ev ρ x = .float k a) (hy : ev ρ y = .float k b) (ht : feq k a b = t) : Yv P ρ ⟨d, .binOp .eql T x y U, ty, pos, aft, g⟩ (.bool t) w := by
  subst ht; simp [Yv, execOp, eqGuard, hx, hy, binOp, Op.floatCmp, feq]
theorem y_fneq {k : FloatKind} {a b : Nat} {T U : Nat} {t : Bool} (hx : ev ρ x = .float k a) (hy : ev ρ y = .float k b) (ht : fne k a b = t) : Yv P ρ ⟨d, .binOp .neq T x y U, ty, pos, aft, g⟩ (.bool t) w := by
  subst ht; simp [Yv, execOp, eqGuard, hx, hy, binOp, Op.floatCmp, fne]
theorem y_flss {k : FloatKind} {a b : Nat} {T U : Nat} {t : Bool} (hx : ev ρ x = .float k a) (hy : ev ρ y = .float k b) (ht : flt k a b = t) : Yv P ρ ⟨d, .binOp .lss T x y U, ty, pos, aft, g⟩ (.bool t) w := by
  subst ht; simp [Yv, execOp, eqGuard, hx, hy, binOp, Op.floatCmp, flt]
theorem y_fleq {k : FloatKind} {a b : Nat} {T U : Nat} {t : Bool} (hx : ev ρ x = .float k a) (hy : ev ρ y = .float k b) (ht : fle k a b = t) : Yv P ρ ⟨d, .binOp .leq T x y U, ty, pos, aft, g⟩ (.bool t) w := by
  subst ht; simp [Yv, execOp, eqGuard, hx, hy, binOp, Op.floatCmp, fle]
theorem y_fgtr {k : FloatKind} {a b : Nat} {T U : Nat} {t : Bool} (hx : ev ρ x = .float k a) (hy : ev ρ y = .float k b) (ht : fgt k a b = t) : Yv P ρ ⟨d, .binOp .gtr T x y U, ty, pos, aft, g⟩ (.bool t) w := by
  subst ht; simp [Yv, execOp, eqGuard, hx, hy, binOp, Op.floatCmp, fgt]
theorem y_fgeq {k : FloatKind} {a b : Nat} {T U : Nat} {t : Bool} (hx : ev ρ x = .float k a) (hy : ev ρ y = .float k b) (ht : fge k a b = t) : Yv P ρ ⟨d, .binOp .geq T x y U, ty, pos, aft, g⟩ (.bool t) w := by
  subst ht; simp [Yv, execOp, eqGuard, hx, hy, binOp, Op.floatCmp, fge]
theorem y_fneg {k : FloatKind} {a : Nat} {T : Nat} (hx : ev ρ x = .float k a) : Yv P ρ ⟨d, .unOp .neg T x, ty, pos, aft, g⟩ (.float k (Op.negFloat k a)) w := by
  simp [Yv, execOp, hx, Op.unary]
end
end Go.Wv

/- Memory: what stays, what is known of blocks and slices, and the operations that act. -/
namespace Go.Wv

structure Ext (S : Nat → Prop) (w w' : World) : Prop where
  os : w'.os = w.os
  tape : w'.tape = w.tape
  output : w'.output = w.output
  size : w.heap.size ≤ w'.heap.size
  blk : ∀ k, k < w.heap.size → ¬ S k → w'.heap[k]? = w.heap[k]?

def no : Nat → Prop := fun _ => False
def at1 (b : Nat) : Nat → Prop := fun k => k = b
def inA (a : Option Addr) : Nat → Prop := fun k => a.map (·.block) = some k
abbrev Ext0 := Ext no

/-- Two blocks are two; a number is not below. -/
def NeB (a b : Nat) : Prop := a = b → False
def NotLt (a b : Nat) : Prop := a < b → False
theorem Ext.refl (S : Nat → Prop) (w : World) : Ext S w w := ⟨rfl, rfl, rfl, Nat.le_refl _, fun _ _ _ => rfl⟩
theorem Ext.trans {S : Nat → Prop} {a b c : World} (h : Ext S a b) (k : Ext S b c) : Ext S a c :=
  ⟨k.os.trans h.os, k.tape.trans h.tape, k.output.trans h.output, Nat.le_trans h.size k.size, fun i hi hs => (k.blk i (Nat.lt_of_lt_of_le hi h.size) hs).trans (h.blk i hi hs)⟩
theorem Ext.mono {S T : Nat → Prop} {a b : World} (h : Ext S a b) (hs : ∀ k, S k → T k) : Ext T a b := ⟨h.os, h.tape, h.output, h.size, fun i hi ht => h.blk i hi fun x => ht (hs _ x)⟩
/-- What is written from block 'B' on was not there. -/
theorem Ext.fresh {S T : Nat → Prop} {a b c : World} (h : Ext S a b) (k : Ext T b c) (ht : ∀ i, T i → i < a.heap.size → S i) : Ext S a c :=
  ⟨k.os.trans h.os, k.tape.trans h.tape, k.output.trans h.output, Nat.le_trans h.size k.size, fun i hi hs => (k.blk i (Nat.lt_of_lt_of_le hi h.size) fun x => hs (ht i x hi)).trans (h.blk i hi hs)⟩
theorem Ext.drewN {S : Nat → Prop} {a b : World} (h : Ext S a b) (n : Nat) : Ext S a (b.drewN n) := ⟨h.os, h.tape, h.output, h.size, h.blk⟩
theorem Ext0.any {S : Nat → Prop} {a b : World} (h : Ext0 a b) : Ext S a b := h.mono fun _ x => x.elim
theorem Ext0.of_draw (w : World) (n : Nat) : Ext0 w (w.drewN n) := (Ext.refl _ _).drewN n

theorem Ext.below {S : Nat → Prop} {B : Nat} {a b : World} (h : Ext S a b) (hB : B ≤ a.heap.size) (hs : ∀ k, S k → B ≤ k) : Go.RowKit.Below B a b :=
  ⟨h.os, h.tape, h.output, h.size, fun k hk => h.blk k (by omega) fun x => by have := hs k x; omega⟩

/-- A slice that is read: its cells. -/
def Sl (w : World) (a : Option Addr) (cs : List Value) : Prop := ∀ j u, cs[j]? = some u → ∃ b off, a = some ⟨b, off, none⟩ ∧ w.cell? ⟨b, off + j, none⟩ = some u
def sat (a : Option Addr) (j : Nat) : Addr := match a with
  | some a => ⟨a.block, a.off + j, none⟩
  | none => default

/-- A block of the call's own: its cells, its type. -/
def Blk (w : World) (b : Nat) (cs : List Value) (T : Nat) : Prop := w.heap[b]? = some (.cells cs.toArray T (0, 0))

theorem Blk.lt {w : World} {b : Nat} {cs : List Value} {T : Nat} (h : Blk w b cs T) : b < w.heap.size := (Array.getElem?_eq_some_iff.1 h).1
theorem Blk.ext {S : Nat → Prop} {w w' : World} {b : Nat} {cs : List Value} {T : Nat} (h : Blk w b cs T) (e : Ext S w w') (hn : ¬ S b) : Blk w' b cs T := (e.blk b h.lt hn).trans h
theorem Blk.ext0 {w w' : World} {b : Nat} {cs : List Value} {T : Nat} (h : Blk w b cs T) (e : Ext0 w w') : Blk w' b cs T := h.ext e id
theorem Blk.cell {w : World} {b : Nat} {cs : List Value} {T j : Nat} {u : Value} (h : Blk w b cs T) (hu : cs[j]? = some u) : w.cell? ⟨b, j, none⟩ = some u := by
  simp only [World.cell?, show w.heap[b]? = _ from h]
  simpa using hu
theorem Blk.sl {w : World} {b : Nat} {cs : List Value} {T : Nat} (h : Blk w b cs T) : Sl w (some ⟨b, 0, none⟩) cs := fun j u hj => ⟨b, 0, rfl, by rw [Nat.zero_add]; exact h.cell hj⟩
theorem Blk.cells {w : World} {b o : Nat} {cs vs : List Value} {T : Nat} (h : Blk w b cs T) (hv : (cs.drop o).take vs.length = vs) : ∀ j u, vs[j]? = some u → w.cell? ⟨b, o + j, none⟩ = some u := by
  intro j u hj
  refine h.cell ?_
  rw [← hv, List.getElem?_take] at hj
  split at hj
  · simpa using hj
  · cases hj

theorem Sl.cell {w : World} {a : Option Addr} {cs : List Value} {j : Nat} {u : Value} (h : Sl w a cs) (hj : cs[j]? = some u) : w.cell? (sat a j) = some u := by
  obtain ⟨b, off, rfl, hc⟩ := h j u hj
  exact hc
theorem cell_ext {S : Nat → Prop} {w w' : World} {p : Addr} {u : Value} (hc : w.cell? p = some u) (e : Ext S w w') (hn : ¬ S p.block) : w'.cell? p = some u :=
  (World.cell?_of_block (e.blk p.block (World.block_lt_of_cell? w p hc) hn)).trans hc
theorem Sl.ext {S : Nat → Prop} {w w' : World} {a : Option Addr} {cs : List Value} (h : Sl w a cs) (e : Ext S w w') (hn : ∀ k, inA a k → ¬ S k) : Sl w' a cs := fun j u hj => by
  obtain ⟨b, off, rfl, hc⟩ := h j u hj
  exact ⟨b, off, rfl, cell_ext hc e (hn b rfl)⟩
theorem Sl.ext0 {w w' : World} {a : Option Addr} {cs : List Value} (h : Sl w a cs) (e : Ext0 w w') : Sl w' a cs := h.ext e fun _ _ => id
theorem Sl.lt {w : World} {a : Option Addr} {cs : List Value} (h : Sl w a cs) (hne : cs ≠ []) : ∀ k, inA a k → k < w.heap.size := fun k hk => by
  cases cs with
  | nil => exact absurd rfl hne
  | cons c cs =>
    obtain ⟨b, off, rfl, hc⟩ := h 0 c rfl
    have : b = k := by simpa [inA] using hk
    subst this
    exact World.block_lt_of_cell? w _ hc
theorem Sl.addr {w : World} {a : Option Addr} {cs : List Value} (h : Sl w a cs) (hne : 0 < cs.length) : ∃ b off, a = some ⟨b, off, none⟩ := by
  obtain ⟨b, off, ha, _⟩ := h 0 _ (List.getElem?_eq_getElem hne)
  exact ⟨b, off, ha⟩
theorem Sl.ext' {S : Nat → Prop} {w w' : World} {a : Option Addr} {cs : List Value} (h : Sl w a cs) (e : Ext S w w') (hn : ∀ k, k < w.heap.size → inA a k → ¬ S k) : Sl w' a cs := fun j u hj => by
  obtain ⟨b, off, rfl, hc⟩ := h j u hj
  exact ⟨b, off, rfl, cell_ext hc e (hn b (World.block_lt_of_cell? w _ hc) rfl)⟩
theorem Sl.nil (w : World) (a : Option Addr) : Sl w a [] := fun j u h => by simp at h
theorem Sl.sub {w : World} {b o n : Nat} {cs : List Value} (m : Nat) (h : Sl w (some ⟨b, o, none⟩) cs) : Sl w (some ⟨b, o + n, none⟩) ((cs.drop n).take m) := fun j u hj => by
  rw [List.getElem?_take] at hj
  split at hj
  · rw [List.getElem?_drop] at hj
    obtain ⟨b', off, he, hc⟩ := h _ _ hj
    cases he
    exact ⟨b, o + n, rfl, by rw [Nat.add_assoc]; exact hc⟩
  · cases hj

/-- A slice that the call made: it owns its cells. 'B': its block is not below. -/
def Own (w : World) (B : Nat) (a : Option Addr) (n c T s : Nat) (cs : List Value) : Prop := w.ownsRow B T s (.slice a n c) n cs

section own
variable {w w' : World} {B n c T s : Nat} {a : Option Addr} {cs : List Value}
theorem Own.len (h : Own w B a n c T s cs) : cs.length = n * s := h.1
theorem Own.blk (h : Own w B a n c T s cs) : ∀ k, inA a k → B ≤ k ∧ k < w.heap.size := fun k hk => by
  refine World.ownsRow.lt h k ?_
  cases a with
  | none => simp [inA] at hk
  | some a => simpa [inA, Value.ownBlock] using hk
theorem Own.sl (h : Own w B a n c T s cs) : Sl w a cs := fun j u hj => by
  rcases h.2 with ⟨hv, hn⟩ | ⟨g, cap, cur, hv, _⟩
  · have : cs = [] := List.eq_nil_of_length_eq_zero (by rw [h.1, hn, Nat.zero_mul])
    rw [this] at hj; simp at hj
  · simp only [Value.slice.injEq] at hv
    obtain ⟨rfl, _, rfl⟩ := hv
    refine ⟨g, 0, rfl, ?_⟩
    have := World.ownsRow.cells h (g := g) rfl j u hj
    rwa [add_lit] at this
theorem Own.ext {S : Nat → Prop} (h : Own w B a n c T s cs) (e : Ext S w w') (hn : ∀ k, inA a k → ¬ S k) : Own w' B a n c T s cs := by
  refine ⟨h.1, ?_⟩
  rcases h.2 with hv | ⟨g, cap, cur, hv, hb, hg, rest⟩
  · exact .inl hv
  · refine .inr ⟨g, cap, cur, hv, hb, ?_, rest⟩
    rw [e.blk g (Array.getElem?_eq_some_iff.1 hg).1 (hn g (by simp only [Value.slice.injEq] at hv; rw [hv.1]; rfl))]
    exact hg
theorem Own.ext0 (h : Own w B a n c T s cs) (e : Ext0 w w') : Own w' B a n c T s cs := h.ext e fun _ _ => id
theorem Own.base {B' : Nat} (h : Own w B a n c T s cs) (hb : B' ≤ B) : Own w B' a n c T s cs := by
  refine ⟨h.1, ?_⟩
  rcases h.2 with hv | ⟨g, cap, cur, hv, hb', rest⟩
  · exact .inl hv
  · exact .inr ⟨g, cap, cur, hv, Nat.le_trans hb hb', rest⟩
theorem Own.rebase {B' : Nat} (h : Own w B a n c T s cs) (hb : ∀ k, inA a k → B' ≤ k) : Own w B' a n c T s cs := by
  refine ⟨h.1, ?_⟩
  rcases h.2 with hv | ⟨g, cap, cur, hv, _, rest⟩
  · exact .inl hv
  · refine .inr ⟨g, cap, cur, hv, hb g ?_, rest⟩
    simp only [Value.slice.injEq] at hv; rw [hv.1]; rfl
theorem Own.nil (w : World) (B T s : Nat) : Own w B none 0 0 T s [] := World.ownsRow_nil w B T s
end own

theorem Ext.of_grown {w w' : World} {a : Option Addr} {n c : Nat} (h : w.grownBy w' (Value.slice a n c).ownBlock) : Ext (inA a) w w' :=
  ⟨h.os, h.tape, h.output, h.size, fun k hk hs => h.block k hk fun e => hs (by
    cases a with
    | none => simp [Value.ownBlock] at e
    | some a => simpa [inA, Value.ownBlock] using e.symm)⟩

theorem Ext0.alloc (w : World) (o : Obj) : Ext0 w (w.alloc o) :=
  ⟨rfl, rfl, rfl, by simp, fun k hk _ => by show (w.heap.push o)[k]? = _; rw [Array.getElem?_push, if_neg (by omega)]⟩

theorem Blk.new (w : World) (cs : Array Value) (T : Nat) : Blk (w.alloc (.cells cs T)) w.heap.size cs.toList T := by
  show (w.heap.push _)[w.heap.size]? = _
  rw [Array.getElem?_push, if_pos rfl]

/-! ### Operations that act -/
section
variable {P : Program} {ρ : Env} {w : World} {d : Option Tmp} {ty : TypeId} {pos : String} {aft : Array Edge} {g : Option (Nat × Bool)} {x y z : Operand} {v u : Value} {K : Value → World → Prop}

theorem run_callFunc {f : Nat} (h : fnB P f = true) (args : Array Value) (w : World) : (callFunc f args).run P w = .ok (.enter f args) w := by
  unfold fnB at h
  split at h
  · rename_i fn hf
    simp only [Bool.and_eq_true, Bool.not_eq_true'] at h
    have h1 : ¬ fn.name = "runtime.NumGoroutine" := by simpa using h.1
    have h2 : ¬ fn.body = none := by intro e; simp [e] at h
    simp [callFunc, hf, h1, h2]
  · cases h

/-- What a contract says: the function returns, and ... -/
def Rt (Φ : Value → World → Prop) : Ending → World → Prop := fun e w => ∃ v, e = .returned v ∧ Φ v w
theorem Rt.retK {Φ K : Value → World → Prop} {F : Nat} {vs : Array Value} (h : Calls P F vs w (Rt Φ)) (k : ∀ v w', Φ v w' → K v w') : Calls P F vs w (retK K) :=
  h.mono fun e w' ⟨v, he, hv⟩ => by subst he; exact k v w' hv

theorem k_call {f : Nat} {as : List Operand} {ts : Array TypeId} {vs : List Value} {Φ : Value → World → Prop} (hB : fnB P f = true) (h : Calls P f vs.toArray w (Rt Φ)) (ha : as.map (ev ρ) = vs) (k : ∀ v w', Φ v w' → K v w') :
    opk P ⟨d, .call { callee := .value (.func f), args := as.toArray, argTypes := ts }, ty, pos, aft, g⟩ ρ w K := by
  subst ha
  unfold opk
  simp only [execOp, resolve, Sem.run_bind, Sem.run_pure, Deferred.ofValue, ev, Result.andThen_ok, invoke, Array.empty_append, Array.append_empty, run_callFunc hB, List.map_toArray]
  exact Rt.retK h k

theorem k_callv {f t : Nat} {as : List Operand} {ts : Array TypeId} {vs us xs : List Value} {Φ : Value → World → Prop} (hB : fnB P f = true) (ht : ρ t = .func (.func f) us.toArray xs.toArray) (h : Calls P f (us ++ vs ++ xs).toArray w (Rt Φ)) (ha : as.map (ev ρ) = vs) (k : ∀ v w', Φ v w' → K v w') :
    opk P ⟨d, .call { callee := .value (.tmp t), args := as.toArray, argTypes := ts }, ty, pos, aft, g⟩ ρ w K := by
  subst ha
  unfold opk
  simp only [execOp, resolve, Sem.run_bind, Sem.run_pure, Deferred.ofValue, ev, ht, Result.andThen_ok, invoke, run_callFunc hB, List.map_toArray, List.append_toArray]
  exact Rt.retK h k

theorem k_box {T : Nat} {cs : List Value} (hx : ev ρ x = v) (hc : v.cells.toList = cs) (h : ∀ b w', b = w.heap.size → Ext0 w w' → Blk w' b cs T → K (.pointer (some ⟨b, 0, none⟩)) w') :
    opk P ⟨d, .box T x, ty, pos, aft, g⟩ ρ w K := by
  subst hc
  unfold opk
  simp only [execOp, Instr.box, newVar, newRow, newObj, hx, Sem.run_bind, Sem.run_pure, Sem.run, Result.andThen_ok]
  exact h _ (w.alloc (.cells v.cells T)) rfl (Ext0.alloc _ _) (Blk.new _ _ _)

def zeroB (P : Program) (T : Nat) (z : Value) : Prop := (P.info? T).bind (·.zero) = some z
theorem k_alloc {T : Nat} {z : Value} {cs : List Value} (hz : zeroB P T z) (hc : z.cells.toList = cs) (h : ∀ b w', b = w.heap.size → Ext0 w w' → Blk w' b cs T → K (.pointer (some ⟨b, 0, none⟩)) w') :
    opk P ⟨d, .alloc T, ty, pos, aft, g⟩ ρ w K := by
  subst hc
  unfold zeroB at hz
  cases hi : P.info? T with
  | none => simp [hi] at hz
  | some i =>
    have hz' : i.zero = some z := by simpa [hi] using hz
    unfold opk
    simp only [execOp, Instr.alloc, zeroValue, typeInfo, program, newVar, newRow, newObj, hi, hz', Sem.run_bind, Sem.run_pure, Sem.run, Result.andThen_ok]
    exact h _ (w.alloc (.cells z.cells T)) rfl (Ext0.alloc _ _) (Blk.new _ _ _)

def szB (P : Program) (T n : Nat) : Bool := match P.info? T with
  | some i => i.size == n
  | none => false
theorem szB_spec {T n : Nat} (h : szB P T n = true) (w : World) : (sizeOf T).run P w = .ok n w := by
  unfold szB at h
  cases hi : P.info? T with
  | none => simp [hi] at h
  | some i => simp [sizeOf, typeInfo, hi]; simpa [hi] using h

theorem y_loadO {T n k b o : Nat} {cs vs : List Value} (hB : aggB P T n = true) (h : ev ρ x = .pointer (some ⟨b, o + k, none⟩)) (hn : vs.length = n) (hS : Sl w (some ⟨b, o, none⟩) cs) (hv : (cs.drop k).take n = vs) :
    Yv P ρ ⟨d, .load T x, ty, pos, aft, g⟩ (.agg vs.toArray) w := y_loadn hB h hn fun j u hj => by
  subst hv
  rw [List.getElem?_take] at hj
  split at hj
  · rw [List.getElem?_drop] at hj
    have := hS.cell hj
    rw [Nat.add_assoc]; exact this
  · cases hj
theorem y_loadEl {T n j : Nat} {a : Option Addr} {cs vs : List Value} (hB : aggB P T n = true) (h : ev ρ x = .pointer (some (sat a j))) (hn : vs.length = n) (h0 : 0 < n) (hS : Sl w a cs) (hv : (cs.drop j).take n = vs) :
    Yv P ρ ⟨d, .load T x, ty, pos, aft, g⟩ (.agg vs.toArray) w := by
  have hne : 0 < cs.length := by
    rcases Nat.eq_zero_or_pos cs.length with e | e
    · rw [List.eq_nil_of_length_eq_zero e] at hv; rw [← hv] at hn; simp at hn; omega
    · exact e
  obtain ⟨b, off, rfl⟩ := hS.addr hne
  exact y_loadO (o := off) hB h hn hS hv

/-- A store into a block of the call's own. -/
theorem k_store {T T' b o n : Nat} {cs cs' : List Value} (hB : szB P T n = true) (hx : ev ρ x = .pointer (some ⟨b, o, none⟩)) (hy : ev ρ y = v) (hv : v.cells.size = n) (hb : Blk w b cs T')
    (h1 : ∀ u ∈ v.cells.toList, u.oneCell' = true) (hl : o + n ≤ cs.length) (hc : cs.take o ++ v.cells.toList ++ cs.drop (o + n) = cs')
    (h : ∀ w', Ext (at1 b) w w' → w'.heap.size = w.heap.size → Blk w' b cs' T' → K undef w') : opk P ⟨d, .store T x y, ty, pos, aft, g⟩ ρ w K := by
  have hst := run_storeCells_at P b o T' v.cells.toList 0 cs.toArray w hb (by simpa [hv] using hl) h1
  unfold opk
  simp only [execOp, Instr.storeAt, Instr.sureAddr, storeVar, hx, hy, hv, Sem.run_bind, Sem.run_pure, Result.andThen_ok, szB_spec hB, hst, ne_eq, not_true_eq_false, if_false]
  refine h _ ⟨rfl, rfl, rfl, by simp, fun k _ hk => setRow_other w b k _ hk⟩ (by simp) ?_
  have := setRow_heap w b cs.toArray cs'.toArray T' (0, 0) hb
  simp only [Nat.add_zero, Array.length_toList, hv]
  rw [hc]
  exact this

/-- A store into an element (of one cell) of a slice that the call made. -/
theorem k_storeEl {T T' B n c s j : Nat} {a : Option Addr} {cs : List Value} (hB : szB P T 1 = true) (hx : ev ρ x = .pointer (some (sat a j))) (hy : ev ρ y = v) (hv : v.cells = #[v]) (h1 : v.oneCell' = true)
    (ho : Own w B a n c T' s cs) (hj : j < cs.length) (h : ∀ w', Ext (inA a) w w' → w'.heap.size = w.heap.size → Own w' B a n c T' s (cs.set j v) → K undef w') : opk P ⟨d, .store T x y, ty, pos, aft, g⟩ ρ w K := by
  obtain ⟨b, off, rfl, hc⟩ := ho.sl j _ (List.getElem?_eq_getElem hj)
  have ho' := ho
  rcases ho.2 with ⟨hv', _⟩ | ⟨gg, cap, cur, hv', hb, hg, _⟩
  · simp at hv'
  simp only [Value.slice.injEq, Option.some.injEq, Addr.mk.injEq, and_true, true_and] at hv'
  obtain ⟨⟨rfl, rfl⟩, rfl⟩ := hv'
  have hst := World.ownsRow.stored ho j v
  have hfro : w.frozen? ⟨b, j, none⟩ = false := by simp [World.frozen?, hg]
  simp only [Nat.zero_add] at hc
  unfold opk
  simp only [execOp, Instr.storeAt, Instr.sureAddr, storeVar, hx, hy, hv, Sem.run_bind, Sem.run_pure, Result.andThen_ok, szB_spec hB, sat, Nat.zero_add, storeCells, Addr.add,
    List.size_toArray, List.length_cons, List.length_nil, ne_eq, not_true_eq_false, if_false, if_true, run_store P w ⟨b, j, none⟩ v _ h1, hc, hfro, Bool.false_eq_true]
  exact h _ (Ext.of_grown (n := n) (c := c) (a := some ⟨b, 0, none⟩) hst.2) (by simp) hst.1

end
end Go.Wv

/- Slices, conversions, minima: more operations. -/
namespace Go.Wv
section
variable {P : Program} {ρ : Env} {w : World} {d : Option Tmp} {ty : TypeId} {pos : String} {aft : Array Edge} {g : Option (Nat × Bool)} {x y z : Operand} {v u : Value} {K : Value → World → Prop}

theorem y_idx {T e s n c : Nat} {a : Option Addr} {i : Int} {k : IntKind} (hB : slB P T e s = true) (hx : ev ρ x = .slice a n c) (hy : ev ρ y = .int k i) (ha : ∃ b off, a = some ⟨b, off, none⟩) (h0 : 0 ≤ i) (h1 : i < n) :
    Yv P ρ ⟨d, .indexAddr T x y, ty, pos, aft, g⟩ (.pointer (some (sat a (i.toNat * s)))) w := by
  obtain ⟨it, hu, hi, hs⟩ := slB_spec hB
  obtain ⟨b, off, rfl⟩ := ha
  simp [Yv, execOp, Instr.indexAt, hx, hy, asIntOf, run_underlying hu, h0, h1, sizeOf, typeInfo, hi, hs, sat, add_lit]

theorem y_len {T e s n c : Nat} {a : Option Addr} {ts : Array TypeId} (hB : slB P T e s = true) (hx : ev ρ x = .slice a n c) (ht : ts = #[T]) :
    Yv P ρ ⟨d, .call { callee := .builtin .len, args := #[x], argTypes := ts }, ty, pos, aft, g⟩ (.int .i64 n) w := by
  obtain ⟨it, hu, hi, hs⟩ := slB_spec hB
  subst ht
  simp [Yv, execOp, resolve, invoke, builtin, Builtin.len_, hx, run_underlying hu, goInt]

theorem y_beql {T U : Nat} {a b t : Bool} (hB : P.underlying T = some .bool) (hx : ev ρ x = .bool a) (hy : ev ρ y = .bool b) (ht : (a == b) = t) : Yv P ρ ⟨d, .binOp .eql T x y U, ty, pos, aft, g⟩ (.bool t) w := by
  subst ht
  simp [Yv, execOp, eqGuard, hx, hy, run_eql_bool w T a b hB]
theorem y_bneq {T U : Nat} {a b t : Bool} (hB : P.underlying T = some .bool) (hx : ev ρ x = .bool a) (hy : ev ρ y = .bool b) (ht : (!(a == b)) = t) : Yv P ρ ⟨d, .binOp .neq T x y U, ty, pos, aft, g⟩ (.bool t) w := by
  subst ht
  simp [Yv, execOp, eqGuard, hx, hy, run_neq_bool w T a b hB]

theorem y_ii {S T : Nat} {k k' : IntKind} {a c : Int} (hS : (P.underlying S).isSome = true) (hT : P.underlying T = some (.int k)) (hx : ev ρ x = .int k' a) (hc : k.wrap a = c) : Yv P ρ ⟨d, .convert S T x, ty, pos, aft, g⟩ (.int k c) w := by
  obtain ⟨u, hu⟩ := Option.isSome_iff_exists.1 hS
  subst hc
  cases u <;> simp [Yv, execOp, convert, hx, run_underlying hu, run_underlying hT, Conv.intToInt]
theorem y_if {S T : Nat} {k : FloatKind} {k' : IntKind} {a : Int} (hS : (P.underlying S).isSome = true) (hT : P.underlying T = some (.float k)) (hx : ev ρ x = .int k' a) : Yv P ρ ⟨d, .convert S T x, ty, pos, aft, g⟩ (.float k (k.nearest a)) w := by
  obtain ⟨u, hu⟩ := Option.isSome_iff_exists.1 hS
  cases u <;> simp [Yv, execOp, convert, hx, run_underlying hu, run_underlying hT, Conv.intToFloat]

theorem y_max2 {a b c : Int} {k : IntKind} {ts : Array TypeId} (hx : ev ρ x = .int k a) (hy : ev ρ y = .int k b) (hc : max a b = c) : Yv P ρ ⟨d, .call { callee := .builtin .max, args := #[x, y], argTypes := ts }, ty, pos, aft, g⟩ (.int k c) w := by
  have : (if b > a then b else a) = c := by rw [← hc]; omega
  simp [Yv, execOp, resolve, invoke, builtin, Builtin.max_, hx, hy, Builtin.max2, this]
theorem y_max4 {a b c e f : Int} {k : IntKind} {ts : Array TypeId} {y2 y3 : Operand} (hx : ev ρ x = .int k a) (hy : ev ρ y = .int k b) (h2 : ev ρ y2 = .int k c) (h3 : ev ρ y3 = .int k e) (hc : max (max (max a b) c) e = f) :
    Yv P ρ ⟨d, .call { callee := .builtin .max, args := #[x, y, y2, y3], argTypes := ts }, ty, pos, aft, g⟩ (.int k f) w := by
  have h1 : (if b > a then b else a) = max a b := by omega
  have h2' : (if c > max a b then c else max a b) = max (max a b) c := by omega
  subst hc
  simp [Yv, execOp, resolve, invoke, builtin, Builtin.max_, hx, hy, h2, h3, Builtin.max2, h1, h2']
  omega
theorem y_min2 {a b c : Int} {k : IntKind} {ts : Array TypeId} (hx : ev ρ x = .int k a) (hy : ev ρ y = .int k b) (hc : min a b = c) : Yv P ρ ⟨d, .call { callee := .builtin .min, args := #[x, y], argTypes := ts }, ty, pos, aft, g⟩ (.int k c) w := by
  have : (if b < a then b else a) = c := by rw [← hc]; omega
  simp [Yv, execOp, resolve, invoke, builtin, Builtin.min_, hx, hy, Builtin.min2, this]

theorem y_min4 {a b c e f : Int} {k : IntKind} {ts : Array TypeId} {y2 y3 : Operand} (hx : ev ρ x = .int k a) (hy : ev ρ y = .int k b) (h2 : ev ρ y2 = .int k c) (h3 : ev ρ y3 = .int k e) (hc : min (min (min a b) c) e = f) :
    Yv P ρ ⟨d, .call { callee := .builtin .min, args := #[x, y, y2, y3], argTypes := ts }, ty, pos, aft, g⟩ (.int k f) w := by
  have h1 : (if b < a then b else a) = min a b := by omega
  have h2' : (if c < min a b then c else min a b) = min (min a b) c := by omega
  subst hc
  simp [Yv, execOp, resolve, invoke, builtin, Builtin.min_, hx, hy, h2, h3, Builtin.min2, h1, h2']
  omega

/-- 'x[lo:hi]' of a slice. -/
theorem y_slice {T e s n c : Nat} {lo hi : Int} {b off : Nat} {k k' : IntKind} {l h : Operand} (hB : slB P T e s = true) (hx : ev ρ x = .slice (some ⟨b, off, none⟩) n c) (hl : ev ρ l = .int k lo) (hh : ev ρ h = .int k' hi)
    (h0 : 0 ≤ lo) (h1 : lo ≤ hi) (h2 : hi ≤ c) (h3 : lo < c) :
    Yv P ρ ⟨d, .slice T x (some l) (some h) none, ty, pos, aft, g⟩ (.slice (some ⟨b, off + lo.toNat * s, none⟩) (hi.toNat - lo.toNat) (c - lo.toNat)) w := by
  obtain ⟨it, hu, hi', hs⟩ := slB_spec hB
  have h4 : 0 ≤ hi := by omega
  have h6 : ¬ c = lo.toNat := by omega
  simp [Yv, execOp, Instr.sliceAt, Instr.slice, Instr.sliceBounds, Instr.sliceBound, run_underlying hu, hx, hl, hh, asIntOf, h0, h4, h2, sizeOf, typeInfo, hi', hs, h6, add_lit]
  intro hlt
  omega

/-! ### making -/
theorem k_make {T e s bytes : Nat} {i : TypeInfo} {z : Value} {m : Int} (hu : P.underlying T = some (.slice e)) (hi : P.info? e = some i) (hz : i.zero = some z) (hs : i.size = s) (hby : i.bytes = bytes)
    (hx : ev ρ x = .int .i64 m) (hy : ev ρ y = .int .i64 m) (h0 : 0 ≤ m) (h1 : (bytes : Int) * m ≤ 140737488355328) (h2 : m ≤ 9223372036854775807)
    (h : ∀ b w', b = w.heap.size → Ext0 w w' → Own w' w.heap.size (some ⟨b, 0, none⟩) m.toNat m.toNat e s (madeCells z.cells (m.toNat * s)).toList → K (.slice (some ⟨b, 0, none⟩) m.toNat m.toNat) w') :
    opk P ⟨d, .makeSlice T x y, ty, pos, aft, g⟩ ρ w K := by
  have hr := run_make (P := P) w T e i z hu hi hz .i64 .i64 m m h0 (Int.le_refl _) (by rw [hby]; omega) h2
  rw [hs] at hr
  unfold opk
  simp only [execOp, Sem.run_bind, hx, hy, hr, Result.andThen_ok, Sem.run_pure]
  refine h _ _ rfl (Ext0.alloc _ _) ⟨by simp [size_madeCells], .inr ⟨w.heap.size, m.toNat, madeCells z.cells (m.toNat * s), rfl, Nat.le_refl _, ?_, Nat.le_refl _, ?_, size_madeCells z.cells _, ?_⟩⟩
  · exact Blk.new _ _ _
  · simp only [maxLen]; omega
  · rw [List.take_of_length_le]; simp [size_madeCells]


/-- The facts on a slice type: its element, the cells and bytes of one, the zero. -/
def SlT (P : Program) (T e s bytes : Nat) (z : Value) : Prop := P.underlying T = some (.slice e) ∧ (P.info? e).map (fun i => (i.zero, i.size, i.bytes)) = some (some z, s, bytes) ∧ z.cells.size = s ∧ 0 < s
theorem SlT.get {T e s bytes : Nat} {z : Value} (h : SlT P T e s bytes z) : ∃ i, P.underlying T = some (.slice e) ∧ P.info? e = some i ∧ i.zero = some z ∧ i.size = s ∧ i.bytes = bytes := by
  obtain ⟨h1, h2, _⟩ := h
  cases hi : P.info? e with
  | none => simp [hi] at h2
  | some i =>
    simp only [hi, Option.map_some, Option.some.injEq, Prod.mk.injEq] at h2
    exact ⟨i, h1, rfl, h2.1, h2.2.1, h2.2.2⟩

theorem k_mk {T e s bytes : Nat} {z : Value} {m : Int} (hT : SlT P T e s bytes z) (hx : ev ρ x = .int .i64 m) (hy : ev ρ y = .int .i64 m) (h0 : 0 ≤ m) (h1 : (bytes : Int) * m ≤ 140737488355328) (h2 : m ≤ 9223372036854775807)
    (h : ∀ b w', b = w.heap.size → Ext0 w w' → Own w' w.heap.size (some ⟨b, 0, none⟩) m.toNat m.toNat e s (madeCells z.cells (m.toNat * s)).toList → K (.slice (some ⟨b, 0, none⟩) m.toNat m.toNat) w') :
    opk P ⟨d, .makeSlice T x y, ty, pos, aft, g⟩ ρ w K := by
  obtain ⟨i, a1, a2, a3, a4, a5⟩ := hT.get
  exact k_make a1 a2 a3 a4 a5 hx hy h0 h1 h2 h

theorem made_one (z : Value) (hz : z.cells = #[z]) (n : Nat) : (madeCells z.cells n).toList = List.replicate n z := by
  apply List.ext_getElem
  · simp [size_madeCells]
  · intro i h1 h2
    simp [madeCells, hz, Nat.mod_one]

theorem run_append_x {T e s bytes : Nat} {z : Value} (hT : SlT P T e s bytes z) {B n c m cm : Nat} {a ad : Option Addr} {cs news : List Value} (ho : Own w B a n c e s cs) (hs : Sl w ad news) (hl : news.length = m * s)
    (h1 : ∀ u ∈ news, u.oneCell' = true) (hb : (n + m) * bytes ≤ 140737488355328) (hm : n + m ≤ maxLen) (hB : B ≤ w.heap.size) :
    ∃ a' c' w', (Builtin.append_ #[T, T] ty #[.slice a n c, .slice ad m cm]).run P w = .ok (.slice a' (n + m) c') w' ∧ Own w' B a' (n + m) c' e s (cs ++ news) ∧ Ext (inA a) w w' ∧ ∀ k, inA a' k → inA a k ∨ w.heap.size ≤ k := by
  obtain ⟨i, hu, hi, hz, hsz, hby⟩ := hT.get
  obtain ⟨_, _, hzs, hs0⟩ := hT
  subst hsz
  subst hby
  have hnc : n ≤ c ∧ (a = none → n = 0 ∧ c = 0) := by
    rcases ho.2 with ⟨hv, hn⟩ | ⟨g, cap, cur, hv, _, _, hnc, _⟩
    · simp only [Value.slice.injEq] at hv
      obtain ⟨rfl, rfl, rfl⟩ := hv; exact ⟨Nat.le_refl _, fun _ => ⟨rfl, rfl⟩⟩
    · simp only [Value.slice.injEq] at hv
      obtain ⟨rfl, _, rfl⟩ := hv; exact ⟨hnc, fun h => by cases h⟩
  have stay : ∀ c0 : Unit, m = 0 → news = [] → (Builtin.append_ #[T, T] ty #[.slice a n c, .slice ad m cm]).run P w = .ok (.slice a (n + m) c) w →
      ∃ a' c' w', (Builtin.append_ #[T, T] ty #[.slice a n c, .slice ad m cm]).run P w = .ok (.slice a' (n + m) c') w' ∧ Own w' B a' (n + m) c' e i.size (cs ++ news) ∧ Ext (inA a) w w' ∧ ∀ k, inA a' k → inA a k ∨ w.heap.size ≤ k := fun _ hm0 hn0 hr => by
    subst hm0; subst hn0
    exact ⟨a, c, w, hr, by simpa using ho, Ext.refl _ _, fun k hk => .inl hk⟩
  by_cases hm0 : m = 0
  · have hn0 : news = [] := List.eq_nil_of_length_eq_zero (by rw [hl, hm0, Nat.zero_mul])
    refine stay () hm0 hn0 ?_
    subst hm0
    cases ad <;> cases a <;> simp [Builtin.append_, run_underlying hu, sizeOf, typeInfo, hi, Builtin.lenOf, hnc.1, Builtin.firstCells, loadCells, loadCellsFrom, storeCells]
  · have hne : 0 < news.length := by rw [hl]; exact Nat.mul_pos (by omega) hs0
    obtain ⟨b, off, rfl⟩ := hs.addr hne
    have hnews : ∀ j u, news[j]? = some u → w.cell? ((⟨b, off, none⟩ : Addr).add j) = some u := fun j u hj => by
      rw [add_lit]; exact hs.cell hj
    have hlen : (cs ++ news).length = (n + m) * i.size := by rw [List.length_append, ho.len, hl, Nat.add_mul]
    have fresh : ∀ old, old < n + m → Own (w.drew.alloc (.cells (cs.toArray ++ news.toArray ++ Builtin.zeroCells z.cells (grownCap w (n + m) old e - (n + m))) e)) B (some ⟨w.heap.size, 0, none⟩) (n + m) (grownCap w (n + m) old e) e i.size (cs ++ news) := fun old _ => by
      have hge := grownCap_ge w (n + m) old e
      refine ⟨hlen, .inr ⟨w.heap.size, _, _, rfl, hB, heap_alloc_new w.drew _, hge, grownCap_le_maxLen w (n + m) old e hm, ?_, ?_⟩⟩
      · simp only [Array.size_append, List.size_toArray, size_zeroCells, hzs, ho.len, hl, ← Nat.add_mul]
        congr 1
        omega
      · simp only [Array.toList_append, List.append_assoc]
        rw [← List.append_assoc, ← hlen]
        exact List.take_left
    have ext : ∀ o, Ext (inA a) w (w.drew.alloc o) := fun o => Ext0.any (a := w) ⟨rfl, rfl, rfl, by simp, fun k hk _ => heap_alloc_old w.drew o hk⟩
    have hi63 : (((n + m : Nat)) : Int) ≤ 9223372036854775807 := by simp only [maxLen] at hm; omega
    have hB' := ho.2
    rcases hB' with ⟨hv, hn⟩ | ⟨gg, cap, cur, hv, hbg, hg, hncp, hcm, hcs, htake⟩
    · simp only [Value.slice.injEq] at hv
      obtain ⟨rfl, rfl, rfl⟩ := hv
      have hx : cs = [] := List.eq_nil_of_length_eq_zero (by rw [ho.len, Nat.zero_mul])
      subst hx
      have hr := run_append_nil (P := P) w T ty e i z hu hi hz ⟨b, off, none⟩ m cm news hl hnews (by omega) (by omega) (by simp only [Nat.zero_add] at hb; omega)
      have hf := fresh 0 (by omega)
      simp only [Nat.zero_add, List.nil_append, Array.empty_append] at hf ⊢
      refine ⟨_, _, _, hr, ?_, ext _, fun k hk => .inr (by simp only [inA, Option.map_some, Option.some.injEq] at hk; omega)⟩
      simpa using hf
    · simp only [Value.slice.injEq] at hv
      obtain ⟨rfl, _, rfl⟩ := hv
      by_cases hroom : n + m ≤ c
      · have hfit : n * i.size + news.length ≤ cur.size := by rw [hl, hcs, ← Nat.add_mul]; exact Nat.mul_le_mul_right _ hroom
        have hr := run_append_room (P := P) w T ty e i hu hi gg n c cur hg ⟨b, off, none⟩ m cm news hl hnews h1 hroom hfit
        refine ⟨_, _, _, hr, ⟨hlen, .inr ⟨gg, c, _, rfl, hbg, setRow_heap w gg cur _ e _ hg, hroom, hcm, ?_, ?_⟩⟩, ⟨rfl, rfl, rfl, by simp, fun k _ hk => setRow_other w gg k _ (fun ee => hk (by simp [inA, ee]))⟩, fun k hk => .inl hk⟩
        · simp only [List.size_toArray, List.length_append, List.length_take, List.length_drop, Array.length_toList]
          omega
        · rw [htake, ← hlen]
          exact List.take_left
      · have holds : ∀ j u, cs[j]? = some u → w.cell? ((⟨gg, 0, none⟩ : Addr).add j) = some u := fun j u hj => World.ownsRow.cells ho (g := gg) rfl j u hj
        have hr := run_append_grow (P := P) w T ty e i z hu hi hz ⟨gg, 0, none⟩ n c cs ho.len holds ⟨b, off, none⟩ m cm news hl hnews (by omega) (by omega) (growslice_fits (by omega) hb)
        exact ⟨_, _, _, hr, fresh c (by omega), ext _, fun k hk => .inr (by simp only [inA, Option.map_some, Option.some.injEq] at hk; omega)⟩

theorem k_append {T e s bytes : Nat} {z : Value} {ts : Array TypeId} (hT : SlT P T e s bytes z) (hts : ts = #[T, T]) {B n c m cm : Nat} {a ad : Option Addr} {cs news : List Value} (hx : ev ρ x = .slice a n c) (hy : ev ρ y = .slice ad m cm)
    (ho : Own w B a n c e s cs) (hs : Sl w ad news) (hl : news.length = m * s)
    (h1 : ∀ u ∈ news, u.oneCell' = true) (hb : (n + m) * bytes ≤ 140737488355328) (hm : n + m ≤ maxLen) (hB : B ≤ w.heap.size)
    (h : ∀ a' c' w', Ext (inA a) w w' → Own w' B a' (n + m) c' e s (cs ++ news) → (∀ k, inA a' k → inA a k ∨ w.heap.size ≤ k) → K (.slice a' (n + m) c') w') :
    opk P ⟨d, .call { callee := .builtin .append, args := #[x, y], argTypes := ts }, ty, pos, aft, g⟩ ρ w K := by
  obtain ⟨a', c', w', hr, h2, h3, h4⟩ := run_append_x (ty := ty) (cm := cm) hT ho hs hl h1 hb hm hB
  subst hts
  unfold opk
  simp only [execOp, resolve, invoke, builtin, Sem.run_bind, Sem.run_pure, Result.andThen_ok, List.map_toArray, List.map_cons, List.map_nil, hx, hy, hr]
  exact h a' c' w' h3 h2 h4

/-- '[]T{..}' -/
theorem k_bslice {T e s bytes n : Nat} {z : Value} {parts : Array (Nat × Operand)} {cells : Array Value} (hT : SlT P T e s bytes z) (hn : n * s ≤ 16777216)
    (hf : Instr.fill (fun i => some (i * s, s)) (madeCells z.cells (n * s)) (parts.map fun (i, x) => (i, ev ρ x)).toList = some cells) (hcs : cells.size = n * s)
    (h : ∀ b w', b = w.heap.size → Ext0 w w' → Own w' w.heap.size (some ⟨b, 0, none⟩) n n e s cells.toList → K (.slice (some ⟨b, 0, none⟩) n n) w') :
    opk P ⟨d, .buildSlice T n parts, ty, pos, aft, g⟩ ρ w K := by
  obtain ⟨i, hu, hi, hz, hsz, hby⟩ := hT.get
  subst hsz
  have hn' : ¬ (2 ^ 24 < n * i.size) := by omega
  have own : Own (w.alloc (.cells cells e)) w.heap.size (some ⟨w.heap.size, 0, none⟩) n n e i.size cells.toList :=
    ⟨by simpa using hcs, .inr ⟨w.heap.size, n, cells, rfl, Nat.le_refl _, Blk.new _ _ _, Nat.le_refl _, by have := hT.2.2.2; simp only [maxLen]; have : n * 1 ≤ n * i.size := Nat.mul_le_mul_left _ this; omega, hcs, by rw [List.take_of_length_le]; simp [hcs]⟩⟩
  have hk := h _ _ rfl (Ext0.alloc w _) own
  unfold opk
  have hf' := hf
  unfold madeCells at hf'
  rw [Array.toList_map] at hf'
  by_cases h0 : n * i.size = 0
  · have e0 : ∀ f : Nat → Value, (Array.range 0).map f = #[] := fun f => by simp [Array.range_zero']
    rw [h0, e0] at hf'
    simp [execOp, Instr.buildSlice, run_underlying hu, sizeOf, typeInfo, hi, h0, newRow, newObj, e0]
    rw [hf']
    exact hk
  · simp [execOp, Instr.buildSlice, run_underlying hu, sizeOf, typeInfo, hi, h0, hn', zeroValue, hz, newRow, newObj]
    rw [hf']
    exact hk
end
end Go.Wv

/- The steps of a walk, the entry of a function and its end, loops. -/
namespace Go.Wv
section
variable {P : Program} {ops : Array Oper} {Q : Env → World → Prop} {rest : List Oper} {ρ : Env} {w : World}
variable {t : Nat} {op : Op} {ty : TypeId} {pos : String} {aft : Array Edge} {g : Option (Nat × Bool)} {v : Value}

theorem s_nil (h : Q ρ w) : wpo P ops Q [] ρ w := h
theorem s_y (hw : want ops ρ ⟨some t, op, ty, pos, aft, g⟩ = true) (h : Yv P ρ ⟨some t, op, ty, pos, aft, g⟩ v w) (k : wpo P ops Q rest (upd ρ t v) w) : wpo P ops Q (⟨some t, op, ty, pos, aft, g⟩ :: rest) ρ w := by
  unfold wpo
  rw [if_pos hw]
  unfold opk
  rw [h]
  exact k
theorem s_skip (hw : want ops ρ ⟨some t, op, ty, pos, aft, g⟩ = false) (k : wpo P ops Q rest (upd ρ t undef) w) : wpo P ops Q (⟨some t, op, ty, pos, aft, g⟩ :: rest) ρ w := by
  unfold wpo
  rw [if_neg (by simp [hw])]
  exact k
theorem s_n {S : Value → Prop} (hw : want ops ρ ⟨some t, op, ty, pos, aft, g⟩ = true) (h : Yn P ρ ⟨some t, op, ty, pos, aft, g⟩ S w) (k : ∀ v w', Ext0 w w' → S v → wpo P ops Q rest (upd ρ t v) w') : wpo P ops Q (⟨some t, op, ty, pos, aft, g⟩ :: rest) ρ w := by
  obtain ⟨v, n, hr, hs⟩ := h
  unfold wpo
  rw [if_pos hw]
  unfold opk
  rw [hr]
  exact k v _ (Ext0.of_draw _ _) hs
theorem s_k (hw : want ops ρ ⟨some t, op, ty, pos, aft, g⟩ = true) (h : opk P ⟨some t, op, ty, pos, aft, g⟩ ρ w (fun v w' => wpo P ops Q rest (upd ρ t v) w')) : wpo P ops Q (⟨some t, op, ty, pos, aft, g⟩ :: rest) ρ w := by
  unfold wpo
  rw [if_pos hw]
  exact h
theorem s_k0 (hw : want ops ρ ⟨none, op, ty, pos, aft, g⟩ = true) (h : opk P ⟨none, op, ty, pos, aft, g⟩ ρ w (fun _ w' => wpo P ops Q rest ρ w')) : wpo P ops Q (⟨none, op, ty, pos, aft, g⟩ :: rest) ρ w := by
  unfold wpo
  rw [if_pos hw]
  exact h

/-! regions that draw -/
def takeB (ops : Array Oper) (listed : Array Bool) (i : Nat) : Bool := Region.noSelect ops && Region.free .any ops listed i && (Region.ready .any ops listed).contains i
def soleB (ops : Array Oper) (listed : Array Bool) (i : Nat) (l : List Nat) : Bool :=
  takeB ops listed i && depOk ops i l && l.all (fun k => !listed.getD k true) &&
  (List.range ops.size).all fun j => j == i || listed.getD j true || l.contains j || match ops[j]? with
    | some o => !acts o.op
    | none => true

variable {w0 : World} {S : Nat → Prop} {f i : Nat} {listed : Array Bool}

theorem m_y (i : Nat) (hi : ops[i]? = some ⟨some t, op, ty, pos, aft, g⟩) (hb : takeB ops listed i = true) (hw : want ops ρ ⟨some t, op, ty, pos, aft, g⟩ = true) (hac : acts op = false)
    (h : ∀ w', Ext S w0 w' → Yv P ρ ⟨some t, op, ty, pos, aft, g⟩ v w') (k : wpM P ops (Ext S w0) Q f (listed.setIfInBounds i true) (upd ρ t v) w) : wpM P ops (Ext S w0) Q (f + 1) listed ρ w := by
  simp only [takeB, Bool.and_eq_true] at hb
  exact wpM_det (Region.noSelect_spec hb.1.1) hi f listed ρ w (Region.free_spec hi hb.1.2) (by simpa using hb.2) (fun _ => ⟨hac, fun w' hc => ⟨0, h w' hc⟩⟩) (fun e => by rw [hw] at e; cases e) k
theorem m_skip (i : Nat) (hi : ops[i]? = some ⟨some t, op, ty, pos, aft, g⟩) (hb : takeB ops listed i = true) (hw : want ops ρ ⟨some t, op, ty, pos, aft, g⟩ = false)
    (k : wpM P ops (Ext S w0) Q f (listed.setIfInBounds i true) (upd ρ t undef) w) : wpM P ops (Ext S w0) Q (f + 1) listed ρ w := by
  simp only [takeB, Bool.and_eq_true] at hb
  exact wpM_det (Region.noSelect_spec hb.1.1) hi (v := undef) f listed ρ w (Region.free_spec hi hb.1.2) (by simpa using hb.2) (fun e => by rw [hw] at e; cases e) (fun _ => rfl) k

theorem soleB_spec {oi : Oper} {l : List Nat} (hi : ops[i]? = some oi) (hb : soleB ops listed i l = true) :
    (∀ (j : Nat) (o : Oper) cs b, ops[j]? = some o → o.op ≠ .select cs b) ∧ depOk ops i l = true ∧ (∀ j oj, ops[j]? = some oj → j ≠ i → listed.getD j true = false → (∀ e ∈ oj.after, Region.binds .any e = true → e.on ≠ i) → oi.apart ops oj = true) ∧
    (∀ k ∈ l, listed.getD k true = false) ∧ (∀ j oj, ops[j]? = some oj → j ≠ i → listed.getD j true = false → acts oj.op = true → j ∈ l) ∧ i ∈ Region.ready .any ops listed := by
  simp only [soleB, takeB, Bool.and_eq_true] at hb
  obtain ⟨⟨⟨⟨⟨h1, h2⟩, h3⟩, h4⟩, h5⟩, h6⟩ := hb
  refine ⟨Region.noSelect_spec h1, h4, Region.free_spec hi h2, fun k hk => ?_, fun j oj hj hji hun hac => ?_, by simpa using h3⟩
  · have := List.all_eq_true.1 h5 k hk
    simpa using this
  · simp only [List.all_eq_true, List.mem_range, Bool.or_eq_true] at h6
    have := h6 j (Array.getElem?_eq_some_iff.1 hj).1
    simp only [hj, hac, Bool.not_true, Bool.false_eq_true, or_false, hun, beq_iff_eq, hji, false_or, List.contains_iff_mem] at this
    exact this

theorem m_n {V : Value → Prop} (i : Nat) (l : List Nat) (hi : ops[i]? = some ⟨some t, op, ty, pos, aft, g⟩) (hb : soleB ops listed i l = true) (hw : want ops ρ ⟨some t, op, ty, pos, aft, g⟩ = true) (hac : acts op = false)
    (h : ∀ w', Ext S w0 w' → Yn P ρ ⟨some t, op, ty, pos, aft, g⟩ V w') (k : ∀ v, V v → wpM P ops (Ext S w0) Q f (listed.setIfInBounds i true) (upd ρ t v) w) : wpM P ops (Ext S w0) Q (f + 1) listed ρ w := by
  obtain ⟨h1, h2, h3, h4, h5, h6⟩ := soleB_spec hi hb
  refine wpM_nd h1 hi l h2 ⟨w0, Ext.refl _ _⟩ hac f listed ρ w h3 h4 h5 h6 hw (fun w' hc => ?_) (fun w' v n hc hr => ?_)
  · obtain ⟨v, n, hr, _⟩ := h w' hc
    exact ⟨v, n, hr⟩
  · obtain ⟨v', n', hr', hs⟩ := h w' hc
    rw [hr'] at hr
    injection hr with e1 e2
    injection e1 with e1
    subst e1
    exact k _ hs

theorem m_k {d : Option Nat} (i : Nat) (l : List Nat) (hi : ops[i]? = some ⟨d, op, ty, pos, aft, g⟩) (hb : soleB ops listed i l = true) (hw : want ops ρ ⟨d, op, ty, pos, aft, g⟩ = true) (hac : acts op = true)
    (h : ∀ w', Ext0 w w' → opk P ⟨d, op, ty, pos, aft, g⟩ ρ w' (fun v w'' => (mustC ops i = true → Ext S w0 w'') ∧ wpM P ops (Ext S w0) Q f (listed.setIfInBounds i true) (setd ρ d v) w'')) : wpM P ops (Ext S w0) Q (f + 1) listed ρ w := by
  obtain ⟨h1, h2, h3, h4, h5, h6⟩ := soleB_spec hi hb
  exact wpM_act h1 hi l h2 hac f listed ρ w h3 h4 h5 h6 hw fun n => h _ (Ext0.of_draw _ _)

/-- The same at the end of a region. -/
theorem m_kt {d : Option Nat} (i : Nat) (l : List Nat) (hi : ops[i]? = some ⟨d, op, ty, pos, aft, g⟩) (hb : soleB ops listed i l = true) (hw : want ops ρ ⟨d, op, ty, pos, aft, g⟩ = true) (hac : acts op = true) (hm : mustC ops i = false)
    (h : ∀ w', Ext0 w w' → opk P ⟨d, op, ty, pos, aft, g⟩ ρ w' (fun v w'' => wpM P ops (Ext S w0) Q f (listed.setIfInBounds i true) (setd ρ d v) w'')) : wpM P ops (Ext S w0) Q (f + 1) listed ρ w :=
  m_k i l hi hb hw hac fun w' e => opk_mono (h w' e) fun v w'' hk => ⟨fun hx => (by rw [hm] at hx; cases hx), hk⟩

/-- Two operations that act, in either order. -/
theorem m_two {d d' : Option Nat} {op' : Op} {ty' : TypeId} {pos' : String} {aft' : Array Edge} {g' : Option (Nat × Bool)} (i j : Nat) (hr : Region.ready .any ops listed = [i, j])
    (hi : ops[i]? = some ⟨d, op, ty, pos, aft, g⟩) (hj : ops[j]? = some ⟨d', op', ty', pos', aft', g'⟩) (hw : want ops ρ ⟨d, op, ty, pos, aft, g⟩ = true) (hw' : want ops ρ ⟨d', op', ty', pos', aft', g'⟩ = true) (hac : acts op = true) (hac' : acts op' = true)
    (h : ∀ w', Ext0 w w' → opk P ⟨d, op, ty, pos, aft, g⟩ ρ w' (fun v w'' => (mustC ops i = true → Ext S w0 w'') ∧ wpM P ops (Ext S w0) Q f (listed.setIfInBounds i true) (setd ρ d v) w''))
    (h' : ∀ w', Ext0 w w' → opk P ⟨d', op', ty', pos', aft', g'⟩ ρ w' (fun v w'' => (mustC ops j = true → Ext S w0 w'') ∧ wpM P ops (Ext S w0) Q f (listed.setIfInBounds j true) (setd ρ d' v) w'')) : wpM P ops (Ext S w0) Q (f + 1) listed ρ w := by
  refine ⟨fun e => (by rw [hr] at e; cases e), fun k hk o ho => ?_⟩
  rw [hr] at hk
  simp only [List.mem_cons, List.not_mem_nil, or_false] at hk
  rcases hk with rfl | rfl
  · obtain rfl : (⟨d, op, ty, pos, aft, g⟩ : Oper) = o := Option.some.inj (hi.symm.trans ho)
    exact ⟨fun _ b => (by rw [hac] at b; cases b), fun _ _ n => h _ (Ext0.of_draw _ _), fun e => (by rw [hw] at e; cases e)⟩
  · obtain rfl : (⟨d', op', ty', pos', aft', g'⟩ : Oper) = o := Option.some.inj (hj.symm.trans ho)
    exact ⟨fun _ b => (by rw [hac'] at b; cases b), fun _ _ n => h' _ (Ext0.of_draw _ _), fun e => (by rw [hw'] at e; cases e)⟩

theorem m_three {d d' e : Option Nat} {op' oq : Op} {ty' tz : TypeId} {pos' pz : String} {aft' az : Array Edge} {g' gz : Option (Nat × Bool)} (i j q : Nat) (hr : Region.ready .any ops listed = [i, j, q])
    (hi : ops[i]? = some ⟨d, op, ty, pos, aft, g⟩) (hj : ops[j]? = some ⟨d', op', ty', pos', aft', g'⟩) (hq : ops[q]? = some ⟨e, oq, tz, pz, az, gz⟩)
    (hw : want ops ρ ⟨d, op, ty, pos, aft, g⟩ = true) (hw' : want ops ρ ⟨d', op', ty', pos', aft', g'⟩ = true) (hwq : want ops ρ ⟨e, oq, tz, pz, az, gz⟩ = true) (hac : acts op = true) (hac' : acts op' = true) (hacq : acts oq = true)
    (h : ∀ w', Ext0 w w' → opk P ⟨d, op, ty, pos, aft, g⟩ ρ w' (fun v w'' => (mustC ops i = true → Ext S w0 w'') ∧ wpM P ops (Ext S w0) Q f (listed.setIfInBounds i true) (setd ρ d v) w''))
    (h' : ∀ w', Ext0 w w' → opk P ⟨d', op', ty', pos', aft', g'⟩ ρ w' (fun v w'' => (mustC ops j = true → Ext S w0 w'') ∧ wpM P ops (Ext S w0) Q f (listed.setIfInBounds j true) (setd ρ d' v) w''))
    (h'' : ∀ w', Ext0 w w' → opk P ⟨e, oq, tz, pz, az, gz⟩ ρ w' (fun v w'' => (mustC ops q = true → Ext S w0 w'') ∧ wpM P ops (Ext S w0) Q f (listed.setIfInBounds q true) (setd ρ e v) w'')) : wpM P ops (Ext S w0) Q (f + 1) listed ρ w := by
  refine ⟨fun e => (by rw [hr] at e; cases e), fun k hk o ho => ?_⟩
  rw [hr] at hk
  simp only [List.mem_cons, List.not_mem_nil, or_false] at hk
  rcases hk with rfl | rfl | rfl
  · obtain rfl : (⟨d, op, ty, pos, aft, g⟩ : Oper) = o := Option.some.inj (hi.symm.trans ho)
    exact ⟨fun _ b => (by rw [hac] at b; cases b), fun _ _ n => h _ (Ext0.of_draw _ _), fun e => (by rw [hw] at e; cases e)⟩
  · obtain rfl : (⟨d', op', ty', pos', aft', g'⟩ : Oper) = o := Option.some.inj (hj.symm.trans ho)
    exact ⟨fun _ b => (by rw [hac'] at b; cases b), fun _ _ n => h' _ (Ext0.of_draw _ _), fun e => (by rw [hw'] at e; cases e)⟩
  · obtain rfl : (⟨e, oq, tz, pz, az, gz⟩ : Oper) = o := Option.some.inj (hq.symm.trans ho)
    exact ⟨fun _ b => (by rw [hacq] at b; cases b), fun _ _ n => h'' _ (Ext0.of_draw _ _), fun e => (by rw [hwq] at e; cases e)⟩

theorem m_done (hr : (Region.ready .any ops listed).isEmpty = true) (h : ∀ w', Ext0 w w' → Q ρ w') : wpM P ops (Ext S w0) Q f listed ρ w :=
  wpM_done (by simpa using hr) fun _ => h _ (Ext0.of_draw _ _)

theorem W_draw (S : Nat → Prop) {n id : Nat} {l : List Oper} {Q : Exit → Env → World → Prop} (hm : P.follows .mixedOrders = true) (hok : okops n l.toArray = true)
    (h : ∀ w', Ext0 w w' → wpM P l.toArray (Ext S w) (Q .normal) l.length (Array.replicate l.length false) ρ w') : W P n (.region id l.toArray true) Q ρ w := fun a hf => by
  refine wp_region_any hm ?_
  have := wpM_sound (P := P) (C := Ext S w) (Q := Q .normal) (Q' := fun e a' w' => ∃ ρ', Fr n a' ρ' ∧ Q e ρ' w') hok (fun w m h => h.drewN m) (fun a ρ w h1 h2 => ⟨ρ, h1, h2⟩) l.length (Array.replicate l.length false) a ρ (w.drewN 1) hf
    ⟨by simp, fun k hk => by rcases Nat.lt_or_ge k l.length with h | h <;> simp [h] at hk⟩ (fun _ => (Ext0.of_draw _ _).any) (h _ (Ext0.of_draw _ _))
  rw [List.size_toArray]
  exact this

def onlyN (I : Env → World → Prop) : Exit → Env → World → Prop
  | .normal => I
  | _ => fun _ _ => False
/-- A region that draws, cut behind its end. -/
theorem W_drawI (S : Nat → Prop) {n id : Nat} {l : List Oper} {Q : Exit → Env → World → Prop} (I : Env → World → Prop) (hm : P.follows .mixedOrders = true) (hok : okops n l.toArray = true)
    (h : ∀ w', Ext0 w w' → wpM P l.toArray (Ext S w) I l.length (Array.replicate l.length false) ρ w') (hI : ∀ ρ' w', I ρ' w' → Q .normal ρ' w') : W P n (.region id l.toArray true) Q ρ w := fun a hf => by
  have h1 := W_draw S (n := n) (id := id) (l := l) (Q := onlyN I) hm hok h a hf
  refine Code.wp_mono (fun e a' w' hq => ?_) h1
  obtain ⟨ρ', hf', hq⟩ := hq
  cases e
  · exact ⟨ρ', hf', hI ρ' w' hq⟩
  all_goals exact hq.elim

/-! entry and end -/
def envOf (l : List Value) : Env := fun t => l.getD t undef

def RV (P : Program) (ρ : Env) (w : World) : ResultVar → Value → Prop
  | .tmp t, v => ρ t = v
  | .cell a T, v => ∃ b cs T', ρ a = .pointer (some ⟨b, 0, none⟩) ∧ Blk w b cs T' ∧ aggB P T cs.length = true ∧ v = .agg cs.toArray
def rvOk (n : Nat) : ResultVar → Bool
  | .tmp t => decide (t < n)
  | .cell a _ => decide (a < n)

theorem RV.run {n : Nat} {a : Act} (hf : Fr n a ρ) {r : ResultVar} (ho : rvOk n r = true) {v : Value} (h : RV P ρ w r v) :
    (match r with
      | .tmp t => pure (a.tmps.getD t undef)
      | .cell b t => do loadVar t (← asAddr (a.tmps.getD b undef)) : Sem Value).run P w = .ok v w := by
  cases r with
  | tmp t =>
    have := hf.2.2 t (by simpa [rvOk] using ho)
    simp only [RV] at h
    simp [this, h]
  | cell b T =>
    have := hf.2.2 b (by simpa [rvOk] using ho)
    obtain ⟨k, cs, T', h1, h2, h3, rfl⟩ := h
    obtain ⟨h4, h5⟩ := run_isAgg_struct h3 w
    have hl := run_loadCells_list (P := P) w ⟨k, 0, none⟩ cs (fun j u hj => by rw [add_lit, Nat.zero_add]; exact h2.cell hj)
    simp [this, h1, asAddr, loadVar, h4, h5, hl]

def bodyQ (P : Program) (n : Nat) (fn : Func) (R : Ending → World → Prop) : Exit → Env → World → Prop
  | .normal, ρ, w | .ret, ρ, w => ∃ v, (∀ a, Fr n a ρ → (results fn a.tmps).run P w = .ok v w) ∧ R (.returned v) w
  | _, _, _ => False

theorem calls_W {F : FuncId} {fn : Func} {c : Code} {args : List Value} {n : Nat} {R : Ending → World → Prop} (hf : P.funcs[F]? = some fn) (hb : fn.body = some c) (hn : fn.ntmps = n) (hl : args.length ≤ n)
    (h : W P n c (bodyQ P n fn R) (envOf args) w) : Calls P F args.toArray w R := by
  subst hn
  refine calls_of_wp hf hb (Code.wp_mono (fun e a' w' hq => ?_) (h _ ⟨rfl, ?_, fun t ht => ?_⟩))
  · obtain ⟨ρ', hf', hq⟩ := hq
    cases e <;> simp only [bodyQ] at hq <;> simp only [bodyPost]
    · obtain ⟨v, h1, h2⟩ := hq; exact ⟨hf'.1, v, h1 _ hf', h2⟩
    · obtain ⟨v, h1, h2⟩ := hq; exact ⟨hf'.1, v, h1 _ hf', h2⟩
  · simp; omega
  · simp only [envOf]
    by_cases hlt : t < args.length
    · rw [Array.getElem?_append_left (by simpa using hlt)]
      simp [hlt]
    · rw [Array.getElem?_append_right (by simpa using Nat.le_of_not_lt hlt)]
      have : t - args.length < fn.ntmps - args.length := by omega
      simp [this, hlt]

def rvSem (tmps : Array Value) : ResultVar → Sem Value
  | .tmp t => pure (tmps.getD t undef)
  | .cell b t => do loadVar t (← asAddr (tmps.getD b undef))
theorem results_eq (fn : Func) (tmps : Array Value) : results fn tmps = (fn.results.mapM (rvSem tmps) >>= fun vs => pure (if h : vs.size = 1 then vs[0] else .tuple vs) : Sem Value) := by
  unfold results
  congr 1
theorem RV.run' {n : Nat} {a : Act} (hf : Fr n a ρ) {r : ResultVar} (ho : rvOk n r = true) {v : Value} (h : RV P ρ w r v) : (rvSem a.tmps r).run P w = .ok v w := by
  have := RV.run hf ho h
  cases r <;> exact this
theorem ret1 {n : Nat} {fn : Func} {r : ResultVar} {R : Ending → World → Prop} (hr : fn.results = #[r]) (ho : rvOk n r = true) (h : RV P ρ w r v) (hR : R (.returned v) w) : bodyQ P n fn R .ret ρ w :=
  ⟨v, fun a hf => by rw [results_eq, hr]; simp [RV.run' hf ho h], hR⟩
theorem ret2 {n : Nat} {fn : Func} {r s : ResultVar} {v1 v2 : Value} {R : Ending → World → Prop} (hr : fn.results = #[r, s]) (ho : rvOk n r = true) (ho' : rvOk n s = true) (h : RV P ρ w r v1) (h' : RV P ρ w s v2) (hR : R (.returned (.tuple #[v1, v2])) w) : bodyQ P n fn R .ret ρ w :=
  ⟨_, fun a hf => by rw [results_eq, hr]; simp [RV.run' hf ho h, RV.run' hf ho' h'], hR⟩
theorem ret3 {n : Nat} {fn : Func} {r s q : ResultVar} {v1 v2 v3 : Value} {R : Ending → World → Prop} (hr : fn.results = #[r, s, q]) (ho : rvOk n r = true) (ho' : rvOk n s = true) (ho'' : rvOk n q = true) (h : RV P ρ w r v1) (h' : RV P ρ w s v2) (h'' : RV P ρ w q v3)
    (hR : R (.returned (.tuple #[v1, v2, v3])) w) : bodyQ P n fn R .ret ρ w :=
  ⟨_, fun a hf => by rw [results_eq, hr]; simp [RV.run' hf ho h, RV.run' hf ho' h', RV.run' hf ho'' h''], hR⟩
theorem ret0 {n : Nat} {fn : Func} {R : Ending → World → Prop} (hr : fn.results = #[]) (hR : R (.returned (.tuple #[])) w) : bodyQ P n fn R .normal ρ w :=
  ⟨_, fun a hf => by simp [results, hr], hR⟩

/-! loops: what is known of the slots -/
def updL (ρ : Env) : List (Nat × Value) → Env
  | [] => ρ
  | (d, v) :: l => upd (updL ρ l) d v
def Fits (ρ : Env) : List (Nat × Value) → Prop
  | [] => True
  | (d, v) :: l => ρ d = v ∧ Fits ρ l
theorem updL_self (ρ : Env) (l : List (Nat × Value)) (h : ∀ p ∈ l, ρ p.1 = p.2) : updL ρ l = ρ := by
  induction l with
  | nil => rfl
  | cons p l ih =>
    obtain ⟨d, v⟩ := p
    simp only [updL]
    rw [ih fun q hq => h q (by simp [hq])]
    funext t
    unfold upd
    split
    · rename_i e; subst e; exact (h (t, v) (by simp)).symm
    · rfl
theorem Fits.eq {ρ : Env} : ∀ {l : List (Nat × Value)}, Fits ρ l → ρ = updL ρ l
  | [], _ => rfl
  | (d, v) :: l, h => by
    have ih := Fits.eq h.2
    simp only [updL]
    rw [← ih]
    funext t
    unfold upd
    split
    · rename_i e; subst e; exact h.1
    · rfl
def iv : Value → Int | .int _ n => n | _ => 0
end
end Go.Wv

