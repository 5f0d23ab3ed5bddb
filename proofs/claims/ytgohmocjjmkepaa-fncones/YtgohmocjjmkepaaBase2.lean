/- A region that draws its order, walked in one order: operations that only look (their values may be any of several, as for NaNs), and operations that act. -/
import Derived.Test.YtgohmocjjmkepaaBase1
set_option linter.unusedSimpArgs false
set_option linter.unusedVariables false
namespace Go.Wv

section
variable {P : Program} {ops : Array Oper} {C : World → Prop} {Q : Env → World → Prop}

theorem ev_setd {ρ : Env} {d : Option Nat} {v : Value} {x : Operand} (h : ∀ t, d = some t → x ≠ .tmp t) : ev (setd ρ d v) x = ev ρ x := by
  cases d with
  | none => rfl
  | some d =>
    cases x with
    | tmp t =>
      have : t ≠ d := fun e => h d rfl (e ▸ rfl)
      simp [ev, setd, upd, this]
    | _ => rfl

theorem exec_setd (o : Oper) (hs : ∀ cs b, o.op ≠ .select cs b) (ρ : Env) (d : Option Nat) (v : Value) (h : ∀ t, d = some t → t ∉ o.looksAt ops) :
    execOp (ev (setd ρ d v)) o = execOp (ev ρ) o :=
  execOp_congr o hs fun x hx => ev_setd fun t ht hxt => h t ht (by
    subst hxt
    exact List.mem_append_left _ (List.mem_filterMap.2 ⟨.tmp t, by simpa using hx, rfl⟩))

theorem want_setd (o : Oper) (ρ : Env) (d : Option Nat) (v : Value) (h : ∀ t, d = some t → t ∉ o.looksAt ops) : want ops (setd ρ d v) o = want ops ρ o := by
  unfold want
  cases hg : o.guard with
  | none => rfl
  | some g =>
    obtain ⟨j, b⟩ := g
    simp only
    cases ht : (ops[j]?).bind (·.dst) with
    | none => rfl
    | some t =>
      cases d with
      | none => rfl
      | some d =>
        have hne : t ≠ d := fun e => h d rfl (by subst e; simp [Oper.looksAt, hg, ht])
        simp [setd, upd, hne]

theorem setd_comm (ρ : Env) {x y : Option Nat} (v u : Value) (h : ∀ d, x = some d → y ≠ some d) : setd (setd ρ x v) y u = setd (setd ρ y u) x v := by
  cases x with
  | none => rfl
  | some d =>
    cases y with
    | none => rfl
    | some e =>
      have hne : d ≠ e := fun he => h d rfl (he ▸ rfl)
      funext t
      simp only [setd, upd]
      by_cases h1 : t = e <;> by_cases h2 : t = d <;> simp_all

/-- Does the operation act (write, make memory, call)? -/
def acts : Op → Bool
  | .move _ | .assign _ | .pick .. | .load .. | .nilCheck _ | .binOp .. | .unOp .. | .convert .. | .fieldAddr .. | .field .. | .indexAddr .. | .index .. | .extract .. | .slice .. | .build .. | .makeFunc .. => false
  | .call { callee := .builtin .len, .. } | .call { callee := .builtin .max, .. } | .call { callee := .builtin .min, .. } => false
  | _ => true

/-- Is there an operation left that only looks? -/
def looksLeft (ops : Array Oper) (listed : Array Bool) : Bool :=
  (List.range ops.size).any fun j => !listed.getD j true && match ops[j]? with
    | some o => !acts o.op
    | none => false

theorem getD_set_self {listed : Array Bool} {i : Nat} : (listed.setIfInBounds i true).getD i true = true := by
  rcases Nat.lt_or_ge i listed.size with hl | hl
  · simp [hl]
  · simp

theorem looksLeft_mono {listed : Array Bool} {i : Nat} (h : looksLeft ops (listed.setIfInBounds i true) = true) : looksLeft ops listed = true := by
  simp only [looksLeft, List.any_eq_true, List.mem_range, Bool.and_eq_true, Bool.not_eq_true'] at *
  obtain ⟨j, h1, h2, h3⟩ := h
  refine ⟨j, h1, ?_, h3⟩
  by_cases e : i = j
  · subst e
    rw [getD_set_self] at h2; cases h2
  · rw [getD_set_ne true e] at h2; exact h2

/-- The operations that operation 'j' waits for, and those that they wait for. -/
def depsOf (ops : Array Oper) (j : Nat) : List Nat := match ops[j]? with
  | some o => (o.after.toList.filter fun e => Region.binds .any e).map (·.on)
  | none => []
def befores (ops : Array Oper) (j : Nat) : List Nat :=
  (List.range j).reverse.foldl (fun l k => if (j :: l).any (fun m => (depsOf ops m).contains k) then k :: l else l) []
/-- May an operation that only looks come behind operation 'j'? -/
def mustC (ops : Array Oper) (j : Nat) : Bool :=
  (fun b : List Nat => (List.range ops.size).any fun k => k != j && match ops[k]? with
    | some o => !acts o.op && !b.contains k
    | none => false) (befores ops j)
def ClosedL (ops : Array Oper) (listed : Array Bool) : Prop := listed.size = ops.size ∧ ∀ k, listed.getD k false = true → ∀ m ∈ depsOf ops k, listed.getD m true = true

theorem ready_deps {listed : Array Bool} {j : Nat} (hr : j ∈ Region.ready .any ops listed) : ∀ m ∈ depsOf ops j, listed.getD m true = true := fun m hm => by
  obtain ⟨_, oj, hoj, hall⟩ := mem_ready.1 hr
  simp only [depsOf, hoj, List.mem_map, List.mem_filter, Array.mem_toList_iff] at hm
  obtain ⟨e, ⟨he, hb⟩, rfl⟩ := hm
  have := hall e he hb
  rcases Nat.lt_or_ge e.on listed.size with hs | hs
  · simp [hs] at this ⊢; exact this
  · simp [Array.getElem?_eq_none hs]
theorem getD_in {listed : Array Bool} {m : Nat} (hs : m < listed.size) (h : listed.getD m true = true) : listed.getD m false = true := by
  simp [hs] at h ⊢; exact h
theorem ready_lt {listed : Array Bool} {j : Nat} (hr : j ∈ Region.ready .any ops listed) : j < ops.size := by
  obtain ⟨_, oj, hoj, _⟩ := mem_ready.1 hr
  exact (Array.getElem?_eq_some_iff.1 hoj).1
theorem closed_set {listed : Array Bool} {j : Nat} (hr : j ∈ Region.ready .any ops listed) (hc : ClosedL ops listed) : ClosedL ops (listed.setIfInBounds j true) := by
  refine ⟨by simpa using hc.1, fun k hk m hm => ?_⟩
  have h1 : listed.getD m true = true := by
    by_cases e : j = k
    · subst e; exact ready_deps hr m hm
    · rw [getD_set_ne false e] at hk
      exact hc.2 k hk m hm
  by_cases e : j = m
  · subst e; exact getD_set_self
  · rw [getD_set_ne true e]; exact h1
theorem befores_listed {listed : Array Bool} {j : Nat} (hr : j ∈ Region.ready .any ops listed) (hc : ClosedL ops listed) : ∀ k ∈ befores ops j, listed.getD k true = true := by
  have hj := ready_lt hr
  have key : ∀ (ks : List Nat), (∀ k ∈ ks, k < j) → ∀ (l : List Nat), (∀ k ∈ l, k < j ∧ listed.getD k true = true) →
      ∀ k ∈ ks.foldl (fun l k => if (j :: l).any (fun m => (depsOf ops m).contains k) then k :: l else l) l, k < j ∧ listed.getD k true = true := by
    intro ks
    induction ks with
    | nil => intro _ l h; exact h
    | cons x ks ih =>
      intro hks l h
      simp only [List.foldl_cons]
      refine ih (fun k hk => hks k (List.mem_cons_of_mem _ hk)) _ fun k hk => ?_
      split at hk
      · rename_i hx
        rcases List.mem_cons.1 hk with rfl | hk
        · refine ⟨hks _ (by simp), ?_⟩
          obtain ⟨m, hm, hmk⟩ := List.any_eq_true.1 hx
          simp only [List.contains_iff_mem] at hmk
          rcases List.mem_cons.1 hm with rfl | hm
          · exact ready_deps hr _ hmk
          · obtain ⟨h1, h2⟩ := h m hm
            exact hc.2 m (getD_in (by rw [hc.1]; omega) h2) _ hmk
        · exact h k hk
      · exact h k hk
  intro k hk
  unfold befores at hk
  exact (key _ (fun k hk => by simpa using hk) [] (fun k hk => by cases hk) k hk).2

theorem looksLeft_after {listed : Array Bool} {j : Nat} (hr : j ∈ Region.ready .any ops listed) (hc : ClosedL ops listed) (hm : mustC ops j = false) : looksLeft ops (listed.setIfInBounds j true) = false := by
  rw [Bool.eq_false_iff]
  intro h
  simp only [looksLeft, List.any_eq_true, List.mem_range, Bool.and_eq_true, Bool.not_eq_true'] at h
  obtain ⟨k, h1, h2, h3⟩ := h
  have hkj : j ≠ k := fun e => by subst e; rw [getD_set_self] at h2; cases h2
  rw [getD_set_ne true hkj] at h2
  obtain ⟨o, ho⟩ : ∃ o, ops[k]? = some o := ⟨_, Array.getElem?_eq_getElem h1⟩
  simp only [ho] at h3
  have : mustC ops j = true := by
    simp only [mustC, List.any_eq_true, List.mem_range, Bool.and_eq_true, bne_iff_ne, ne_eq]
    refine ⟨k, h1, fun e => hkj e.symm, ?_⟩
    simp only [ho, h3, Bool.true_and, Bool.not_eq_true', List.contains_eq_mem, decide_eq_false_iff_not]
    intro hb
    rw [befores_listed hr hc k hb] at h2
    cases h2
  rw [hm] at this; cases this

/-- Whatever order is picked from here on, over environments. An operation that only looks is asked in every world of the class. -/
def wpM (P : Program) (ops : Array Oper) (C : World → Prop) (Q : Env → World → Prop) : Nat → Array Bool → Env → World → Prop
  | 0, listed, ρ, w => Region.ready .any ops listed = [] ∧ ∀ n, Q ρ (w.drewN n)
  | f + 1, listed, ρ, w =>
    (Region.ready .any ops listed = [] → ∀ n, Q ρ (w.drewN n)) ∧
    ∀ i ∈ Region.ready .any ops listed, ∀ o, ops[i]? = some o →
      (want ops ρ o = true → acts o.op = false →
        (∀ w', C w' → ∃ v n, (execOp (ev ρ) o).run P w' = .ok (.value v) (w'.drewN n)) ∧
        (∀ w' v n, C w' → (execOp (ev ρ) o).run P w' = .ok (.value v) (w'.drewN n) → wpM P ops C Q f (listed.setIfInBounds i true) (setd ρ o.dst v) w)) ∧
      (want ops ρ o = true → acts o.op = true →
        ∀ n, opk P o ρ (w.drewN n) fun v w' => (mustC ops i = true → C w') ∧ wpM P ops C Q f (listed.setIfInBounds i true) (setd ρ o.dst v) w') ∧
      (want ops ρ o = false → wpM P ops C Q f (listed.setIfInBounds i true) (setd ρ o.dst undef) w)

theorem wpM_drewN : ∀ (f : Nat) (listed : Array Bool) (ρ : Env) (w : World), wpM P ops C Q f listed ρ w → ∀ m, wpM P ops C Q f listed ρ (w.drewN m)
  | 0, _, _, _, h, m => ⟨h.1, fun n => by rw [World.drewN_drewN]; exact h.2 _⟩
  | f + 1, listed, ρ, w, h, m => by
    refine ⟨fun h0 n => by rw [World.drewN_drewN]; exact h.1 h0 _, fun i hi o ho => ?_⟩
    obtain ⟨h1, h2, h3⟩ := h.2 i hi o ho
    exact ⟨fun a b => ⟨(h1 a b).1, fun w' v n c d => wpM_drewN f _ _ _ ((h1 a b).2 w' v n c d) m⟩,
      fun a b n => by rw [World.drewN_drewN]; exact h2 a b _, fun a => wpM_drewN f _ _ _ (h3 a) m⟩

theorem wpM_done {f : Nat} {listed : Array Bool} {ρ : Env} {w : World} (hr : Region.ready .any ops listed = []) (h : ∀ n, Q ρ (w.drewN n)) : wpM P ops C Q f listed ρ w := by
  cases f with
  | zero => exact ⟨hr, h⟩
  | succ f => exact ⟨fun _ => h, fun i hi => by rw [hr] at hi; cases hi⟩

/-- It is a wpAny. -/
theorem wpM_sound {n : Nat} {Q' : Exit → Act → World → Prop} (hok : okops n ops = true) (hC : ∀ w m, C w → C (w.drewN m)) (hQ : ∀ a ρ w, Fr n a ρ → Q ρ w → Q' .normal a w) :
    ∀ (f : Nat) (listed : Array Bool) (a : Act) (ρ : Env) (w : World), Fr n a ρ → ClosedL ops listed → (looksLeft ops listed = true → C w) → wpM P ops C Q f listed ρ w → wpAny P .any ops Q' f listed a w
  | 0, _, a, ρ, w, hf, _, _, h => ⟨h.1, hQ a ρ w hf (h.2 0)⟩
  | f + 1, listed, a, ρ, w, hf, hcl, hw, h => by
    refine ⟨fun h0 => hQ a ρ w hf (h.1 h0 0), fun i hi => ?_⟩
    have hcl' := closed_set hi hcl
    obtain ⟨hun, o, ho, _⟩ := mem_ready.1 hi
    obtain ⟨h1, h2, h3⟩ := h.2 i hi o ho
    have hoko : okop n ops o = true := Array.all_eq_true_iff_forall_mem.1 hok o (Array.mem_of_getElem? ho)
    unfold wpOp
    simp only [ho]
    rw [hf.wanted hoko]
    have sub : ∀ w', (looksLeft ops listed = true → C w') → (looksLeft ops (listed.setIfInBounds i true) = true → C w') := fun w' hh hl => hh (looksLeft_mono hl)
    by_cases hwt : want ops ρ o = true
    · rw [if_pos hwt]
      refine .inl ?_
      by_cases hac : acts o.op = true
      · have hk := h2 hwt hac 0
        refine opk_wp hf hoko hk fun v w' hk' => wpM_sound hok hC hQ f _ _ _ _ (hf.put _ _) hcl' (fun hl => hk'.1 ?_) hk'.2
        cases hm : mustC ops i with
        | true => rfl
        | false => rw [looksLeft_after hi hcl hm] at hl; cases hl
      · have hac' : acts o.op = false := by simpa using hac
        obtain ⟨hex, hall⟩ := h1 hwt hac'
        have hcw : C w := hw (by
          simp only [looksLeft, List.any_eq_true, List.mem_range, Bool.and_eq_true, Bool.not_eq_true']
          exact ⟨i, (Array.getElem?_eq_some_iff.1 ho).1, hun, by simp [ho, hac']⟩)
        obtain ⟨v, m, hrun⟩ := hex w hcw
        have hk : opk P o ρ w fun v w' => (∃ m, w' = w.drewN m) ∧ wpM P ops C Q f (listed.setIfInBounds i true) (setd ρ o.dst v) w := by
          unfold opk
          rw [hrun]
          exact ⟨⟨m, rfl⟩, hall w v m hcw hrun⟩
        refine opk_wp hf hoko hk fun v w' hk' => ?_
        obtain ⟨⟨m, rfl⟩, hk'⟩ := hk'
        exact wpM_sound hok hC hQ f _ _ _ _ (hf.put _ _) hcl' (fun _ => hC _ _ hcw) (wpM_drewN _ _ _ _ hk' m)
    · rw [if_neg hwt]
      exact wpM_sound hok hC hQ f _ _ _ _ (hf.put _ _) hcl' (sub w hw) (h3 (by simpa using hwt))

/-! ### Taking one operation first -/

def dstApart (ops : Array Oper) (x y : Oper) : Prop := (∀ d, x.dst = some d → d ∉ y.looksAt ops) ∧ (∀ d, x.dst = some d → y.dst ≠ some d) ∧ (∀ d, y.dst = some d → d ∉ x.looksAt ops)

/-- The operations in 'l' wait, each directly or by another of 'l', for 'i'. -/
def depOk (ops : Array Oper) (i : Nat) (l : List Nat) : Bool :=
  l.all fun j => match ops[j]? with
    | some o => o.after.any fun e => Region.binds .any e && (e.on == i || l.contains e.on)
    | none => false

theorem not_dep {i j : Nat} {l : List Nat} {listed : Array Bool} (hd : depOk ops i l = true) (hi : listed.getD i true = false) (hinv : ∀ k ∈ l, listed.getD k true = false)
    (hj : j ∈ Region.ready .any ops listed) : j ∉ l := by
  intro hl
  simp only [depOk, List.all_eq_true] at hd
  have h1 := hd j hl
  obtain ⟨_, oj, hoj, hall⟩ := mem_ready.1 hj
  simp only [hoj] at h1
  obtain ⟨e, he, hb⟩ := Array.any_eq_true'.1 h1
  simp only [Bool.and_eq_true, Bool.or_eq_true, beq_iff_eq, List.contains_iff_mem] at hb
  have h2 := hall e he hb.1
  have h3 : listed.getD e.on true = false := by
    rcases hb.2 with h | h
    · rw [h]; exact hi
    · exact hinv _ h
  rcases Nat.lt_or_ge e.on listed.size with hs | hs
  · simp [hs] at h2 h3; rw [h3] at h2; cases h2
  · simp [Array.getElem?_eq_none hs] at h2

theorem inv_set {j : Nat} {l : List Nat} {listed : Array Bool} (hj : j ∉ l) (hinv : ∀ k ∈ l, listed.getD k true = false) : ∀ k ∈ l, (listed.setIfInBounds j true).getD k true = false := by
  intro k hk
  rw [getD_set_ne true (fun e => hj (by rw [e]; exact hk))]
  exact hinv k hk

section
variable (hsel : ∀ (j : Nat) (o : Oper) cs b, ops[j]? = some o → o.op ≠ .select cs b)
include hsel

/-- One value, in every world of the class: the operation may be taken first. -/
theorem wpM_det {i : Nat} {oi : Oper} {v : Value} (hi : ops[i]? = some oi) :
    ∀ (f : Nat) (listed : Array Bool) (ρ : Env) (w : World),
      (∀ j oj, ops[j]? = some oj → j ≠ i → listed.getD j true = false → (∀ e ∈ oj.after, Region.binds .any e = true → e.on ≠ i) → oi.apart ops oj = true) →
      i ∈ Region.ready .any ops listed →
      (want ops ρ oi = true → acts oi.op = false ∧ ∀ w', C w' → ∃ n, (execOp (ev ρ) oi).run P w' = .ok (.value v) (w'.drewN n)) → (want ops ρ oi = false → v = undef) →
      wpM P ops C Q f (listed.setIfInBounds i true) (setd ρ oi.dst v) w → wpM P ops C Q (f + 1) listed ρ w := by
  intro f
  induction f with
  | zero =>
    intro listed ρ w _ hr hy hn H
    refine ⟨fun h => (by rw [h] at hr; cases hr), fun j hj o ho => ?_⟩
    by_cases hji : j = i
    · subst hji
      obtain rfl : oi = o := Option.some.inj (hi.symm.trans ho)
      refine ⟨fun a b => ⟨fun w' hc => ?_, fun w' u m hc hrun => ?_⟩, fun a b => absurd (hy a).1 (by simp [b]), fun a => ?_⟩
      · obtain ⟨m, hm⟩ := (hy a).2 w' hc; exact ⟨v, m, hm⟩
      · obtain ⟨m', hm⟩ := (hy a).2 w' hc
        rw [hm] at hrun
        injection hrun with e1 e2
        injection e1 with e1
        subst e1; exact H
      · rw [hn a] at H; exact H
    · have := ready_mono hj hji
      rw [H.1] at this
      cases this
  | succ f ih =>
    intro listed ρ w hfree hr hy hn H
    refine ⟨fun h => (by rw [h] at hr; cases hr), fun j hj oj hoj => ?_⟩
    by_cases hji : j = i
    · subst hji
      obtain rfl : oi = oj := Option.some.inj (hi.symm.trans hoj)
      refine ⟨fun a b => ⟨fun w' hc => ?_, fun w' u m hc hrun => ?_⟩, fun a b => absurd (hy a).1 (by simp [b]), fun a => ?_⟩
      · obtain ⟨m, hm⟩ := (hy a).2 w' hc; exact ⟨v, m, hm⟩
      · obtain ⟨m', hm⟩ := (hy a).2 w' hc
        rw [hm] at hrun
        injection hrun with e1 e2
        injection e1 with e1
        subst e1; exact H
      · rw [hn a] at H; exact H
    · obtain ⟨g1, g2, g3⟩ := H.2 j (ready_mono hj hji) oj hoj
      obtain ⟨hjun, oj', hoj', hall⟩ := mem_ready.1 hj
      obtain rfl : oj = oj' := Option.some.inj (hoj.symm.trans hoj')
      have hnot : ∀ e ∈ oj.after, Region.binds .any e = true → e.on ≠ i := fun e he hb heq => by
        have h1 := hall e he hb
        have h0 := (mem_ready.1 hr).1
        rw [heq] at h1
        rcases Nat.lt_or_ge i listed.size with h' | h'
        · simp [h'] at h0 h1; rw [h0] at h1; cases h1
        · simp [Array.getElem?_eq_none h'] at h1
      obtain ⟨a1, a2, a3⟩ := Oper.apart_spec (hfree j oj hoj hji hjun hnot)
      have hfree' : ∀ k ok, ops[k]? = some ok → k ≠ i → (listed.setIfInBounds j true).getD k true = false →
          (∀ e ∈ ok.after, Region.binds .any e = true → e.on ≠ i) → oi.apart ops ok = true := fun k ok hk hki hun hno => by
        refine hfree k ok hk hki ?_ hno
        by_cases hjk : j = k
        · subst hjk; exact hjun
        · rw [getD_set_ne true hjk] at hun; exact hun
      have ex := exec_setd (ops := ops) oj (fun cs b => hsel j oj cs b hoj) ρ oi.dst v a1
      have wt := want_setd oj ρ oi.dst v a1
      have step : ∀ u w', wpM P ops C Q f ((listed.setIfInBounds i true).setIfInBounds j true) (setd (setd ρ oi.dst v) oj.dst u) w' → wpM P ops C Q (f + 1) (listed.setIfInBounds j true) (setd ρ oj.dst u) w' := fun u w' hh => by
        refine ih _ _ _ hfree' (ready_mono hr (Ne.symm hji)) ?_ ?_ ?_
        · rw [want_setd oi ρ oj.dst u a3, exec_setd (ops := ops) oi (fun cs b => hsel i oi cs b hi) ρ oj.dst u a3]; exact hy
        · rw [want_setd oi ρ oj.dst u a3]; exact hn
        · rw [Array.setIfInBounds_comm _ _ hji, ← setd_comm ρ v u a2]; exact hh
      rw [wt] at g1 g2 g3
      rw [ex] at g1
      refine ⟨fun a b => ⟨(g1 a b).1, fun w' u m hc hrun => step u w ((g1 a b).2 w' u m hc hrun)⟩, fun a b m => ?_, fun a => step undef w (g3 a)⟩
      have := g2 a b m
      unfold opk at this
      rw [ex] at this
      exact opk_mono (o := oj) (ρ := ρ) (P := P) (K := fun v_1 w' => (mustC ops j = true → C w') ∧ wpM P ops C Q f ((listed.setIfInBounds i true).setIfInBounds j true) (setd (setd ρ oi.dst v) oj.dst v_1) w') (by unfold opk; exact this) fun u w' hk => ⟨hk.1, step u w' hk.2⟩

/-- Many values: the operation may be taken first where no operation that acts can come before it. -/
theorem wpM_nd {i : Nat} {oi : Oper} (hi : ops[i]? = some oi) (l : List Nat) (hd : depOk ops i l = true) (hne : ∃ w', C w') (hac : acts oi.op = false) :
    ∀ (f : Nat) (listed : Array Bool) (ρ : Env) (w : World),
      (∀ j oj, ops[j]? = some oj → j ≠ i → listed.getD j true = false → (∀ e ∈ oj.after, Region.binds .any e = true → e.on ≠ i) → oi.apart ops oj = true) →
      (∀ k ∈ l, listed.getD k true = false) →
      (∀ j oj, ops[j]? = some oj → j ≠ i → listed.getD j true = false → acts oj.op = true → j ∈ l) →
      i ∈ Region.ready .any ops listed → want ops ρ oi = true →
      (∀ w', C w' → ∃ v n, (execOp (ev ρ) oi).run P w' = .ok (.value v) (w'.drewN n)) →
      (∀ w' v n, C w' → (execOp (ev ρ) oi).run P w' = .ok (.value v) (w'.drewN n) → wpM P ops C Q f (listed.setIfInBounds i true) (setd ρ oi.dst v) w) → wpM P ops C Q (f + 1) listed ρ w := by
  intro f
  induction f with
  | zero =>
    intro listed ρ w _ _ _ hr hw hy H
    refine ⟨fun h => (by rw [h] at hr; cases hr), fun j hj o ho => ?_⟩
    by_cases hji : j = i
    · subst hji
      obtain rfl : oi = o := Option.some.inj (hi.symm.trans ho)
      exact ⟨fun _ _ => ⟨hy, H⟩, fun _ b => absurd b (by simp [hac]), fun a => absurd a (by simp [hw])⟩
    · have := ready_mono hj hji
      obtain ⟨w', hc⟩ := hne
      obtain ⟨v, n, hrun⟩ := hy w' hc
      rw [(H w' v n hc hrun).1] at this
      cases this
  | succ f ih =>
    intro listed ρ w hfree hinv hact hr hw hy H
    refine ⟨fun h => (by rw [h] at hr; cases hr), fun j hj oj hoj => ?_⟩
    by_cases hji : j = i
    · subst hji
      obtain rfl : oi = oj := Option.some.inj (hi.symm.trans hoj)
      exact ⟨fun _ _ => ⟨hy, H⟩, fun _ b => absurd b (by simp [hac]), fun a => absurd a (by simp [hw])⟩
    · obtain ⟨w0, hc0⟩ := hne
      obtain ⟨v0, n0, hrun0⟩ := hy w0 hc0
      have hjl := not_dep hd (mem_ready.1 hr).1 hinv hj
      obtain ⟨hjun, oj', hoj', hall⟩ := mem_ready.1 hj
      obtain rfl : oj = oj' := Option.some.inj (hoj.symm.trans hoj')
      have hnot : ∀ e ∈ oj.after, Region.binds .any e = true → e.on ≠ i := fun e he hb heq => by
        have h1 := hall e he hb
        have h0 := (mem_ready.1 hr).1
        rw [heq] at h1
        rcases Nat.lt_or_ge i listed.size with h' | h'
        · simp [h'] at h0 h1; rw [h0] at h1; cases h1
        · simp [Array.getElem?_eq_none h'] at h1
      obtain ⟨a1, a2, a3⟩ := Oper.apart_spec (hfree j oj hoj hji hjun hnot)
      have hsub : ∀ k, (listed.setIfInBounds j true).getD k true = false → listed.getD k true = false := fun k hk => by
        by_cases hjk : j = k
        · subst hjk; exact hjun
        · rw [getD_set_ne true hjk] at hk; exact hk
      have key : ∀ v, (wpM P ops C Q (f + 1) (listed.setIfInBounds i true) (setd ρ oi.dst v) w) →
          (want ops ρ oj = true → acts oj.op = false →
            (∀ w', C w' → ∃ v n, (execOp (ev ρ) oj).run P w' = .ok (.value v) (w'.drewN n)) ∧
            (∀ w' u n, C w' → (execOp (ev ρ) oj).run P w' = .ok (.value u) (w'.drewN n) → wpM P ops C Q f ((listed.setIfInBounds i true).setIfInBounds j true) (setd (setd ρ oi.dst v) oj.dst u) w)) ∧
          (want ops ρ oj = false → wpM P ops C Q f ((listed.setIfInBounds i true).setIfInBounds j true) (setd (setd ρ oi.dst v) oj.dst undef) w) := fun v hv => by
        obtain ⟨g1, _, g3⟩ := hv.2 j (ready_mono hj hji) oj hoj
        rw [want_setd oj ρ oi.dst v a1] at g1 g3
        rw [exec_setd (ops := ops) oj (fun cs b => hsel j oj cs b hoj) ρ oi.dst v a1] at g1
        exact ⟨g1, g3⟩
      have step : ∀ u, (∀ w' v n, C w' → (execOp (ev ρ) oi).run P w' = .ok (.value v) (w'.drewN n) → wpM P ops C Q f ((listed.setIfInBounds i true).setIfInBounds j true) (setd (setd ρ oi.dst v) oj.dst u) w) →
          wpM P ops C Q (f + 1) (listed.setIfInBounds j true) (setd ρ oj.dst u) w := fun u hh => by
        have ex := exec_setd (ops := ops) oi (fun cs b => hsel i oi cs b hi) ρ oj.dst u a3
        refine ih _ _ _ (fun k ok hk hki hun hno => hfree k ok hk hki (hsub k hun) hno) (inv_set hjl hinv) (fun k ok hk hki hun ha => hact k ok hk hki (hsub k hun) ha) (ready_mono hr (Ne.symm hji)) ?_ ?_ ?_
        · rw [want_setd oi ρ oj.dst u a3]; exact hw
        · rw [ex]; exact hy
        · intro w' v n hc hrun
          rw [ex] at hrun
          rw [Array.setIfInBounds_comm _ _ hji, ← setd_comm ρ v u a2]
          exact hh w' v n hc hrun
      refine ⟨fun a b => ⟨((key v0 (H w0 v0 n0 hc0 hrun0)).1 a b).1, fun w' u m hc hrun => step u fun w1 v1 n1 hc1 hrun1 => ((key v1 (H w1 v1 n1 hc1 hrun1)).1 a b).2 w' u m hc hrun⟩,
        fun a b => absurd (hact j oj hoj hji hjun b) hjl, fun a => step undef fun w1 v1 n1 hc1 hrun1 => (key v1 (H w1 v1 n1 hc1 hrun1)).2 a⟩

/-- An operation that acts may be taken first where all others that can come before it only look. -/
theorem wpM_act {i : Nat} {oi : Oper} (hi : ops[i]? = some oi) (l : List Nat) (hd : depOk ops i l = true) (hac : acts oi.op = true) :
    ∀ (f : Nat) (listed : Array Bool) (ρ : Env) (w : World),
      (∀ j oj, ops[j]? = some oj → j ≠ i → listed.getD j true = false → (∀ e ∈ oj.after, Region.binds .any e = true → e.on ≠ i) → oi.apart ops oj = true) →
      (∀ k ∈ l, listed.getD k true = false) →
      (∀ j oj, ops[j]? = some oj → j ≠ i → listed.getD j true = false → acts oj.op = true → j ∈ l) →
      i ∈ Region.ready .any ops listed → want ops ρ oi = true →
      (∀ n, opk P oi ρ (w.drewN n) fun v w' => (mustC ops i = true → C w') ∧ wpM P ops C Q f (listed.setIfInBounds i true) (setd ρ oi.dst v) w') → wpM P ops C Q (f + 1) listed ρ w := by
  intro f
  induction f with
  | zero =>
    intro listed ρ w _ _ _ hr hw H
    refine ⟨fun h => (by rw [h] at hr; cases hr), fun j hj o ho => ?_⟩
    by_cases hji : j = i
    · subst hji
      obtain rfl : oi = o := Option.some.inj (hi.symm.trans ho)
      exact ⟨fun _ b => absurd b (by simp [hac]), fun _ _ => H, fun a => absurd a (by simp [hw])⟩
    · have := ready_mono hj hji
      obtain ⟨v, w', _, h0⟩ := opk_some (H 0)
      rw [h0.1] at this
      cases this
  | succ f ih =>
    intro listed ρ w hfree hinv hact hr hw H
    refine ⟨fun h => (by rw [h] at hr; cases hr), fun j hj oj hoj => ?_⟩
    by_cases hji : j = i
    · subst hji
      obtain rfl : oi = oj := Option.some.inj (hi.symm.trans hoj)
      exact ⟨fun _ b => absurd b (by simp [hac]), fun _ _ => H, fun a => absurd a (by simp [hw])⟩
    · have hjl := not_dep hd (mem_ready.1 hr).1 hinv hj
      obtain ⟨hjun, oj', hoj', hall⟩ := mem_ready.1 hj
      obtain rfl : oj = oj' := Option.some.inj (hoj.symm.trans hoj')
      have hnot : ∀ e ∈ oj.after, Region.binds .any e = true → e.on ≠ i := fun e he hb heq => by
        have h1 := hall e he hb
        have h0 := (mem_ready.1 hr).1
        rw [heq] at h1
        rcases Nat.lt_or_ge i listed.size with h' | h'
        · simp [h'] at h0 h1; rw [h0] at h1; cases h1
        · simp [Array.getElem?_eq_none h'] at h1
      obtain ⟨a1, a2, a3⟩ := Oper.apart_spec (hfree j oj hoj hji hjun hnot)
      have hsub : ∀ k, (listed.setIfInBounds j true).getD k true = false → listed.getD k true = false := fun k hk => by
        by_cases hjk : j = k
        · subst hjk; exact hjun
        · rw [getD_set_ne true hjk] at hk; exact hk
      have key : ∀ v w1, (wpM P ops C Q (f + 1) (listed.setIfInBounds i true) (setd ρ oi.dst v) w1) →
          (want ops ρ oj = true → acts oj.op = false →
            (∀ w', C w' → ∃ v n, (execOp (ev ρ) oj).run P w' = .ok (.value v) (w'.drewN n)) ∧
            (∀ w' u n, C w' → (execOp (ev ρ) oj).run P w' = .ok (.value u) (w'.drewN n) → wpM P ops C Q f ((listed.setIfInBounds i true).setIfInBounds j true) (setd (setd ρ oi.dst v) oj.dst u) w1)) ∧
          (want ops ρ oj = false → wpM P ops C Q f ((listed.setIfInBounds i true).setIfInBounds j true) (setd (setd ρ oi.dst v) oj.dst undef) w1) := fun v w1 hv => by
        obtain ⟨g1, _, g3⟩ := hv.2 j (ready_mono hj hji) oj hoj
        rw [want_setd oj ρ oi.dst v a1] at g1 g3
        rw [exec_setd (ops := ops) oj (fun cs b => hsel j oj cs b hoj) ρ oi.dst v a1] at g1
        exact ⟨g1, g3⟩
      have step : ∀ u, (∀ v w', wpM P ops C Q (f + 1) (listed.setIfInBounds i true) (setd ρ oi.dst v) w' → wpM P ops C Q f ((listed.setIfInBounds i true).setIfInBounds j true) (setd (setd ρ oi.dst v) oj.dst u) w') →
          wpM P ops C Q (f + 1) (listed.setIfInBounds j true) (setd ρ oj.dst u) w := fun u hh => by
        have ex := exec_setd (ops := ops) oi (fun cs b => hsel i oi cs b hi) ρ oj.dst u a3
        refine ih _ _ _ (fun k ok hk hki hun hno => hfree k ok hk hki (hsub k hun) hno) (inv_set hjl hinv) (fun k ok hk hki hun ha => hact k ok hk hki (hsub k hun) ha) (ready_mono hr (Ne.symm hji)) ?_ ?_
        · rw [want_setd oi ρ oj.dst u a3]; exact hw
        · intro n
          have hn := H n
          unfold opk at hn ⊢
          rw [ex]
          refine opk_mono (o := oi) (ρ := ρ) (P := P) (K := fun v w' => (mustC ops i = true → C w') ∧ wpM P ops C Q (f + 1) (listed.setIfInBounds i true) (setd ρ oi.dst v) w') (by unfold opk; exact hn) fun v w' hk => ⟨hk.1, ?_⟩
          rw [Array.setIfInBounds_comm _ _ hji, ← setd_comm ρ v u a2]
          exact hh v w' hk.2
      obtain ⟨v0, w0, _, h0⟩ := opk_some (H 0)
      refine ⟨fun a b => ⟨((key v0 w0 h0).1 a b).1, fun w' u m hc hrun => step u fun v1 w1 h1 => ((key v1 w1 h1).1 a b).2 w' u m hc hrun⟩,
        fun a b => absurd (hact j oj hoj hji hjun b) hjl, fun a => step undef fun v1 w1 h1 => (key v1 w1 h1).2 a⟩

end
end
end Go.Wv
