/- The steps of a walk, the entry of a function and its end, loops. -/
import Derived.Test.YtgohmocjjmkepaaBase6
set_option linter.unusedSimpArgs false
set_option linter.unusedVariables false
namespace Go.Wv
section
variable {P : Program} {ops : Array Oper} {Q : Env → World → Prop} {rest : List Oper} {ρ : Env} {w : World}
variable {t : Nat} {op : Op} {ty : TypeId} {pos : String} {aft : Array Edge} {g : Option (Nat × Bool)} {v : Value}

theorem s_nil (h : Q ρ w) : wpo P ops Q [] ρ w := h
theorem s_y (hw : want ops ρ ⟨some t, op, ty, pos, aft, g⟩ = true) (h : Yv P ρ ⟨some t, op, ty, pos, aft, g⟩ v w) (k : wpo P ops Q rest (upd ρ t v) w) : wpo P ops Q (⟨some t, op, ty, pos, aft, g⟩ :: rest) ρ w := by
  unfold wpo
  rw [if_pos hw]
  unfold opk
  rw [h]
  exact k
theorem s_skip (hw : want ops ρ ⟨some t, op, ty, pos, aft, g⟩ = false) (k : wpo P ops Q rest (upd ρ t undef) w) : wpo P ops Q (⟨some t, op, ty, pos, aft, g⟩ :: rest) ρ w := by
  unfold wpo
  rw [if_neg (by simp [hw])]
  exact k
theorem s_n {S : Value → Prop} (hw : want ops ρ ⟨some t, op, ty, pos, aft, g⟩ = true) (h : Yn P ρ ⟨some t, op, ty, pos, aft, g⟩ S w) (k : ∀ v w', Ext0 w w' → S v → wpo P ops Q rest (upd ρ t v) w') : wpo P ops Q (⟨some t, op, ty, pos, aft, g⟩ :: rest) ρ w := by
  obtain ⟨v, n, hr, hs⟩ := h
  unfold wpo
  rw [if_pos hw]
  unfold opk
  rw [hr]
  exact k v _ (Ext0.of_draw _ _) hs
theorem s_k (hw : want ops ρ ⟨some t, op, ty, pos, aft, g⟩ = true) (h : opk P ⟨some t, op, ty, pos, aft, g⟩ ρ w (fun v w' => wpo P ops Q rest (upd ρ t v) w')) : wpo P ops Q (⟨some t, op, ty, pos, aft, g⟩ :: rest) ρ w := by
  unfold wpo
  rw [if_pos hw]
  exact h
theorem s_k0 (hw : want ops ρ ⟨none, op, ty, pos, aft, g⟩ = true) (h : opk P ⟨none, op, ty, pos, aft, g⟩ ρ w (fun _ w' => wpo P ops Q rest ρ w')) : wpo P ops Q (⟨none, op, ty, pos, aft, g⟩ :: rest) ρ w := by
  unfold wpo
  rw [if_pos hw]
  exact h

/-! regions that draw -/
def takeB (ops : Array Oper) (listed : Array Bool) (i : Nat) : Bool := Region.noSelect ops && Region.free .any ops listed i && (Region.ready .any ops listed).contains i
def soleB (ops : Array Oper) (listed : Array Bool) (i : Nat) (l : List Nat) : Bool :=
  takeB ops listed i && depOk ops i l && l.all (fun k => !listed.getD k true) &&
  (List.range ops.size).all fun j => j == i || listed.getD j true || l.contains j || match ops[j]? with
    | some o => !acts o.op
    | none => true

variable {w0 : World} {S : Nat → Prop} {f i : Nat} {listed : Array Bool}

theorem m_y (i : Nat) (hi : ops[i]? = some ⟨some t, op, ty, pos, aft, g⟩) (hb : takeB ops listed i = true) (hw : want ops ρ ⟨some t, op, ty, pos, aft, g⟩ = true) (hac : acts op = false)
    (h : ∀ w', Ext S w0 w' → Yv P ρ ⟨some t, op, ty, pos, aft, g⟩ v w') (k : wpM P ops (Ext S w0) Q f (listed.setIfInBounds i true) (upd ρ t v) w) : wpM P ops (Ext S w0) Q (f + 1) listed ρ w := by
  simp only [takeB, Bool.and_eq_true] at hb
  exact wpM_det (Region.noSelect_spec hb.1.1) hi f listed ρ w (Region.free_spec hi hb.1.2) (by simpa using hb.2) (fun _ => ⟨hac, fun w' hc => ⟨0, h w' hc⟩⟩) (fun e => by rw [hw] at e; cases e) k
theorem m_skip (i : Nat) (hi : ops[i]? = some ⟨some t, op, ty, pos, aft, g⟩) (hb : takeB ops listed i = true) (hw : want ops ρ ⟨some t, op, ty, pos, aft, g⟩ = false)
    (k : wpM P ops (Ext S w0) Q f (listed.setIfInBounds i true) (upd ρ t undef) w) : wpM P ops (Ext S w0) Q (f + 1) listed ρ w := by
  simp only [takeB, Bool.and_eq_true] at hb
  exact wpM_det (Region.noSelect_spec hb.1.1) hi (v := undef) f listed ρ w (Region.free_spec hi hb.1.2) (by simpa using hb.2) (fun e => by rw [hw] at e; cases e) (fun _ => rfl) k

theorem soleB_spec {oi : Oper} {l : List Nat} (hi : ops[i]? = some oi) (hb : soleB ops listed i l = true) :
    (∀ (j : Nat) (o : Oper) cs b, ops[j]? = some o → o.op ≠ .select cs b) ∧ depOk ops i l = true ∧ (∀ j oj, ops[j]? = some oj → j ≠ i → listed.getD j true = false → (∀ e ∈ oj.after, Region.binds .any e = true → e.on ≠ i) → oi.apart ops oj = true) ∧
    (∀ k ∈ l, listed.getD k true = false) ∧ (∀ j oj, ops[j]? = some oj → j ≠ i → listed.getD j true = false → acts oj.op = true → j ∈ l) ∧ i ∈ Region.ready .any ops listed := by
  simp only [soleB, takeB, Bool.and_eq_true] at hb
  obtain ⟨⟨⟨⟨⟨h1, h2⟩, h3⟩, h4⟩, h5⟩, h6⟩ := hb
  refine ⟨Region.noSelect_spec h1, h4, Region.free_spec hi h2, fun k hk => ?_, fun j oj hj hji hun hac => ?_, by simpa using h3⟩
  · have := List.all_eq_true.1 h5 k hk
    simpa using this
  · simp only [List.all_eq_true, List.mem_range, Bool.or_eq_true] at h6
    have := h6 j (Array.getElem?_eq_some_iff.1 hj).1
    simp only [hj, hac, Bool.not_true, Bool.false_eq_true, or_false, hun, beq_iff_eq, hji, false_or, List.contains_iff_mem] at this
    exact this

theorem m_n {V : Value → Prop} (i : Nat) (l : List Nat) (hi : ops[i]? = some ⟨some t, op, ty, pos, aft, g⟩) (hb : soleB ops listed i l = true) (hw : want ops ρ ⟨some t, op, ty, pos, aft, g⟩ = true) (hac : acts op = false)
    (h : ∀ w', Ext S w0 w' → Yn P ρ ⟨some t, op, ty, pos, aft, g⟩ V w') (k : ∀ v, V v → wpM P ops (Ext S w0) Q f (listed.setIfInBounds i true) (upd ρ t v) w) : wpM P ops (Ext S w0) Q (f + 1) listed ρ w := by
  obtain ⟨h1, h2, h3, h4, h5, h6⟩ := soleB_spec hi hb
  refine wpM_nd h1 hi l h2 ⟨w0, Ext.refl _ _⟩ hac f listed ρ w h3 h4 h5 h6 hw (fun w' hc => ?_) (fun w' v n hc hr => ?_)
  · obtain ⟨v, n, hr, _⟩ := h w' hc
    exact ⟨v, n, hr⟩
  · obtain ⟨v', n', hr', hs⟩ := h w' hc
    rw [hr'] at hr
    injection hr with e1 e2
    injection e1 with e1
    subst e1
    exact k _ hs

theorem m_k {d : Option Nat} (i : Nat) (l : List Nat) (hi : ops[i]? = some ⟨d, op, ty, pos, aft, g⟩) (hb : soleB ops listed i l = true) (hw : want ops ρ ⟨d, op, ty, pos, aft, g⟩ = true) (hac : acts op = true)
    (h : ∀ w', Ext0 w w' → opk P ⟨d, op, ty, pos, aft, g⟩ ρ w' (fun v w'' => (mustC ops i = true → Ext S w0 w'') ∧ wpM P ops (Ext S w0) Q f (listed.setIfInBounds i true) (setd ρ d v) w'')) : wpM P ops (Ext S w0) Q (f + 1) listed ρ w := by
  obtain ⟨h1, h2, h3, h4, h5, h6⟩ := soleB_spec hi hb
  exact wpM_act h1 hi l h2 hac f listed ρ w h3 h4 h5 h6 hw fun n => h _ (Ext0.of_draw _ _)

/-- The same at the end of a region. -/
theorem m_kt {d : Option Nat} (i : Nat) (l : List Nat) (hi : ops[i]? = some ⟨d, op, ty, pos, aft, g⟩) (hb : soleB ops listed i l = true) (hw : want ops ρ ⟨d, op, ty, pos, aft, g⟩ = true) (hac : acts op = true) (hm : mustC ops i = false)
    (h : ∀ w', Ext0 w w' → opk P ⟨d, op, ty, pos, aft, g⟩ ρ w' (fun v w'' => wpM P ops (Ext S w0) Q f (listed.setIfInBounds i true) (setd ρ d v) w'')) : wpM P ops (Ext S w0) Q (f + 1) listed ρ w :=
  m_k i l hi hb hw hac fun w' e => opk_mono (h w' e) fun v w'' hk => ⟨fun hx => (by rw [hm] at hx; cases hx), hk⟩

/-- Two operations that act, in either order. -/
theorem m_two {d d' : Option Nat} {op' : Op} {ty' : TypeId} {pos' : String} {aft' : Array Edge} {g' : Option (Nat × Bool)} (i j : Nat) (hr : Region.ready .any ops listed = [i, j])
    (hi : ops[i]? = some ⟨d, op, ty, pos, aft, g⟩) (hj : ops[j]? = some ⟨d', op', ty', pos', aft', g'⟩) (hw : want ops ρ ⟨d, op, ty, pos, aft, g⟩ = true) (hw' : want ops ρ ⟨d', op', ty', pos', aft', g'⟩ = true) (hac : acts op = true) (hac' : acts op' = true)
    (h : ∀ w', Ext0 w w' → opk P ⟨d, op, ty, pos, aft, g⟩ ρ w' (fun v w'' => (mustC ops i = true → Ext S w0 w'') ∧ wpM P ops (Ext S w0) Q f (listed.setIfInBounds i true) (setd ρ d v) w''))
    (h' : ∀ w', Ext0 w w' → opk P ⟨d', op', ty', pos', aft', g'⟩ ρ w' (fun v w'' => (mustC ops j = true → Ext S w0 w'') ∧ wpM P ops (Ext S w0) Q f (listed.setIfInBounds j true) (setd ρ d' v) w'')) : wpM P ops (Ext S w0) Q (f + 1) listed ρ w := by
  refine ⟨fun e => (by rw [hr] at e; cases e), fun k hk o ho => ?_⟩
  rw [hr] at hk
  simp only [List.mem_cons, List.not_mem_nil, or_false] at hk
  rcases hk with rfl | rfl
  · obtain rfl : (⟨d, op, ty, pos, aft, g⟩ : Oper) = o := Option.some.inj (hi.symm.trans ho)
    exact ⟨fun _ b => (by rw [hac] at b; cases b), fun _ _ n => h _ (Ext0.of_draw _ _), fun e => (by rw [hw] at e; cases e)⟩
  · obtain rfl : (⟨d', op', ty', pos', aft', g'⟩ : Oper) = o := Option.some.inj (hj.symm.trans ho)
    exact ⟨fun _ b => (by rw [hac'] at b; cases b), fun _ _ n => h' _ (Ext0.of_draw _ _), fun e => (by rw [hw'] at e; cases e)⟩

theorem m_three {d d' e : Option Nat} {op' oq : Op} {ty' tz : TypeId} {pos' pz : String} {aft' az : Array Edge} {g' gz : Option (Nat × Bool)} (i j q : Nat) (hr : Region.ready .any ops listed = [i, j, q])
    (hi : ops[i]? = some ⟨d, op, ty, pos, aft, g⟩) (hj : ops[j]? = some ⟨d', op', ty', pos', aft', g'⟩) (hq : ops[q]? = some ⟨e, oq, tz, pz, az, gz⟩)
    (hw : want ops ρ ⟨d, op, ty, pos, aft, g⟩ = true) (hw' : want ops ρ ⟨d', op', ty', pos', aft', g'⟩ = true) (hwq : want ops ρ ⟨e, oq, tz, pz, az, gz⟩ = true) (hac : acts op = true) (hac' : acts op' = true) (hacq : acts oq = true)
    (h : ∀ w', Ext0 w w' → opk P ⟨d, op, ty, pos, aft, g⟩ ρ w' (fun v w'' => (mustC ops i = true → Ext S w0 w'') ∧ wpM P ops (Ext S w0) Q f (listed.setIfInBounds i true) (setd ρ d v) w''))
    (h' : ∀ w', Ext0 w w' → opk P ⟨d', op', ty', pos', aft', g'⟩ ρ w' (fun v w'' => (mustC ops j = true → Ext S w0 w'') ∧ wpM P ops (Ext S w0) Q f (listed.setIfInBounds j true) (setd ρ d' v) w''))
    (h'' : ∀ w', Ext0 w w' → opk P ⟨e, oq, tz, pz, az, gz⟩ ρ w' (fun v w'' => (mustC ops q = true → Ext S w0 w'') ∧ wpM P ops (Ext S w0) Q f (listed.setIfInBounds q true) (setd ρ e v) w'')) : wpM P ops (Ext S w0) Q (f + 1) listed ρ w := by
  refine ⟨fun e => (by rw [hr] at e; cases e), fun k hk o ho => ?_⟩
  rw [hr] at hk
  simp only [List.mem_cons, List.not_mem_nil, or_false] at hk
  rcases hk with rfl | rfl | rfl
  · obtain rfl : (⟨d, op, ty, pos, aft, g⟩ : Oper) = o := Option.some.inj (hi.symm.trans ho)
    exact ⟨fun _ b => (by rw [hac] at b; cases b), fun _ _ n => h _ (Ext0.of_draw _ _), fun e => (by rw [hw] at e; cases e)⟩
  · obtain rfl : (⟨d', op', ty', pos', aft', g'⟩ : Oper) = o := Option.some.inj (hj.symm.trans ho)
    exact ⟨fun _ b => (by rw [hac'] at b; cases b), fun _ _ n => h' _ (Ext0.of_draw _ _), fun e => (by rw [hw'] at e; cases e)⟩
  · obtain rfl : (⟨e, oq, tz, pz, az, gz⟩ : Oper) = o := Option.some.inj (hq.symm.trans ho)
    exact ⟨fun _ b => (by rw [hacq] at b; cases b), fun _ _ n => h'' _ (Ext0.of_draw _ _), fun e => (by rw [hwq] at e; cases e)⟩

theorem m_done (hr : (Region.ready .any ops listed).isEmpty = true) (h : ∀ w', Ext0 w w' → Q ρ w') : wpM P ops (Ext S w0) Q f listed ρ w :=
  wpM_done (by simpa using hr) fun _ => h _ (Ext0.of_draw _ _)

theorem W_draw (S : Nat → Prop) {n id : Nat} {l : List Oper} {Q : Exit → Env → World → Prop} (hm : P.follows .mixedOrders = true) (hok : okops n l.toArray = true)
    (h : ∀ w', Ext0 w w' → wpM P l.toArray (Ext S w) (Q .normal) l.length (Array.replicate l.length false) ρ w') : W P n (.region id l.toArray true) Q ρ w := fun a hf => by
  refine wp_region_any hm ?_
  have := wpM_sound (P := P) (C := Ext S w) (Q := Q .normal) (Q' := fun e a' w' => ∃ ρ', Fr n a' ρ' ∧ Q e ρ' w') hok (fun w m h => h.drewN m) (fun a ρ w h1 h2 => ⟨ρ, h1, h2⟩) l.length (Array.replicate l.length false) a ρ (w.drewN 1) hf
    ⟨by simp, fun k hk => by rcases Nat.lt_or_ge k l.length with h | h <;> simp [h] at hk⟩ (fun _ => (Ext0.of_draw _ _).any) (h _ (Ext0.of_draw _ _))
  rw [List.size_toArray]
  exact this

def onlyN (I : Env → World → Prop) : Exit → Env → World → Prop
  | .normal => I
  | _ => fun _ _ => False
/-- A region that draws, cut behind its end. -/
theorem W_drawI (S : Nat → Prop) {n id : Nat} {l : List Oper} {Q : Exit → Env → World → Prop} (I : Env → World → Prop) (hm : P.follows .mixedOrders = true) (hok : okops n l.toArray = true)
    (h : ∀ w', Ext0 w w' → wpM P l.toArray (Ext S w) I l.length (Array.replicate l.length false) ρ w') (hI : ∀ ρ' w', I ρ' w' → Q .normal ρ' w') : W P n (.region id l.toArray true) Q ρ w := fun a hf => by
  have h1 := W_draw S (n := n) (id := id) (l := l) (Q := onlyN I) hm hok h a hf
  refine Code.wp_mono (fun e a' w' hq => ?_) h1
  obtain ⟨ρ', hf', hq⟩ := hq
  cases e
  · exact ⟨ρ', hf', hI ρ' w' hq⟩
  all_goals exact hq.elim

/-! entry and end -/
def envOf (l : List Value) : Env := fun t => l.getD t undef

def RV (P : Program) (ρ : Env) (w : World) : ResultVar → Value → Prop
  | .tmp t, v => ρ t = v
  | .cell a T, v => ∃ b cs T', ρ a = .pointer (some ⟨b, 0, none⟩) ∧ Blk w b cs T' ∧ aggB P T cs.length = true ∧ v = .agg cs.toArray
def rvOk (n : Nat) : ResultVar → Bool
  | .tmp t => decide (t < n)
  | .cell a _ => decide (a < n)

theorem RV.run {n : Nat} {a : Act} (hf : Fr n a ρ) {r : ResultVar} (ho : rvOk n r = true) {v : Value} (h : RV P ρ w r v) :
    (match r with
      | .tmp t => pure (a.tmps.getD t undef)
      | .cell b t => do loadVar t (← asAddr (a.tmps.getD b undef)) : Sem Value).run P w = .ok v w := by
  cases r with
  | tmp t =>
    have := hf.2.2 t (by simpa [rvOk] using ho)
    simp only [RV] at h
    simp [this, h]
  | cell b T =>
    have := hf.2.2 b (by simpa [rvOk] using ho)
    obtain ⟨k, cs, T', h1, h2, h3, rfl⟩ := h
    obtain ⟨h4, h5⟩ := run_isAgg_struct h3 w
    have hl := run_loadCells_list (P := P) w ⟨k, 0, none⟩ cs (fun j u hj => by rw [add_lit, Nat.zero_add]; exact h2.cell hj)
    simp [this, h1, asAddr, loadVar, h4, h5, hl]

def bodyQ (P : Program) (n : Nat) (fn : Func) (R : Ending → World → Prop) : Exit → Env → World → Prop
  | .normal, ρ, w | .ret, ρ, w => ∃ v, (∀ a, Fr n a ρ → (results fn a.tmps).run P w = .ok v w) ∧ R (.returned v) w
  | _, _, _ => False

theorem calls_W {F : FuncId} {fn : Func} {c : Code} {args : List Value} {n : Nat} {R : Ending → World → Prop} (hf : P.funcs[F]? = some fn) (hb : fn.body = some c) (hn : fn.ntmps = n) (hl : args.length ≤ n)
    (h : W P n c (bodyQ P n fn R) (envOf args) w) : Calls P F args.toArray w R := by
  subst hn
  refine calls_of_wp hf hb (Code.wp_mono (fun e a' w' hq => ?_) (h _ ⟨rfl, ?_, fun t ht => ?_⟩))
  · obtain ⟨ρ', hf', hq⟩ := hq
    cases e <;> simp only [bodyQ] at hq <;> simp only [bodyPost]
    · obtain ⟨v, h1, h2⟩ := hq; exact ⟨hf'.1, v, h1 _ hf', h2⟩
    · obtain ⟨v, h1, h2⟩ := hq; exact ⟨hf'.1, v, h1 _ hf', h2⟩
  · simp; omega
  · simp only [envOf]
    by_cases hlt : t < args.length
    · rw [Array.getElem?_append_left (by simpa using hlt)]
      simp [hlt]
    · rw [Array.getElem?_append_right (by simpa using Nat.le_of_not_lt hlt)]
      have : t - args.length < fn.ntmps - args.length := by omega
      simp [this, hlt]

def rvSem (tmps : Array Value) : ResultVar → Sem Value
  | .tmp t => pure (tmps.getD t undef)
  | .cell b t => do loadVar t (← asAddr (tmps.getD b undef))
theorem results_eq (fn : Func) (tmps : Array Value) : results fn tmps = (fn.results.mapM (rvSem tmps) >>= fun vs => pure (if h : vs.size = 1 then vs[0] else .tuple vs) : Sem Value) := by
  unfold results
  congr 1
theorem RV.run' {n : Nat} {a : Act} (hf : Fr n a ρ) {r : ResultVar} (ho : rvOk n r = true) {v : Value} (h : RV P ρ w r v) : (rvSem a.tmps r).run P w = .ok v w := by
  have := RV.run hf ho h
  cases r <;> exact this
theorem ret1 {n : Nat} {fn : Func} {r : ResultVar} {R : Ending → World → Prop} (hr : fn.results = #[r]) (ho : rvOk n r = true) (h : RV P ρ w r v) (hR : R (.returned v) w) : bodyQ P n fn R .ret ρ w :=
  ⟨v, fun a hf => by rw [results_eq, hr]; simp [RV.run' hf ho h], hR⟩
theorem ret2 {n : Nat} {fn : Func} {r s : ResultVar} {v1 v2 : Value} {R : Ending → World → Prop} (hr : fn.results = #[r, s]) (ho : rvOk n r = true) (ho' : rvOk n s = true) (h : RV P ρ w r v1) (h' : RV P ρ w s v2) (hR : R (.returned (.tuple #[v1, v2])) w) : bodyQ P n fn R .ret ρ w :=
  ⟨_, fun a hf => by rw [results_eq, hr]; simp [RV.run' hf ho h, RV.run' hf ho' h'], hR⟩
theorem ret3 {n : Nat} {fn : Func} {r s q : ResultVar} {v1 v2 v3 : Value} {R : Ending → World → Prop} (hr : fn.results = #[r, s, q]) (ho : rvOk n r = true) (ho' : rvOk n s = true) (ho'' : rvOk n q = true) (h : RV P ρ w r v1) (h' : RV P ρ w s v2) (h'' : RV P ρ w q v3)
    (hR : R (.returned (.tuple #[v1, v2, v3])) w) : bodyQ P n fn R .ret ρ w :=
  ⟨_, fun a hf => by rw [results_eq, hr]; simp [RV.run' hf ho h, RV.run' hf ho' h', RV.run' hf ho'' h''], hR⟩
theorem ret0 {n : Nat} {fn : Func} {R : Ending → World → Prop} (hr : fn.results = #[]) (hR : R (.returned (.tuple #[])) w) : bodyQ P n fn R .normal ρ w :=
  ⟨_, fun a hf => by simp [results, hr], hR⟩

/-! loops: what is known of the slots -/
def updL (ρ : Env) : List (Nat × Value) → Env
  | [] => ρ
  | (d, v) :: l => upd (updL ρ l) d v
def Fits (ρ : Env) : List (Nat × Value) → Prop
  | [] => True
  | (d, v) :: l => ρ d = v ∧ Fits ρ l
theorem updL_self (ρ : Env) (l : List (Nat × Value)) (h : ∀ p ∈ l, ρ p.1 = p.2) : updL ρ l = ρ := by
  induction l with
  | nil => rfl
  | cons p l ih =>
    obtain ⟨d, v⟩ := p
    simp only [updL]
    rw [ih fun q hq => h q (by simp [hq])]
    funext t
    unfold upd
    split
    · rename_i e; subst e; exact (h (t, v) (by simp)).symm
    · rfl
theorem Fits.eq {ρ : Env} : ∀ {l : List (Nat × Value)}, Fits ρ l → ρ = updL ρ l
  | [], _ => rfl
  | (d, v) :: l, h => by
    have ih := Fits.eq h.2
    simp only [updL]
    rw [← ih]
    funext t
    unfold upd
    split
    · rename_i e; subst e; exact h.1
    · rfl
def iv : Value → Int | .int _ n => n | _ => 0
end
end Go.Wv
