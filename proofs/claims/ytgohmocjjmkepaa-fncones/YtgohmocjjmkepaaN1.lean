/- Facts in bundles: what is known of blocks and lists, carried along as one. -/
import Derived.Test.YtgohmocjjmkepaaL3
set_option linter.unusedSimpArgs false
set_option linter.unusedVariables false
namespace Go.Wv
/-- What the cells of one element hold. -/
structure Kd (α : Type) where
  sz : Nat
  rep : α → List Value → Prop
  pos : 0 < sz
  len : ∀ {x cs}, rep x cs → cs.length = sz
  one : ∀ {x cs}, rep x cs → ∀ u ∈ cs, u.oneCell' = true
section
variable {α : Type}
def Reps (k : Kd α) : List α → List Value → Prop
  | [], cs => cs = []
  | x :: xs, cs => ∃ c d, cs = c ++ d ∧ k.rep x c ∧ Reps k xs d
variable {k : Kd α}
theorem reps_len : ∀ {X : List α} {cs : List Value}, Reps k X cs → cs.length = X.length * k.sz
  | [], _, h => by cases h; simp
  | x :: X, _, ⟨c, d, h, h1, h2⟩ => by
    subst h
    rw [List.length_append, k.len h1, reps_len h2, List.length_cons, Nat.add_mul, Nat.one_mul, Nat.add_comm]
theorem reps_one {x : α} {cs : List Value} (h : k.rep x cs) : Reps k [x] cs := ⟨cs, [], by simp, h, rfl⟩
theorem reps_cons {x : α} {X : List α} {c d : List Value} (h : k.rep x c) (h2 : Reps k X d) : Reps k (x :: X) (c ++ d) := ⟨c, d, rfl, h, h2⟩
theorem reps_app : ∀ {X Y : List α} {cs ds : List Value}, Reps k X cs → Reps k Y ds → Reps k (X ++ Y) (cs ++ ds)
  | [], _, _, _, h, h2 => by cases h; exact h2
  | x :: X, _, _, _, ⟨c, d, h, h1, h3⟩, h2 => by subst h; exact ⟨c, d ++ _, by simp, h1, reps_app h3 h2⟩
theorem reps_cell : ∀ {X : List α} {cs : List Value}, Reps k X cs → ∀ u ∈ cs, u.oneCell' = true
  | [], _, h => by cases h; simp
  | x :: X, _, ⟨c, d, h, h1, h2⟩ => by
    subst h
    intro u hu
    rcases List.mem_append.1 hu with hu | hu
    · exact k.one h1 u hu
    · exact reps_cell h2 u hu
theorem reps_rep {z : α} {c : List Value} (h : k.rep z c) : ∀ n, Reps k (List.replicate n z) (List.replicate n c).flatten
  | 0 => rfl
  | n + 1 => by rw [List.replicate_succ, List.replicate_succ, List.flatten_cons]; exact reps_cons h (reps_rep h n)
theorem reps_split : ∀ {X Y : List α} {cs : List Value}, Reps k (X ++ Y) cs → Reps k X (cs.take (X.length * k.sz)) ∧ Reps k Y (cs.drop (X.length * k.sz))
  | [], _, _, h => by simpa [Reps] using h
  | x :: X, Y, _, ⟨c, d, h, h1, h2⟩ => by
    subst h
    obtain ⟨h3, h4⟩ := reps_split h2
    have e : (x :: X).length * k.sz = c.length + X.length * k.sz := by rw [List.length_cons, k.len h1, Nat.add_mul, Nat.one_mul, Nat.add_comm]
    rw [e]
    refine ⟨⟨c, d.take (X.length * k.sz), ?_, h1, h3⟩, ?_⟩
    · rw [List.take_append, List.take_of_length_le (by omega), Nat.add_sub_cancel_left]
    · rw [List.drop_append, List.drop_of_length_le (by omega), List.nil_append, Nat.add_sub_cancel_left]; exact h4
variable [Inhabited α]
theorem cut_at {X : List α} {i : Int} (h0 : 0 ≤ i) (h1 : i < (X.length : Int)) : X = X.take i.toNat ++ (gl X i :: X.drop (i.toNat + 1)) := by
  rw [← drop_gl h0 h1, List.take_append_drop]
omit [Inhabited α] in
theorem take_len {X : List α} {i : Int} (h1 : i < (X.length : Int)) (h0 : 0 ≤ i) : (X.take i.toNat).length = i.toNat := by rw [List.length_take]; omega
theorem reps_parts {X : List α} {cs : List Value} {i : Int} (h : Reps k X cs) (h0 : 0 ≤ i) (h1 : i < (X.length : Int)) :
    ∃ p c d, cs = p ++ (c ++ d) ∧ p.length = i.toNat * k.sz ∧ k.rep (gl X i) c ∧ Reps k (X.take i.toNat) p ∧ Reps k (X.drop (i.toNat + 1)) d := by
  rw [cut_at h0 h1] at h
  obtain ⟨h2, c, d, h3, h4, h5⟩ := reps_split h
  rw [take_len h1 h0] at h2 h3
  refine ⟨cs.take (i.toNat * k.sz), c, d, by rw [← h3, List.take_append_drop], ?_, h4, h2, h5⟩
  rw [reps_len h2, take_len h1 h0]
theorem reps_at {X : List α} {cs : List Value} {i : Int} (h : Reps k X cs) (h0 : 0 ≤ i) (h1 : i < (X.length : Int)) : ∃ c, k.rep (gl X i) c ∧ ∀ j u, c[j]? = some u → cs[i.toNat * k.sz + j]? = some u := by
  obtain ⟨p, c, d, rfl, hp, hc, _, _⟩ := reps_parts h h0 h1
  refine ⟨c, hc, fun j u hj => ?_⟩
  have hl : j < c.length := (List.getElem?_eq_some_iff.1 hj).1
  rw [List.getElem?_append_right (by omega), ← hp, Nat.add_sub_cancel_left, List.getElem?_append_left hl]; exact hj
theorem reps_set {X : List α} {cs : List Value} {i : Int} (h : Reps k X cs) (h0 : 0 ≤ i) (h1 : i < (X.length : Int)) {x : α} {j : Nat} {new : List Value} (hj : j + new.length ≤ k.sz)
    (hx : ∀ c, k.rep (gl X i) c → k.rep x (c.take j ++ new ++ c.drop (j + new.length))) : Reps k (pl X i x) (cs.take (i.toNat * k.sz + j) ++ new ++ cs.drop (i.toNat * k.sz + j + new.length)) := by
  obtain ⟨p, c, d, rfl, hp, hc, hP, hD⟩ := reps_parts h h0 h1
  have hcl := k.len hc
  rw [set_eq h0 h1]
  have e1 : (p ++ (c ++ d)).take (i.toNat * k.sz + j) = p ++ c.take j := by
    rw [← hp, List.take_append, List.take_of_length_le (by omega), Nat.add_sub_cancel_left, List.take_append_of_le_length (by omega)]
  have e2 : (p ++ (c ++ d)).drop (i.toNat * k.sz + j + new.length) = c.drop (j + new.length) ++ d := by
    rw [← hp, Nat.add_assoc, List.drop_append, List.drop_of_length_le (by omega), List.nil_append, Nat.add_sub_cancel_left, List.drop_append_of_le_length (by omega)]
  rw [e1, e2]
  have := reps_app hP (reps_cons (hx c hc) hD)
  simpa [List.append_assoc] using this
end
/-- A list that is read; a list of the call's own. -/
def Rd {α : Type} (w : World) (k : Kd α) (a : Option Addr) (n : Nat) (X : List α) : Prop := ∃ cs, X.length = n ∧ Reps k X cs ∧ Sl w a cs
def Ow {α : Type} (w : World) (k : Kd α) (a : Option Addr) (n c T : Nat) (X : List α) : Prop := ∃ cs, X.length = n ∧ Reps k X cs ∧ Own w 0 a n c T k.sz cs
inductive Fact : Type 1 where
  | blk (b : Nat) (cs : List Value) (T : Nat)
  | sl (a : Option Addr) (cs : List Value)
  | rd {α : Type} (k : Kd α) (a : Option Addr) (n : Nat) (X : List α)
  | ow {α : Type} (k : Kd α) (a : Option Addr) (n c T : Nat) (X : List α)
def Fact.holds (w : World) : Fact → Prop
  | .blk b cs T => Blk w b cs T
  | .sl a cs => Sl w a cs
  | .rd k a n X => Rd w k a n X
  | .ow k a n c T X => Ow w k a n c T X
/-- The blocks that a fact speaks of. -/
def Fact.has : Fact → Nat → Prop
  | .blk b _ _, k => k = b
  | .sl a cs, k => cs ≠ [] ∧ inA a k
  | .rd _ a n _, k => n ≠ 0 ∧ inA a k
  | .ow _ a _ _ _ _, k => inA a k
def Fact.ro : Fact → Bool
  | .sl .. => true
  | .rd .. => true
  | _ => false
def All (w : World) (L : List Fact) : Prop := ∀ f ∈ L, f.holds w
def Ap (f g : Fact) : Prop := ∀ k, f.has k → g.has k → False
def Rel (f g : Fact) : Prop := (f.ro = true ∧ g.ro = true) ∨ Ap f g
def Pw (L : List Fact) : Prop := L.Pairwise Rel
theorem Rd.cells_ne {α : Type} {k : Kd α} {X : List α} {cs : List Value} {n : Nat} (hl : X.length = n) (h : Reps k X cs) (hn : cs ≠ []) : n ≠ 0 := by
  intro e
  have := reps_len h
  rw [hl, e, Nat.zero_mul] at this
  exact hn (List.eq_nil_of_length_eq_zero this)
theorem Fact.lt {f : Fact} {w : World} (h : f.holds w) : ∀ k, f.has k → k < w.heap.size := by
  cases f with
  | blk b cs T => intro k hk; cases hk; exact Blk.lt h
  | sl a cs => intro k hk; exact Sl.lt h hk.1 k hk.2
  | rd kd a n X =>
    obtain ⟨cs, hl, hr, hs⟩ := h
    intro k hk
    refine Sl.lt hs (fun e => ?_) k hk.2
    have := reps_len hr
    rw [hl, e, List.length_nil] at this
    exact hk.1 (by have := kd.pos; rcases Nat.eq_zero_or_pos n with h | h; exact h; have : 0 < n * kd.sz := Nat.mul_pos h kd.pos; omega)
  | ow kd a n c T X => intro k hk; obtain ⟨cs, _, _, hs⟩ := h; exact (Own.blk hs k hk).2
theorem Fact.keep {f : Fact} {w w' : World} {S : Nat → Prop} (h : f.holds w) (e : Ext S w w') (hn : ∀ k, f.has k → S k → False) : f.holds w' := by
  cases f with
  | blk b cs T => exact Blk.ext h e (fun hs => hn b rfl hs)
  | sl a cs =>
    by_cases hc : cs = []
    · subst hc; exact Sl.nil _ _
    · exact Sl.ext h e (fun k hk hs => hn k ⟨hc, hk⟩ hs)
  | rd kd a n X =>
    obtain ⟨cs, hl, hr, hs⟩ := h
    refine ⟨cs, hl, hr, ?_⟩
    by_cases hc : cs = []
    · subst hc; exact Sl.nil _ _
    · exact Sl.ext hs e (fun k hk hs => hn k ⟨Rd.cells_ne hl hr hc, hk⟩ hs)
  | ow kd a n c T X =>
    obtain ⟨cs, hl, hr, hs⟩ := h
    exact ⟨cs, hl, hr, Own.ext hs e (fun k hk hs => hn k hk hs)⟩
theorem Fact.keep0 {f : Fact} {w w' : World} (h : f.holds w) (e : Ext0 w w') : f.holds w' := f.keep h e fun _ _ h => h.elim
section
variable {w w' : World} {L : List Fact}
theorem All.nil : All w [] := fun _ h => by cases h
theorem All.cons {f : Fact} (h : f.holds w) (H : All w L) : All w (f :: L) := fun g hg => by
  rcases List.mem_cons.1 hg with rfl | hg
  · exact h
  · exact H g hg
theorem All.ext0 (H : All w L) (e : Ext0 w w') : All w' L := fun f hf => Fact.keep0 (H f hf) e
theorem All.get (H : All w L) (i : Nat) {f : Fact} (h : L[i]? = some f) : f.holds w := H f (List.mem_of_getElem? h)
theorem All.app {L2 : List Fact} (H : All w L) (H2 : All w L2) : All w (L ++ L2) := fun f hf => (List.mem_append.1 hf).elim (H f) (H2 f)
theorem Rel.symm {f g : Fact} (h : Rel f g) : Rel g f := h.elim (fun h => .inl ⟨h.2, h.1⟩) fun h => .inr fun k a b => h k b a
theorem Rel.ap {f g : Fact} (h : Rel f g) (hf : f.ro = false) : Ap f g := h.elim (fun h => by rw [hf] at h; cases h.1) id
theorem Pw.nil : Pw [] := List.Pairwise.nil
theorem Pw.ro (h : L.all Fact.ro = true) : Pw L := by
  induction L with
  | nil => exact Pw.nil
  | cons f L ih =>
    simp only [List.all_cons, Bool.and_eq_true] at h
    exact List.pairwise_cons.2 ⟨fun g hg => .inl ⟨h.1, List.all_eq_true.1 h.2 g hg⟩, ih h.2⟩
theorem Pw.one (f : Fact) : Pw [f] := List.pairwise_cons.2 ⟨fun _ h => (by cases h), List.Pairwise.nil⟩
theorem Pw.rel (P : Pw L) {i j : Nat} {f g : Fact} (hij : i < j) (hi : L[i]? = some f) (hj : L[j]? = some g) : Rel f g := by
  obtain ⟨h1, rfl⟩ := List.getElem?_eq_some_iff.1 hi
  obtain ⟨h2, rfl⟩ := List.getElem?_eq_some_iff.1 hj
  exact List.pairwise_iff_getElem.1 P i j h1 h2 hij
theorem Pw.rel' (P : Pw L) {i j : Nat} {f g : Fact} (hij : i ≠ j) (hi : L[i]? = some f) (hj : L[j]? = some g) : Rel f g := by
  rcases Nat.lt_or_gt_of_ne hij with h | h
  · exact P.rel h hi hj
  · exact (P.rel h hj hi).symm
def nodupB : List Nat → Bool
  | [] => true
  | i :: is => !is.contains i && nodupB is
/-- Facts chosen by their indices. -/
theorem All.pick (H : All w L) (is : List Nat) {fs : List Fact} (h : is.map (fun i => L[i]?) = fs.map some) : All w fs := by
  induction is generalizing fs with
  | nil => cases fs with
    | nil => exact All.nil
    | cons => cases h
  | cons i is ih => cases fs with
    | nil => cases h
    | cons f fs =>
      simp only [List.map_cons, List.cons.injEq] at h
      exact All.cons (H.get i h.1) (ih h.2)
theorem Pw.pick (P : Pw L) (is : List Nat) {fs : List Fact} (h : is.map (fun i => L[i]?) = fs.map some) (hn : nodupB is = true) : Pw fs := by
  induction is generalizing fs with
  | nil => cases fs with
    | nil => exact Pw.nil
    | cons => cases h
  | cons i is ih => cases fs with
    | nil => cases h
    | cons f fs =>
      simp only [List.map_cons, List.cons.injEq] at h
      simp only [nodupB, Bool.and_eq_true, Bool.not_eq_true', List.contains_eq_mem, decide_eq_false_iff_not] at hn
      refine List.pairwise_cons.2 ⟨fun g hg => ?_, ih h.2 hn.2⟩
      have hg' : some g ∈ is.map (fun i => L[i]?) := by rw [h.2]; exact List.mem_map.2 ⟨g, hg, rfl⟩
      obtain ⟨j, hj, hjg⟩ := List.mem_map.1 hg'
      exact P.rel' (fun e : i = j => hn.1 (by rw [e]; exact hj)) h.1 hjg
theorem Pw.app {L2 : List Fact} (P : Pw L) (P2 : Pw L2) (h : ∀ f ∈ L, ∀ g ∈ L2, Rel f g) : Pw (L ++ L2) := List.pairwise_append.2 ⟨P, P2, h⟩
end
/-- Facts on what was not there. -/
def New (w w' : World) (L : List Fact) : Prop := Ext0 w w' ∧ All w' L ∧ Pw L ∧ ∀ f ∈ L, ∀ k, f.has k → w.heap.size ≤ k
theorem New.ext {w w' : World} {L : List Fact} (h : New w w' L) : Ext0 w w' := h.1
theorem New.one {w w' : World} {f : Fact} (e : Ext0 w w') (h : f.holds w') (hd : ∀ k, f.has k → w.heap.size ≤ k) : New w w' [f] :=
  ⟨e, All.cons h All.nil, Pw.one f, fun g hg => by rcases List.mem_cons.1 hg with rfl | hg; exact hd; cases hg⟩
/-- What a call may write: the blocks of those facts that are not only read. -/
def hasW (L : List Fact) (k : Nat) : Prop := ∃ f ∈ L, f.ro = false ∧ f.has k
/-- What a call has written: facts in the place of facts. -/
def Upd (w w' : World) (L L' : List Fact) : Prop := Ext (hasW L) w w' ∧ All w' L' ∧ Pw L' ∧ ∀ f ∈ L', ∀ k, f.has k → k < w.heap.size → hasW L k
def dropIx : List Fact → List Nat → Nat → List Fact
  | [], _, _ => []
  | f :: L, is, i => if is.contains i then dropIx L is (i + 1) else f :: dropIx L is (i + 1)
theorem dropIx_mem {f : Fact} : ∀ {L : List Fact} {is : List Nat} {i : Nat}, f ∈ dropIx L is i → ∃ j, j + i ∉ is ∧ L[j]? = some f
  | [], _, _, h => by cases h
  | g :: L, is, i, h => by
    unfold dropIx at h
    split at h
    · obtain ⟨j, h1, h2⟩ := dropIx_mem h
      exact ⟨j + 1, by rwa [Nat.add_assoc, Nat.add_comm 1], by simpa using h2⟩
    · rename_i hc
      rcases List.mem_cons.1 h with rfl | h
      · exact ⟨0, by simpa using hc, by simp⟩
      · obtain ⟨j, h1, h2⟩ := dropIx_mem h
        exact ⟨j + 1, by rwa [Nat.add_assoc, Nat.add_comm 1], by simpa using h2⟩
theorem dropIx_sub : ∀ (L : List Fact) (is : List Nat) (i : Nat), (dropIx L is i).Sublist L
  | [], _, _ => List.Sublist.refl _
  | g :: L, is, i => by
    unfold dropIx
    split
    · exact (dropIx_sub L is (i + 1)).cons _
    · exact (dropIx_sub L is (i + 1)).cons_cons _
/-- All that is known in a call that began at 'w0' and may write 'S' of what was there: one hypothesis. -/
structure Bu (w0 : World) (S : Nat → Prop) (w : World) (L : List Fact) : Prop where
  all : All w L
  pw : Pw L
  hi : ∀ f ∈ L, f.ro = false → ∀ k, f.has k → k < w0.heap.size → S k
  ext : Ext S w0 w
section
variable {w0 w w' : World} {S : Nat → Prop} {L : List Fact}
theorem Bu.init (H : All w L) (P : Pw L) : Bu w (hasW L) w L := ⟨H, P, fun f hf hr _ hk _ => ⟨f, hf, hr, hk⟩, Ext.refl _ _⟩
theorem Bu.ro (H : All w L) (h : L.all Fact.ro = true) : Bu w no w L := ⟨H, Pw.ro h, fun f hf hr => (by have := List.all_eq_true.1 h f hf; rw [hr] at this; cases this), Ext.refl _ _⟩
theorem Bu.ext0 (B : Bu w0 S w L) (e : Ext0 w w') : Bu w0 S w' L := ⟨B.all.ext0 e, B.pw, B.hi, B.ext.trans e.any⟩
theorem Bu.b (B : Bu w0 S w L) (i : Nat) {b T : Nat} {cs : List Value} (h : L[i]? = some (.blk b cs T)) : Blk w b cs T := B.all.get i h
theorem Bu.s (B : Bu w0 S w L) (i : Nat) {a : Option Addr} {cs : List Value} (h : L[i]? = some (.sl a cs)) : Sl w a cs := B.all.get i h
theorem Bu.r {α : Type} {k : Kd α} (B : Bu w0 S w L) (i : Nat) {a : Option Addr} {n : Nat} {X : List α} (h : L[i]? = some (.rd k a n X)) : Rd w k a n X := B.all.get i h
theorem Bu.o {α : Type} {k : Kd α} (B : Bu w0 S w L) (i : Nat) {a : Option Addr} {n c T : Nat} {X : List α} (h : L[i]? = some (.ow k a n c T X)) : Ow w k a n c T X := B.all.get i h
/-- Something new. -/
theorem Bu.new (B : Bu w0 S w L) {L' : List Fact} (N : New w w' L') : Bu w0 S w' (L' ++ L) := by
  obtain ⟨e, h1, h2, h3⟩ := N
  refine ⟨h1.app (B.all.ext0 e), h2.app B.pw fun f hf g hg => .inr fun k a b => Nat.not_lt.2 (h3 f hf k a) (Fact.lt (B.all g hg) k b), fun f hf hr k hk hl => ?_, B.ext.trans e.any⟩
  rcases List.mem_append.1 hf with hf | hf
  · exact absurd hl (Nat.not_lt.2 (Nat.le_trans B.ext.size (h3 f hf k hk)))
  · exact B.hi f hf hr k hk hl
/-- Some facts are replaced by what was written in their place. -/
theorem Bu.upd (B : Bu w0 S w L) (is : List Nat) {L1 L2 : List Fact} (h : is.map (fun i => L[i]?) = L1.map some) (U : Upd w w' L1 L2) : Bu w0 S w' (L2 ++ dropIx L is 0) := by
  obtain ⟨e, h1, h2, h3⟩ := U
  have hw : ∀ k, hasW L1 k → ∃ f j, j ∈ is ∧ L[j]? = some f ∧ f.ro = false ∧ f.has k := fun k hk => by
    obtain ⟨f, hf, hr, hh⟩ := hk
    have : some f ∈ is.map (fun i => L[i]?) := by rw [h]; exact List.mem_map.2 ⟨f, hf, rfl⟩
    obtain ⟨j, hj, hjf⟩ := List.mem_map.1 this
    exact ⟨f, j, hj, hjf, hr, hh⟩
  have apart : ∀ g ∈ dropIx L is 0, ∀ k, g.has k → hasW L1 k → False := fun g hg k hgk hk => by
    obtain ⟨f, j, hj, hjf, hr, hh⟩ := hw k hk
    obtain ⟨i, hi, hig⟩ := dropIx_mem hg
    exact (B.pw.rel' (fun e => hi (by rw [Nat.add_zero, ← e]; exact hj)) hjf hig).ap hr k hh hgk
  refine ⟨h1.app fun g hg => Fact.keep (B.all g ((dropIx_sub L is 0).subset hg)) e (apart g hg), h2.app (B.pw.sublist (dropIx_sub L is 0)) fun f hf g hg => .inr fun k a b => ?_, fun f hf hr k hk hl => ?_, B.ext.fresh e fun k hk hl => ?_⟩
  · have hlt := Fact.lt (B.all g ((dropIx_sub L is 0).subset hg)) k b
    exact apart g hg k b (h3 f hf k a hlt)
  · rcases List.mem_append.1 hf with hf | hf
    · obtain ⟨f', j, hj, hjf, hr', hh⟩ := hw k (h3 f hf k hk (Nat.lt_of_lt_of_le hl B.ext.size))
      exact B.hi f' (List.mem_of_getElem? hjf) hr' k hh hl
    · exact B.hi f ((dropIx_sub L is 0).subset hf) hr k hk hl
  · obtain ⟨f', j, hj, hjf, hr', hh⟩ := hw k hk
    exact B.hi f' (List.mem_of_getElem? hjf) hr' k hh hl
theorem Bu.pick (B : Bu w0 S w L) (is : List Nat) {fs : List Fact} (h : is.map (fun i => L[i]?) = fs.map some) (hn : nodupB is = true) : Bu w0 S w fs :=
  ⟨B.all.pick is h, B.pw.pick is h hn, fun f hf => by
    have : some f ∈ is.map (fun i => L[i]?) := by rw [h]; exact List.mem_map.2 ⟨f, hf, rfl⟩
    obtain ⟨j, _, hjf⟩ := List.mem_map.1 this
    exact B.hi f (List.mem_of_getElem? hjf), B.ext⟩
/-- What a call gives back: facts on what it made. -/
theorem Bu.give (B : Bu w0 no w L) (is : List Nat) {fs : List Fact} (h : is.map (fun i => L[i]?) = fs.map some) (hn : nodupB is = true) (hr : fs.all (fun f => !f.ro) = true) : New w0 w fs := by
  have B' := B.pick is h hn
  refine ⟨B.ext, B'.all, B'.pw, fun f hf k hk => Nat.not_lt.1 fun hl => ?_⟩
  have := List.all_eq_true.1 hr f hf
  exact B'.hi f hf (by simpa using this) k hk hl
/-- What a call gives back: facts on what it wrote. -/
theorem Bu.wrote {L1 : List Fact} (B : Bu w0 (hasW L1) w L) (is : List Nat) {fs : List Fact} (h : is.map (fun i => L[i]?) = fs.map some) (hn : nodupB is = true) (hr : fs.all (fun f => !f.ro) = true) : Upd w0 w L1 fs := by
  have B' := B.pick is h hn
  refine ⟨B.ext, B'.all, B'.pw, fun f hf k hk hl => ?_⟩
  have := List.all_eq_true.1 hr f hf
  exact B'.hi f hf (by simpa using this) k hk hl
/-- A fact is told in other words. -/
theorem Bu.cast (B : Bu w0 S w L) (i : Nat) {f f' : Fact} (h : L[i]? = some f) (hf : f'.holds w) (hr : f'.ro = f.ro) (hh : ∀ k, f'.has k → f.has k) : Bu w0 S w (L.set i f') := by
  have hmem := List.mem_of_getElem? h
  have hset : ∀ g ∈ L.set i f', ∃ g' ∈ L, g.ro = g'.ro ∧ ∀ k, g.has k → g'.has k := fun g hg => by
    rcases List.mem_or_eq_of_mem_set hg with hg | rfl
    · exact ⟨g, hg, rfl, fun _ h => h⟩
    · exact ⟨f, hmem, hr, hh⟩
  refine ⟨fun g hg => ?_, ?_, fun g hg hgr k hk hl => ?_, B.ext⟩
  · rcases List.mem_or_eq_of_mem_set hg with hg | rfl
    · exact B.all g hg
    · exact hf
  · refine List.pairwise_iff_getElem.2 fun a b ha hb hab => ?_
    have ha' : a < L.length := by simpa using ha
    have hb' : b < L.length := by simpa using hb
    have key := List.pairwise_iff_getElem.1 B.pw a b ha' hb' hab
    obtain ⟨hil, hif⟩ := List.getElem?_eq_some_iff.1 h
    rw [List.getElem_set, List.getElem_set]
    split
    · rename_i hia
      subst hia
      rw [if_neg (by omega)]
      rw [hif] at key
      exact key.elim (fun x => .inl ⟨hr.trans x.1, x.2⟩) fun x => .inr fun k p q => x k (hh k p) q
    · split
      · rename_i hib
        subst hib
        rw [hif] at key
        exact key.elim (fun x => .inl ⟨x.1, hr.trans x.2⟩) fun x => .inr fun k p q => x k p (hh k q)
      · exact key
  · obtain ⟨g', h1, h2, h3⟩ := hset g hg
    exact B.hi g' h1 (h2 ▸ hgr) k (h3 k hk) hl
theorem Bu.castX {α : Type} {k : Kd α} (B : Bu w0 S w L) (i : Nat) {a : Option Addr} {n n' c T : Nat} {X X' : List α} (h : L[i]? = some (.ow k a n c T X)) (hn : n = n') (hX : X = X') : Bu w0 S w (L.set i (.ow k a n' c T X')) := by
  subst hn; subst hX
  exact B.cast i h (B.o i h) rfl fun _ h => h
/-- One fact was written. -/
theorem Bu.set (B : Bu w0 S w L) (i : Nat) {f f' : Fact} {T : Nat → Prop} (h : L[i]? = some f) (hw : f.ro = false) (e : Ext T w w') (hT : ∀ k, T k → f.has k) (hf' : f'.holds w') (hat : ∀ k, f'.has k → f.has k ∨ w.heap.size ≤ k) : Bu w0 S w' (f' :: dropIx L [i] 0) := by
  have hW : ∀ k, f.has k → hasW [f] k := fun k hk => ⟨f, by simp, hw, hk⟩
  refine B.upd (L1 := [f]) (L2 := [f']) [i] (by simp [h]) ⟨e.mono fun k hk => hW k (hT k hk), All.cons hf' All.nil, Pw.one _, fun g hg k hk hl => ?_⟩
  rcases List.mem_cons.1 hg with rfl | hg
  · rcases hat k hk with h1 | h1
    · exact hW k h1
    · exact absurd hl (Nat.not_lt.2 h1)
  · cases hg
/-- The facts 'i' and 'j' are apart. -/
theorem Bu.ap (B : Bu w0 S w L) (i j : Nat) {f g : Fact} (hi : L[i]? = some f) (hj : L[j]? = some g) (hij : (i != j) = true) (hg : g.ro = false) : ∀ k, f.has k → g.has k → False :=
  fun k a b => (B.pw.rel' (by simpa using fun e => by simp [e] at hij) hj hi).ap hg k b a
theorem Bu.keep (B : Bu w0 S w L) (i j : Nat) {f g : Fact} {T : Nat → Prop} (hi : L[i]? = some f) (hj : L[j]? = some g) (hij : (i != j) = true) (hg : g.ro = false) (e : Ext T w w') (hT : ∀ k, T k → g.has k) : f.holds w' :=
  Fact.keep (B.all.get i hi) e fun k a b => B.ap i j hi hj hij hg k a (hT k b)
theorem Bu.sub (B : Bu w0 S w L) {L' : List Fact} (h : L'.Sublist L) : Bu w0 S w L' := ⟨fun f hf => B.all f (h.subset hf), B.pw.sublist h, fun f hf => B.hi f (h.subset hf), B.ext⟩
end
end Go.Wv
