/- Calls that write: what they are given. -/
import Derived.Test.YtgohmocjjmkepaaN3
set_option linter.unusedSimpArgs false
set_option linter.unusedVariables false
namespace Go.Wv
section
variable {w0 w w' : World} {S : Nat → Prop} {L : List Fact}
/-- A call begins that may write 'W' and reads 'R'. -/
theorem Bu.initW {W R : List Fact} (H : All w (W ++ R)) (P : Pw (W ++ R)) (hr : R.all Fact.ro = true) : Bu w (hasW W) w (W ++ R) :=
  ⟨H, P, fun f hf hro k hk _ => by
    rcases List.mem_append.1 hf with hf | hf
    · exact ⟨f, hf, hro, hk⟩
    · exact absurd (List.all_eq_true.1 hr f hf) (by rw [hro]; simp), Ext.refl _ _⟩
/-- A fact as one that is only read. -/
theorem Bu.weak (B : Bu w0 S w L) (i : Nat) {f f' : Fact} (h : L[i]? = some f) (hf : f'.holds w) (hr : f'.ro = true) (hh : ∀ k, f'.has k → f.has k) : Bu w0 S w (L.set i f') := by
  have hmem := List.mem_of_getElem? h
  refine ⟨fun g hg => ?_, ?_, fun g hg hgr k hk hl => ?_, B.ext⟩
  · rcases List.mem_or_eq_of_mem_set hg with hg | rfl
    · exact B.all g hg
    · exact hf
  · refine List.pairwise_iff_getElem.2 fun a b ha hb hab => ?_
    have ha' : a < L.length := by simpa using ha
    have hb' : b < L.length := by simpa using hb
    have key := List.pairwise_iff_getElem.1 B.pw a b ha' hb' hab
    obtain ⟨hil, hif⟩ := List.getElem?_eq_some_iff.1 h
    rw [List.getElem_set, List.getElem_set]
    split
    · rename_i hia
      subst hia
      rw [if_neg (by omega)]
      rw [hif] at key
      exact key.elim (fun x => .inl ⟨hr, x.2⟩) fun x => .inr fun k p q => x k (hh k p) q
    · split
      · rename_i hib
        subst hib
        rw [hif] at key
        exact key.elim (fun x => .inl ⟨x.1, hr⟩) fun x => .inr fun k p q => x k p (hh k q)
      · exact key
  · rcases List.mem_or_eq_of_mem_set hg with hg | rfl
    · exact B.hi g hg hgr k hk hl
    · rw [hr] at hgr; cases hgr
theorem Bu.weakO {α : Type} {kd : Kd α} (B : Bu w0 S w L) (i : Nat) {a : Option Addr} {n c T : Nat} {X : List α} (h : L[i]? = some (.ow kd a n c T X)) : Bu w0 S w (L.set i (.rd kd a n X)) :=
  B.weak i h (B.o i h).rd rfl fun _ h => h.2
theorem Bu.weakB (B : Bu w0 S w L) (i : Nat) {b T : Nat} {cs : List Value} (h : L[i]? = some (.blk b cs T)) : Bu w0 S w (L.set i (.sl (some ⟨b, 0, none⟩) cs)) :=
  B.weak i h (B.b i h).sl rfl fun k h => by have := h.2; simp only [inA, Option.map_some, Option.some.injEq] at this; exact this.symm
/-- What is written in own facts of a call is what it may write, or was not there. -/
theorem Bu.out (B : Bu w0 S w L) (is : List Nat) {W : List Fact} (h : is.map (fun i => L[i]?) = W.map some) (e : Ext (hasW W) w w') : Ext S w0 w' :=
  B.ext.fresh e fun k ⟨f, hf, hr, hk⟩ hl => by
    have : some f ∈ is.map (fun i => L[i]?) := by rw [h]; exact List.mem_map.2 ⟨f, hf, rfl⟩
    obtain ⟨j, _, hjf⟩ := List.mem_map.1 this
    exact B.hi f (List.mem_of_getElem? hjf) hr k hk hl
theorem Bu.keepW (B : Bu w0 S w L) (is : List Nat) {W : List Fact} (h : is.map (fun i => L[i]?) = W.map some) (j : Nat) {f : Fact} (hj : L[j]? = some f) (hn : is.contains j = false) (e : Ext (hasW W) w w') : f.holds w' :=
  Fact.keep (B.all.get j hj) e fun k hk ⟨g, hg, hr, hgk⟩ => by
    have : some g ∈ is.map (fun i => L[i]?) := by rw [h]; exact List.mem_map.2 ⟨g, hg, rfl⟩
    obtain ⟨i, hi, hig⟩ := List.mem_map.1 this
    refine (B.pw.rel' (fun e : i = j => ?_) hig hj).ap hr k hgk hk
    subst e
    simp [List.contains_eq_mem, hi] at hn
theorem Bu.keepO {α : Type} {kd : Kd α} (B : Bu w0 S w L) (is : List Nat) {W : List Fact} (h : is.map (fun i => L[i]?) = W.map some) (j : Nat) {a : Option Addr} {n c T : Nat} {X : List α} (hj : L[j]? = some (.ow kd a n c T X)) (hn : is.contains j = false) (e : Ext (hasW W) w w') : Rd w' kd a n X :=
  (show Ow w' kd a n c T X from B.keepW is h j hj hn e).rd
theorem Bu.keepR {α : Type} {kd : Kd α} (B : Bu w0 S w L) (is : List Nat) {W : List Fact} (h : is.map (fun i => L[i]?) = W.map some) (j : Nat) {a : Option Addr} {n : Nat} {X : List α} (hj : L[j]? = some (.rd kd a n X)) (hn : is.contains j = false) (e : Ext (hasW W) w w') : Rd w' kd a n X :=
  B.keepW is h j hj hn e
end
end Go.Wv
