/- Numbers by first place; the map that tells them. -/
import Derived.Test.YteaemnkllpfbgaaT4
namespace Go.Proofs.Yteaemnkllpfbgaa
open Go.RowKit
open Cal (upd upd_same upd_ne St Inv upd_self)
set_option linter.unusedSimpArgs false
set_option linter.unusedVariables false

/-- What came up among the first k, in the order of its first place. -/
def firsts (kn : Nat → Nat) : Nat → List Nat
  | 0 => []
  | k + 1 => if kn k ∈ firsts kn k then firsts kn k else firsts kn k ++ [kn k]

theorem mem_firsts {kn : Nat → Nat} {k x : Nat} : x ∈ firsts kn k ↔ ∃ i, i < k ∧ kn i = x := by
  induction k with
  | zero => simp [firsts]
  | succ k ih =>
    simp only [firsts]
    split
    · rename_i h
      rw [ih]
      constructor
      · rintro ⟨i, h1, h2⟩; exact ⟨i, by omega, h2⟩
      · rintro ⟨i, h1, h2⟩
        by_cases e : i = k
        · subst e; rw [h2] at h; exact ih.1 h
        · exact ⟨i, by omega, h2⟩
    · rw [List.mem_append, ih, List.mem_singleton]
      constructor
      · rintro (⟨i, h1, h2⟩ | e)
        · exact ⟨i, by omega, h2⟩
        · exact ⟨k, by omega, e.symm⟩
      · rintro ⟨i, h1, h2⟩
        by_cases e : i = k
        · subst e; exact .inr h2.symm
        · exact .inl ⟨i, by omega, h2⟩
theorem firsts_len (kn : Nat → Nat) (k : Nat) : (firsts kn k).length ≤ k := by
  induction k with
  | zero => simp [firsts]
  | succ k ih => simp only [firsts]; split <;> (try simp) <;> omega
theorem firsts_idx {kn : Nat → Nat} {k m x : Nat} (h : x ∈ firsts kn k) (hm : k ≤ m) : (firsts kn m).idxOf x = (firsts kn k).idxOf x := by
  induction m with
  | zero => obtain rfl : k = 0 := by omega
            rfl
  | succ m ih =>
    by_cases e : k = m + 1
    · subst e; rfl
    · have hkm : k ≤ m := by omega
      simp only [firsts]
      split
      · exact ih hkm
      · have : x ∈ firsts kn m := by
          obtain ⟨i, h1, h2⟩ := mem_firsts.1 h
          exact mem_firsts.2 ⟨i, by omega, h2⟩
        rw [List.idxOf_append, if_pos this]
        exact ih hkm
theorem idxOf_inj {l : List Nat} {x y : Nat} (hx : x ∈ l) (h : l.idxOf x = l.idxOf y) : x = y := by
  have h1 := List.idxOf_lt_length_of_mem hx
  have h2 : l[l.idxOf x]'h1 = x := List.getElem_idxOf h1
  have h1' : l.idxOf y < l.length := by rw [← h]; exact h1
  have h3 : l[l.idxOf y]'h1' = y := List.getElem_idxOf h1'
  rw [← h2, ← h3]
  congr 1

/-- Block r is a map[int]int that tells of each of l its place. -/
def NumIs (w : World) (r : Nat) (l : List Nat) : Prop :=
  ∃ D, w.ownsMap (H := Unit) Try.prog 3 (plainElem Try.prog 3) r l.length D ∧ Maps.IsMap D ∧ Maps.size D = l.length ∧
    (∀ x : Nat, Maps.has D (.int .i64 x) = decide (x ∈ l)) ∧ ∀ x : Nat, x ∈ l → ∀ z, D.atKey (.int .i64 x) z = .lit (.int .i64 (l.idxOf x : Nat))

theorem NumIs.fr {M : Nat → Prop} {w w' : World} {r : Nat} {l : List Nat} (h : NumIs w r l) (hf : Fr M w w') (hn : ¬ M r) : NumIs w' r l := by
  obtain ⟨D, ho, hk⟩ := h
  exact ⟨D, ownsMap_fr ho hf hn, hk⟩
theorem NumIs.lt {w : World} {r : Nat} {l : List Nat} (h : NumIs w r l) : r < w.heap.size := by
  obtain ⟨D, ho, hk⟩ := h
  exact ho.lt
theorem NumIs.ne {w : World} {r b : Nat} {l : List Nat} {cs : Array Value} {t : TypeId} (h : NumIs w r l) (hb : Blk w b cs t) : r ≠ b := by
  rintro rfl
  obtain ⟨D, ⟨es, clock, h1, _⟩, _⟩ := h
  unfold Blk at hb
  rw [h1] at hb
  simp at hb
theorem size_put_new {D : DataW Unit} (hm : Maps.IsMap D) {k : Lit} (h : Maps.has D k = false) (d : DataW Unit) : Maps.size (D.put k d) = Maps.size D + 1 := by
  obtain ⟨es, rfl⟩ := hm
  show (DataW.insert (k, d) (es.filter fun p => !p.1.sameKey k)).length = es.length + 1
  have e : (es.filter fun p => !p.1.sameKey k) = es := by
    rw [List.filter_eq_self]
    intro p hp
    rw [Maps.has_eq] at h
    have := List.any_eq_false.1 h p hp
    simpa using this
  rw [e]
  exact DataW.length_insert _ _
theorem NumIs.made (w : World) : NumIs (w.alloc (.map #[] 0)) w.heap.size [] :=
  ⟨_, World.ownsMap_made (H := Unit) w Try.prog 3 (plainElem Try.prog 3), Maps.isMap_empty, rfl, by intro x; rfl, by simp⟩

theorem num_lenrun {W : World} {r : Nat} {l : List Nat} (h : NumIs W r l) (ty : TypeId) : (Builtin.len_ #[62] ty #[.map (some r)]).run Try.prog W = .ok (.int .i64 (l.length : Int)) W := by
  obtain ⟨D, ho, _, hs, h1, h2⟩ := h
  rw [ho.len Try.underlying62 ty, hs]

section
variable {ops : Array Oper} {rest : List Oper} {o : Oper} {a : Act} {Q : Exit → Act → World → Prop}
theorem num_old {W : World} {r x : Nat} {l : List Nat} (h : NumIs W r l) (hx : x ∈ l) (hs : x < 9223372036854775807) (m k : Operand) (hg : o.guard = none) (hop : o.op = .lookup 62 m k true)
    (hm : a.eval m = .map (some r)) (hk : a.eval k = .int .i64 (x : Int)) (hK : wpList Try.prog ops Q rest (a.put o.dst (.tuple #[.int .i64 ((l.idxOf x : Nat) : Int), .bool true])) W) : wpList Try.prog ops Q (o :: rest) a W := by
  obtain ⟨D, ho, _, _, h1, h2⟩ := h
  refine wpList_lookup_own_ok_int _ hg _ _ 62 hop 3 3 .i64 keyed3 Try.underlying62 Try.underlying3 (Try.zeroValue3 _) r _ D hm ho _ _ hk (Maps.keyOf_int_mk Try.underlying3 (WalkArith.wf_i64 (by omega))) ?_
  intro c hc _
  rw [h2 x hx, DataW.lit.injEq, Lit.int.injEq] at hc
  rw [← hc.2, h1 x]
  simpa [hx] using hK
theorem num_not {W : World} {r x : Nat} {l : List Nat} (h : NumIs W r l) (hx : x ∉ l) (hs : x < 9223372036854775807) (m k : Operand) (hg : o.guard = none) (hop : o.op = .lookup 62 m k true)
    (hm : a.eval m = .map (some r)) (hk : a.eval k = .int .i64 (x : Int)) (hK : wpList Try.prog ops Q rest (a.put o.dst (.tuple #[.int .i64 0, .bool false])) W) : wpList Try.prog ops Q (o :: rest) a W := by
  obtain ⟨D, ho, _, _, h1, h2⟩ := h
  refine wpList_lookup_own_ok_int _ hg _ _ 62 hop 3 3 .i64 keyed3 Try.underlying62 Try.underlying3 (Try.zeroValue3 _) r _ D hm ho _ _ hk (Maps.keyOf_int_mk Try.underlying3 (WalkArith.wf_i64 (by omega))) ?_
  intro c hc _
  have hh : Maps.has D (.int .i64 (x : Int)) = false := by rw [h1 x]; simpa using hx
  rw [Maps.atKey_of_not_has hh, DataW.lit.injEq, Lit.int.injEq] at hc
  rw [← hc.2, hh]
  exact hK
theorem num_len {W : World} {r : Nat} {l : List Nat} (h : NumIs W r l) (m : Operand) (hg : o.guard = none) (hop : o.op = .call { callee := .builtin .len, args := #[m], argTypes := #[62] })
    (hm : a.eval m = .map (some r)) (hK : wpList Try.prog ops Q rest (a.put o.dst (.int .i64 (l.length : Int))) W) : wpList Try.prog ops Q (o :: rest) a W := by
  obtain ⟨D, ho, _, hs, h1, h2⟩ := h
  refine wpList_len_own _ hg _ 62 hop 3 3 Try.underlying62 _ r _ D hm ho ?_
  rw [hs]
  exact hK
theorem num_put {W : World} {r x : Nat} {l : List Nat} (h : NumIs W r l) (hx : x ∉ l) (hs : x < 9223372036854775807) (hl : l.length < 1000000000000) (m k v : Operand) (hg : o.guard = none) (hop : o.op = .mapUpdate 62 m k v)
    (hm : a.eval m = .map (some r)) (hk : a.eval k = .int .i64 (x : Int)) (hv : a.eval v = .int .i64 (l.length : Int))
    (hK : ∀ W', NumIs W' r (l ++ [x]) → Fr (fun b => b = r) W W' → wpList Try.prog ops Q rest (a.put o.dst undef) W') : wpList Try.prog ops Q (o :: rest) a W := by
  obtain ⟨D, ho, hmap, hsz, h1, h2⟩ := h
  have hh : Maps.has D (.int .i64 (x : Int)) = false := by rw [h1 x]; simpa using hx
  refine wpList_mapUpdate_own _ hg _ _ _ 62 hop 3 3 keyed3 Try.underlying62 _ r _ D hm ho (by unfold maxLen; omega) _ _ _ hk hv (Maps.keyOf_int_mk Try.underlying3 (WalkArith.wf_i64 (by omega))) _ [] (plainElem_int Try.underlying3 (WalkArith.wf_i64 (by omega))) ?_
  intro W' ho' hgr
  refine hK W' ⟨_, by rw [List.length_append]; exact ho', hmap.put _ _, by rw [size_put_new hmap hh, hsz]; simp, fun y => ?_, fun y hy z => ?_⟩ ((Fr.of_grown hgr).mono fun i _ e => by simpa using e)
  · rw [has_put D hmap, h1 y]
    by_cases e : y = x
    · subst e; simp
    · have : ¬ ((y : Int) = (x : Int)) := by omega
      simp [this, e]
  · by_cases e : y = x
    · subst e
      rw [Maps.atKey_put_same hmap (show WideAt.IsKeyLit (.int .i64 (y : Int)) from trivial), List.idxOf_append, if_neg hx]
      simp
    · have e' : (Lit.int .i64 (y : Int)) ≠ .int .i64 (x : Int) := by simp; omega
      have hy' : y ∈ l := by simpa [e] using hy
      rw [Maps.atKey_put_other e', h2 y hy', List.idxOf_append, if_pos hy']
end
end Go.Proofs.Yteaemnkllpfbgaa
