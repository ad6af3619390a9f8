/- Words on memory: blocks of cells known whole; frames; rows as functions. -/
import Derived.Test.YteaemnkllpfbgaaRows
import Derived.WalkKit
import Derived.WalkSpells
import Derived.Deep.OwnRows
import Derived.Maps.OwnOps
import Derived.Maps.OwnSet
import Derived.Maps.Views
import Derived.Deep.Draws
import Derived.Lib.SlKeysI
import Derived.Test.YteaemnkllpfbgaaPa
namespace Go.Proofs.Yteaemnkllpfbgaa
open Go.RowKit
open Cal (upd)
set_option linter.unusedSimpArgs false
set_option linter.unusedVariables false

/-- Block b holds these cells, none of them frozen. -/
def Blk (w : World) (b : Nat) (cs : Array Value) (t : TypeId) : Prop := w.heap[b]? = some (.cells cs t (0, 0))
/-- A row of n cells. -/
def rowA (n : Nat) (f : Nat → Value) : Array Value := ((List.range n).map f).toArray

theorem rowA_size (n : Nat) (f : Nat → Value) : (rowA n f).size = n := by simp [rowA]
theorem rowA_get {n i : Nat} (f : Nat → Value) (h : i < n) : (rowA n f)[i]? = some (f i) := by simp [rowA, h]
theorem rowA_set {n i : Nat} (f : Nat → Value) (v : Value) : (rowA n f).setIfInBounds i v = rowA n (upd f i v) := by
  apply Array.ext
  · simp [rowA]
  · intro j h1 h2
    simp [rowA] at h1
    by_cases e : i = j
    · subst e; simp [rowA, upd]
    · have e2 : ¬ j = i := fun h => e h.symm
      simp [rowA, upd, e, e2, Array.getElem_setIfInBounds]
theorem rowA_congr {n : Nat} {f g : Nat → Value} (h : ∀ i, i < n → f i = g i) : rowA n f = rowA n g := by
  unfold rowA
  congr 1
  exact List.map_congr_left (fun i hi => h i (by simpa using hi))
theorem madeCells_row (z : Value) (n : Nat) : madeCells #[z] n = rowA n (fun _ => z) := by
  apply Array.ext
  · simp [madeCells, rowA]
  · intro j h1 h2
    simp [madeCells, rowA, Nat.mod_one]

theorem Blk.eq {w : World} {b : Nat} {cs : Array Value} {t : TypeId} (h : Blk w b cs t) : w.heap[b]? = some (.cells cs t (0, 0)) := h
theorem Blk.lt {w : World} {b : Nat} {cs : Array Value} {t : TypeId} (h : Blk w b cs t) : b < w.heap.size := (Array.getElem?_eq_some_iff.1 h).1
theorem Blk.cell {w : World} {b : Nat} {cs : Array Value} {t : TypeId} (h : Blk w b cs t) (i : Nat) : w.cell? ⟨b, i, none⟩ = cs[i]? := by
  unfold Blk at h; simp [World.cell?, h]
theorem Blk.row {w : World} {b n : Nat} {f : Nat → Value} {t : TypeId} (h : Blk w b (rowA n f) t) {i : Nat} (hi : i < n) : w.cell? ⟨b, i, none⟩ = some (f i) := (h.cell i).trans (rowA_get f hi)
theorem Blk.free {w : World} {b : Nat} {cs : Array Value} {t : TypeId} (h : Blk w b cs t) (i : Nat) : w.frozen? ⟨b, i, none⟩ = false := by
  unfold Blk at h; simp [World.frozen?, h]
theorem Blk.new (w : World) (cs : Array Value) (t : TypeId) : Blk (w.alloc (.cells cs t)) w.heap.size cs t := by
  show (w.heap.push _)[w.heap.size]? = _
  simp
theorem Blk.alloc {w : World} {b : Nat} {cs : Array Value} {t : TypeId} (h : Blk w b cs t) (o : Obj) : Blk (w.alloc o) b cs t := by
  have := h.lt
  unfold Blk at *
  rw [Below.heap_alloc _ _ _ this]; exact h
theorem Blk.setSame {w : World} {b : Nat} {cs : Array Value} {t : TypeId} (h : Blk w b cs t) (i : Nat) (v : Value) : Blk (w.setCell ⟨b, i, none⟩ v) b (cs.setIfInBounds i v) t := by
  unfold Blk at *
  simp [World.setCell, Array.getElem?_modify, h]
theorem Blk.setRow {w : World} {b n : Nat} {f : Nat → Value} {t : TypeId} (h : Blk w b (rowA n f) t) (i : Nat) (v : Value) : Blk (w.setCell ⟨b, i, none⟩ v) b (rowA n (upd f i v)) t := by
  have := h.setSame i v
  rwa [rowA_set] at this
theorem Blk.setOther {w : World} {b : Nat} {cs : Array Value} {t : TypeId} (h : Blk w b cs t) {a : Addr} (ha : b ≠ a.block) (v : Value) : Blk (w.setCell a v) b cs t := by
  unfold Blk at *
  rw [Below.heap_setCell _ _ _ _ ha]; exact h
theorem Blk.drew {w : World} {b : Nat} {cs : Array Value} {t : TypeId} (h : Blk w b cs t) : Blk w.drew b cs t := h
theorem Blk.drewN {w : World} {b : Nat} {cs : Array Value} {t : TypeId} (h : Blk w b cs t) (n : Nat) : Blk (w.drewN n) b cs t := h
/-- Blocks of two types are two. -/
theorem Blk.ne {w : World} {b b' : Nat} {cs cs' : Array Value} {t t' : TypeId} (h : Blk w b cs t) (h' : Blk w b' cs' t') (ht : t ≠ t') : b ≠ b' := by
  rintro rfl
  unfold Blk at h h'
  rw [h] at h'
  simp at h'
  exact ht h'.2

theorem cellA {w : World} {a : Addr} {v : Value} (h : w.cell? a = some v) (o : Obj) : (w.alloc o).cell? a = some v :=
  (World.cell?_of_block (w := w) (Below.heap_alloc _ _ _ (World.block_lt_of_cell? w _ h))).trans h
theorem frozenA {w : World} {a : Addr} {v : Value} {b : Bool} (h : w.cell? a = some v) (hf : w.frozen? a = b) (o : Obj) : (w.alloc o).frozen? a = b :=
  (World.frozen?_of_block (w := w) (Below.heap_alloc _ _ _ (World.block_lt_of_cell? w _ h))).trans hf

/-- Of what lay in w only the blocks of M may have turned. -/
structure Fr (M : Nat → Prop) (w w' : World) : Prop where
  os : w'.os = w.os
  tape : w'.tape = w.tape
  output : w'.output = w.output
  size : w.heap.size ≤ w'.heap.size
  block : ∀ b, b < w.heap.size → ¬ M b → w'.heap[b]? = w.heap[b]?
theorem Fr.refl (M : Nat → Prop) (w : World) : Fr M w w := ⟨rfl, rfl, rfl, Nat.le_refl _, fun _ _ _ => rfl⟩
theorem Fr.trans {M M' : Nat → Prop} {a b c : World} (h : Fr M a b) (k : Fr M' b c) (hM : ∀ i, i < a.heap.size → M' i → M i) : Fr M a c :=
  ⟨k.os.trans h.os, k.tape.trans h.tape, k.output.trans h.output, Nat.le_trans h.size k.size,
    fun i hi hn => (k.block i (Nat.lt_of_lt_of_le hi h.size) (fun hm => hn (hM i hi hm))).trans (h.block i hi hn)⟩
theorem Fr.mono {M M' : Nat → Prop} {a b : World} (h : Fr M a b) (hM : ∀ i, i < a.heap.size → M i → M' i) : Fr M' a b :=
  ⟨h.os, h.tape, h.output, h.size, fun i hi hn => h.block i hi (fun hm => hn (hM i hi hm))⟩
theorem Fr.alloc {M : Nat → Prop} {a b : World} (h : Fr M a b) (o : Obj) : Fr M a (b.alloc o) :=
  h.trans (M' := fun _ => False) ⟨rfl, rfl, rfl, by simp, fun k hk _ => Below.heap_alloc _ _ _ hk⟩ (fun _ _ h => h.elim)
theorem Fr.set {M : Nat → Prop} {a b : World} (h : Fr M a b) {p : Addr} (hp : p.block < a.heap.size → M p.block) (v : Value) : Fr M a (b.setCell p v) :=
  h.trans (M' := fun k => k = p.block) ⟨rfl, rfl, rfl, by simp [World.setCell], fun k hk hn => Below.heap_setCell _ _ _ _ hn⟩ (fun i hi e => by subst e; exact hp hi)
theorem Fr.drew {M : Nat → Prop} {a b : World} (h : Fr M a b) : Fr M a b.drew := ⟨h.os, h.tape, h.output, h.size, h.block⟩
theorem Fr.drewN {M : Nat → Prop} {a b : World} (h : Fr M a b) (n : Nat) : Fr M a (b.drewN n) := ⟨h.os, h.tape, h.output, h.size, h.block⟩
theorem Fr.blk {M : Nat → Prop} {w w' : World} (h : Fr M w w') {b : Nat} {cs : Array Value} {t : TypeId} (hb : Blk w b cs t) (hn : ¬ M b) : Blk w' b cs t :=
  (h.block b hb.lt hn).trans hb
theorem Fr.below {M : Nat → Prop} {w w' : World} (h : Fr M w w') (B : Nat) (hM : ∀ i, M i → B ≤ i) (hB : B ≤ w.heap.size) : Below B w w' :=
  ⟨h.os, h.tape, h.output, h.size, fun k hk => h.block k (Nat.lt_of_lt_of_le hk hB) (fun hm => by have := hM k hm; omega)⟩
theorem Fr.of_below {w w' : World} (h : Below w.heap.size w w') : Fr (fun _ => False) w w' :=
  ⟨h.os, h.tape, h.output, h.size, fun k hk _ => h.block k hk⟩
theorem Fr.of_grown {w w' : World} {row : Option Nat} (h : w.grownBy w' row) : Fr (fun k => some k = row) w w' :=
  ⟨h.os, h.tape, h.output, h.size, fun k hk hn => h.block k hk hn⟩
theorem Fr.kept {M : Nat → Prop} {w w' : World} (h : Fr M w w') (hM : ∀ i, M i → w.heap.size ≤ i) : Below w.heap.size w w' :=
  h.below _ hM (Nat.le_refl _)

/-- No great number (behind a name: a great numeral stops the walk). -/
def Small (n : Nat) : Prop := n ≤ 1000000000000
theorem Small.out {n : Nat} (h : Small n) : n ≤ 1000000000000 := h

/-- Block r is a map[int]bool of at most c entries with just these keys, each at true. -/
def MapIs (w : World) (r c : Nat) (S : Int → Bool) : Prop :=
  ∃ D, w.ownsMap (H := Unit) Try.prog 3 (plainElem Try.prog 4) r c D ∧ (∀ k : Int, Maps.has D (.int .i64 k) = S k)

theorem ownsMap_fr {M : Nat → Prop} {w w' : World} {k r c : Nat} {R : Value → Option (DataW Unit × List MemPlace)} {D : DataW Unit} (h : w.ownsMap Try.prog k R r c D) (hf : Fr M w w') (hn : ¬ M r) : w'.ownsMap Try.prog k R r c D := by
  have hlt := h.lt
  obtain ⟨es, clock, hb, F, hs, hD⟩ := h
  exact ⟨es, clock, (hf.block r hlt hn).trans hb, F, hs, hD⟩
theorem MapIs.fr {M : Nat → Prop} {w w' : World} {r c : Nat} {S : Int → Bool} (h : MapIs w r c S) (hf : Fr M w w') (hn : ¬ M r) : MapIs w' r c S := by
  obtain ⟨D, ho, hk⟩ := h
  exact ⟨D, ownsMap_fr ho hf hn, hk⟩
theorem MapIs.mono {w : World} {r c c' : Nat} {S : Int → Bool} (h : MapIs w r c S) (hc : c ≤ c') : MapIs w r c' S := by
  obtain ⟨D, ho, hk⟩ := h
  exact ⟨D, ho.mono hc, hk⟩
theorem MapIs.lt {w : World} {r c : Nat} {S : Int → Bool} (h : MapIs w r c S) : r < w.heap.size := by
  obtain ⟨D, ho, hk⟩ := h
  exact ho.lt
theorem MapIs.congr {w : World} {r c : Nat} {S S' : Int → Bool} (h : MapIs w r c S) (e : ∀ k, S k = S' k) : MapIs w r c S' := by
  obtain ⟨D, ho, hk⟩ := h
  exact ⟨D, ho, fun k => (hk k).trans (e k)⟩
/-- A map's block is no block of cells. -/
theorem MapIs.ne {w : World} {r c b : Nat} {S : Int → Bool} {cs : Array Value} {t : TypeId} (h : MapIs w r c S) (hb : Blk w b cs t) : r ≠ b := by
  rintro rfl
  obtain ⟨D, ⟨es, clock, h1, _⟩, _⟩ := h
  unfold Blk at hb
  rw [h1] at hb; simp at hb
end Go.Proofs.Yteaemnkllpfbgaa
