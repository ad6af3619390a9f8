/- A range over a function whose body may write and make maps. -/
import Derived.Test.YteaemnkllpfbgaaA4
namespace Go.Proofs.Yteaemnkllpfbgaa
open Go.RowKit Go.Shelf Go.Maps
set_option linter.unusedSimpArgs false
set_option linter.unusedVariables false

/-- A walk over a map. -/
def isIter : Obj → Bool
  | .mapIter .. => true
  | _ => false
/-- What a program writes itself: cells and maps. -/
def isData : Obj → Bool
  | .cells .. => true
  | .map .. => true
  | _ => false

/-- What is no data lies as it lay. -/
structure KeepsBk (W W' : World) : Prop where
  size : W.heap.size ≤ W'.heap.size
  same : ∀ (k : Nat) (o : Obj), W.heap[k]? = some o → isData o = false → W'.heap[k]? = some o
theorem KeepsBk.of_fr {M : Nat → Prop} {W W' : World} (h : Fr M W W') (hM : ∀ b, M b → ∀ o, W.heap[b]? = some o → isData o = true) : KeepsBk W W' :=
  ⟨h.size, fun k o hk ho => (h.block k (Array.getElem?_eq_some_iff.1 hk).1 (fun hm => by have := hM k hm o hk; rw [ho] at this; cases this)).trans hk⟩
theorem KeepsBk.trans {A B C : World} (h : KeepsBk A B) (k : KeepsBk B C) : KeepsBk A C :=
  ⟨Nat.le_trans h.size k.size, fun i o hi ho => k.same i o (h.same i o hi ho) ho⟩

/-- It holds whatever becomes, from B on, of what is no data. -/
def AbidesBk {β : Type} (B : Nat) (J : β → World → Prop) : Prop :=
  ∀ s W W' row, J s W → W.grownBy W' row → (∀ r, row = some r → B ≤ r ∧ ∃ o : Obj, W.heap[r]? = some o ∧ isData o = false) → J s W'
/-- .. of walks over maps. -/
def AbidesIt {β : Type} (B : Nat) (J : β → World → Prop) : Prop :=
  ∀ s W W' row, J s W → W.grownBy W' row → (∀ r, row = some r → B ≤ r ∧ ∃ o : Obj, W.heap[r]? = some o ∧ isIter o = true) → J s W'

/-- What a round keeps: what lay below n₀, and the walks at or beyond B. -/
structure KpI (n₀ B : Nat) (W W' : World) : Prop where
  bel : Below n₀ W W'
  iter : ∀ b o, B ≤ b → W.heap[b]? = some o → isIter o = true → W'.heap[b]? = some o
theorem KpI.of_bk {n₀ B : Nat} {W W' : World} (h : KeepsBk W W') (hb : Below n₀ W W') : KpI n₀ B W W' :=
  ⟨hb, fun b o _ ho hw => h.same b o ho (by cases o <;> simp_all [isIter, isData])⟩

/-- The iterator's contract. -/
def StopsIt {α : Type} (F : Fence) (n : Nat) (P : Program) (g : Nat) (lb : Array Value) (encs : α → Array Value) (n₀ : Nat) (S : List α → Prop) (N : Nat) (w : World) : Prop :=
  ∀ (l : Nat) (J : List α → World → Prop) (W : World), Below w.heap.size w W → AbidesIt W.heap.size J →
    (∀ pre x W1, J pre W1 → pre.length < N → YieldAt F (n - 1) P l (encs x) W1 fun e W' => e = .returned (.bool true) ∧ J (pre ++ [x]) W' ∧ KpI n₀ w.heap.size W1 W') →
    J [] W → CallsIn F n P g (#[.func (.yield l) #[] #[]] ++ lb) W fun e W' => (∃ v, e = .returned v) ∧ ∃ xs, S xs ∧ J xs W'

theorem grown_bk {W W' : World} {row : Option Nat} (hg : W.grownBy W' row) {b : Nat} {o : Obj} (hb : W.heap[b]? = some o) (hr : row ≠ some b) : W'.heap[b]? = some o :=
  (hg.block b (Array.getElem?_eq_some_iff.1 hb).1 (fun e => hr e.symm)).trans hb

/-- A range over a function; its body never leaves it. -/
theorem wp_range_it {α : Type} {g : Operand} {ps : Array Tmp} {assign body : Code} {Q : Exit → Act → World → Prop} {a : Act} {w : World} (n : Nat) (h1 : 1 ≤ n)
    {gf : Nat} {lb : Array Value} (hg : a.eval g = .func (.func gf) #[] lb) (eg : ∀ args w, (callFunc gf args).run Try.prog w = .ok (.enter gf args) w)
    {encs : α → Array Value} {n₀ : Nat} (hn₀ : n₀ ≤ w.heap.size) {S : List α → Prop} {N : Nat} (hseq : StopsIt Fence.wide (n - 1) Try.prog gf lb encs n₀ S N w)
    (hps : ∀ x, (encs x).size = ps.size)
    (I : List α → World → Prop) (hI : AbidesBk w.heap.size I) (h0 : I [] w)
    (hround : ∀ (l : Nat) (pre : List α) (x : α) (W : World), I pre W → pre.length < N →
      assign.wpIn (Fence.wide.inRound l) (n - 1 - 1) Try.prog (Exit.then (fun a' W' => W' = W ∧ ∀ W2, I pre W2 →
        body.wpIn (Fence.wide.inRound l) (n - 1 - 1) Try.prog (Exit.then (fun _ W' => KeepsBk W2 W' ∧ Below n₀ W2 W' ∧ I (pre ++ [x]) W') (fun _ _ _ => False)) a' W2) (fun _ _ _ => False))
        { tmps := (ps.zip (encs x)).foldl (fun t (p, v) => t.setIfInBounds p v) a.tmps, defers := [] } W)
    (hdone : ∀ (D : Nat) (xs : List α) (W : World), w.heap.size ≤ D → S xs → I xs W → W.heap[D]? = some (.deferred (some [])) → Q .normal { a with defers := { target := .collected D, args := #[] } :: a.defers } W) :
    (Code.rangeFunc g ps assign body).wp Try.prog Q a w := by
  refine (wpIn_wide (n := n)).1 (wpIn_rangeFunc fun fn hfn => ?_)
  obtain ⟨mk, hmk⟩ : ∃ mk : LoopState → Loop, mk = fun st => { state := st, pending := none, fn, tmps := a.tmps, params := ps, assign, body, defers := w.heap.size } := ⟨_, rfl⟩
  obtain ⟨W1, hW1⟩ : ∃ W1, (w.alloc (.deferred (some []))).alloc (.loop (mk .ready)) = W1 := ⟨_, rfl⟩
  have hg0 : w.grownBy W1 none := by
    rw [← hW1]
    exact ⟨rfl, rfl, rfl, by simp; omega, fun k hk _ => (Below.heap_alloc _ _ _ (by simp; omega)).trans (Below.heap_alloc _ _ _ hk)⟩
  have hL : W1.heap[w.heap.size + 1]? = some (.loop (mk .ready)) := by
    rw [← hW1]; have := World.alloc_heap_new (w.alloc (.deferred (some []))) (.loop (mk .ready)); rwa [World.size_alloc] at this
  have hD : W1.heap[w.heap.size]? = some (.deferred (some [])) := by
    rw [← hW1]; exact (Below.heap_alloc _ _ _ (by simp)).trans (World.alloc_heap_new w _)
  have hs1 : W1.heap.size = w.heap.size + 2 := by rw [← hW1]; simp
  refine ⟨w.heap.size + 1, [{ target := .collected w.heap.size, args := #[] }], W1, { target := .fn (.func gf) lb, args := #[.func (.yield (w.heap.size + 1)) #[] #[]] }, W1, gf,
    #[.func (.yield (w.heap.size + 1)) #[] #[]] ++ lb, W1, ?_, ?_, fun _ _ => trivial, ?_, fun _ => h1, ?_⟩
  · rw [← hW1, hmk]; exact run_enterLoop_outer _ _ _ _ _
  · simp only [resolve, hg]; simp [go_sem]
  · simp [invoke, go_sem, eg]
  have hput : ∀ (W : World) (st st' : LoopState), W.heap[w.heap.size + 1]? = some (.loop (mk st)) → ∀ s, I s W → I s (W.putObj (w.heap.size + 1) (.loop (mk st'))) :=
    fun W st st' hl s hs => hI s W _ (some (w.heap.size + 1)) hs (grownBy_putObj' W _ _) (fun r e => by cases e; exact ⟨by omega, _, hl, rfl⟩)
  have hputD : ∀ (W : World) (st : LoopState), W.heap[w.heap.size]? = some (.deferred (some [])) → (W.putObj (w.heap.size + 1) (.loop (mk st))).heap[w.heap.size]? = some (.deferred (some [])) :=
    fun W st h => (World.putObj_heap_other (by omega)).trans h
  refine (hseq (w.heap.size + 1) (fun pre W => I pre W ∧ W.heap[w.heap.size + 1]? = some (.loop (mk .ready)) ∧ W.heap[w.heap.size]? = some (.deferred (some []))) W1 ?_ ?_ ?_ ⟨hI _ _ _ none h0 hg0 (fun r e => by cases e), hL, hD⟩).mono ?_
  · exact ⟨hg0.os, hg0.tape, hg0.output, hg0.size, fun k hk => hg0.block k hk (by simp)⟩
  · intro s A B row hs hg' hr
    have hne : ∀ b o, A.heap[b]? = some o → isIter o = false → row ≠ some b := fun b o hb ho e => by
      obtain ⟨_, o', ho', hi⟩ := hr b e
      rw [hb] at ho'; cases ho'; rw [ho] at hi; cases hi
    exact ⟨hI s A B row hs.1 hg' (fun r e => by
        obtain ⟨hB, o, ho, hi⟩ := hr r e
        exact ⟨by omega, o, ho, by cases o <;> simp_all [isIter, isData]⟩), grown_bk hg' hs.2.1 (hne _ _ hs.2.1 rfl), grown_bk hg' hs.2.2 (hne _ _ hs.2.2 rfl)⟩
  · rintro pre x W ⟨hi, hl, hd⟩ hlen
    have hy := run_yield (P := Try.prog) (args := encs x) hl (by rw [hmk]; exact hps x)
    rw [hmk] at hy
    refine ⟨fn, _, assign, body, hy, roundIn_of_wpIn hfn (wpIn_mono (hround (w.heap.size + 1) pre x W hi hlen) ?_)⟩
    rintro e0 a' W' hp0
    cases e0 <;> try exact hp0.elim
    obtain ⟨hWW, hbody⟩ := hp0
    rw [hWW]
    refine ⟨_, run_beginRound hl (by rw [hmk]), ?_⟩
    have hl2 : (W.putObj (w.heap.size + 1) (.loop { mk .ready with state := .busy })).heap[w.heap.size + 1]? = some (.loop (mk .busy)) := by
      rw [World.putObj_heap_same (Array.getElem?_eq_some_iff.1 hl).1, hmk]
    have hi2 := hput W .ready .busy hl pre hi
    have hd2 := hputD W .busy hd
    have e2 : W.putObj (w.heap.size + 1) (.loop { mk .ready with state := .busy }) = W.putObj (w.heap.size + 1) (.loop (mk .busy)) := by rw [hmk]
    rw [e2] at hl2 ⊢
    refine wpIn_mono (hbody _ hi2) ?_
    rintro e a3 W3 hp
    cases e with
    | normal =>
      obtain ⟨hk, hb, hi3⟩ := hp
      have hl3 := hk.same _ _ hl2 rfl
      have hd3 := hk.same _ _ hd2 rfl
      have e3 : W3.putObj (w.heap.size + 1) (.loop { mk .busy with state := if (none : Option Code).isNone then .ready else .done, pending := none }) = W3.putObj (w.heap.size + 1) (.loop (mk .ready)) := by rw [hmk]; rfl
      have hr := run_endRound (P := Try.prog) none hl3
      rw [e3] at hr
      have hkp : ∀ (V : World) (st st' : LoopState), V.heap[w.heap.size + 1]? = some (.loop (mk st)) → KpI n₀ w.heap.size V (V.putObj (w.heap.size + 1) (.loop (mk st'))) := fun V st st' hv =>
        ⟨(Fr.of_grown (grownBy_putObj' V _ _)).below n₀ (fun i e => by cases e; omega) (by have := (Array.getElem?_eq_some_iff.1 hv).1; omega), fun b o _ ho hw => (World.putObj_heap_other (fun e => by subst e; rw [hv] at ho; cases ho; cases hw)).trans ho⟩
      have hkp1 := hkp W .ready .busy hl
      have hkp2 : KpI n₀ w.heap.size (W.putObj (w.heap.size + 1) (.loop (mk .busy))) W3 := KpI.of_bk hk hb
      have hkp3 := hkp W3 .busy .ready hl3
      refine ⟨_, _, hr, rfl, ⟨hput W3 .busy .ready hl3 _ hi3, World.putObj_heap_same (Array.getElem?_eq_some_iff.1 hl3).1, hputD W3 .ready hd3⟩,
        (hkp1.bel.trans hkp2.bel).trans hkp3.bel, fun b o hB ho hw => hkp3.iter b o hB (hkp2.iter b o hB (hkp1.iter b o hB ho hw) hw) hw⟩
    | _ => exact hp.elim
  · rintro e W2 ⟨⟨v, rfl⟩, xs, hS, hi, hl, hd⟩
    have hr := run_endLoop (P := Try.prog) hl (by rw [hmk]; simp)
    have e2 : W2.putObj (w.heap.size + 1) (.loop { mk .ready with state := .exhausted }) = W2.putObj (w.heap.size + 1) (.loop (mk .exhausted)) := by rw [hmk]
    rw [e2] at hr
    have hpn : (mk .ready).pending = none := by rw [hmk]
    rw [hpn] at hr
    refine ⟨none, _, hr, ?_⟩
    exact hdone _ xs _ (Nat.le_refl _) hS (hput W2 .ready .exhausted hl _ hi) (hputD W2 .exhausted hd)
end Go.Proofs.Yteaemnkllpfbgaa
