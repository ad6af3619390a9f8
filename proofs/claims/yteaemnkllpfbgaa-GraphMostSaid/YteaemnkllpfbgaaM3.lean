/- count: the most marks on a walk out of a knot. -/
import Derived.Test.YteaemnkllpfbgaaM1
import Derived.Test.YteaemnkllpfbgaaH1
namespace Go.Proofs.Yteaemnkllpfbgaa
open Go.RowKit Go.Maps
open Cal (upd upd_same upd_ne)
set_option linter.unusedSimpArgs false
set_option linter.unusedVariables false

/-- Block r is a map[int]int with just these entries. -/
def MapN (w : World) (r c : Nat) (T : Int → Option Nat) : Prop :=
  ∃ D, w.ownsMap (H := Unit) Try.prog 3 (plainElem Try.prog 3) r c D ∧ (∀ k : Int, Maps.has D (.int .i64 k) = (T k).isSome) ∧ ∀ k v, T k = some v → ∀ z, D.atKey (.int .i64 k) z = .lit (.int .i64 (v : Int))
theorem MapN.fr {M : Nat → Prop} {w w' : World} {r c : Nat} {T : Int → Option Nat} (h : MapN w r c T) (hf : Fr M w w') (hn : ¬ M r) : MapN w' r c T := by
  obtain ⟨D, ho, hk⟩ := h
  exact ⟨D, ownsMap_fr ho hf hn, hk⟩
theorem MapN.lt {w : World} {r c : Nat} {T : Int → Option Nat} (h : MapN w r c T) : r < w.heap.size := by
  obtain ⟨D, ho, hk⟩ := h
  exact ho.lt
theorem MapN.ne {w : World} {r c b : Nat} {T : Int → Option Nat} {cs : Array Value} {t : TypeId} (h : MapN w r c T) (hb : Blk w b cs t) : r ≠ b := by
  rintro rfl
  obtain ⟨D, ⟨es, clock, h1, _⟩, _⟩ := h
  unfold Blk at hb
  rw [h1] at hb; simp at hb
theorem MapN.mono {w : World} {r c c' : Nat} {T : Int → Option Nat} (h : MapN w r c T) (hc : c ≤ c') : MapN w r c' T := by
  obtain ⟨D, ho, hk⟩ := h
  exact ⟨D, ho.mono hc, hk⟩

/-- The counter's own blocks but its row 'best'. -/
structure CR (w : World) (cb tb bb m cc : Nat) (mr : Nat → Nat) (T : Nat → Int → Option Nat) : Prop where
  cb : Blk w cb #[.slice (some ⟨tb, 0, none⟩) m m, .slice (some ⟨bb, 0, none⟩) m m] 77
  tb : Blk w tb (rowA m fun x => .map (some (mr x))) 62
  mp : ∀ x, x < m → MapN w (mr x) cc (T x)

/-- The row 'best': -1, or what is to be told. -/
def BestR (w : World) (bb m : Nat) (L : Nat → Nat) : Prop := ∃ f : Nat → Int, Blk w bb (rowA m fun x => .int .i64 (f x)) 3 ∧ ∀ x, x < m → f x = -1 ∨ f x = (L x : Int)

theorem BestR.lt {w : World} {bb m : Nat} {L : Nat → Nat} (h : BestR w bb m L) : bb < w.heap.size := by
  obtain ⟨f, h1, _⟩ := h; exact h1.lt
theorem BestR.fr {M : Nat → Prop} {w w' : World} {bb m : Nat} {L : Nat → Nat} (h : BestR w bb m L) (hf : Fr M w w') (hn : ¬ M bb) : BestR w' bb m L := by
  obtain ⟨f, h1, h2⟩ := h
  exact ⟨f, hf.blk h1 hn, h2⟩
theorem BestR.set {w : World} {bb m : Nat} {L : Nat → Nat} (h : BestR w bb m L) {x : Nat} {v : Nat} (hv : v = L x) : BestR (w.setCell ⟨bb, x, none⟩ (.int .i64 (v : Int))) bb m L := by
  obtain ⟨f, h1, h2⟩ := h
  refine ⟨fun i => if i = x then (v : Int) else f i, ?_, fun i hi => ?_⟩
  · refine Eq.trans (h1.setRow x (.int .i64 (v : Int))).eq ?_
    congr 2
    refine rowA_congr fun i _ => ?_
    simp only [upd]; split <;> rfl
  · by_cases e : i = x
    · subst e; simp [hv]
    · simp [e, h2 i hi]
theorem CR.fr {w w' : World} {cb tb bb m cc : Nat} {mr : Nat → Nat} {T : Nat → Int → Option Nat} {cs : Array Value} (h : CR w cb tb bb m cc mr T) (hb : Blk w bb cs 3) (hf : Fr (fun b => b = bb) w w') : CR w' cb tb bb m cc mr T where
  cb := hf.blk h.cb (h.cb.ne hb (by decide))
  tb := hf.blk h.tb (h.tb.ne hb (by decide))
  mp := fun x hx => (h.mp x hx).fr hf ((h.mp x hx).ne hb)

/-- What the entries say: each leads further down; the most is told. -/
structure DAG (m : Nat) (T : Nat → Int → Option Nat) (L ρ : Nat → Nat) : Prop where
  key : ∀ x k v, x < m → T x k = some v → ∃ y : Nat, k = (y : Int) ∧ y < m ∧ ρ y < ρ x ∧ v + L y ≤ L x
  top : ∀ x, x < m → L x = 0 ∨ ∃ (y v : Nat), T x (y : Int) = some v ∧ L x ≤ v + L y
  bd : ∀ x, x < m → L x ≤ 1000

/-- What count answers. -/
def CountP (w : World) (bb m x : Nat) (L : Nat → Nat) (e : Ending) (w' : World) : Prop :=
  e = .returned (.int .i64 (L x : Int)) ∧ Fr (fun b => b = bb) w w' ∧ BestR w' bb m L

theorem count_known (cb tb bb m cc x : Nat) (mr : Nat → Nat) (T : Nat → Int → Option Nat) (f : Nat → Int) (v : Int) (w : World) (h : CR w cb tb bb m cc mr T) (hb : Blk w bb (rowA m fun x => .int .i64 (f x)) 3) (hx : x < m) (hv : f x = v) (hv0 : 0 ≤ v) :
    Calls Try.prog 32 #[.pointer (some ⟨cb, 0, none⟩), .int .i64 x] w fun e w' => e = .returned (.int .i64 v) ∧ w = w' := by
  have c1 : w.cell? ⟨cb, 1, none⟩ = some (.slice (some ⟨bb, 0, none⟩) m m) := h.cb.cell 1
  have c2 : w.cell? ⟨bb, x, none⟩ = some (.int .i64 v) := by rw [hb.row hx, hv]
  have hx' : (x : Int) < m := by omega
  have hne : (v == -1) = false := by simp only [beq_eq_false_iff_ne, ne_eq]; omega
  clear h hb hv hx
  go_enter Try.func32, Try.ntmps32
  go_wp2
  go_ret
  exact ⟨rfl, rfl⟩

set_option maxRecDepth 100000 in
set_option maxHeartbeats 4000000 in
theorem count_any (cb tb bb m cc : Nat) (mr : Nat → Nat) (T : Nat → Int → Option Nat) (L ρ : Nat → Nat) (hD : DAG m T L ρ) (hm : m ≤ 1000) :
    ∀ R x w, ρ x < R → x < m → CR w cb tb bb m cc mr T → BestR w bb m L → Calls Try.prog 32 #[.pointer (some ⟨cb, 0, none⟩), .int .i64 x] w (CountP w bb m x L) := by
  intro R
  induction R with
  | zero => intro x w hR; omega
  | succ R ih =>
    intro x w hR hx hC hB
    obtain ⟨f, hb, hf⟩ := hB
    rcases hf x hx with hv | hv
    · have c0 : w.cell? ⟨cb, 0, none⟩ = some (.slice (some ⟨tb, 0, none⟩) m m) := hC.cb.cell 0
      have c1 : w.cell? ⟨cb, 1, none⟩ = some (.slice (some ⟨bb, 0, none⟩) m m) := hC.cb.cell 1
      have c2 : w.cell? ⟨bb, x, none⟩ = some (.int .i64 (-1)) := by rw [hb.row hx, hv]
      have c3 : w.cell? ⟨tb, x, none⟩ = some (.map (some (mr x))) := hC.tb.row hx
      have hx' : (x : Int) < m := by omega
      obtain ⟨D, hown, hhas, hat⟩ := hC.mp x hx
      have hrb := (hC.mp x hx).ne hb
      have hbl := hb.lt
      have HC := Lib.hid hC
      have HHAS := Lib.hid hhas
      have HAT := Lib.hid hat
      have HB : Hid (BestR w bb m L) := ⟨f, hb, hf⟩
      have HBL := Lib.hid hb
      have IH := Lib.hid ih
      have HD := Lib.hid hD
      have HR := Lib.hid hR
      clear hC hhas hat ih hD hR hf hb hv
      obtain ⟨r, hr⟩ : ∃ r, mr x = r := ⟨_, rfl⟩
      rw [hr] at c3 hown hrb
      go_enter Try.func32, Try.ntmps32
      go_wp2_with (first
        | (at_range; refine wpList_range_own _ rfl _ 62 rfl 3 3 keyed3 Try.underlying62 _ r cc _ rfl hown ?_; intro w0 hrg0 hg0 hs0)
        | go_in)
      go_frame
      go_loopw [5, 6, 7] (fun qv _ _ wr => ∃ (left : Lit → Bool) (cnt q : Nat), qv = .int .i64 ((q : Nat) : Int) ∧ wr.ranges Try.prog 3 (plainElem (H := Unit) Try.prog 3) r w.heap.size cc D left cnt ∧ Hid (Fr (fun b => b = bb) w wr) ∧ Hid (BestR wr bb m L) ∧ q ≤ L x ∧ Hid (∀ (y v : Nat), T x (y : Int) = some v → left (.int .i64 (y : Int)) = false → v + L y ≤ q))
        (fun _ _ _ wr => wr.rangeLeft r w.heap.size)
      case atStart =>
        have hF0 : Fr (fun b => b = bb) w w0 := (Fr.of_grown hg0).mono fun i _ e => by simp at e
        refine ⟨_, _, 0, rfl, hrg0, hF0, HB.out.fr (Fr.of_grown hg0) (by simp), Nat.zero_le _, fun y v hT hl => ?_⟩
        rw [HHAS.out, hT] at hl
        cases hl
      case round =>
        clear hrg0 hg0 hs0 HB
        obtain ⟨left, cnt, q, rfl, hrg, hF, hB, hq, hlow⟩ := hrel
        have hq1 := HD.out.bd x hx
        go_wp2_with (first
          | (at_next; refine next_keys hrg _ rfl rfl rfl ?_ ?_)
          | go_in)
        · intro _ hl0
          have hqe : q = L x := by
            have h1 := HD.out.top x hx
            rcases h1 with h1 | ⟨y, v, h1, h2⟩
            · omega
            · have := hlow.out y v h1 (hl0 _); omega
          have hc1 : wr.cell? ⟨cb, 1, none⟩ = some (.slice (some ⟨bb, 0, none⟩) m m) := (HC.out.fr HBL.out hF.out).cb.cell 1
          obtain ⟨f2, hb2, hf2⟩ := hB.out
          have hc2 : wr.cell? ⟨bb, x, none⟩ = some (.int .i64 (f2 x)) := hb2.row hx
          have hc3 := hb2.free x
          have HS : Hid (BestR (wr.setCell ⟨bb, x, none⟩ (.int .i64 (q : Int))) bb m L) := hB.out.set hqe
          have HF : Hid (Fr (fun b => b = bb) w (wr.setCell ⟨bb, x, none⟩ (.int .i64 (q : Int)))) := hF.out.set (p := ⟨bb, x, none⟩) (fun _ => rfl) _
          have HQ := Lib.hid hqe
          clear hl0 hf2 hb2 hqe
          go_wp2
          go_ret
          exact ⟨congrArg (fun t : Nat => Ending.returned (.int .i64 (t : Int))) HQ.out, HF.out, HS.out⟩
        · intro k v w1 cnt1 hcm hlx hh hrg1 hlt hF1 hen
          have hs : (T x k).isSome = true := by rw [← HHAS.out]; exact hh
          obtain ⟨vv, hvv⟩ := Option.isSome_iff_exists.1 hs
          obtain ⟨y, rfl, hym, hρ, hle⟩ := HD.out.key x k vv hx hvv
          obtain ⟨z, hz1, hz2⟩ := hcm
          obtain ⟨a, rfl, rfl, _⟩ := plainElem_int_inv Try.underlying3 hz1
          have ha : a = (vv : Int) := by
            have h1 := hz2 (.lit (.int .i64 0))
            rw [HAT.out _ _ hvv] at h1
            simpa using h1.symm
          subst ha
          have hF2 : Hid (Fr (fun b => b = bb) w w1) := hF.out.trans hF1 (fun i hi e => by omega)
          have hC1 := Lib.hid (HC.out.fr HBL.out hF2.out)
          have hB1 : Hid (BestR w1 bb m L) := hB.out.fr hF1 (by omega)
          have hRy : ρ y < R := by have := HR.out; omega
          have hLy : ((vv : Nat) : Int) + (L y : Int) < 1000000 := by omega
          have HHV := Lib.hid hvv
          have HLE := Lib.hid hle
          have hsz1 := hF1.size
          clear hs hvv hz1 hz2 hh hle hρ
          go_wp2_with (first
            | (go_at_call 32; refine (IH.out y _ hRy hym hC1.out hB1.out).mono ?_; rintro e w2 ⟨rfl, hFc, hBc⟩)
            | go_in)
          go_roundw
          case rel =>
            have hk := hrg1.kept (row := some bb) ⟨hFc.os, hFc.tape, hFc.output, hFc.size, fun i hi hn => hFc.block i hi (fun e => hn (by rw [e]))⟩ (by simp; omega) (by simp; omega)
            refine ⟨_, cnt1, max q (vv + L y), ?_, hk, hF2.out.trans hFc (fun i _ e => e), hBc, ?_, fun y' v' hT hl => ?_⟩
            · simp; omega
            · have := HLE.out; omega
            · by_cases e : y' = y
              · subst e
                rw [HHV.out] at hT; cases hT; omega
              · have e' : (Lit.int .i64 (y' : Int)).sameKey (.int .i64 (y : Int)) = false := Maps.sameKey_ne (by simp; omega)
                have := hlow.out y' v' hT (by simpa [e'] using hl)
                omega
          case measure =>
            have hk := hrg1.kept (row := some bb) ⟨hFc.os, hFc.tape, hFc.output, hFc.size, fun i hi hn => hFc.block i hi (fun e => hn (by rw [e]))⟩ (by simp; omega) (by simp; omega)
            rw [hk.left_eq, hrg.left_eq]; exact hlt
    · refine (count_known cb tb bb m cc x mr T f (L x) w hC hb hx hv (by omega)).mono ?_
      rintro e w' ⟨rfl, rfl⟩
      exact ⟨rfl, Fr.refl _ _, f, hb, hf⟩
end Go.Proofs.Yteaemnkllpfbgaa
