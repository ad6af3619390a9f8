/- The law GraphKnots walked. -/
import Derived.Test.YteaemnkllpfbgaaB1
namespace Go.Proofs.Yteaemnkllpfbgaa
open Go.RowKit Go.Maps
open Cal (upd upd_same upd_ne St Inv upd_self)
set_option linter.unusedSimpArgs false
set_option linter.unusedVariables false

/-- What a law answers. -/
def LawP (w : World) (e : Ending) (w' : World) : Prop := e = .returned (.bool true) ∧ Below w.heap.size w w'

theorem Pairs.fr {M : Nat → Prop} {w w' : World} {v : Value} {l : List (Int × Int)} (h : Pairs w v l) (hf : Fr M w w') (hM : ∀ i, i < w.heap.size → ¬ M i) : Pairs w' v l := by
  obtain ⟨A, cap, e, hc⟩ := h.len
  refine ⟨A, cap, e, fun hne => ?_⟩
  obtain ⟨b, off, e1, hb, hcs⟩ := hc hne
  refine ⟨b, off, e1, Nat.lt_of_lt_of_le hb hf.size, fun i x y hxy => ?_⟩
  obtain ⟨h1, h2⟩ := hcs i x y hxy
  exact ⟨(World.cell?_of_block (hf.block b hb (hM b hb))).trans h1, (World.cell?_of_block (hf.block b hb (hM b hb))).trans h2⟩
theorem Pairs.below {w w' : World} {v : Value} {l : List (Int × Int)} (h : Pairs w v l) (hb : Below w.heap.size w w') : Pairs w' v l := h.fr (Fr.of_below hb) (fun _ _ e => e)

set_option maxRecDepth 100000 in
set_option maxHeartbeats 4000000 in
theorem law_knots_long (z a b : Nat) (hz : z ≤ 255) (v : Value) (l : List (Int × Int)) (w : World) (hp : Pairs w v l) (hl : 80 < l.length) :
    Calls Try.prog 5 #[.int .u8 z, v, .int .u8 a, .int .u8 b] w (LawP w) := by
  obtain ⟨A, cap, rfl, _⟩ := hp.len
  clear hp
  have hl' : (80 : Int) < l.length := by omega
  go_enter Try.func5, Try.ntmps5
  go_wp2_with (first
    | (go_at_call 8; refine (awake_any _).mono ?_; rintro e w1 ⟨rfl, hb1⟩))
  go_ret
  exact ⟨rfl, hb1⟩

/-- Knots, in the law's words. -/
theorem knots_num (g s n c : Nat) (ms : Nat → Option Nat) (S : Nat → Int → Bool) (w : World) (h : IsG w g s n ms c S) (hn0 : 0 < n) (hn : Small n) (hc : Small c) :
    Calls Try.prog 12 #[.pointer (some ⟨g, 0, none⟩)] w fun e w' => ∃ (ob : Nat) (num : Nat → Nat) (m : Nat), e = .returned (.tuple #[.slice (some ⟨ob, 0, none⟩) n n, .int .i64 (m : Int)]) ∧ Blk w' ob (rowA n (natC num)) 3 ∧
      Below w.heap.size w w' ∧ ∀ u v, u < n → v < n → (num u = num v ↔ Cal.Reach (sc n S) u v ∧ Cal.Reach (sc n S) v u) := by
  refine (knots_any g s n c ms S w h hn0 hn hc).mono ?_
  rintro e w1 ⟨ob, kn, rfl, hob, _, hb, hk⟩
  refine ⟨ob, _, _, rfl, hob, hb, fun u v hu hv => ?_⟩
  rw [← hk u v hu hv]
  exact ⟨fun e => idxOf_inj (mem_firsts.2 ⟨u, hu, rfl⟩) e, fun e => by rw [e]⟩
/-- Path, in the law's words. -/
theorem path_is (g s n src dst c : Nat) (ms : Nat → Option Nat) (S : Nat → Int → Bool) (w : World) (h : IsG w g s n ms c S) (hs : src < n) (ht : dst < n) (hn : Small n) (hc : Small c) (R : Bool) (hR : R = true ↔ Cal.Reach (sc n S) src dst) :
    Calls Try.prog 18 #[.pointer (some ⟨g, 0, none⟩), .int .i64 src, .int .i64 dst] w fun e w' => ∃ A ln cp, e = .returned (.tuple #[.slice A ln cp, .bool R]) ∧ Below w.heap.size w w' := by
  refine (path_any g s n src dst c ms S w h hs ht hn hc).mono ?_
  rintro e w1 ⟨hb, ⟨hno, rfl⟩ | ⟨v, p, rfl, hrow, _, _, hr, _⟩⟩
  · obtain rfl : R = false := by cases R with
      | false => rfl
      | true => exact absurd (hR.1 rfl) hno
    exact ⟨_, _, _, rfl, hb⟩
  · obtain rfl : R = true := hR.2 hr
    obtain ⟨A, cp, rfl⟩ := own_slice hrow
    exact ⟨_, _, _, rfl, hb⟩

theorem IsM.next {w w' : World} {mb n : Nat} {rows : Nat → Nat} {S : Nat → Int → Bool} (h : IsM w mb n rows S) (hb : Below w.heap.size w w') : IsM w' mb n rows S := h.fr (Fr.of_below hb) (fun e => e) (fun _ _ e => e)

/-- Is a thing alone in its knot, as far as i? -/
def aloneB (num : Nat → Nat) (x i : Nat) : Bool := (List.range i).all fun j => j == x || num j != num x
theorem aloneB_succ (num : Nat → Nat) (x i : Nat) : aloneB num x (i + 1) = (aloneB num x i && (i == x || num i != num x)) := by
  simp [aloneB, List.range_succ, List.all_append]

theorem aloneB_iff (num : Nat → Nat) (x n : Nat) : aloneB num x n = true ↔ ∀ j, j < n → j ≠ x → num j ≠ num x := by
  simp only [aloneB, List.all_eq_true, List.mem_range, Bool.or_eq_true, beq_iff_eq, bne_iff_ne]
  exact ⟨fun h j hj hne => (h j hj).resolve_left hne, fun h j hj => by
    by_cases e : j = x
    · exact .inl e
    · exact .inr (h j hj e)⟩
/-- On a ring just if it isn't alone, or leads to itself. -/
theorem ring_alone (n x : Nat) (S : Nat → Int → Bool) (num : Nat → Nat) (hx : x < n) (h : ∀ u v, u < n → v < n → (num u = num v ↔ Cal.Reach (sc n S) u v ∧ Cal.Reach (sc n S) v u)) (R : Bool)
    (hR : R = true ↔ ∃ y, y ∈ sc n S x ∧ Cal.Reach (sc n S) y x) : R = (!aloneB num x n || S x x) := by
  have key : (∃ y, y ∈ sc n S x ∧ Cal.Reach (sc n S) y x) ↔ (aloneB num x n = false ∨ S x x = true) := by
    constructor
    · rintro ⟨y, hy, hr⟩
      by_cases e : y = x
      · subst e; exact .inr (mem_sc.1 hy).2
      · left
        cases ha : aloneB num x n with
        | false => rfl
        | true =>
          have hyn := (mem_sc.1 hy).1
          exact absurd ((h y x hyn hx).2 ⟨hr, .one hy⟩) ((aloneB_iff num x n).1 ha y hyn e)
    · rintro (ha | hs)
      · have : ¬ ∀ j, j < n → j ≠ x → num j ≠ num x := fun hh => by
          rw [(aloneB_iff num x n).2 hh] at ha; cases ha
        have : ∃ j, j < n ∧ j ≠ x ∧ num j = num x := Classical.byContradiction fun hno => this fun j hj hne e => hno ⟨j, hj, hne, e⟩
        obtain ⟨j, hj, hne, e⟩ := this
        obtain ⟨h1, h2⟩ := (h j x hj hx).1 e
        cases h2 with
        | refl => exact absurd rfl hne
        | step hb t => exact ⟨_, hb, t.trans h1⟩
      · exact ⟨x, mem_sc.2 ⟨hx, hs⟩, .refl _⟩
  rw [key] at hR
  generalize aloneB num x n = al at hR
  generalize S x x = sx at hR
  cases R with
  | true =>
    rcases hR.1 rfl with h1 | h1
    · rw [h1]; rfl
    · rw [h1]; cases al <;> rfl
  | false =>
    cases al with
    | false => exact absurd (hR.2 (.inl rfl)) (by decide)
    | true =>
      cases sx with
      | false => rfl
      | true => exact absurd (hR.2 (.inr rfl)) (by decide)

set_option maxRecDepth 100000 in
set_option maxHeartbeats 4000000 in
theorem law_knots (z a b n x y : Nat) (hz : z ≤ 255) (ha : a ≤ 255) (hb : b ≤ 255) (v : Value) (l : List (Int × Int)) (w : World) (hp : Pairs w v l) (hl : l.length ≤ 80) (hzn : 1 + (z : Int) % 13 = n) (hn0 : 0 < n) (hn : n ≤ 13)
    (hax : (a : Int) % n = x) (hby : (b : Int) % n = y) (hx : x < n) (hy : y < n) (R1 R2 : Bool) (hR1 : R1 = true ↔ Cal.Reach (sc n (arrows n l)) x y) (hR2 : R2 = true ↔ Cal.Reach (sc n (arrows n l)) y x) :
    Calls Try.prog 5 #[.int .u8 z, v, .int .u8 a, .int .u8 b] w (LawP w) := by
  obtain ⟨A, cap, rfl, _⟩ := hp.len
  have HP := Lib.hid hp
  have HR1 := Lib.hid hR1
  have HR2 := Lib.hid hR2
  clear hp hR1 hR2
  have hl' : (80 < (l.length : Int)) = False := by simp; omega
  have hsn : Small n := Nat.le_trans hn (by decide)
  have hn0' : ((n : Int) == 0) = false := by simp only [beq_eq_false_iff_ne, ne_eq]; omega
  go_enter Try.func5, Try.ntmps5
  go_wp2_with (first
    | (go_at_call 8; refine (awake_any _).mono ?_; rintro e w1 ⟨rfl, hb1⟩)
    | (go_at_call 9; refine (build_any n _ l _ (HP.out.below hb1) (by omega) (by omega)).mono ?_; rintro e w2 ⟨g, s, mb, rows, rfl, hB⟩))
  go_region
  obtain ⟨w3, hw3⟩ : ∃ w3, w2.drew = w3 := ⟨_, rfl⟩
  rw [hw3]
  have hB3 := hB.drew
  rw [hw3] at hB3
  obtain ⟨c, ms, hcl, hG⟩ := hB3.G
  have hM := hB3.M
  have hsc : Small c := Nat.le_trans hcl (Nat.le_trans hl (by decide))
  clear hB hB3 hw3
  go_wp2_with (first
    | (go_at_call 12; refine (knots_num g s n c ms _ _ hG.G hn0 hsn hsc).mono ?_; rintro e w4 ⟨ob, num, m, rfl, hob, hb4, hnum⟩; have hG4 := hG.next hb4; have hM4 := hM.next hb4; clear hG hM)
    | (go_at_call 18; first
      | (refine (path_is g s n x y c ms _ _ hG4.G hx hy hsn hsc R1 HR1.out).mono ?_; rintro e w5 ⟨A1, l1, c1, rfl, hb5⟩; have hG5 := hG4.next hb5; have hM5 := hM4.next hb5; have hob5 := (Fr.of_below hb5).blk hob (fun e => e); clear hG4 hM4 hob)
      | (refine (path_is g s n y x c ms _ _ hG5.G hy hx hsn hsc R2 HR2.out).mono ?_; rintro e w6 ⟨A2, l2, c2, rfl, hb6⟩; have hG6 := hG5.next hb6; have hM6 := hM5.next hb6; have hob6 := (Fr.of_below hb6).blk hob5 (fun e => e); clear hG5 hM5 hob5)))
  have k1 : w6.cell? ⟨ob, x, none⟩ = some (.int .i64 ((num x : Nat) : Int)) := hob6.row hx
  have k2 : w6.cell? ⟨ob, y, none⟩ = some (.int .i64 ((num y : Nat) : Int)) := hob6.row hy
  have hx' : (x : Int) < n := by omega
  have hy' : (y : Int) < n := by omega
  have heq : (((num x : Nat) : Int) == ((num y : Nat) : Int)) = (R1 && R2) := by
    have h1 := hnum x y hx hy
    rw [← HR1.out, ← HR2.out] at h1
    by_cases e : num x = num y
    · have := h1.1 e
      simp [e, this.1, this.2]
    · have hne : ¬ (R1 = true ∧ R2 = true) := fun h => e (h1.2 h)
      have e' : ((num x : Nat) : Int) ≠ ((num y : Nat) : Int) := by omega
      rw [beq_eq_false_iff_ne.2 e']
      cases R1 <;> cases R2 <;> simp_all
  have hG6' := Lib.hid hG6
  have hM6' := Lib.hid hM6
  have hnum' := Lib.hid hnum
  have hob6' := Lib.hid hob6
  clear hG6 hM6 hnum hob6 hb4 hb5 hb6
  obtain ⟨nx, hnx⟩ : ∃ nx, num x = nx := ⟨_, rfl⟩
  obtain ⟨ny, hny⟩ : ∃ ny, num y = ny := ⟨_, rfl⟩
  rw [hnx, hny] at heq
  rw [hnx] at k1
  rw [hny] at k2
  have HNX := Lib.hid hnx
  clear hnx hny
  have hcs : R1 = false ∨ (R1 = true ∧ R2 = false) ∨ (R1 = true ∧ R2 = true) := by cases R1 <;> cases R2 <;> simp
  have HB1 := Lib.hid hb1
  clear hl' hb1 hzn hax hby
  rcases hcs with rfl | ⟨rfl, rfl⟩ | ⟨rfl, rfl⟩
  all_goals
    simp only [Bool.false_and, Bool.and_false, Bool.and_true, Bool.true_and] at heq
    go_region
    go_wp2
    go_loopw [21, 22] (fun av iv wr => ∃ i : Nat, i ≤ n ∧ iv = .int .i64 ((i : Nat) : Int) ∧ av = .bool (aloneB num x i) ∧ Fr (fun _ => False) w6 wr) (fun _ iv _ => n - (intOf iv).toNat)
    case atStart => exact ⟨0, Nat.zero_le _, rfl, rfl, (Fr.refl _ w6).drew⟩
    case round =>
      obtain ⟨i, hin, rfl, rfl, hF⟩ := hrel
      have hobr := hF.blk hob6'.out (fun e => e)
      have hMr := hM6'.out.fr hF (fun e => e) (fun _ _ e => e)
      have hGr := hG6'.out.fr hF (fun b e => e.elim) (fun e => e) (fun b e => e.elim)
      have HNX' := HNX.out
      by_cases hlt : i < n
      · have hlt' : (i : Int) < n := by omega
        have hs := aloneB_succ num x i
        obtain ⟨ni, hni⟩ : ∃ ni, num i = ni := ⟨_, rfl⟩
        obtain ⟨al, hal⟩ : ∃ al, aloneB num x i = al := ⟨_, rfl⟩
        rw [hal, hni, HNX'] at hs
        have k3 : wr.cell? ⟨ob, x, none⟩ = some (.int .i64 (nx : Int)) := by rw [← HNX']; exact hobr.row hx
        have k4 : wr.cell? ⟨ob, i, none⟩ = some (.int .i64 (ni : Int)) := by rw [← hni]; exact hobr.row hlt
        rw [hal]
        have HS := Lib.hid hs
        clear hs hni hal hobr hMr hGr HNX' k1 k2 heq
        cases al
        · go_wp2
          go_region
          go_wp2
          go_roundw
          case rel => exact ⟨i + 1, by omega, by go_num, by rw [HS.out]; rfl, hF.drew⟩
          case measure => simp [intOf]; omega
        · by_cases hix : i = x
          · subst hix
            go_wp2
            go_region
            go_wp2
            go_roundw
            case rel => exact ⟨i + 1, by omega, by go_num, by rw [HS.out]; simp, hF.drew⟩
            case measure => simp [intOf]; omega
          · have hix' : ((i : Int) == (x : Int)) = false := by simp only [beq_eq_false_iff_ne, ne_eq]; omega
            by_cases hnn : ni = nx
            · subst hnn
              go_wp2
              go_region
              go_wp2
              go_roundw
              case rel => exact ⟨i + 1, by omega, by go_num, by rw [HS.out]; simp [hix], hF.drew⟩
              case measure => simp [intOf]; omega
            · have hnn' : ((ni : Int) == (nx : Int)) = false := by simp only [beq_eq_false_iff_ne, ne_eq]; omega
              go_wp2
              go_region
              go_wp2
              go_roundw
              case rel => exact ⟨i + 1, by omega, by go_num, by rw [HS.out]; have e1 : (i == x) = false := beq_eq_false_iff_ne.2 hix; have e2 : (ni == nx) = false := beq_eq_false_iff_ne.2 hnn; simp only [bne, hnn', e1, e2]; rfl, hF.drew⟩
              case measure => simp [intOf]; omega
      · have hie : i = n := by omega
        obtain ⟨al, hal⟩ : ∃ al, aloneB num x i = al := ⟨_, rfl⟩
        have hrg := Lib.hid (ring_alone n x (arrows n l) num hx hnum'.out)
        rw [← hie, hal, hie] at hrg
        rw [hal]
        have hlt' : ¬ (i : Int) < n := by omega
        have HIE := Lib.hid hie
        have hbw := hG6'.out.bel.trans (hF.below _ (fun i e => e.elim) hG6'.out.bel.size)
        clear hal hie HNX' hobr k1 k2 heq
        cases al
        · go_wp2_with (go_at_call 15; refine (ring_any g s n x c ms _ _ hGr.G hx hsn hsc).mono ?_; rintro e w7 ⟨R, rfl, hR, hb7⟩; have hr := hrg.out R hR)
          go_ret
          exact ⟨rfl, HB1.out.trans ((hbw.trans (hb7.mono hbw.size)).mono HB1.out.size)⟩
        · go_wp2_with (go_at_call 15; refine (ring_any g s n x c ms _ _ hGr.G hx hsn hsc).mono ?_; rintro e w7 ⟨R, rfl, hR, hb7⟩; have hr := hrg.out R hR; have hM7 := hMr.next hb7; have t1 : w7.cell? ⟨mb, x, none⟩ = some (.slice (some ⟨rows x, 0, none⟩) n n) := hM7.top.row hx; have r1 : w7.cell? ⟨rows x, x, none⟩ = some (.bool (arrows n l x x)) := (hM7.row x hx).row hx)
          go_ret
          exact ⟨rfl, HB1.out.trans ((hbw.trans (hb7.mono hbw.size)).mono HB1.out.size)⟩
end Go.Proofs.Yteaemnkllpfbgaa
