/- build: a graph, and its table. -/
import Derived.Test.YteaemnkllpfbgaaH2
namespace Go.Proofs.Yteaemnkllpfbgaa
open Go.RowKit Go.Maps
open Cal (upd upd_same upd_ne St Inv upd_self)
set_option linter.unusedSimpArgs false
set_option linter.unusedVariables false

/-- A slice of pairs that came in. -/
structure Pairs (w : World) (v : Value) (l : List (Int × Int)) : Prop where
  len : ∃ A cap, v = .slice A l.length cap ∧ (l ≠ [] → ∃ b off, A = some ⟨b, off, none⟩ ∧ b < w.heap.size ∧ ∀ i x y, l[i]? = some (x, y) → w.cell? ⟨b, off + i * 2, none⟩ = some (.int .i64 x) ∧ w.cell? ⟨b, off + i * 2 + 1, none⟩ = some (.int .i64 y))

/-- The arrows of pairs: those whose ends are things. -/
def arrows (n : Nat) (l : List (Int × Int)) : Nat → Int → Bool := fun k j => l.any fun p => inRange p.1 n && inRange p.2 n && p.1 == (k : Int) && p.2 == j

theorem arrows_nil (n : Nat) : arrows n [] = fun _ _ => false := rfl
theorem arrows_snoc {n a b : Nat} (l : List (Int × Int)) (ha : a < n) (hb : b < n) : arrows n (l ++ [((a : Int), (b : Int))]) = addS (arrows n l) a b := by
  have h1 : inRange a n = true := inRange_true (by omega) (by omega)
  have h2 : inRange b n = true := inRange_true (by omega) (by omega)
  funext k j
  simp only [arrows, addS, List.any_append, List.any_cons, List.any_nil, h1, h2, Bool.or_false, Bool.true_and]
  by_cases e : k = a ∧ j = (b : Int)
  · obtain ⟨rfl, rfl⟩ := e; simp
  · rw [if_neg e]
    have : (((a : Int) == (k : Int)) && ((b : Int) == j)) = false := by
      simp only [Bool.and_eq_false_iff, beq_eq_false_iff_ne]
      by_cases e1 : k = a
      · right; intro e2; exact e ⟨e1, e2.symm⟩
      · left; omega
    rw [this]; simp
theorem arrows_out {n : Nat} {x y : Int} (l : List (Int × Int)) (h : (inRange x n && inRange y n) = false) : arrows n (l ++ [(x, y)]) = arrows n l := by
  funext k j
  simp only [arrows, List.any_append, List.any_cons, List.any_nil, Bool.or_false]
  rw [h]; simp

/-- The table: a row for each thing. -/
structure IsM (w : World) (mb n : Nat) (rows : Nat → Nat) (S : Nat → Int → Bool) : Prop where
  top : Blk w mb (rowA n fun k => .slice (some ⟨rows k, 0, none⟩) n n) 34
  row : ∀ k, k < n → Blk w (rows k) (rowA n (boolC fun j => S k (j : Int))) 4
  inj : ∀ k k', k < n → k' < n → rows k = rows k' → k = k'

theorem IsM.fr {M : Nat → Prop} {w w' : World} {mb n : Nat} {rows : Nat → Nat} {S : Nat → Int → Bool} (h : IsM w mb n rows S) (hf : Fr M w w') (h1 : ¬ M mb) (h2 : ∀ k, k < n → ¬ M (rows k)) : IsM w' mb n rows S :=
  ⟨hf.blk h.top h1, fun k hk => hf.blk (h.row k hk) (h2 k hk), h.inj⟩
theorem IsM.set {w : World} {mb n a b : Nat} {rows : Nat → Nat} {S : Nat → Int → Bool} (h : IsM w mb n rows S) (ha : a < n) (hb : b < n) : IsM (w.setCell ⟨rows a, b, none⟩ (.bool true)) mb n rows (addS S a b) := by
  have hs : Fr (fun i => i = rows a) w (w.setCell ⟨rows a, b, none⟩ (.bool true)) := (Fr.refl (fun i => i = rows a) w).set (p := ⟨rows a, b, none⟩) (fun _ => rfl) _
  refine ⟨hs.blk h.top (h.top.ne (h.row a ha) (by decide)), fun k hk => ?_, h.inj⟩
  by_cases e : k = a
  · subst e
    refine Eq.trans ((h.row k hk).setRow b (.bool true)).eq ?_
    congr 2
    refine rowA_congr fun i _ => ?_
    simp only [upd, boolC, addS]
    by_cases e : i = b
    · subst e; simp
    · have : ¬ ((i : Int) = (b : Int)) := by omega
      simp [e, this]
  · refine Eq.trans (hs.blk (h.row k hk) (fun e2 => e (h.inj k a hk ha e2))).eq ?_
    congr 2
    refine rowA_congr fun i _ => ?_
    simp [boolC, addS, e]

theorem info34 : (Try.prog.info? 34).map (fun i => (i.zero, i.size, i.bytes)) = some (some (.slice none 0 0), 1, 24) := by kernel_rfl
theorem size46 : (Try.prog.info? 46).map (fun i => (i.size)) = some 2 := by kernel_rfl

/-- What build keeps while it makes the rows. -/
structure B1 (w wr : World) (g s mb n : Nat) (i : Nat) (rows : Nat → Nat) : Prop where
  G : GW w wr g s n 0 (fun _ => none) (fun _ _ => false)
  top : Blk wr mb (rowA n fun k => if k < i then .slice (some ⟨rows k, 0, none⟩) n n else .slice none 0 0) 34
  row : ∀ k, k < i → Blk wr (rows k) (rowA n (boolC fun _ => false)) 4
  inj : ∀ k k', k < i → k' < i → rows k = rows k' → k = k'
  mge : w.heap.size ≤ mb
  rge : ∀ k, k < i → w.heap.size ≤ rows k

/-- What build keeps while it adds arrows. -/
structure B2 (w wr : World) (g s mb n : Nat) (rows : Nat → Nat) (S : Nat → Int → Bool) (i : Nat) : Prop where
  G : ∃ c ms, c ≤ i ∧ GW w wr g s n c ms S
  M : IsM wr mb n rows S
  mge : w.heap.size ≤ mb
  rge : ∀ k, k < n → w.heap.size ≤ rows k

/-- What build answers. -/
def BuildP (w : World) (n : Nat) (l : List (Int × Int)) (e : Ending) (w' : World) : Prop :=
  ∃ g s mb rows, e = .returned (.tuple #[.pointer (some ⟨g, 0, none⟩), .slice (some ⟨mb, 0, none⟩) n n, .bool true]) ∧ B2 w w' g s mb n rows (arrows n l) l.length

theorem B1.next {w wr : World} {g s mb n i : Nat} {rows : Nat → Nat} (h : B1 w wr g s mb n i rows) (hi : i < n) :
    B1 w ((wr.alloc (.cells (rowA n (boolC fun _ => false)) 4)).setCell ⟨mb, i, none⟩ (.slice (some ⟨wr.heap.size, 0, none⟩) n n)) g s mb n (i + 1) (upd rows i wr.heap.size) := by
  have hF : Fr (fun b => b = mb) wr ((wr.alloc (.cells (rowA n (boolC fun _ => false)) 4)).setCell ⟨mb, i, none⟩ (.slice (some ⟨wr.heap.size, 0, none⟩) n n)) := ((Fr.refl (fun b => b = mb) wr).alloc _).set (p := ⟨mb, i, none⟩) (fun _ => rfl) _
  have hlt := h.top.lt
  have hsz := h.G.bel.size
  have hrl : ∀ k, k < i → rows k < wr.heap.size := fun k hk => (h.row k hk).lt
  exact {
    G := h.G.fr hF (fun b e => by rw [e]; exact h.mge) (fun e => h.G.G.gb.ne h.top (by decide) e) (fun b e => by rw [e]; exact h.G.G.off h.top (by decide))
    top := by
      refine Eq.trans ((h.top.alloc (.cells (rowA n (boolC fun _ => false)) 4)).setRow i (.slice (some ⟨wr.heap.size, 0, none⟩) n n)).eq ?_
      congr 2
      refine rowA_congr fun k _ => ?_
      simp only [upd]
      by_cases e : k = i
      · subst e; simp
      · have : k < i + 1 ↔ k < i := by omega
        simp [e, this]
    row := fun k hk => by
      by_cases e : k = i
      · subst e
        rw [upd_same]
        exact (Blk.new wr (rowA n (boolC fun _ => false)) 4).setOther (by simp; omega) _
      · rw [upd_ne _ _ e]
        have hr := h.row k (by omega)
        exact hF.blk hr (hr.ne h.top (by decide))
    inj := fun k k' hk hk' e => by
      by_cases e1 : k = i
      · by_cases e2 : k' = i
        · omega
        · rw [e1, upd_same, upd_ne _ _ e2] at e
          have := hrl k' (by omega); omega
      · by_cases e2 : k' = i
        · rw [e2, upd_same, upd_ne _ _ e1] at e
          have := hrl k (by omega); omega
        · rw [upd_ne _ _ e1, upd_ne _ _ e2] at e
          exact h.inj k k' (by omega) (by omega) e
    mge := h.mge
    rge := fun k hk => by
      by_cases e : k = i
      · subst e; rw [upd_same]; exact hsz
      · rw [upd_ne _ _ e]; exact h.rge k (by omega) }

theorem B1.done {w wr : World} {g s mb n : Nat} {rows : Nat → Nat} (h : B1 w wr g s mb n n rows) : B2 w wr g s mb n rows (arrows n []) 0 where
  G := ⟨0, _, Nat.le_refl _, h.G⟩
  M := by
    refine ⟨?_, h.row, h.inj⟩
    refine Eq.trans h.top.eq ?_
    congr 2
    exact rowA_congr fun k hk => by simp [hk]
  mge := h.mge
  rge := h.rge

theorem B2.off {w wr : World} {g s mb n i : Nat} {rows : Nat → Nat} {S : Nat → Int → Bool} (h : B2 w wr g s mb n rows S i) {c : Nat} {ms : Nat → Option Nat} (hG : GW w wr g s n c ms S) : ¬ foot s n ms mb ∧ ∀ k, k < n → ¬ foot s n ms (rows k) :=
  ⟨hG.G.off h.M.top (by decide), fun k hk => hG.G.off (h.M.row k hk) (by decide)⟩

theorem B2.drew {w wr : World} {g s mb n i : Nat} {rows : Nat → Nat} {S : Nat → Int → Bool} (h : B2 w wr g s mb n rows S i) : B2 w wr.drew g s mb n rows S i := by
  obtain ⟨c, ms, hc, hG⟩ := h.G
  have hF : Fr (fun _ => False) wr wr.drew := (Fr.refl (fun _ => False) wr).drew
  exact ⟨⟨c, ms, hc, hG.fr hF (fun b e => e.elim) (fun e => e) (fun b e => e.elim)⟩, h.M.fr hF (fun e => e) (fun k _ e => e), h.mge, h.rge⟩
theorem B2.later {w wr : World} {g s mb n i i' : Nat} {rows : Nat → Nat} {S : Nat → Int → Bool} (h : B2 w wr g s mb n rows S i) (hi : i ≤ i') : B2 w wr g s mb n rows S i' := by
  obtain ⟨c, ms, hc, hG⟩ := h.G
  exact { h with G := ⟨c, ms, by omega, hG⟩ }

/-- Behind an arrow, and a store into the table. -/
theorem B2.add {w wr w2 : World} {g s mb n i a b c : Nat} {rows : Nat → Nat} {S : Nat → Int → Bool} {ms ms' : Nat → Option Nat} (h : B2 w wr g s mb n rows S i) (hG : GW w wr g s n c ms S) (hc : c ≤ i) (ha : a < n) (hb : b < n)
    (hG2 : GW w w2 g s n (c + 1) ms' (addS S a b)) (hF : Fr (foot s n ms) wr w2) : B2 w (w2.setCell ⟨rows a, b, none⟩ (.bool true)) g s mb n rows (addS S a b) (i + 1) := by
  obtain ⟨o1, o2⟩ := h.off hG
  have hM2 := h.M.fr hF o1 o2
  have hra := hM2.row a ha
  exact {
    G := ⟨c + 1, ms', by omega, hG2.fr ((Fr.refl (fun i => i = rows a) w2).set (p := ⟨rows a, b, none⟩) (fun _ => rfl) _) (fun i e => by rw [e]; exact h.rge a ha) (fun e => hG2.G.gb.ne hra (by decide) e) (fun i e => by rw [e]; exact hG2.G.off hra (by decide))⟩
    M := hM2.set ha hb
    mge := h.mge
    rge := h.rge }

set_option maxRecDepth 100000 in
set_option maxHeartbeats 4000000 in
theorem build_any (n : Nat) (v : Value) (l : List (Int × Int)) (w : World) (hp : Pairs w v l) (hn : n ≤ 100) (hl : l.length ≤ 1000) :
    Calls Try.prog 9 #[.int .i64 n, v] w (BuildP w n l) := by
  obtain ⟨A, cap, rfl, hcells⟩ := hp.len
  clear hp
  have HC := Lib.hid hcells
  clear hcells
  have hmkT : ∀ W : World, (Instr.makeSlice 25 (.int .i64 (n : Int)) (.int .i64 (n : Int))).run Try.prog W = .ok (.slice (some ⟨W.heap.size, 0, none⟩) n n) (W.alloc (.cells (rowA n (fun _ => .slice none 0 0)) 34)) := by
    intro W
    have := run_make_row' 25 34 (.slice none 0 0) 24 Try.underlying25 info34 rfl .i64 .i64 n (by omega) (by omega) W
    rw [madeCells_row] at this
    exact this
  have hmk4 : ∀ W : World, (Instr.makeSlice 34 (.int .i64 (n : Int)) (.int .i64 (n : Int))).run Try.prog W = .ok (.slice (some ⟨W.heap.size, 0, none⟩) n n) (W.alloc (.cells (rowA n (boolC fun _ => false)) 4)) := by
    intro W
    have := run_make_row' 34 4 (.bool false) 1 Try.underlying34 info4' rfl .i64 .i64 n (by omega) (by omega) W
    rw [madeCells_row] at this
    exact this
  go_enter Try.func9, Try.ntmps9
  go_wp2_with (first
    | (go_at_call 22; refine (newW n w _ (by omega) (Below.refl _ w)).mono ?_; rintro e w1 ⟨g, s, rfl, hG0, hb0, hg0, hs0⟩)
    | go_in)
  obtain ⟨w2, hw2⟩ : ∃ w2, w1.alloc (.cells (rowA n (fun _ => .slice none 0 0)) 34) = w2 := ⟨_, rfl⟩
  obtain ⟨mb, hmb⟩ : ∃ mb, w1.heap.size = mb := ⟨_, rfl⟩
  have hB : Hid (B1 w w2 g s mb n 0 (fun _ => 0)) := by
    subst hw2; subst hmb
    exact {
      G := hG0.fr ((Fr.refl (fun _ => False) w1).alloc _) (fun b e => e.elim) (fun e => e) (fun b e => e.elim)
      top := Blk.new w1 _ 34
      row := fun k hk => by omega
      inj := fun k k' hk => by omega
      mge := hb0.size
      rge := fun k hk => by omega }
  rw [hw2, hmb]
  clear hw2 hmb hG0 hb0 hg0 hs0
  go_loopw [10] (fun iv wr => ∃ i : Nat, ∃ rows : Nat → Nat, i ≤ n ∧ iv = .int .i64 ((i : Nat) : Int) ∧ Hid (B1 w wr g s mb n i rows)) (fun iv _ => n - (intOf iv).toNat)
  case atStart => exact ⟨0, _, Nat.zero_le _, rfl, hB⟩
  case round =>
    clear hB
    obtain ⟨i, rows, hin, rfl, hR⟩ := hrel
    by_cases hlt : i < n
    · have hlt' : (i : Int) < n := by omega
      have ho := (hR.out.top.alloc (.cells (rowA n (boolC fun _ => false)) 4)).row hlt
      have hof := (hR.out.top.alloc (.cells (rowA n (boolC fun _ => false)) 4)).free i
      go_wp2
      go_roundw
      case rel =>
        exact ⟨i + 1, upd rows i wr.heap.size, by omega, by go_num, hR.out.next hlt⟩
      case measure => simp [intOf]; omega
    · obtain rfl : i = n := by omega
      have hB2 := Lib.hid hR.out.done
      clear hR
      go_wp2
      go_loopw [11] (fun iv wr2 => ∃ j : Nat, j ≤ l.length ∧ iv = .int .i64 ((j : Nat) : Int) ∧ Hid (B2 w wr2 g s mb i rows (arrows i (l.take j)) j)) (fun iv _ => l.length - (intOf iv).toNat)
      case atStart => exact ⟨0, Nat.zero_le _, rfl, by simpa using hB2⟩
      case round =>
        clear hB2
        obtain ⟨j, hj, rfl, hR⟩ := hrel
        by_cases hlt : j < l.length
        · have hlt' : (j : Int) < l.length := by omega
          obtain ⟨x, y, hxy⟩ : ∃ x y, l[j]? = some (x, y) := ⟨l[j].1, l[j].2, List.getElem?_eq_getElem hlt⟩
          have htk : l.take (j + 1) = l.take j ++ [(x, y)] := by rw [List.take_add_one, hxy]; rfl
          obtain ⟨b, off, rfl, hbw, hcs⟩ := HC.out (by intro e; rw [e] at hlt; simp at hlt)
          obtain ⟨c0', c1'⟩ := hcs j x y hxy
          obtain ⟨c, ms, hcj, hG⟩ := hR.out.G
          have hsame : ∀ o, wr.cell? ⟨b, o, none⟩ = w.cell? ⟨b, o, none⟩ := fun o => World.cell?_of_block (hG.bel.block b hbw)
          have c0 : wr.cell? ⟨b, off + j * 2, none⟩ = some (.int .i64 x) := (hsame _).trans c0'
          have c1 : wr.cell? ⟨b, off + j * 2 + 1, none⟩ = some (.int .i64 y) := (hsame _).trans c1'
          have HB := Lib.hid hbw
          clear hcs c0' c1' hsame hbw
          go_wp2
          go_region
          have hR2 := Lib.hid hR.out.drew
          have hG2 : GW w wr.drew g s i c ms (arrows i (l.take j)) := hG.fr ((Fr.refl (fun _ => False) wr).drew) (fun b e => e.elim) (fun e => e) (fun b e => e.elim)
          have hcell2 := hG2.G.cell
          have hbad : (inRange x i && inRange y i) = false → Hid (B2 w wr.drew g s mb i rows (arrows i (l.take (j + 1))) (j + 1)) := fun h => by
            rw [htk, arrows_out _ h]
            exact hR2.out.later (by omega)
          clear hR hG c0 c1
          by_cases hx0 : x < 0
          · have hb : (inRange x i && inRange y i) = false := by rw [inRange_neg hx0]; rfl
            have hB := hbad hb
            clear hbad
            go_wp2_with (go_at_call 23; refine (arrow_bad g s i x y _ hcell2 hb).mono ?_; rintro e w3 ⟨rfl, rfl⟩)
            go_roundw
            case rel => exact ⟨j + 1, by omega, by go_num, hB⟩
            case measure => simp [intOf]; omega
          · by_cases hxn : (i : Int) ≤ x
            · have hb : (inRange x i && inRange y i) = false := by rw [inRange_big hxn]; rfl
              have hB := hbad hb
              clear hbad
              go_wp2_with (go_at_call 23; refine (arrow_bad g s i x y _ hcell2 hb).mono ?_; rintro e w3 ⟨rfl, rfl⟩)
              go_roundw
              case rel => exact ⟨j + 1, by omega, by go_num, hB⟩
              case measure => simp [intOf]; omega
            · by_cases hy0 : y < 0
              · have hb : (inRange x i && inRange y i) = false := by rw [inRange_neg hy0, Bool.and_false]
                have hB := hbad hb
                clear hbad
                go_wp2_with (go_at_call 23; refine (arrow_bad g s i x y _ hcell2 hb).mono ?_; rintro e w3 ⟨rfl, rfl⟩)
                go_roundw
                case rel => exact ⟨j + 1, by omega, by go_num, hB⟩
                case measure => simp [intOf]; omega
              · by_cases hyn : (i : Int) ≤ y
                · have hb : (inRange x i && inRange y i) = false := by rw [inRange_big hyn, Bool.and_false]
                  have hB := hbad hb
                  clear hbad
                  go_wp2_with (go_at_call 23; refine (arrow_bad g s i x y _ hcell2 hb).mono ?_; rintro e w3 ⟨rfl, rfl⟩)
                  go_roundw
                  case rel => exact ⟨j + 1, by omega, by go_num, hB⟩
                  case measure => simp [intOf]; omega
                · clear hbad
                  obtain ⟨p, rfl⟩ : ∃ p : Nat, x = (p : Int) := ⟨x.toNat, by omega⟩
                  obtain ⟨q, rfl⟩ : ∃ q : Nat, y = (q : Int) := ⟨y.toNat, by omega⟩
                  have hpn : p < i := by omega
                  have hqn : q < i := by omega
                  have hpn' : (p : Int) < i := by omega
                  have hqn' : (q : Int) < i := by omega
                  have hp0 : (0 : Int) ≤ p := by omega
                  have hq0 : (0 : Int) ≤ q := by omega
                  have htk' : arrows i (l.take (j + 1)) = addS (arrows i (l.take j)) p q := by rw [htk, arrows_snoc _ hpn hqn]
                  clear hx0 hxn hy0 hyn
                  go_wp2_with (go_at_call 23; refine (arrowW w _ g s i p q c ms _ hG2 hpn hqn (Nat.le_trans hn (by decide)) (Nat.le_trans (Nat.le_trans hcj hj) (Nat.le_trans hl (by decide)))).mono ?_; rintro e w3 ⟨rfl, ms', hG3, hF3⟩; have hM3 := hR2.out.M.fr hF3 (hR2.out.off hG2).1 (hR2.out.off hG2).2; have t1 := hM3.top.row hpn; have r1 := (hM3.row p hpn).row hqn; have r2 := (hM3.row p hpn).free q; have HB3 := Lib.hid (hR2.out.add hG2 hcj hpn hqn hG3 hF3); clear hG3 hF3 hM3)
                  go_roundw
                  case rel => exact ⟨j + 1, by omega, by go_num, by rw [htk']; exact HB3⟩
                  case measure => simp [intOf]; omega
        · obtain rfl : j = l.length := by omega
          go_wp2
          go_ret3
          exact ⟨g, s, mb, rows, rfl, by simpa using hR.out⟩
end Go.Proofs.Yteaemnkllpfbgaa
