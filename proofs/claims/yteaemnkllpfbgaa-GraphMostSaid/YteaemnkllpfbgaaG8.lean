/- Reach and Path. -/
import Derived.Test.YteaemnkllpfbgaaG7
import Derived.Sort.OwnSortedInts
namespace Go.Proofs.Yteaemnkllpfbgaa
open Go.RowKit
open Cal (upd upd_same upd_ne BInv BDone)
set_option linter.unusedSimpArgs false
set_option linter.unusedVariables false

theorem info4' : (Try.prog.info? 4).map (fun i => (i.zero, i.size, i.bytes)) = some (some (.bool false), 1, 1) := by kernel_rfl
def boolC (f : Nat → Bool) : Nat → Value := fun k => .bool (f k)

theorem reach_out (g s n : Nat) (k : Int) (w : World) (hg : w.cell? ⟨g, 0, none⟩ = some (.slice (some ⟨s, 0, none⟩) n n)) (h1 : inRange k n = false) :
    Calls Try.prog 14 #[.pointer (some ⟨g, 0, none⟩), .int .i64 k] w fun e w' => e = .returned (.slice none 0 0) ∧ w = w' := by
  go_enter Try.func14, Try.ntmps14
  go_wp2_with (go_at_call 26; refine (has_any _ _ _ _ _ hg).mono ?_; rintro e w' ⟨rfl, rfl⟩; simp only [h1])
  go_ret
  exact ⟨rfl, rfl⟩
theorem reach_none (k : Int) (w : World) :
    Calls Try.prog 14 #[.pointer none, .int .i64 k] w fun e w' => e = .returned (.slice none 0 0) ∧ w = w' := by
  go_enter Try.func14, Try.ntmps14
  go_wp2_with (go_at_call 26; refine (has_nil _ _).mono ?_; rintro e w' ⟨rfl, rfl⟩)
  go_ret
  exact ⟨rfl, rfl⟩

set_option maxRecDepth 100000 in
theorem reach_any (g s n src c : Nat) (ms : Nat → Option Nat) (S : Nat → Int → Bool) (w : World) (h : IsG w g s n ms c S) (hs : src < n) (hn : Small n) (hc : Small c) :
    Calls Try.prog 14 #[.pointer (some ⟨g, 0, none⟩), .int .i64 src] w fun e w' => ∃ rb R, e = .returned (.slice (some ⟨rb, 0, none⟩) n n) ∧
      Blk w' rb (rowA n (boolC R)) 4 ∧ (∀ x, x < n → (R x = true ↔ Cal.Reach (sc n S) src x)) ∧ w.heap.size ≤ rb ∧ Below w.heap.size w w' := by
  have hcell := h.cell
  have h1 : inRange src n = true := inRange_true (by omega) (by omega)
  have hmk : ∀ W : World, (Instr.makeSlice 34 (.int .i64 (n : Int)) (.int .i64 (n : Int))).run Try.prog W = .ok (.slice (some ⟨W.heap.size, 0, none⟩) n n) (W.alloc (.cells (rowA n (boolC fun _ => false)) 4)) := by
    intro W
    have := run_make_row' 34 4 (.bool false) 1 Try.underlying34 info4' rfl .i64 .i64 n (by have := hn.out; omega) (by have := hn.out; omega) W
    rw [madeCells_row] at this
    exact this
  have hF0 : Fr (fun _ => False) w (w.alloc (.cells (rowA n (boolC fun _ => false)) 4)) := (Fr.refl _ w).alloc _
  have hG1 : IsG (w.alloc (.cells (rowA n (boolC fun _ => false)) 4)) g s n ms c S := h.fr hF0 (by simp) (by simp)
  have hB1 := Blk.new w (rowA n (boolC fun _ => false)) 4
  go_enter Try.func14, Try.ntmps14
  go_wp2_with (first
    | (go_at_call 26; refine (has_any _ _ _ _ _ hcell).mono ?_; rintro e w' ⟨rfl, rfl⟩; simp only [h1])
    | (go_at_call 10; refine (len_any g s n _ hcell).mono ?_; rintro e w' ⟨rfl, rfl⟩)
    | (go_at_call 29; refine (spread_any g s n src c ms S _ hG1 hs hn hc).mono ?_; rintro e w1 ⟨fb, v, fr, l, dep, rfl, hfb, hge, hrow, hne, hD, hbel⟩; obtain ⟨A, cA, rfl⟩ := own_slice hrow))
  have hB2 : Blk w1 w.heap.size (rowA n (boolC fun _ => false)) 4 := (Fr.of_below hbel).blk hB1 (by simp)
  have hbel2 : Below w.heap.size w w1 := ((Below.refl _ w).alloc (Nat.le_refl _) _).trans (hbel.mono (by simp))
  have hrow2 : w1.ownsRow (w.heap.size + 1) 3 1 (.slice A l.length cA) l.length (cellsN l) := by rw [World.size_alloc] at hrow; exact hrow
  have hll : Hid (l.length ≤ 1000000000000) := Nat.le_trans hD.len hn.out
  clear hbel hrow hge hne hfb hB1 hG1 hF0
  go_loopw [25] (fun i wr => ∃ ii : Nat, ii ≤ l.length ∧ i = .int .i64 ii ∧ Hid (Blk wr w.heap.size (rowA n (boolC fun x => decide (x ∈ l.take ii))) 4) ∧ Below w.heap.size w wr ∧ wr.ownsRow (w.heap.size + 1) 3 1 (.slice A l.length cA) l.length (cellsN l)) (fun i _ => l.length - (intOf i).toNat)
  case atStart =>
    refine ⟨0, Nat.zero_le _, rfl, ?_, hbel2, hrow2⟩
    refine Eq.trans hB2.eq ?_
    simp
  case round =>
    obtain ⟨ii, hii, rfl, hB, hb, hr⟩ := hrel
    have hib : (ii : Int) < 9223372036854775807 := by have := hll.out; omega
    by_cases hlt : ii < l.length
    · obtain ⟨x, hx⟩ : ∃ x, l[ii]? = some x := ⟨_, List.getElem?_eq_getElem hlt⟩
      have hxn : x < n := hD.lt x (List.mem_of_getElem? hx)
      have hxn' : (x : Int) < n := by omega
      have hlt' : (ii : Int) < l.length := by omega
      obtain ⟨vb, hvA, hvb, hxc⟩ : ∃ vb, A = some ⟨vb, 0, none⟩ ∧ w.heap.size + 1 ≤ vb ∧ wr.cell? ⟨vb, ii, none⟩ = some (.int .i64 (x : Int)) := by
        rcases own_cases hr with ⟨_, h0, _⟩ | ⟨g', cap, e, h1, _, _, _, h3, _⟩
        · omega
        · simp only [Value.slice.injEq] at e
          exact ⟨g', e.1, h1, h3 ii _ (cellsN_get hx)⟩
      subst hvA
      have hBo : Blk wr w.heap.size (rowA n (boolC fun x => decide (x ∈ l.take ii))) 4 := hB.out
      have hxcell := hBo.row hxn
      have hxfree := hBo.free x
      have HB2 : Hid (Blk (wr.setCell ⟨w.heap.size, x, none⟩ (.bool true)) w.heap.size (rowA n (boolC fun y => decide (y ∈ l.take (ii + 1)))) 4) := by
        refine Eq.trans (hBo.setRow x (.bool true)).eq ?_
        congr 2
        refine rowA_congr fun k _ => ?_
        rw [List.take_add_one, hx]
        simp only [upd, boolC, Option.toList_some, List.mem_append, List.mem_singleton]
        by_cases e : k = x <;> simp [e]
      clear hBo
      go_wp2
      go_roundw
      case rel => exact ⟨ii + 1, by omega, by go_num, HB2, hb.setCell (p := ⟨w.heap.size, x, none⟩) (Nat.le_refl _) _, own_fr hr ((Fr.refl (fun b => b = w.heap.size) wr).set (fun _ => rfl) _) (fun b hb e => by simp [Value.ownBlock] at hb; omega)⟩
      case measure => simp [intOf]; omega
    · obtain rfl : ii = l.length := by omega
      go_wp2
      go_ret
      refine ⟨_, _, rfl, hB.out, fun x _ => ?_, Nat.le_refl _, hb⟩
      rw [List.take_length]
      simp only [decide_eq_true_eq]
      exact hD.reach x

/-- A way from a to b, both ends among it. -/
structure IsPath (sc : Nat → List Nat) (a b : Nat) (p : List Nat) : Prop where
  head : p[0]? = some a
  last : p[p.length - 1]? = some b
  chain : ∀ i x y, p[i]? = some x → p[i + 1]? = some y → y ∈ sc x
  pos : 0 < p.length

/-- The way back, while it is gone. -/
structure Back (sc : Nat → List Nat) (n src dst : Nat) (fr : Nat → Int) (l : List Nat) (dep : Nat → Nat) (q : List Nat) (t : Nat) : Prop where
  head : q[0]? = some dst
  last : q[q.length - 1]? = some t
  pos : 0 < q.length
  chain : ∀ i x y, q[i]? = some x → q[i + 1]? = some y → x ∈ sc y
  mem : t ∈ l
  len : q.length + dep t = dep dst + 1
  lt : ∀ x, x ∈ q → x < n
  nodup : q.Nodup
  deps : ∀ x, x ∈ q → dep t ≤ dep x

theorem Back.start {sc : Nat → List Nat} {n src dst : Nat} {fr : Nat → Int} {l : List Nat} {dep : Nat → Nat} (ht : dst ∈ l) (hn : dst < n) : Back sc n src dst fr l dep [dst] dst where
  head := rfl
  last := rfl
  pos := by simp
  chain := by intro i x y _ hy; simp at hy
  mem := ht
  len := by simp; omega
  lt := by intro x hx; simp at hx; omega
  nodup := by simp
  deps := by intro x hx; simp at hx; rw [hx]; exact Nat.le_refl _
theorem Back.next {sc : Nat → List Nat} {n src dst : Nat} {fr : Nat → Int} {l : List Nat} {dep : Nat → Nat} {q : List Nat} {t p : Nat} (h : Back sc n src dst fr l dep q t) (hp : p ∈ l) (hpn : p < n) (ht : t ∈ sc p) (hd : dep t = dep p + 1) :
    Back sc n src dst fr l dep (q ++ [p]) p where
  head := by rw [List.getElem?_append_left h.pos]; exact h.head
  last := by simp
  pos := by simp
  chain := by
    intro i x y hx hy
    by_cases h1 : i + 1 < q.length
    · rw [List.getElem?_append_left h1] at hy
      rw [List.getElem?_append_left (by omega)] at hx
      exact h.chain i x y hx hy
    · have h2 := (List.getElem?_eq_some_iff.1 hy).1
      simp at h2
      have h3 := h.pos
      have e : i = q.length - 1 := by omega
      subst e
      rw [List.getElem?_append_left (by omega), h.last] at hx
      rw [show q.length - 1 + 1 = q.length by omega] at hy
      simp at hx hy
      subst hx; subst hy
      exact ht
  mem := hp
  len := by have := h.len; simp; omega
  lt := by
    intro x hx
    rcases List.mem_append.1 hx with hx | hx
    · exact h.lt x hx
    · simp at hx; omega
  nodup := List.nodup_append.2 ⟨h.nodup, by simp, fun a ha b hb e => by
    simp at hb
    have := h.deps a ha
    rw [e, hb] at this; omega⟩
  deps := by
    intro x hx
    rcases List.mem_append.1 hx with hx | hx
    · have := h.deps x hx; omega
    · simp at hx; rw [hx]; exact Nat.le_refl _
theorem Back.path {sc : Nat → List Nat} {n src dst : Nat} {fr : Nat → Int} {l : List Nat} {dep : Nat → Nat} {q : List Nat} (h : Back sc n src dst fr l dep q src) : IsPath sc src dst q.reverse where
  head := by rw [List.getElem?_reverse h.pos]; exact h.last
  last := by
    have := h.pos
    rw [List.length_reverse, List.getElem?_reverse (by omega), show q.length - 1 - (q.length - 1) = 0 by omega]; exact h.head
  chain := by
    intro i x y hx hy
    have h1 := (List.getElem?_eq_some_iff.1 hy).1
    rw [List.length_reverse] at h1
    rw [List.getElem?_reverse (by omega)] at hx hy
    exact h.chain (q.length - 1 - (i + 1)) y x hy (by rw [show q.length - 1 - (i + 1) + 1 = q.length - 1 - i by omega]; exact hx)
  pos := by rw [List.length_reverse]; exact h.pos

theorem path_out (g s n : Nat) (a b : Int) (w : World) (hg : w.cell? ⟨g, 0, none⟩ = some (.slice (some ⟨s, 0, none⟩) n n)) (h : (inRange a n && inRange b n) = false) :
    Calls Try.prog 18 #[.pointer (some ⟨g, 0, none⟩), .int .i64 a, .int .i64 b] w fun e w' => e = .returned (.tuple #[.slice none 0 0, .bool false]) ∧ w = w' := by
  cases h1 : inRange a n
  · go_enter Try.func18, Try.ntmps18
    go_wp2_with (go_at_call 26; refine (has_any _ _ _ _ _ hg).mono ?_; rintro e w' ⟨rfl, rfl⟩; simp only [h1])
    go_ret2
    exact ⟨rfl, rfl⟩
  · have h2 : inRange b n = false := by simpa [h1] using h
    clear h
    go_enter Try.func18, Try.ntmps18
    go_wp2_with (go_at_call 26; refine (has_any _ _ _ _ _ hg).mono ?_; rintro e w' ⟨rfl, rfl⟩; first | simp only [h1] | simp only [h2])
    go_ret2
    exact ⟨rfl, rfl⟩
theorem path_nil (a b : Int) (w : World) :
    Calls Try.prog 18 #[.pointer none, .int .i64 a, .int .i64 b] w fun e w' => e = .returned (.tuple #[.slice none 0 0, .bool false]) ∧ w = w' := by
  go_enter Try.func18, Try.ntmps18
  go_wp2_with (go_at_call 26; refine (has_nil _ _).mono ?_; rintro e w' ⟨rfl, rfl⟩)
  go_ret2
  exact ⟨rfl, rfl⟩

set_option maxRecDepth 100000 in
theorem path_any (g s n src dst c : Nat) (ms : Nat → Option Nat) (S : Nat → Int → Bool) (w : World) (h : IsG w g s n ms c S) (hs : src < n) (ht : dst < n) (hn : Small n) (hc : Small c) :
    Calls Try.prog 18 #[.pointer (some ⟨g, 0, none⟩), .int .i64 src, .int .i64 dst] w fun e w' => Below w.heap.size w w' ∧
      ((¬ Cal.Reach (sc n S) src dst ∧ e = .returned (.tuple #[.slice none 0 0, .bool false])) ∨
       ∃ v p, e = .returned (.tuple #[v, .bool true]) ∧ w'.ownsRow w.heap.size 3 1 v p.length (cellsN p) ∧ IsPath (sc n S) src dst p ∧ (∀ x, x ∈ p → x < n) ∧ Cal.Reach (sc n S) src dst ∧ ∀ d, Cal.Steps (sc n S) src dst d → p.length ≤ d + 1) := by
  have hcell := h.cell
  have h1 : inRange src n = true := inRange_true (by omega) (by omega)
  have h2 : inRange dst n = true := inRange_true (by omega) (by omega)
  have ht' : (dst : Int) < n := by omega
  go_enter Try.func18, Try.ntmps18
  go_wp2_with (first
    | (go_at_call 26; refine (has_any _ _ _ _ _ hcell).mono ?_; rintro e w' ⟨rfl, rfl⟩; first | simp only [h1] | simp only [h2])
    | (go_at_call 29; refine (spread_any g s n src c ms S _ h hs hn hc).mono ?_; rintro e w1 ⟨fb, v, fr, l, dep, rfl, hfb, hge, hrow, hne, hD, hbel⟩; have hfc := hfb.row ht; simp only [intC] at hfc))
  · have hx : (fr dst == -1) = true := by assumption
    have hnot : dst ∉ l := (hD.met dst ht).1 (by simpa using hx)
    go_ret2
    exact ⟨hbel, .inl ⟨fun hr => hnot ((hD.reach dst).2 hr), rfl⟩⟩
  · have hx : (fr dst == -1) = false := by assumption
    have hin : dst ∈ l := by
      by_cases hm : dst ∈ l
      · exact hm
      · have := (hD.met dst ht).2 hm
        rw [this] at hx; simp at hx
    have hreach := (hD.reach dst).1 hin
    have hlit : (w1.alloc (.cells #[.int .i64 (dst : Int)] 3)).ownsRow w.heap.size 3 1 (.slice (some ⟨w1.heap.size, 0, none⟩) 1 1) [dst].length (cellsN [dst]) :=
      own_of_lit w1 w.heap.size 3 [.int .i64 (dst : Int)] hbel.size (by unfold maxLen; simp)
    have hne0 : (Value.slice (some ⟨w1.heap.size, 0, none⟩) 1 1).ownBlock ≠ some fb := by simp [Value.ownBlock]; have := hfb.lt; omega
    have hbel2 : Below w.heap.size w (w1.alloc (.cells #[.int .i64 (dst : Int)] 3)) := hbel.alloc hbel.size _
    have hfb2 := hfb.alloc (.cells #[.int .i64 (dst : Int)] 3)
    simp only [hx]
    clear hfc hrow hne hbel hfb
    go_loopw [2, 10] (fun tv qv wr => ∃ t q, tv = .int .i64 ((t : Nat) : Int) ∧ Blk wr fb (rowA n (intC fr)) 3 ∧ wr.ownsRow w.heap.size 3 1 qv q.length (cellsN q) ∧ qv.ownBlock ≠ some fb ∧ Back (sc n S) n src dst fr l dep q t ∧ Below w.heap.size w wr) (fun tv _ _ => dep (intOf tv).toNat)
    case atStart => exact ⟨dst, [dst], rfl, hfb2, hlit, hne0, Back.start hin ht, hbel2⟩
    case round =>
      obtain ⟨t, q, rfl, hfr, hrow, hne, hQ, hb⟩ := hrel
      by_cases he : t = src
      · subst he
        obtain ⟨vb, cap, cur, rfl, hbase, hblk, h4, h5, h6, h7⟩ : ∃ vb cap cur, u10 = .slice (some ⟨vb, 0, none⟩) q.length cap ∧ w.heap.size ≤ vb ∧ wr.heap[vb]? = some (.cells cur 3 (0, 0)) ∧ q.length ≤ cap ∧ cap ≤ maxLen ∧ cur.size = cap * 1 ∧ cur.toList.take (q.length * 1) = cellsN q := by
          rcases hrow.2 with ⟨_, h0⟩ | ⟨g, cap, cur, e, r⟩
          · have := hQ.pos; omega
          · exact ⟨g, cap, cur, e, r⟩
        have hql : (q.map fun (x : Nat) => (x : Int)).length = q.length := by simp
        have hH := holds_of_blockI (ss := q.map fun (x : Nat) => (x : Int)) hblk (by rw [hql]; rw [Nat.mul_one] at h7; rw [h7]; simp [cellsN])
        have hc31 := Try.slices_Reverse_int vb 0 cap (q.map fun (x : Nat) => (x : Int)) wr hH (by rw [hql]; unfold maxLen at h5; omega)
        rw [hql] at hc31
        have H4 := Lib.hid h4
        have H5 := Lib.hid h5
        have H6 := Lib.hid h6
        have HB := Lib.hid hblk
        clear h4 h5 h6 h7 hblk hH hql
        go_wp2_with (go_at_call 31; refine hc31.mono ?_; rintro e w2 ⟨rfl, nn, rfl⟩)
        go_ret2
        have hg := grownBy_sortedI (w := wr) (g := vb) (n := nn) (os := #[]) (q.map fun (x : Nat) => (x : Int)).reverse.toArray
        have ho := ownsRow_sortedI (n := nn) (os := #[]) (ss := q.map fun (x : Nat) => (x : Int)) (ts := (q.map fun (x : Nat) => (x : Int)).reverse) (by simp) hbase HB.out (by simpa using H4.out) H5.out H6.out
        rw [Sort.grow_empty] at hg ho
        refine ⟨hb.grown hg hb.size (fun k hk => by cases hk; exact hbase), .inr ⟨_, q.reverse, rfl, ?_, hQ.path, fun x hx => hQ.lt x (by simpa using hx), hreach, ?_⟩⟩
        · have e1 : (q.map fun (x : Nat) => (x : Int)).length = q.reverse.length := by simp
          have e2 : (q.map fun (x : Nat) => (x : Int)).reverse.map (Value.int .i64) = cellsN q.reverse := by simp [cellsN, List.map_reverse]
          rw [e1, e2] at ho
          simpa using ho
        · intro d hd
          have := (hD.near hd).2
          have h1 := hQ.len
          rw [hD.first.2.2] at h1
          simp; omega
      · obtain ⟨p, hp1, hp2, hp3, hp4⟩ := hD.pred t hQ.mem he
        have hpn := hD.lt p hp2
        have htn := hD.lt t hQ.mem
        have htn' : (t : Int) < n := by omega
        have hfc := hfr.row htn
        simp only [intC, hp1] at hfc
        have hne' : ((t : Int) != src) = true := by simp; omega
        have HL : Hid (((cellsN q).length + 1) * 8 ≤ 140737488355328) := by
          have := hn.out; have := Cal.length_le_of_lt hQ.nodup hQ.lt
          rw [cellsN_length]; exact (by omega : (q.length + 1) * 8 ≤ 140737488355328)
        have hrow' : wr.ownsRow w.heap.size 3 1 u10 (cellsN q).length (cellsN q) := by rw [cellsN_length]; exact hrow
        have hsz := hb.size
        go_wp2_with (at_builtin; (refine app_one rfl (.tmp 41) (.tmp 43) 30 3 (.int .i64 0) 8 rfl Try.underlying30 info3 rfl (by omega) u10 (cellsN q) (.int .i64 (p : Int)) rfl wr.heap.size rfl rfl rfl w.heap.size hrow' hsz HL.out ?_); intro v3 w3 hv3 hf3 ha3)
        go_roundw
        case rel =>
          have e : cellsN q ++ [Value.int .i64 (p : Int)] = cellsN (q ++ [p]) := (cellsN_snoc q p).symm
          rw [e, cellsN_length] at hv3
          refine ⟨p, q ++ [p], rfl, hf3.blk hfr hne, hv3, ?_, hQ.next hp2 hpn hp3 hp4, hb.trans (hf3.below _ (fun i hi => (hrow.lt i hi).1) hsz)⟩
          rcases ha3 with e | ⟨b, e, hb'⟩
          · rw [e]; exact hne
          · rw [e]; simp; have := hfr.lt; omega
        case measure => simp [intOf]; omega
end Go.Proofs.Yteaemnkllpfbgaa
