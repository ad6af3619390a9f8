/- spread: all that is reached from a thing, the nearest ones first. -/
import Derived.Test.YteaemnkllpfbgaaR1
import Derived.Test.YteaemnkllpfbgaaG5
import Derived.Deep.LoopGhost
import Derived.Deep.DeepCutAuto
import Derived.Deep.CutBlock
namespace Go.Proofs.Yteaemnkllpfbgaa
open Go.RowKit
open Cal (upd upd_same upd_ne BInv BDone)
set_option linter.unusedSimpArgs false
set_option linter.unusedVariables false

def intC (f : Nat → Int) : Nat → Value := fun k => .int .i64 (f k)

/-- What spread keeps between two rounds. -/
structure SpR (w wr : World) (n src fb : Nat) (S : Nat → Int → Bool) (fr : Nat → Int) (l : List Nat) (dep : Nat → Nat) (i j : Nat) (v : Value) : Prop where
  blk : Blk wr fb (rowA n (intC fr)) 3
  ge : w.heap.size ≤ fb
  row : wr.ownsRow w.heap.size 3 1 v l.length (cellsN l)
  ne : v.ownBlock ≠ some fb
  inv : BInv (sc n S) n src fr l dep i j
  bel : Below w.heap.size w wr

set_option maxRecDepth 100000 in
set_option maxHeartbeats 1000000 in
theorem spread_any (g s n src c : Nat) (ms : Nat → Option Nat) (S : Nat → Int → Bool) (w : World) (h : IsG w g s n ms c S) (hs : src < n) (hn : Small n) (hc : Small c) :
    Calls Try.prog 29 #[.pointer (some ⟨g, 0, none⟩), .int .i64 src] w fun e w' => ∃ fb v fr l dep, e = .returned (.tuple #[.slice (some ⟨fb, 0, none⟩) n n, v]) ∧
      Blk w' fb (rowA n (intC fr)) 3 ∧ w.heap.size ≤ fb ∧ w'.ownsRow w.heap.size 3 1 v l.length (cellsN l) ∧ v.ownBlock ≠ some fb ∧ BDone (sc n S) n src fr l dep ∧ Below w.heap.size w w' := by
  have hcell := h.cell
  have hcA := fun o => cellA hcell o
  have hs' : (src : Int) < n := by omega
  have hbox := Blk.new w #[.int .i64 (-1)] 3
  have hb0 := hbox.cell 0
  clear hbox
  go_enter Try.func29, Try.ntmps29
  go_wp2_with (first
    | (go_at_call 10; refine (len_any g s n _ (hcA _)).mono ?_; rintro e w' ⟨rfl, rfl⟩)
    | (go_at_call 24; refine (repeat_any _ _ n (-1) _ hb0 hn (by omega)).mono ?_; rintro e w1 ⟨fb, rfl, hfb, hge, hbel⟩; have hfc := hfb.row hs; have hff := hfb.free src))
  obtain ⟨W0, hW0⟩ : ∃ W0, (w1.setCell ⟨fb, src, none⟩ (.int .i64 src)).alloc (.cells #[.int .i64 src] 3) = W0 := ⟨_, rfl⟩
  have hS0 : SpR w W0 n src fb S (upd (fun _ => -1) src (src : Int)) [src] (fun _ => 0) 0 0 (.slice (some ⟨w1.heap.size, 0, none⟩) 1 1) := by
    have hge' : w.heap.size + 1 ≤ fb := by simpa using hge
    have hbel' : Below w.heap.size w w1 := ((Below.refl _ w).alloc (Nat.le_refl _) _).trans (hbel.mono (by simp))
    have hlt := hfb.lt
    rw [← hW0]
    refine ⟨?_, by omega, ?_, ?_, BInv.start _ n src hs, (hbel'.setCell (by simp; omega) _).alloc (by simp; omega) _⟩
    · have := (hfb.setRow src (.int .i64 src)).alloc (.cells #[.int .i64 src] 3)
      refine Eq.trans this.eq ?_
      congr 2
      refine rowA_congr fun k _ => ?_
      simp only [upd, intC]; split <;> rfl
    · have := own_of_lit (w1.setCell ⟨fb, src, none⟩ (.int .i64 src)) w.heap.size 3 [.int .i64 src] (by simp; omega) (by unfold maxLen; simp)
      simpa [cellsN] using this
    · simp [Value.ownBlock]; omega
  clear hfc hff hbel hge
  rw [hW0]
  clear hW0
  go_loopw [7, 8] (fun v i wr => ∃ fr l dep, ∃ ii : Nat, i = .int .i64 ii ∧ SpR w wr n src fb S fr l dep ii 0 v) (fun _ i _ => n - (intOf i).toNat)
  case atStart => exact ⟨_, _, _, 0, rfl, hS0⟩
  case round =>
    obtain ⟨fr, l, dep, ii, rfl, hR⟩ := hrel
    by_cases hlt : ii < l.length
    · obtain ⟨x, hx⟩ : ∃ x, l[ii]? = some x := ⟨_, List.getElem?_eq_getElem hlt⟩
      have hxl : x ∈ l := List.mem_of_getElem? hx
      have hxn : x < n := hR.inv.lt x hxl
      have hG : IsG wr g s n ms c S := h.below hR.bel h.gb.lt h.footlt
      have hlt' : (ii : Int) < l.length := by omega
      obtain ⟨vb, cap, rfl, hvb, hvlt, hcap, hvl, hvc, hvf⟩ : ∃ vb cap, u7 = .slice (some ⟨vb, 0, none⟩) l.length cap ∧ w.heap.size ≤ vb ∧ vb < wr.heap.size ∧ l.length ≤ cap ∧ (cellsN l).length = l.length ∧ (∀ i x, (cellsN l)[i]? = some x → wr.cell? ⟨vb, i, none⟩ = some x) ∧ ∀ i, wr.frozen? ⟨vb, i, none⟩ = false := by
        rcases own_cases hR.row with ⟨_, h0, _⟩ | ⟨g', cap, e, r⟩
        · omega
        · exact ⟨g', cap, e, r⟩
      have hxc : wr.cell? ⟨vb, ii, none⟩ = some (.int .i64 (x : Int)) := hvc ii _ (cellsN_get hx)
      clear hvc hvf hvl
      go_wp2_with (go_at_call 13; refine (from_any g s n x c ms S _ hG hxn hc).mono ?_; rintro e w2 ⟨v2, rfl, hrow2, hb2⟩; obtain ⟨A2, c2, rfl⟩ := own_slice hrow2)
      have hR2 : SpR w w2 n src fb S fr l dep ii 0 (.slice (some ⟨vb, 0, none⟩) l.length cap) := by
        have hF := Fr.of_below hb2
        exact ⟨hF.blk hR.blk (by simp), hR.ge, own_fr hR.row hF (by simp), hR.ne, hR.inv, hR.bel.trans (hb2.mono hR.bel.size)⟩
      have hfbw : fb < wr.heap.size := hR.blk.lt
      have hsz2 : wr.heap.size ≤ w2.heap.size := hb2.size
      clear hxc hb2
      obtain ⟨wo, rfl⟩ : ∃ wo : World, wo = wr := ⟨_, rfl⟩
      go_loopw [7, 34] (fun v jv wr2 => ∃ fr l dep, ∃ j : Nat, jv = .int .i64 j ∧ j ≤ (sc n S x).length ∧ SpR w wr2 n src fb S fr l dep ii j v ∧ l[ii]? = some x ∧
          wr2.ownsRow wo.heap.size 3 1 (.slice A2 (sc n S x).length c2) (sc n S x).length (cellsN (sc n S x)) ∧ (∀ b, v.ownBlock = some b → (Value.slice A2 (sc n S x).length c2).ownBlock ≠ some b)) (fun _ jv _ => (sc n S x).length - (intOf jv).toNat)
      case atStart =>
        refine ⟨fr, l, dep, 0, rfl, Nat.zero_le _, hR2, hx, hrow2, fun b hb => own_ne hrow2 (by simp [Value.ownBlock] at hb; omega)⟩
      case round =>
        clear hR hR2 hx hxl hlt hlt' hvb hvlt hcap hrow2
        obtain ⟨fr, l, dep, j, rfl, hjl, hR, hx, hrow2, hne2⟩ := hrel
        by_cases hj : j < (sc n S x).length
        · obtain ⟨y, hy⟩ : ∃ y, (sc n S x)[j]? = some y := ⟨_, List.getElem?_eq_getElem hj⟩
          have hyn : y < n := (mem_sc.1 (List.mem_of_getElem? hy)).1
          have hyn' : (y : Int) < n := by omega
          have hj' : (j : Int) < (sc n S x).length := by omega
          have hjb : (j : Int) < 9223372036854775807 := by have := sc_le n S x; have := hn.out; omega
          have hii : ii < l.length := (List.getElem?_eq_some_iff.1 hx).1
          have hii' : (ii : Int) < l.length := by omega
          obtain ⟨rb, hrA, hrlo, hrc⟩ : ∃ rb, A2 = some ⟨rb, 0, none⟩ ∧ wo.heap.size ≤ rb ∧ wr.cell? ⟨rb, j, none⟩ = some (.int .i64 (y : Int)) := by
            rcases own_cases hrow2 with ⟨_, h0, _⟩ | ⟨g', cap, e, h1, _, _, _, h2, _⟩
            · omega
            · simp only [Value.slice.injEq] at e
              exact ⟨g', e.1, h1, h2 j _ (cellsN_get hy)⟩
          subst hrA
          obtain ⟨vb, cap, rfl, hvb, hvlt, hxc⟩ : ∃ vb cap, u7 = .slice (some ⟨vb, 0, none⟩) l.length cap ∧ w.heap.size ≤ vb ∧ vb < wr.heap.size ∧ wr.cell? ⟨vb, ii, none⟩ = some (.int .i64 (x : Int)) := by
            rcases own_cases hR.row with ⟨_, h0, _⟩ | ⟨g', cap, e, h1, h2, _, _, h3, _⟩
            · omega
            · exact ⟨g', cap, e, h1, h2, h3 ii _ (cellsN_get hx)⟩
          have hfc := hR.blk.row hyn
          have hff := hR.blk.free y
          by_cases hf : fr y = -1
          · simp only [intC, hf] at hfc
            have hlen : l.length ≤ n := hR.inv.len
            have hnl := hn.out
            have HL : Hid (((cellsN l).length + 1) * 8 ≤ 140737488355328) := by rw [cellsN_length]; exact (by omega : (l.length + 1) * 8 ≤ 140737488355328)
            have hrow3 : (wr.setCell ⟨fb, y, none⟩ (.int .i64 (x : Int))).ownsRow w.heap.size 3 1 (.slice (some ⟨vb, 0, none⟩) l.length cap) (cellsN l).length (cellsN l) := by
              rw [cellsN_length]
              refine own_fr hR.row ((Fr.refl (fun b => b = fb) wr).set (fun _ => rfl) _) (fun b hb e => hR.ne (by rw [hb, e]))
            have hbs : w.heap.size ≤ (wr.setCell ⟨fb, y, none⟩ (.int .i64 (x : Int))).heap.size := by simp; exact hR.bel.size
            clear hnl hlen
            go_wp2_with (at_builtin; (refine app_one rfl (.tmp 50) (.tmp 52) 30 3 (.int .i64 0) 8 rfl Try.underlying30 info3 rfl (by omega) (.slice (some ⟨vb, 0, none⟩) l.length cap) (cellsN l) (.int .i64 (y : Int)) rfl wr.heap.size rfl (by simp) rfl w.heap.size hrow3 hbs HL.out ?_); intro v3 w3 hv3 hf3 ha3)
            go_roundw
            case rel =>
              have e : cellsN l ++ [Value.int .i64 (y : Int)] = cellsN (l ++ [y]) := (cellsN_snoc l y).symm
              rw [e, cellsN_length] at hv3
              have hF : Fr (fun b => b = fb ∨ b = vb) wr w3 := ((Fr.refl (fun b => b = fb ∨ b = vb) wr).set (p := ⟨fb, y, none⟩) (fun _ => .inl rfl) _).trans hf3 (fun i hi e => .inr (by simp [Value.ownBlock] at e; exact e.symm))
              have hvfb : vb ≠ fb := fun e => hR.ne (by rw [e]; rfl)
              refine ⟨upd fr y x, l ++ [y], upd dep y (dep x + 1), j + 1, by go_num, by omega, ⟨?_, hR.ge, hv3, ?_, hR.inv.new hx hy hyn hf, ?_⟩, by rw [List.getElem?_append_left hii]; exact hx, own_fr hrow2 hF ?_, ?_⟩
              · have h1 := hR.blk.setRow y (.int .i64 (x : Int))
                have h2 := hf3.blk h1 (by simp [Value.ownBlock]; exact hvfb)
                refine Eq.trans h2.eq ?_
                congr 2
                refine rowA_congr fun k _ => ?_
                simp only [upd, intC]; split <;> rfl
              · rcases ha3 with e | ⟨b, e, hb⟩
                · rw [e]; exact hR.ne
                · rw [e]; simp; have := hR.blk.lt; simp at hb; omega
              · have hb1 : Below w.heap.size w (wr.setCell ⟨fb, y, none⟩ (.int .i64 (x : Int))) := hR.bel.setCell hR.ge _
                exact hb1.trans (hf3.below _ (fun i hi => by simp [Value.ownBlock] at hi; omega) hbs)
              · intro b hb
                simp [Value.ownBlock] at hb
                subst hb
                rintro (e | e)
                · omega
                · exact hne2 vb rfl (by simp [Value.ownBlock, e])
              · intro b hb
                rcases ha3 with e | ⟨b', e, hb'⟩
                · exact hne2 b (by rw [← e]; exact hb)
                · rw [e] at hb
                  simp at hb hb'
                  simp [Value.ownBlock]
                  have := (hrow2.lt rb rfl).2
                  omega
            case measure => simp [intOf]; omega
          · have hfe : ((fr y : Int) == -1) = false := by simpa using hf
            simp only [intC] at hfc
            go_wp2
            go_roundw
            case rel => exact ⟨fr, l, dep, j + 1, by go_num, by omega, { hR with inv := hR.inv.old hx hy hyn hf }, hx, hrow2, hne2⟩
            case measure => simp [intOf]; omega
        · have hjge : ((sc n S x).length : Int) ≤ j := by omega
          have hib : (ii : Int) < 9223372036854775807 := by have := hR.inv.len; have := hn.out; have := (List.getElem?_eq_some_iff.1 hx).1; omega
          go_wp2
          go_roundw
          case rel => exact ⟨fr, l, dep, ii + 1, by go_num, { hR with inv := hR.inv.next hx (by omega) }⟩
          case measure =>
            have := hR.inv.len
            have := (List.getElem?_eq_some_iff.1 hx).1
            simp [intOf]; omega
    · obtain ⟨A, cA, rfl⟩ := own_slice hR.row
      have hge : (l.length : Int) ≤ ii := by omega
      go_wp2
      go_ret2
      exact ⟨fb, _, fr, l, dep, rfl, hR.blk, hR.ge, hR.row, hR.ne, hR.inv.over (by omega), hR.bel⟩
end Go.Proofs.Yteaemnkllpfbgaa
