/- Most, walked. -/
import Derived.Test.YteaemnkllpfbgaaMc
import Derived.StillTailTactics
import Derived.Deep.RegionWith
import Derived.Deep.DeepCutAuto
import Derived.Deep.CutBlock
import Derived.Maps.OwnIn
namespace Go.Proofs.Yteaemnkllpfbgaa
open Go.RowKit Go.Shelf Go.Maps
open Cal (upd upd_same upd_ne)
attribute [local go_sem] Oper.semAt_some
set_option linter.unusedSimpArgs false
set_option linter.unusedVariables false

set_option maxRecDepth 100000 in
set_option maxHeartbeats 8000000 in
theorem most_any (g s n c len cap : Nat) (ms : Nat → Option Nat) (S : Nat → Int → Bool) (A : Option Addr) (l : List (Int × Int)) (w : World) (hG : IsG w g s n ms c S) (hS0 : ∀ k y, S k y = true → k < n)
    (hp : Pairs w (.slice A len cap) l) (hn : n ≤ 13) (hc : c ≤ 100) (hl : len ≤ 30) :
    Calls Try.prog 20 #[.pointer (some ⟨g, 0, none⟩), .slice A len cap] w (MostQ w n S l) := by
  have hsn : Small n := by unfold Small; omega
  have hcell := hG.cell
  have hglt := hG.gb.lt
  have hft := hG.footlt
  have HG := Lib.hid hG
  have HP := Lib.hid hp
  have HFT := Lib.hid hft
  have HS0 := Lib.hid hS0
  have hnc : Hid (n * c ≤ 1300) := (Nat.mul_le_mul hn hc : n * c ≤ 13 * 100)
  clear hG hp hft hS0
  refine (callsIn_wide (n := 5)).1 (callsIn_of_wp_marks Try.func20 rfl trivial ?_)
  refine wpIn_mono (Q := QM (MostQ w n S l)) ?_ (fun e a w h => by cases e <;> first | exact h | exact h.elim)
  refine wpIn_wide.2 ?_
  simp only [Try.ntmps20, List.size_toArray, List.length_cons, List.length_nil, Nat.reduceAdd, Nat.reduceSub, Array.replicate_succ, Array.replicate_zero, List.push_toArray, List.append_toArray, List.nil_append, List.cons_append]
  go_wp2_with (first
    | (go_at_call 10; refine (len_any g s n _ hcell).mono ?_; rintro e w' ⟨rfl, rfl⟩)
    | (go_at_call 22; refine (newW n w _ (by omega) (Below.refl _ _)).mono ?_; rintro e w1 ⟨gX, sX, rfl, hGX, hb1, hg1, hs1⟩)
    | (go_at_call 30; refine ((callsIn_wide (n := 0)).1 (all_in Fence.wide 0 trivial rfl _ _)).mono ?_; rintro e w' ⟨rfl, rfl⟩))
  have hw1 := hb1.size
  have hF0 : Fr (fun _ => False) w1 ((w1.alloc (.cells #[.pointer (some ⟨gX, 0, none⟩)] 24)).alloc (.cells #[.pointer (some ⟨g, 0, none⟩)] 24)) := ((Fr.refl _ w1).alloc _).alloc _
  have hbx : Blk ((w1.alloc (.cells #[.pointer (some ⟨gX, 0, none⟩)] 24)).alloc (.cells #[.pointer (some ⟨g, 0, none⟩)] 24)) w1.heap.size #[.pointer (some ⟨gX, 0, none⟩)] 24 := (Blk.new w1 _ 24).alloc _
  have hbn : Blk ((w1.alloc (.cells #[.pointer (some ⟨gX, 0, none⟩)] 24)).alloc (.cells #[.pointer (some ⟨g, 0, none⟩)] 24)) (w1.heap.size + 1) #[.pointer (some ⟨g, 0, none⟩)] 24 := Blk.new' _ 24 (by simp)
  obtain ⟨W0, hW0⟩ : ∃ W0, (w1.alloc (.cells #[.pointer (some ⟨gX, 0, none⟩)] 24)).alloc (.cells #[.pointer (some ⟨g, 0, none⟩)] 24) = W0 := ⟨_, rfl⟩
  rw [hW0] at hF0 hbx hbn ⊢
  have hsz0 : W0.heap.size = w1.heap.size + 2 := by rw [← hW0]; simp
  clear hW0
  have hMA0 : MA w W0 gX sX w1.heap.size n 0 (fun _ => none) (arrows n (prs ([] : List (Arw n S)))) := ⟨hGX.fr hF0 (fun _ e => e.elim) (fun e => e) (fun _ e => e.elim), hbx, hw1⟩
  have hb0 : Below w.heap.size w W0 := hMA0.G.bel
  have hG0 : IsG W0 g s n ms c S := HG.out.below hb0 hglt HFT.out
  have hbnc := hbn.cell 0
  have hbnl := hbn.lt
  have HMA0 := Lib.hid hMA0
  have HIT := Lib.hid (all_it 4 (by omega) (w1.heap.size + 1) w.heap.size g s n c ms S W0 hbnl hbnc hG0 hglt HFT.out (by omega) hsn)
  clear hMA0 hGX hbx hF0 hG0 hbn
  refine wp_range_it 5 (by omega) (gf := 39) (lb := #[.pointer (some ⟨w1.heap.size + 1, 0, none⟩)]) rfl (enters_of Try.func39 (by kernel_rfl) rfl) (n₀ := w.heap.size) (by omega) HIT.out (fun _ => rfl)
    (fun pre W => ∃ cX msX, (cX ≤ pre.length ∧ pre.length ≤ n * c) ∧ MA w W gX sX w1.heap.size n cX msX (arrows n (prs pre))) ?inv ⟨0, _, ⟨Nat.le_refl _, Nat.zero_le _⟩, HMA0.out⟩ ?round ?done
  case inv =>
    rintro pre X Y row ⟨cX, msX, h1, h2⟩ hg hr
    exact ⟨cX, msX, h1, h2.bk (by omega) hg hr⟩
  case round =>
    clear HMA0 HIT
    intro lr pre x W hI0 hlen
    clear hI0
    dsimp only [Arw.enc]
    gi_wp2
    refine ⟨trivial, ?_⟩
    rintro W2 ⟨cX, msX, h1, h2⟩
    have hsc : Small cX := by have := hnc.out; unfold Small; omega
    have hxb := h2.bx.cell 0
    have hR := arrowW w W2 gX sX n x.1.1 x.1.2 cX msX _ h2.G x.2.1 x.2.2.1 hsn hsc
    have HR : Hid (Calls Try.prog 23 #[.pointer (some ⟨gX, 0, none⟩), .int .i64 x.1.1, .int .i64 x.1.2] W2 fun e W3 => e = .returned (.int .i64 0) ∧ KeepsBk W2 W3 ∧ Below w.heap.size W2 W3 ∧ ∃ cX msX, (cX ≤ (pre ++ [x]).length ∧ (pre ++ [x]).length ≤ n * c) ∧ MA w W3 gX sX w1.heap.size n cX msX (arrows n (prs (pre ++ [x])))) := by
      refine hR.mono ?_
      rintro e W3 ⟨rfl, ms', hG3, hF3⟩
      refine ⟨rfl, KeepsBk.of_fr hF3 (fun b hb => foot_data h2.G.G hb), hF3.below _ h2.G.f0 h2.G.bel.size, cX + 1, ms', by rw [List.length_append, List.length_singleton]; omega, ?_⟩
      rw [prs_snoc, arrows_snoc _ x.2.1 x.2.2.1]
      exact h2.add hG3 hF3
    clear hR h2
    gi_wp2_with (refine ⟨trivial, ?_⟩; gi_at_call 23; refine (CallsIn.inRound lr (callsIn_wide.2 HR.out)).mono ?_; rintro e W3 ⟨rfl, hk, hb, hI⟩)
    exact ⟨hk, hb, hI⟩
  case done =>
    clear HMA0 HIT
    rintro D xs W hD hxs ⟨cX, msX, h1, h2⟩ hd
    have HD : Hid (Dfd w W D) := ⟨hd, by omega⟩
    have HXS := Lib.hid hxs
    have HMA := Lib.hid h2
    clear h2 hd hxs
    have hcX : cX ≤ 1300 := by have := hnc.out; omega
    clear h1
    go_wp2
    go_loopw [11, 40] (fun bv iv wr => ∃ j : Nat, j ≤ len ∧ iv = .int .i64 ((j : Nat) : Int) ∧ ∃ cY msY, cY ≤ 1300 + j ∧ Hid (MA w wr gX sX w1.heap.size n cY msY (arrows n (prs xs ++ l.take j))) ∧ Hid (Dfd w wr D) ∧ Hid (OkTo n l j)) (fun _ iv _ => len - (intOf iv).toNat)
    case atStart => exact ⟨0, Nat.zero_le _, rfl, cX, msX, by omega, by rw [List.take_zero, List.append_nil]; exact HMA, HD, fun i p hi => by omega⟩
    case round =>
      clear HMA HD
      obtain ⟨j, hjn, rfl, cY, msY, hcY, HMA, HD, HOK⟩ := hrel
      by_cases hjlt : j < len
      · have hjlt' : (j : Int) < len := by omega
        obtain ⟨⟨a, b⟩, hab⟩ : ∃ p, l[j]? = some p := ⟨_, List.getElem?_eq_getElem (by rw [← HP.out.lenI]; exact hjlt)⟩
        obtain ⟨vb, off, rfl, p1, p2⟩ := HP.out.atI HMA.out.G.bel hab
        have hxb : ∀ o, (wr.alloc o).cell? ⟨w1.heap.size, 0, none⟩ = some (.pointer (some ⟨gX, 0, none⟩)) := fun o => (HMA.out.bx.alloc o).cell 0
        cases hin : (inRange a n && inRange b n) with
        | true =>
          obtain ⟨ha1, hb1'⟩ := Bool.and_eq_true_iff.1 hin
          simp only [inRange, Bool.and_eq_true, decide_eq_true_eq] at ha1 hb1'
          obtain ⟨a', rfl⟩ : ∃ a' : Nat, a = (a' : Int) := ⟨a.toNat, by omega⟩
          obtain ⟨b', rfl⟩ : ∃ b' : Nat, b = (b' : Int) := ⟨b.toNat, by omega⟩
          have hsc : Small cY := by unfold Small; omega
          have htk : l.take (j + 1) = l.take j ++ [((a' : Int), (b' : Int))] := by rw [List.take_add_one, hab]; rfl
          have HOK2 : Hid (OkTo n l (j + 1)) := fun i p hi hip => by
            by_cases e : i = j
            · subst e; rw [hab] at hip; cases hip; exact hin
            · exact HOK.out i p (by omega) hip
          have HR : Hid (∀ o, Calls Try.prog 23 #[.pointer (some ⟨gX, 0, none⟩), .int .i64 a', .int .i64 b'] (wr.alloc o) fun e W3 => e = .returned (.int .i64 0) ∧
              ∃ msY', Hid (MA w W3 gX sX w1.heap.size n (cY + 1) msY' (arrows n (prs xs ++ l.take (j + 1)))) ∧ Hid (Dfd w W3 D)) := fun o => by
            have hM2 := HMA.out.quiet ((Fr.refl (fun _ => False) wr).alloc o)
            have hD2 := HD.out.fr ((Fr.refl (fun _ => False) wr).alloc o) (fun _ e => e.elim)
            refine (arrowW w _ gX sX n a' b' cY msY _ hM2.G (by omega) (by omega) hsn hsc).mono ?_
            rintro e W3 ⟨rfl, ms', hG3, hF3⟩
            refine ⟨rfl, ms', ?_, hD2.fr hF3 (fun b hb => foot_data hM2.G.G hb)⟩
            rw [htk, ← List.append_assoc, arrows_snoc _ (by omega) (by omega)]
            exact hM2.add hG3 hF3
          clear HMA HD HOK hab hin ha1 hb1' htk hsc
          go_wp2_with (go_at_call 23; refine (HR.out _).mono ?_; rintro e W3 ⟨rfl, msY', HM3, HD3⟩)
          go_roundw
          case rel => exact ⟨j + 1, by omega, by go_num, cY + 1, msY', by omega, HM3, HD3, HOK2⟩
          case measure => simp [intOf]; omega
        | false =>
          have HR : Hid (∀ o, Calls Try.prog 23 #[.pointer (some ⟨gX, 0, none⟩), .int .i64 a, .int .i64 b] (wr.alloc o) fun e W3 => e = .returned (.int .i64 2) ∧ Hid (Below w.heap.size w W3) ∧ Hid (Dfd w W3 D)) := fun o => by
            have hM2 := HMA.out.quiet ((Fr.refl (fun _ => False) wr).alloc o)
            have hD2 := HD.out.fr ((Fr.refl (fun _ => False) wr).alloc o) (fun _ e => e.elim)
            refine (arrow_bad gX sX n a b _ hM2.G.G.cell hin).mono ?_
            rintro e W3 ⟨rfl, rfl⟩
            exact ⟨rfl, hM2.G.bel, hD2⟩
          have HBAD : Hid (∃ p, p ∈ l ∧ (inRange p.1 n && inRange p.2 n) = false) := ⟨_, List.mem_of_getElem? hab, hin⟩
          clear HMA HD HOK hab hin
          go_wp2_with (go_at_call 23; refine (HR.out _).mono ?_; rintro e W3 ⟨rfl, HB3, HD3⟩)
          exact leave1 HD3.out.d rfl rfl fun W' hF => ⟨0, false, rfl, HB3.out.trans (hF.below _ (fun i e => by subst e; exact HD3.out.ge) HB3.out.size), .inl ⟨rfl, rfl, .inl HBAD.out⟩⟩
      · have hjge : ¬ (j : Int) < len := by omega
        have hjl : j = l.length := by have := HP.out.lenI; omega
        have htk : l.take j = l := by rw [hjl]; exact List.take_length
        rw [htk] at HMA
        have HALL : Hid (∀ p, p ∈ l → (inRange p.1 n && inRange p.2 n) = true) := fun p hp => by
          obtain ⟨i, hi⟩ := List.getElem?_of_mem hp
          exact HOK.out i p (by rw [hjl]; exact (List.getElem?_eq_some_iff.1 hi).1) hi
        have hsc : Small cY := by unfold Small; omega
        have hxb := HMA.out.bx.cell 0
        have hK := knots_all gX sX n cY msY _ wr HMA.out.G.G hsn hsc
        have HK : Hid (Calls Try.prog 12 #[.pointer (some ⟨gX, 0, none⟩)] wr fun e w' => ∃ (kA : Option Addr) (ob m : Nat) (κ : Nat → Nat), e = .returned (.tuple #[.slice kA n n, .int .i64 (m : Int)]) ∧ Hid (Below w.heap.size w w') ∧ Hid (Dfd w w' D) ∧ m ≤ n ∧
            Hid (0 < n → kA = some ⟨ob, 0, none⟩ ∧ Blk w' ob (rowA n (natC κ)) 3 ∧ w.heap.size ≤ ob) ∧ Hid (KnF n m κ (arrows n (prs xs ++ l)))) := by
          refine hK.mono ?_
          rintro e w' ⟨kA, ob, m, κ, rfl, hb, hm, hkv, h1, h2, h3⟩
          have hF := Fr.of_below hb
          refine ⟨kA, ob, m, κ, rfl, HMA.out.G.bel.trans (hb.mono HMA.out.G.bel.size), HD.out.fr hF (fun _ e => e.elim), hm, fun hn0 => ?_, ⟨h1, h2, h3⟩⟩
          obtain ⟨g1, g2, g3, _⟩ := hkv hn0
          exact ⟨g1, g2, Nat.le_trans HMA.out.G.bel.size g3⟩
        clear hK hsc HMA HD HOK htk hjl
        go_wp2_with (go_at_call 12; refine HK.out.mono ?_; rintro e w3 ⟨kA, ob, m, κ, rfl, HB3, HD3, hmn, HKV, HKF⟩)
        have hsm : Small m := by unfold Small; omega
        have hF4 : Fr (fun _ => False) w3 (w3.alloc (.cells #[.slice kA n n] 30)) := (Fr.refl _ w3).alloc _
        have HMK : Hid (MK w (w3.alloc (.cells #[.slice kA n n] 30)) w3.heap.size ob n (.slice kA n n) κ) := {
          bk := Blk.new w3 _ 30
          bv := fun hn0 => by
            obtain ⟨e1, e2, e3⟩ := HKV.out hn0
            exact ⟨by rw [e1], e2.alloc _⟩
          kge := HB3.out.size
          bel := HB3.out.alloc HB3.out.size _ }
        have HD4 : Hid (Dfd w (w3.alloc (.cells #[.slice kA n n] 30)) D) := HD3.out.fr hF4 (fun _ e => e.elim)
        obtain ⟨W4, hW4⟩ : ∃ W4, w3.alloc (.cells #[.slice kA n n] 30) = W4 := ⟨_, rfl⟩
        obtain ⟨kx, hkx⟩ : ∃ kx, w3.heap.size = kx := ⟨_, rfl⟩
        rw [hkx] at HMK ⊢
        rw [hW4] at HMK HD4 ⊢
        clear hW4 hkx hF4 HD3 HB3 HK
        have hmk75 : ∀ W : World, (Instr.makeSlice 75 (.int .i64 (m : Int)) (.int .i64 (m : Int))).run Try.prog W = .ok (.slice (some ⟨W.heap.size, 0, none⟩) m m) (W.alloc (.cells (rowA m (fun _ => .map none)) 62)) := by
          intro W
          have := run_make_row' 75 62 (.map none) 8 Try.underlying75 info62 rfl .i64 .i64 m (by omega) (by omega) W
          rw [madeCells_row] at this
          exact this
        go_cut [14] from 57 to 63 (fun pv wx => ∃ px cb tb bb, pv = .pointer (some ⟨px, 0, none⟩) ∧ Hid (MC w wx px cb tb bb m 0 (fun _ => none) (fun _ _ => none)) ∧ Hid (MK w wx kx ob n (.slice kA n n) κ) ∧ Hid (Dfd w wx D))
        case first =>
          go_region_with (go_at_call 24; refine (repeat_all _ _ m (-1) _ ?hx hsm).mono ?_; (case hx => simp [go_sem]); rintro e w5 ⟨bb, rfl, hbb, hbg, hb5⟩; (first
            | (have hA1 := fun o => (old1 hb5 o o).1.1; have hA2 := fun o => (old1 hb5 o o).1.2; have hA3 := fun o o2 => (old1 hb5 o o2).2.1; have hA4 := fun o o2 => (old1 hb5 o o2).2.2; try simp only [World.size_alloc, World.size_drew] at hA1 hA2 hA3 hA4)
            | (have hA1 := fun o => (old2 hb5 o o).1.1; have hA2 := fun o => (old2 hb5 o o).1.2; have hA3 := fun o o2 => (old2 hb5 o o2).2.1; have hA4 := fun o o2 => (old2 hb5 o o2).2.2; try simp only [World.size_alloc, World.size_drew] at hA1 hA2 hA3 hA4)
            | (have hA1 := fun o => (old3 hb5 o o).1.1; have hA2 := fun o => (old3 hb5 o o).1.2; have hA3 := fun o o2 => (old3 hb5 o o2).2.1; have hA4 := fun o o2 => (old3 hb5 o o2).2.2; try simp only [World.size_alloc, World.size_drew] at hA1 hA2 hA3 hA4)
            | skip))
          all_goals (go_wp2_with fail)
          all_goals
            go_meet
            have hs5 := hb5.size
            try simp only [World.size_alloc, World.size_drew] at hs5 hbg
            apply leafE (bb := bb) HMK.out HD4.out
            case hf => repeat (first | (with_reducible exact Fr.refl _ _) | (with_reducible refine Fr.alloc ?_ _) | (with_reducible refine Fr.drew ?_) | (with_reducible refine Fr.thenB ?_ hb5) | (with_reducible refine Fr.thenS ?_ ?_; rotate_left; omega))
            case hp => repeat (first | (with_reducible refine Blk.new' _ _ ?_; (first | rfl | (simp; done) | (simp; omega))) | (with_reducible refine Blk.alloc ?_ _) | (with_reducible refine Blk.drew ?_) | (with_reducible refine Blk.setP ?_) | (with_reducible refine Blk.belowV ?_ hb5))
            case hc => repeat (first | (with_reducible refine Blk.new' _ _ ?_; (first | rfl | (simp; done) | (simp; omega))) | (with_reducible refine Blk.alloc ?_ _) | (with_reducible refine Blk.drew ?_) | (with_reducible refine Blk.setOther ?_ ?_ _; rotate_left; (show _ ≠ _; simp <;> omega)) | (with_reducible refine Blk.belowV ?_ hb5))
            case ht => repeat (first | (with_reducible refine Blk.new' _ _ ?_; (first | rfl | (simp; done) | (simp; omega))) | (with_reducible refine Blk.alloc ?_ _) | (with_reducible refine Blk.drew ?_) | (with_reducible refine Blk.setOther ?_ ?_ _; rotate_left; (show _ ≠ _; simp <;> omega)) | (with_reducible refine Blk.belowV ?_ hb5))
            case hb => repeat (first | (with_reducible exact hbb) | (with_reducible refine Blk.alloc ?_ _) | (with_reducible refine Blk.drew ?_) | (with_reducible refine Blk.setOther ?_ ?_ _; rotate_left; (show _ ≠ _; simp <;> omega)))
            case hg => first | omega | (simp <;> omega)
        case rest =>
          clear HMK HD4 hmk75
          obtain ⟨px, cb, tb, bb, rfl, HMC, HMK, HD⟩ := hcut
          obtain ⟨W5, rfl⟩ : ∃ W5 : World, W5 = wc := ⟨_, rfl⟩
          have hmm := @run_makeMap Try.prog
          go_wp2
          go_loopw [15, 65] (fun _ iv wr => ∃ i : Nat, i ≤ m ∧ iv = .int .i64 ((i : Nat) : Int) ∧ ∃ f : Nat → Option Nat, Hid (MC w wr px cb tb bb m 0 f (fun _ _ => none)) ∧ Hid (∀ x, x < i → ∃ r, f x = some r) ∧ Hid (MK w wr kx ob n (.slice kA n n) κ) ∧ Hid (Dfd w wr D)) (fun _ iv _ => m - (intOf iv).toNat)
          case atStart => exact ⟨0, Nat.zero_le _, rfl, _, HMC, fun x hx => by omega, HMK, HD⟩
          case round =>
            clear HMC HMK HD
            obtain ⟨i, him, rfl, f, HMC, HF, HMK, HD⟩ := hrel
            by_cases hilt : i < m
            · have hilt' : (i : Int) < m := by omega
              have c1 := HMC.out.fp.cell 0
              have c2 := HMC.out.fc.cell 0
              have c3 : ∀ o, (wr.alloc o).cell? ⟨tb, i, none⟩ = some (.map (f i)) := fun o => (HMC.out.ft.alloc o).row hilt
              have c4 : ∀ o, (wr.alloc o).frozen? ⟨tb, i, none⟩ = false := fun o => (HMC.out.ft.alloc o).free i
              have hfr : Fr (fun b => b = tb) wr ((wr.alloc (.map #[] 0)).setCell ⟨tb, i, none⟩ (.map (some wr.heap.size))) := ((Fr.refl (fun b => b = tb) wr).alloc _).set (p := ⟨tb, i, none⟩) (fun _ => rfl) _
              have HMC2 := Lib.hid (HMC.out.make hilt HMK.out.bel.size)
              have HMK2 := Lib.hid (HMK.out.fr hfr (fun b e => by subst e; exact HMC.out.ge.2.2.1) (HMK.out.bk.ne HMC.out.ft (by decide)) (fun hn0 => (HMK.out.bv hn0).2.ne HMC.out.ft (by decide)))
              have HD2 := Lib.hid (HD.out.fr hfr (fun b e => by subst e; exact blk_data HMC.out.ft))
              have HF2 : Hid (∀ x, x < i + 1 → ∃ r, upd f i (some wr.heap.size) x = some r) := fun x hx => by
                by_cases e : x = i
                · subst e; exact ⟨_, upd_same _ _ _⟩
                · obtain ⟨r, hr⟩ := HF.out x (by omega)
                  exact ⟨r, by simp [upd, e, hr]⟩
              clear HMC HF HMK HD hfr
              go_wp2
              go_roundw
              case rel => exact ⟨i + 1, by omega, by go_num, _, HMC2, HF2, HMK2, HD2⟩
              case measure => simp [intOf]; omega
            · have hige : ¬ (i : Int) < m := by omega
              have him' : i = m := by omega
              subst him'
              go_wp2_with (go_at_call 30; refine ((callsIn_wide (n := 0)).1 (all_in Fence.wide 0 trivial rfl _ _)).mono ?_; rintro e w' ⟨rfl, rfl⟩)
              have hF6 : Fr (fun _ => False) wr (wr.alloc (.cells #[.pointer (some ⟨g, 0, none⟩)] 24)) := (Fr.refl _ wr).alloc _
              have hbn : Blk (wr.alloc (.cells #[.pointer (some ⟨g, 0, none⟩)] 24)) wr.heap.size #[.pointer (some ⟨g, 0, none⟩)] 24 := Blk.new wr _ 24
              have hMC6 := HMC.out.quiet hF6
              have hMK6 := HMK.out.fr hF6 (fun _ e => e.elim) (fun e => e) (fun _ e => e)
              have hD6 := HD.out.fr hF6 (fun _ e => e.elim)
              obtain ⟨W6, hW6⟩ : ∃ W6, wr.alloc (.cells #[.pointer (some ⟨g, 0, none⟩)] 24) = W6 := ⟨_, rfl⟩
              obtain ⟨B6, hB6⟩ : ∃ B6, wr.heap.size = B6 := ⟨_, rfl⟩
              rw [hB6] at hbn ⊢
              rw [hW6] at hMC6 hMK6 hD6 hbn ⊢
              clear hW6 hB6 HMC HMK HD hF6
              have hG6 : IsG W6 g s n ms c S := HG.out.below hMK6.bel hglt HFT.out
              have hsz6 := hMK6.bel.size
              have hDlt : D < W6.heap.size := (Array.getElem?_eq_some_iff.1 hD6.d).1
              have HIT2 := Lib.hid (all_it 4 (by omega) B6 w.heap.size g s n c ms S W6 hbn.lt (hbn.cell 0) hG6 hglt HFT.out hsz6 hsn)
              have HI0 : Hid (∃ cT T, (cT ≤ ([] : List (Arw n S)).length ∧ ([] : List (Arw n S)).length ≤ n * c) ∧ MC w W6 px cb tb bb i cT f T ∧ MK w W6 kx ob n (.slice kA n n) κ ∧ Dfd w W6 D ∧ TI κ (prn ([] : List (Arw n S))) [] T) :=
                ⟨0, _, ⟨Nat.le_refl _, Nat.zero_le _⟩, hMC6, hMK6, hD6, TI.start κ⟩
              clear hG6 hbn hMC6 hMK6 hD6
              refine wp_range_it 5 (by omega) (gf := 39) (lb := #[.pointer (some ⟨B6, 0, none⟩)]) rfl (enters_of Try.func39 (by kernel_rfl) rfl) (n₀ := w.heap.size) hsz6 HIT2.out (fun _ => rfl)
                (fun pre W => ∃ cT T, (cT ≤ pre.length ∧ pre.length ≤ n * c) ∧ MC w W px cb tb bb i cT f T ∧ MK w W kx ob n (.slice kA n n) κ ∧ Dfd w W D ∧ TI κ (prn pre) [] T) ?inv2 HI0.out ?round2 ?done2
              case inv2 =>
                rintro pre X Y row ⟨cT, T, h1, h2, h3, h4, h5⟩ hg hr
                exact ⟨cT, T, h1, h2.bk hg hr, h3.bk' (by omega) hg hr, h4.bk hDlt hg hr, h5⟩
              case round2 =>
                clear HI0 HIT2
                intro lr pre x W hI0 hlen
                clear hI0
                dsimp only [Arw.enc]
                gi_wp2
                refine ⟨trivial, ?_⟩
                rintro W2 ⟨cT, T, h1, hMC, hMK, hD, hTI⟩
                have hn0 : 0 < n := by have := x.2.1; omega
                obtain ⟨hkA, hob⟩ := hMK.bv hn0
                simp only [Value.slice.injEq, and_true] at hkA
                subst hkA
                have hx1 : ((x.1.1 : Nat) : Int) < n := by have := x.2.1; omega
                have hx2 : ((x.1.2 : Nat) : Int) < n := by have := x.2.2.1; omega
                have hκ1 := HKF.out.lt _ x.2.1
                have hκ2 := HKF.out.lt _ x.2.2.1
                have hF3 : Fr (fun _ => False) W2 W2.drew := (Fr.refl _ W2).drew
                have hMC3 := hMC.quiet hF3
                have hMK3 := hMK.fr hF3 (fun _ e => e.elim) (fun e => e) (fun _ e => e)
                have hD3 := hD.fr hF3 (fun _ e => e.elim)
                have hKB3 := Lib.hid (KeepsBk.of_fr hF3 (fun _ e => e.elim))
                have hBE3 := Lib.hid (hF3.below w.heap.size (fun _ e => e.elim) hMK.bel.size)
                have k1 := (hMK3.bk.cell 0)
                have k2 : W2.drew.cell? ⟨ob, x.1.1, none⟩ = some (.int .i64 ((κ x.1.1 : Nat) : Int)) := (hMK3.bv hn0).2.row x.2.1
                have k3 : W2.drew.cell? ⟨ob, x.1.2, none⟩ = some (.int .i64 ((κ x.1.2 : Nat) : Int)) := (hMK3.bv hn0).2.row x.2.2.1
                obtain ⟨W3, hW3⟩ : ∃ W3, W2.drew = W3 := ⟨_, rfl⟩
                rw [hW3] at hMC3 hMK3 hD3 hKB3 hBE3 k1 k2 k3
                have HMC := Lib.hid hMC3
                have HMK := Lib.hid hMK3
                have HD := Lib.hid hD3
                have HTI := Lib.hid hTI
                clear hMC hMK hD hTI hob hMC3 hMK3 hD3 hF3
                obtain ⟨⟨a, b⟩, hx⟩ := x
                have hpr := Lib.hid (prn_snoc pre ⟨(a, b), hx⟩)
                have hplen : Hid ((pre ++ [(⟨(a, b), hx⟩ : Arw n S)]).length = pre.length + 1) := List.length_append
                dsimp only at k2 k3 hx1 hx2 hκ1 hκ2 hpr ⊢
                obtain ⟨ka, hka⟩ : ∃ ka, κ a = ka := ⟨_, rfl⟩
                obtain ⟨kb, hkb⟩ : ∃ kb, κ b = kb := ⟨_, rfl⟩
                rw [hka] at k2 hκ1
                rw [hkb] at k3 hκ2
                gi_wp2
                refine round_region (by kernel_rfl) rfl (by rintro ⟨_, _, h⟩; exact h) ?_
                show wpAny _ _ _ _ _ _ _ W2.drew
                rw [hW3]
                clear hW3
                refine any_tail 8 (by kernel_rfl) ?_
                simp only [List.take_succ_cons, List.take_zero, List.drop_succ_cons, List.drop_zero]
                repeat still_step
                refine wpStill_nil ?_
                by_cases hab : ka = kb
                · have hab' : ((ka : Int) == (kb : Int)) = true := by simp [hab]
                  have HI2 : Hid (∃ cT T, (cT ≤ (pre ++ [(⟨(a, b), hx⟩ : Arw n S)]).length ∧ (pre ++ [(⟨(a, b), hx⟩ : Arw n S)]).length ≤ n * c) ∧ MC w W3 px cb tb bb i cT f T ∧ MK w W3 kx ob n (.slice (some ⟨ob, 0, none⟩) n n) κ ∧ Dfd w W3 D ∧ TI κ (prn (pre ++ [(⟨(a, b), hx⟩ : Arw n S)])) [] T) := by
                    refine ⟨cT, T, by rw [hplen.out]; omega, HMC.out, HMK.out, HD.out, ?_⟩
                    rw [hpr.out]
                    exact HTI.out.skip (by rw [hka, hkb]; exact hab)
                  clear HMC HMK HD HTI hpr hplen hka hkb
                  go_wp2
                  gi_wp2
                  exact ⟨hKB3.out, hBE3.out, HI2.out⟩
                · have hab' : ((ka : Int) == (kb : Int)) = false := by simp only [beq_eq_false_iff_ne, ne_eq]; omega
                  have hF4 : Fr (fun _ => False) W3 W3.drew := (Fr.refl _ W3).drew
                  have hMC4 := HMC.out.quiet hF4
                  have hMK4 := HMK.out.fr hF4 (fun _ e => e.elim) (fun e => e) (fun _ e => e)
                  have hD4 := HD.out.fr hF4 (fun _ e => e.elim)
                  have hKB4 := hKB3.out.trans (KeepsBk.of_fr hF4 (fun _ e => e.elim))
                  have hBE4 := hBE3.out.trans (hF4.below w.heap.size (fun _ e => e.elim) HMK.out.bel.size)
                  clear HMC HMK HD hKB3 hBE3 hF4
                  obtain ⟨W4, hW4⟩ : ∃ W4, W3.drew = W4 := ⟨_, rfl⟩
                  rw [hW4] at hMC4 hMK4 hD4 hKB4 hBE4
                  obtain ⟨r, hr⟩ := HF.out ka hκ1
                  obtain ⟨Dm, hown, hhas, hat, hmap⟩ := hMC4.own hκ1 hr
                  have hκb' : ((kb : Nat) : Int) < 1000 := by omega
                  obtain ⟨c0, hlk, hc0, _⟩ := hown.lookup_int keyed3 Try.underlying62 Try.underlying3 (Try.zeroValue3 _) (Maps.keyOf_int_mk Try.underlying3 (WalkArith.wf_i64 (n := (kb : Int)) (by omega)))
                  have hc00 : c0 = 0 := by
                    cases hT : T ka (kb : Int) with
                    | some v =>
                      have hv0 := HTI.out.zero hT
                      rw [hat _ _ hT] at hc0
                      subst hv0
                      simpa using hc0.symm
                    | none =>
                      have hh : Maps.has Dm (.int .i64 (kb : Int)) = false := by rw [hhas, hT]; rfl
                      rw [Maps.atKey_of_not_has hh] at hc0
                      simpa using hc0.symm
                  subst hc00
                  have q1 := hMK4.bk.cell 0
                  have q2 : W4.cell? ⟨ob, a, none⟩ = some (.int .i64 ((ka : Nat) : Int)) := by rw [← hka]; exact (hMK4.bv hn0).2.row hx.1
                  have q3 : W4.cell? ⟨ob, b, none⟩ = some (.int .i64 ((kb : Nat) : Int)) := by rw [← hkb]; exact (hMK4.bv hn0).2.row hx.2.1
                  have q4 := hMC4.fp.cell 0
                  have q5 : W4.cell? ⟨cb, 0, none⟩ = some (.slice (some ⟨tb, 0, none⟩) i i) := hMC4.fc.cell 0
                  have q6 : W4.cell? ⟨tb, ka, none⟩ = some (.map (some r)) := by rw [← hr]; exact hMC4.ft.row hκ1
                  have hκ1' : ((ka : Nat) : Int) < i := by omega
                  have hcTs : cT < maxLen := by have := hnc.out; unfold maxLen; omega
                  have HR : Hid (∀ W5, W5.ownsMap (H := Unit) Try.prog 3 (plainElem Try.prog 3) r (cT + 1) (Dm.put (.int .i64 (kb : Int)) (.lit (.int .i64 0))) → W4.grownBy W5 (some r) →
                      KeepsBk W2 W5 ∧ Below w.heap.size W2 W5 ∧ ∃ cT T, (cT ≤ (pre ++ [(⟨(a, b), hx⟩ : Arw n S)]).length ∧ (pre ++ [(⟨(a, b), hx⟩ : Arw n S)]).length ≤ n * c) ∧ MC w W5 px cb tb bb i cT f T ∧ MK w W5 kx ob n (.slice (some ⟨ob, 0, none⟩) n n) κ ∧ Dfd w W5 D ∧ TI κ (prn (pre ++ [(⟨(a, b), hx⟩ : Arw n S)])) [] T) := fun W5 ho hg => by
                    have hF5 : Fr (fun b => b = r) W4 W5 := (Fr.of_grown hg).mono fun i _ e => by simpa using e
                    have hN := hMC4.mp ka hκ1 r hr
                    have hge := hMC4.ge.2.2.2.2 ka r hκ1 hr
                    refine ⟨hKB4.trans (KeepsBk.of_fr hF5 (fun b e => by subst e; exact mapN_data hN)), hBE4.trans (hF5.below _ (fun b e => by subst e; exact hge) hMK4.bel.size), cT + 1, putT T ka kb 0, by rw [hplen.out]; omega,
                      hMC4.put hκ1 hr hhas hat hmap ho hg, hMK4.fr hF5 (fun b e => by subst e; exact hge) (hN.ne hMK4.bk).symm (fun hn0 => (hN.ne (hMK4.bv hn0).2).symm), hD4.fr hF5 (fun b e => by subst e; exact mapN_data hN), ?_⟩
                    rw [hpr.out, ← hka, ← hkb]
                    exact HTI.out.arr (by rw [hka, hkb]; exact hab)
                  clear hMC4 hMK4 hD4 hKB4 hBE4 HTI hpr hplen hka hkb hhas hat hmap hc0 hr k1 k2 k3
                  go_wp2
                  gi_wp2
                  refine round_region (by kernel_rfl) rfl (by rintro ⟨_, _, h⟩; exact h) ?_
                  show wpAny _ _ _ _ _ _ _ W3.drew
                  rw [hW4]
                  clear hW4
                  refine any_tail 30 (by kernel_rfl) ?_
                  simp only [List.take_succ_cons, List.take_zero, List.drop_succ_cons, List.drop_zero]
                  repeat still_step
                  refine wpStill_nil ?_
                  go_wp2_with (at_mapUpdate; refine wpList_mapUpdate_own _ rfl _ _ _ 62 rfl 3 3 keyed3 Try.underlying62 _ r cT _ rfl hown hcTs _ _ _ rfl rfl (Maps.keyOf_int_mk Try.underlying3 (WalkArith.wf_i64 (by omega))) _ [] (plainElem_int Try.underlying3 (WalkArith.wf_i64 (by omega))) ?_; intro w9 hown9 hgrow9)
                  gi_wp2
                  exact HR.out _ hown9 hgrow9
              case done2 =>
                clear HI0 HIT2
                rintro D2 ys W hD2 hys ⟨cT, T, h1, h2, h3, h4, h5⟩ hd2
                have HYS := Lib.hid hys
                have HMC := Lib.hid h2
                have HMK := Lib.hid h3
                have HD := Lib.hid h4
                have HTI := Lib.hid h5
                have HD2 : Hid (Dfd w W D2) := ⟨hd2, by omega⟩
                have hDD : D ≠ D2 := by omega
                have hcT : cT ≤ 1300 := by have := hnc.out; omega
                clear h1 h2 h3 h4 h5 hd2 hys
                go_wp2
                go_loopw [19, 121] (fun _ iv wr => ∃ q : Nat, q ≤ len ∧ iv = .int .i64 ((q : Nat) : Int) ∧ ∃ cT T mks, cT ≤ 1300 + q ∧ Hid (MC w wr px cb tb bb i cT f T) ∧ Hid (MK w wr kx ob n (.slice kA n n) κ) ∧ Hid (Dfd w wr D) ∧ Hid (Dfd w wr D2) ∧ Hid (TI κ (prn ys) mks T) ∧
                    Hid (l.take q = mks.map (fun p => ((p.1 : Int), (p.2 : Int)))) ∧ Hid (∀ p, p ∈ mks → p.1 < n ∧ p.2 < n ∧ κ p.1 ≠ κ p.2)) (fun _ iv _ => len - (intOf iv).toNat)
                case atStart => exact ⟨0, Nat.zero_le _, rfl, cT, T, [], by omega, HMC, HMK, HD, HD2, HTI, rfl, fun p hp => by simp at hp⟩
                case round =>
                  clear HMC HMK HD HD2 HTI hcT
                  obtain ⟨q, hqn, rfl, cT, T, mks, hcT, HMC, HMK, HD, HD2, HTI, HLM, HMN⟩ := hrel
                  by_cases hqlt : q < len
                  · have hqlt' : (q : Int) < len := by omega
                    obtain ⟨⟨za, zb⟩, hab⟩ : ∃ p, l[q]? = some p := ⟨_, List.getElem?_eq_getElem (by rw [← HP.out.lenI]; exact hqlt)⟩
                    obtain ⟨ha1, hb1'⟩ := Bool.and_eq_true_iff.1 (HALL.out _ (List.mem_of_getElem? hab))
                    simp only [inRange, Bool.and_eq_true, decide_eq_true_eq] at ha1 hb1'
                    obtain ⟨a, rfl⟩ : ∃ a : Nat, za = (a : Int) := ⟨za.toNat, by omega⟩
                    obtain ⟨b, rfl⟩ : ∃ b : Nat, zb = (b : Int) := ⟨zb.toNat, by omega⟩
                    have hx1 : ((a : Nat) : Int) < n := by omega
                    have hx2 : ((b : Nat) : Int) < n := by omega
                    have hn0 : 0 < n := by omega
                    have hna : a < n := by omega
                    have hnb : b < n := by omega
                    obtain ⟨vb, off, rfl, p1, p2⟩ := HP.out.atI HMK.out.bel hab
                    have hκ1 := HKF.out.lt _ hna
                    have hκ2 := HKF.out.lt _ hnb
                    have htk : Hid (l.take (q + 1) = (mks ++ [(a, b)]).map (fun p => ((p.1 : Int), (p.2 : Int)))) := by
                      have : l.take (q + 1) = l.take q ++ [((a : Int), (b : Int))] := by rw [List.take_add_one, hab]; rfl
                      exact (by rw [this, HLM.out]; simp : l.take (q + 1) = (mks ++ [(a, b)]).map (fun p => ((p.1 : Int), (p.2 : Int))))
                    have HMKS : Hid (Mks l a b) := List.mem_of_getElem? hab
                    clear ha1 hb1' hab
                    have hF3 : Fr (fun _ => False) wr (wr.alloc (.cells #[.int .i64 (a : Int), .int .i64 (b : Int)] 46)) := (Fr.refl _ wr).alloc _
                    have hbx : Blk (wr.alloc (.cells #[.int .i64 (a : Int), .int .i64 (b : Int)] 46)) wr.heap.size #[.int .i64 (a : Int), .int .i64 (b : Int)] 46 := Blk.new wr _ 46
                    obtain ⟨hkA, hob⟩ := HMK.out.bv hn0
                    simp only [Value.slice.injEq, and_true] at hkA
                    subst hkA
                    clear hob
                    go_wp2
                    obtain ⟨W3, hW3⟩ : ∃ W3, wr.alloc (.cells #[.int .i64 (a : Int), .int .i64 (b : Int)] 46) = W3 := ⟨_, rfl⟩
                    obtain ⟨bx, hbxe⟩ : ∃ bx, wr.heap.size = bx := ⟨_, rfl⟩
                    rw [hbxe] at hbx ⊢
                    rw [hW3] at hF3 hbx ⊢
                    clear hW3 hbxe
                    have hF4 : Fr (fun _ => False) wr W3.drew := hF3.drew
                    have hbx4 : Blk W3.drew bx #[.int .i64 (a : Int), .int .i64 (b : Int)] 46 := hbx.drew
                    have hMC4 := HMC.out.quiet hF4
                    have hMK4 := HMK.out.fr hF4 (fun _ e => e.elim) (fun e => e) (fun _ e => e)
                    have hD4 := HD.out.fr hF4 (fun _ e => e.elim)
                    have hE4 := HD2.out.fr hF4 (fun _ e => e.elim)
                    clear HMC HMK HD HD2 hF3 hF4 hbx p1 p2
                    refine wp_region_any (by kernel_rfl) ?_
                    show wpAny _ _ _ _ _ _ _ W3.drew
                    obtain ⟨W4, hW4⟩ : ∃ W4, W3.drew = W4 := ⟨_, rfl⟩
                    rw [hW4] at hbx4 hMC4 hMK4 hD4 hE4 ⊢
                    clear hW4
                    obtain ⟨ka, hka⟩ : ∃ ka, κ a = ka := ⟨_, rfl⟩
                    obtain ⟨kb, hkb⟩ : ∃ kb, κ b = kb := ⟨_, rfl⟩
                    rw [hka] at hκ1
                    rw [hkb] at hκ2
                    have q0 := hbx4.cell 0
                    have q0' := hbx4.cell 1
                    have q1 := hMK4.bk.cell 0
                    have q2 : W4.cell? ⟨ob, a, none⟩ = some (.int .i64 ((ka : Nat) : Int)) := by rw [← hka]; exact (hMK4.bv hn0).2.row hna
                    have q3 : W4.cell? ⟨ob, b, none⟩ = some (.int .i64 ((kb : Nat) : Int)) := by rw [← hkb]; exact (hMK4.bv hn0).2.row hnb
                    have HMC := Lib.hid hMC4
                    have HMK := Lib.hid hMK4
                    have HD := Lib.hid hD4
                    have HD2 := Lib.hid hE4
                    have HBX := Lib.hid hbx4
                    clear hMC4 hMK4 hD4 hE4 hbx4
                    refine any_tail 10 (by kernel_rfl) ?_
                    simp only [List.take_succ_cons, List.take_zero, List.drop_succ_cons, List.drop_zero]
                    repeat still_step
                    refine wpStill_nil ?_
                    by_cases hkk : ka = kb
                    · have hkk' : ((ka : Int) == (kb : Int)) = true := by simp [hkk]
                      have HBAD : Hid (∃ a c m, Mks l a c ∧ Cal.Wk (sc n S) (Mks l) c a m) := by
                        obtain ⟨_, h2⟩ := (HKF.out.iff a b hna hnb).1 (by rw [hka, hkb]; exact hkk)
                        obtain ⟨m', hm'⟩ := h2.wk (fun a b h => (all_iff HXS.out HALL.out HS0.out a b).1 h)
                        exact ⟨a, b, m', HMKS.out, hm'⟩
                      clear HMC HTI htk hka hkb
                      go_wp2
                      exact leave2 HD.out.d HD2.out.d hDD rfl rfl fun W' hF => ⟨0, false, rfl, HMK.out.bel.trans (hF.below _ (fun i e => e.elim (fun e => by rw [e]; exact HD.out.ge) (fun e => by rw [e]; exact HD2.out.ge)) HMK.out.bel.size), .inl ⟨rfl, rfl, .inr HBAD.out⟩⟩
                    · have hkk' : ((ka : Int) == (kb : Int)) = false := by simp only [beq_eq_false_iff_ne, ne_eq]; omega
                      have hF5 : Fr (fun _ => False) W4 W4.drew := (Fr.refl _ W4).drew
                      have hMC5 := HMC.out.quiet hF5
                      have hMK5 := HMK.out.fr hF5 (fun _ e => e.elim) (fun e => e) (fun _ e => e)
                      have hD5 := HD.out.fr hF5 (fun _ e => e.elim)
                      have hE5 := HD2.out.fr hF5 (fun _ e => e.elim)
                      have hbx5 := HBX.out.drew
                      go_wp2
                      refine wp_region_any (by kernel_rfl) ?_
                      show wpAny _ _ _ _ _ _ _ W4.drew
                      obtain ⟨W5, hW5⟩ : ∃ W5, W4.drew = W5 := ⟨_, rfl⟩
                      rw [hW5] at hMC5 hMK5 hD5 hE5 hbx5 ⊢
                      clear hW5 HMC HMK HD HD2 HBX q0 q0' q1 q2 q3 hF5
                      obtain ⟨r, hr⟩ := HF.out ka hκ1
                      obtain ⟨Dm, hown, hhas, hat, hmap⟩ := hMC5.own hκ1 hr
                      have q0 := hbx5.cell 0
                      have q0' := hbx5.cell 1
                      have q1 := hMK5.bk.cell 0
                      have q2 : W5.cell? ⟨ob, a, none⟩ = some (.int .i64 ((ka : Nat) : Int)) := by rw [← hka]; exact (hMK5.bv hn0).2.row hna
                      have q3 : W5.cell? ⟨ob, b, none⟩ = some (.int .i64 ((kb : Nat) : Int)) := by rw [← hkb]; exact (hMK5.bv hn0).2.row hnb
                      have q4 := hMC5.fp.cell 0
                      have q5 : W5.cell? ⟨cb, 0, none⟩ = some (.slice (some ⟨tb, 0, none⟩) i i) := hMC5.fc.cell 0
                      have q6 : W5.cell? ⟨tb, ka, none⟩ = some (.map (some r)) := by rw [← hr]; exact hMC5.ft.row hκ1
                      have hκ1' : ((ka : Nat) : Int) < i := by omega
                      have hκb' : ((kb : Nat) : Int) < 1000 := by omega
                      have hcTs : cT < maxLen := by unfold maxLen; omega
                      have HR : Hid (∀ W6, W6.ownsMap (H := Unit) Try.prog 3 (plainElem Try.prog 3) r (cT + 1) (Dm.put (.int .i64 (kb : Int)) (.lit (.int .i64 1))) → W5.grownBy W6 (some r) →
                          ∃ cT T mks, cT ≤ 1300 + (q + 1) ∧ Hid (MC w W6 px cb tb bb i cT f T) ∧ Hid (MK w W6 kx ob n (.slice (some ⟨ob, 0, none⟩) n n) κ) ∧ Hid (Dfd w W6 D) ∧ Hid (Dfd w W6 D2) ∧ Hid (TI κ (prn ys) mks T) ∧
                            Hid (l.take (q + 1) = mks.map (fun p => ((p.1 : Int), (p.2 : Int)))) ∧ Hid (∀ p, p ∈ mks → p.1 < n ∧ p.2 < n ∧ κ p.1 ≠ κ p.2)) := fun W6 ho hg => by
                        have hF6 : Fr (fun b => b = r) W5 W6 := (Fr.of_grown hg).mono fun i _ e => by simpa using e
                        have hN := hMC5.mp ka hκ1 r hr
                        have hge := hMC5.ge.2.2.2.2 ka r hκ1 hr
                        refine ⟨cT + 1, putT T ka kb 1, mks ++ [(a, b)], by omega, hMC5.put hκ1 hr hhas hat hmap ho hg, hMK5.fr hF6 (fun b e => by subst e; exact hge) (hN.ne hMK5.bk).symm (fun hn0 => (hN.ne (hMK5.bv hn0).2).symm),
                          hD5.fr hF6 (fun b e => by subst e; exact mapN_data hN), hE5.fr hF6 (fun b e => by subst e; exact mapN_data hN), ?_, htk, ?_⟩
                        · rw [← hka, ← hkb]; exact HTI.out.mrk a b
                        · intro p hp
                          rcases List.mem_append.1 hp with hp | hp
                          · exact HMN.out p hp
                          · obtain rfl : p = (a, b) := by simpa using hp
                            exact ⟨hna, hnb, by rw [hka, hkb]; exact hkk⟩
                      clear hMC5 hMK5 hD5 hE5 hbx5 HTI HMN htk hka hkb hhas hat hmap hr
                      refine any_tail 16 (by kernel_rfl) ?_
                      simp only [List.take_succ_cons, List.take_zero, List.drop_succ_cons, List.drop_zero]
                      repeat still_step
                      refine wpStill_nil ?_
                      go_wp2_with (at_mapUpdate; refine wpList_mapUpdate_own _ rfl _ _ _ 62 rfl 3 3 keyed3 Try.underlying62 _ r cT _ rfl hown hcTs _ _ _ rfl rfl (Maps.keyOf_int_mk Try.underlying3 (WalkArith.wf_i64 (by omega))) _ [] (plainElem_int Try.underlying3 (WalkArith.wf_i64 (by omega))) ?_; intro w9 hown9 hgrow9)
                      obtain ⟨cT', T', mks', g1, g2, g3, g4, g5, g6, g7, g8⟩ := HR.out _ hown9 hgrow9
                      go_roundw
                      case rel => exact ⟨q + 1, by omega, by go_num, cT', T', mks', g1, g2, g3, g4, g5, g6, g7, g8⟩
                      case measure => simp [intOf]; omega
                  · have hqge : ¬ (q : Int) < len := by omega
                    have hql : l.take q = l := by
                      have h1 := HP.out.lenI
                      have : q = l.length := by omega
                      rw [this]; exact List.take_length
                    have hLM := HLM.out
                    rw [hql] at hLM
                    obtain ⟨L, ρ, hdag, hLmax, hLat⟩ := dag_ex HXS.out HYS.out HALL.out HS0.out HKF.out HTI.out hLM HMN.out hn
                    have hmr : ∀ x, x < i → f x = some ((f x).getD 0) := fun x hx => by
                      obtain ⟨r, hr⟩ := HF.out x hx
                      rw [hr]; rfl
                    have hMC := HMC.out
                    have HCR : Hid (CR wr cb tb bb i cT (fun x => (f x).getD 0) T) := {
                      cb := hMC.fc
                      tb := by
                        refine Eq.trans hMC.ft.eq ?_
                        congr 2
                        exact rowA_congr fun x hx => by rw [← hmr x hx]
                      mp := fun x hx => hMC.mp x hx _ (hmr x hx) }
                    have HBR : Hid (BestR wr bb i L) := ⟨fun _ => -1, hMC.fb, fun _ _ => .inl rfl⟩
                    have HPX := Lib.hid hMC.fp
                    have HBBG := Lib.hid hMC.ge.2.2.2.1
                    have HBW := Lib.hid HMK.out.bel
                    have HDG := Lib.hid hdag
                    have HLMAX := Lib.hid hLmax
                    have HLAT := Lib.hid hLat
                    have hi1000 : i ≤ 1000 := by omega
                    clear hMC HMC HMK HTI HLM HMN hLM hql hdag hLmax hLat hmr HF
                    go_wp2
                    go_loopw [20, 21, 154] (fun mv _ iv wr => ∃ t : Nat, t ≤ i ∧ iv = .int .i64 ((t : Nat) : Int) ∧ mv = .int .i64 ((maxTo L t : Nat) : Int) ∧ Hid (CR wr cb tb bb i cT (fun x => (f x).getD 0) T) ∧ Hid (BestR wr bb i L) ∧ Hid (Blk wr px #[.pointer (some ⟨cb, 0, none⟩)] 74) ∧ Hid (Below w.heap.size w wr) ∧ Hid (Dfd w wr D) ∧ Hid (Dfd w wr D2)) (fun _ _ iv _ => i - (intOf iv).toNat)
                    case atStart => exact ⟨0, Nat.zero_le _, rfl, rfl, HCR, HBR, HPX, HBW, HD, HD2⟩
                    case round =>
                      clear HCR HBR HPX HBW HD HD2
                      obtain ⟨t, htn, rfl, rfl, HCR, HBR, HPX, HBW, HD, HD2⟩ := hrel
                      by_cases htlt : t < i
                      · have htlt' : (t : Int) < i := by omega
                        have c1 := HPX.out.cell 0
                        have HR : Hid (Calls Try.prog 32 #[.pointer (some ⟨cb, 0, none⟩), .int .i64 t] wr fun e w' => e = .returned (.int .i64 (L t : Int)) ∧ Hid (CR w' cb tb bb i cT (fun x => (f x).getD 0) T) ∧ Hid (BestR w' bb i L) ∧ Hid (Blk w' px #[.pointer (some ⟨cb, 0, none⟩)] 74) ∧ Hid (Below w.heap.size w w') ∧ Hid (Dfd w w' D) ∧ Hid (Dfd w w' D2)) := by
                          obtain ⟨f0, hf0, _⟩ := HBR.out
                          refine (count_any cb tb bb i cT _ T L ρ HDG.out hi1000 (ρ t + 1) t wr (Nat.lt_succ_self _) htlt HCR.out HBR.out).mono ?_
                          rintro e w' ⟨rfl, hF, hB⟩
                          exact ⟨rfl, HCR.out.fr hf0 hF, hB, hF.blk HPX.out (HPX.out.ne hf0 (by decide)), HBW.out.trans (hF.below _ (fun b e => by subst e; exact HBBG.out) HBW.out.size), HD.out.fr hF (fun b e => by subst e; exact blk_data hf0), HD2.out.fr hF (fun b e => by subst e; exact blk_data hf0)⟩
                        have hmx : ((maxTo L (t + 1) : Nat) : Int) = max ((maxTo L t : Nat) : Int) ((L t : Nat) : Int) := by simp only [maxTo]; omega
                        have HMX := Lib.hid hmx
                        clear hmx HCR HBR HPX HBW HD HD2
                        go_wp2_with (go_at_call 32; refine HR.out.mono ?_; rintro e w2 ⟨rfl, HCR, HBR, HPX, HBW, HD, HD2⟩)
                        go_roundw
                        case rel => exact ⟨t + 1, by omega, by go_num, by rw [HMX.out], HCR, HBR, HPX, HBW, HD, HD2⟩
                        case measure => simp [intOf]; omega
                      · have htge : ¬ (t : Int) < i := by omega
                        have hti : t = i := by omega
                        have HFIN : Hid ((maxTo L t = 0 ∨ ∃ a c, a < n ∧ Cal.Wk (sc n S) (Mks l) a c (maxTo L t)) ∧ ∀ a c k, a < n → Cal.Wk (sc n S) (Mks l) a c k → k ≤ maxTo L t) := by
                          rw [hti]
                          refine ⟨?_, fun a c k ha h => ?_⟩
                          · rcases maxTo_at (best := L) (n := i) with h | ⟨y, hy, e⟩
                            · exact .inl h
                            · obtain ⟨a, c, ha, _, h⟩ := HLAT.out y hy
                              exact .inr ⟨a, c, ha, e ▸ h⟩
                          · have h1 := HLMAX.out a c k ha h
                            have h2 := le_maxTo (best := L) (n := i) (κ a) (HKF.out.lt a ha)
                            omega
                        clear hti HCR HBR HPX
                        obtain ⟨z, hz⟩ : ∃ z, maxTo L t = z := ⟨_, rfl⟩
                        rw [hz] at HFIN ⊢
                        clear hz
                        go_wp2
                        exact leave2 HD.out.d HD2.out.d hDD rfl rfl fun W' hF => ⟨z, true, rfl, HBW.out.trans (hF.below _ (fun i e => e.elim (fun e => by rw [e]; exact HD.out.ge) (fun e => by rw [e]; exact HD2.out.ge)) HBW.out.size), .inr ⟨rfl, HALL.out, z, rfl, HFIN.out.1, HFIN.out.2⟩⟩
end Go.Proofs.Yteaemnkllpfbgaa
