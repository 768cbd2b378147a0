/-
  Contract: impl.PatternGrow.
-/
import Derived.Test.YtlmlchkolcmhpaaGreatDoorYPatStep
import Derived.Deep.LoopGhost
namespace Go.Proofs.YtlmlchkolcmhpaaGreatDoor
open Go.RowKit Go.Shelf
open Go.TextMath (tvB mvB text word)

/-- What PatternGrow answers. -/
def GrowP (T : List (List Int)) (F : List (List Bool)) (n : Int) (w : World) (e : Ending) (w' : World) : Prop :=
  Below w.heap.size w w' ∧ match growM T F n with
    | none => e = .returned (.tuple #[.slice none 0 0, .bool false])
    | some M' => ∃ ob g, e = .returned (.tuple #[.slice (some ⟨ob, 0, none⟩) T.length T.length, .bool true]) ∧ MtB w' w.heap.size (.slice (some ⟨ob, 0, none⟩) T.length T.length) M' g ∧ mvB T M' = true
theorem growP_none {T : List (List Int)} {F : List (List Bool)} {n : Int} (hn : growM T F n = none) {w : World} {e : Ending} {w' : World} (h : GrowP T F n w e w') : e = .returned (.tuple #[.slice none 0 0, .bool false]) ∧ Below w.heap.size w w' := by
  unfold GrowP at h
  rw [hn] at h
  exact ⟨h.2, h.1⟩
theorem growP_some {T : List (List Int)} {F M' : List (List Bool)} {n : Int} (hn : growM T F n = some M') {w : World} {e : Ending} {w' : World} (h : GrowP T F n w e w') : ∃ ob g, e = .returned (.tuple #[.slice (some ⟨ob, 0, none⟩) T.length T.length, .bool true]) ∧ MtB w' w.heap.size (.slice (some ⟨ob, 0, none⟩) T.length T.length) M' g ∧ mvB T M' = true ∧ Below w.heap.size w w' := by
  unfold GrowP at h
  rw [hn] at h
  obtain ⟨hb, ob, g, h1, h2, h3⟩ := h
  exact ⟨ob, g, h1, h2, h3, hb⟩
theorem growP_no {T : List (List Int)} {F : List (List Bool)} {n : Int} (hn : growM T F n = none) {w w' : World} (h : Below w.heap.size w w') : GrowP T F n w (.returned (.tuple #[.slice none 0 0, .bool false])) w' := by
  refine ⟨h, ?_⟩
  rw [hn]
theorem growP_yes {T : List (List Int)} {F M' : List (List Bool)} {n : Int} (hn : growM T F n = some M') {w w' : World} {ob : Nat} {g : Nat → Nat} (hm : MtB w' w.heap.size (.slice (some ⟨ob, 0, none⟩) T.length T.length) M' g) (hv : mvB T M' = true) (h : Below w.heap.size w w') : GrowP T F n w (.returned (.tuple #[.slice (some ⟨ob, 0, none⟩) T.length T.length, .bool true])) w' := by
  refine ⟨h, ?_⟩
  rw [hn]
  exact ⟨ob, g, rfl, hm, hv⟩
theorem mtb_tab {w : World} {base ob n c : Nat} {M : List (List Bool)} {g : Nat → Nat} (h : MtB w base (.slice (some ⟨ob, 0, none⟩) n c) M g) (hl : 0 < M.length) : TabB w (some ⟨ob, 0, none⟩) ob 0 M := by
  obtain ⟨ao, b, cap, hv, -, -, ht⟩ := h.tabB
  injection hv with e1 e2 e3
  subst e1
  have h1 := ht.1 hl
  injection h1 with h1
  injection h1 with h1
  subst h1
  exact ht

theorem two {xs : List Int} (h : xs.length = 2) : ∃ y0 y1, xs = [y0, y1] := by
  match xs, h with
  | [a, b], _ => exact ⟨a, b, rfl⟩
/-- What the loop keeps. -/
def GrowI (T : List (List Int)) (F : List (List Bool)) (n : Int) (w : World) (gq : Nat) (v : Value) (wr : World) : Prop :=
  ∃ (M : List (List Bool)) (ob : Nat) (g : Nat → Nat), v = .slice (some ⟨ob, 0, none⟩) T.length T.length ∧ MtB wr w.heap.size (.slice (some ⟨ob, 0, none⟩) T.length T.length) M g ∧ FitM T M ∧ openN T M ≤ gq ∧ growN T F n (openN T M + 1) M = growM T F n ∧ Below w.heap.size w wr

theorem growI_f (tb ct : Nat) (T : List (List Int)) (fb cf : Nat) (F : List (List Bool)) (n : Int) (w : World) (hr : Tab .i64 w (some ⟨tb, 0, none⟩) tb 0 T) (hfm : TabB w (some ⟨fb, 0, none⟩) fb 0 F) (hvf : mvB T F = true) (hn : cellB n = false) :
    Calls Tryz.prog 46 #[.slice (some ⟨tb, 0, none⟩) T.length ct, .slice (some ⟨fb, 0, none⟩) T.length cf, .int .i64 n] w (GrowP T F n w) := by
  have HND := Lib.hid (needI_f tb ct T fb cf F fb cf F n w hr hfm hfm hvf hvf hn)
  have HG := Lib.hid (show growM T F n = none by unfold growM; rw [hn]; simp)
  clear hr hfm hvf hn
  go_enter Tryz.func46, Tryz.ntmps46
  go_wp2_with fail
  refine (HND.out).mono ?_
  rintro e w1 ⟨rfl, hb1⟩
  have HB1 := Lib.hid hb1
  clear hb1
  go_wp2_with fail
  go_ret2
  exact growP_no HG.out HB1.out

set_option maxRecDepth 100000 in
set_option maxHeartbeats 4000000 in
theorem growI (tb ct : Nat) (T : List (List Int)) (fb cf : Nat) (F : List (List Bool)) (n : Int) (w : World) (hr : Tab .i64 w (some ⟨tb, 0, none⟩) tb 0 T) (hfm : TabB w (some ⟨fb, 0, none⟩) fb 0 F) (hvf : mvB T F = true) (hn : cellB n = true) :
    Calls Tryz.prog 46 #[.slice (some ⟨tb, 0, none⟩) T.length ct, .slice (some ⟨fb, 0, none⟩) T.length cf, .int .i64 n] w (GrowP T F n w) := by
  have HR := Lib.hid hr
  have HF := Lib.hid hfm
  have HVF := Lib.hid hvf
  have HN := Lib.hid hn
  have htv := (mv_t.1 hvf).1
  have HTV := Lib.hid htv
  have hff := fitM_of hvf
  obtain ⟨hT1, hT4, hC1, hC4, -⟩ := tv_t.1 htv
  have HGM := Lib.hid (show growM T F n = growN T F n (openN T F + 1) F by unfold growM; rw [hvf, hn]; rfl)
  have HND := Lib.hid (needI tb ct T fb cf F fb cf F n w hr hfm hfm hvf hvf hn)
  have HCP := Lib.hid (fun (W : World) (hb : Below w.heap.size w W) => (show Calls Tryz.prog 79 #[.slice (some ⟨fb, 0, none⟩) T.length cf] W fun e w' => ∃ g, e = .returned (.slice (some ⟨W.heap.size, 0, none⟩) T.length T.length) ∧ MtB w' W.heap.size (.slice (some ⟨W.heap.size, 0, none⟩) T.length T.length) F g ∧ Below W.heap.size W w' from by
    have := copyB fb cf F W (hfm.keep hb (Nat.le_refl _)) (by rw [hff.1]; omega) (fun u hu => by rw [hff.2 u (by rw [← hff.1]; exact hu)]; omega)
    rwa [hff.1] at this))
  obtain ⟨q, hq⟩ : ∃ q, (badsM T F F n).length = q := ⟨_, rfl⟩
  rw [hq] at HND
  have hq0 : decide ((q : Int) < 0) = false := by simp
  clear hr hfm hvf hn htv hff hq
  go_enter Tryz.func46, Tryz.ntmps46
  go_wp2_with fail
  refine (HND.out).mono ?_
  rintro e w1 ⟨rfl, hb1⟩
  have HB1 := Lib.hid hb1
  clear hb1
  go_wp2_with fail
  refine (HCP.out w1 HB1.out).mono ?_
  rintro e w2 ⟨g2, rfl, hm2, hb2⟩
  have HI2 := Lib.hid (show GrowI T F n w (openN T F) (.slice (some ⟨w1.heap.size, 0, none⟩) T.length T.length) w2 from ⟨F, _, g2, rfl, hm2.mono HB1.out.size, fitM_of HVF.out, Nat.le_refl _, HGM.out.symm, HB1.out.trans (hb2.mono HB1.out.size)⟩)
  obtain ⟨ob2, hob2⟩ : ∃ ob2, w1.heap.size = ob2 := ⟨_, rfl⟩
  rw [hob2] at HI2 ⊢
  clear hm2 hb2 hq0 hob2
  go_wp2_with fail
  go_loopg [8] (openN T F) (fun gq v wr => GrowI T F n w gq v wr)
  case atStart => exact HI2.out
  case round =>
    obtain ⟨M, ob, g, rfl, hmt, hfit, hgq, hgr, hbl⟩ := hrel
    have hmv := fitM_mv HTV.out hfit
    have hml : 0 < M.length := by rw [hfit.1]; omega
    have htab := mtb_tab hmt hml
    have HMT := Lib.hid hmt
    have HMV := Lib.hid hmv
    have HFT := Lib.hid hfit
    have HGQ := Lib.hid hgq
    have HGR := Lib.hid hgr
    have HBL := Lib.hid hbl
    have hlw := hbl.size
    have HOK := Lib.hid (patOkI tb ct T fb cf F ob T.length M n wr (HR.out.keep hbl (Nat.le_refl _)) (HF.out.keep hbl (Nat.le_refl _)) htab HVF.out hmv HN.out)
    by_cases hbad : badsM T F M n = []
    · have HBAD := Lib.hid hbad
      rw [decide_eq_true hbad] at HOK
      clear hmt hfit hgq hgr hbl hmv hml htab hbad
      go_wp2_with fail
      refine (HOK.out).mono ?_
      rintro e w3 ⟨rfl, hb3⟩
      have HB3 := Lib.hid hb3
      clear hb3
      go_wp2_with fail
      go_ret2
      refine growP_yes (g := g) (M' := M) (by rw [← HGR.out]; exact grow_done HBAD.out) (HMT.out.below HB3.out) HMV.out (HBL.out.trans (HB3.out.mono hlw))
    · have HBAD := Lib.hid hbad
      rw [decide_eq_false hbad] at HOK
      have HST := Lib.hid (fun (V : World) (hb : Below wr.heap.size wr V) => patStepI tb ct T fb cf F ob T.length M n V (HR.out.keep (hbl.trans (hb.mono hlw)) (Nat.le_refl _)) (HF.out.keep (hbl.trans (hb.mono hlw)) (Nat.le_refl _)) (htab.keep hb (Nat.le_refl _)) HVF.out hmv HN.out hbad)
      clear hmt hfit hgq hgr hbl hmv hml htab hbad
      go_wp2_with fail
      refine (HOK.out).mono ?_
      rintro e w3 ⟨rfl, hb3⟩
      have HB3 := Lib.hid hb3
      clear hb3
      go_wp2_with fail
      refine (HST.out w3 HB3.out).mono ?_
      intro e w4 hsp
      cases hnx : nextM T F M n with
      | none =>
        obtain ⟨rfl, hb4⟩ := stepP_none hnx hsp
        have HNX := Lib.hid hnx
        have HB4 := Lib.hid ((HBL.out.trans (HB3.out.mono hlw)).trans (hb4.mono (Nat.le_trans hlw HB3.out.size)))
        clear hsp hnx hb4
        go_wp2_with fail
        go_ret2
        exact growP_no (by rw [← HGR.out]; exact grow_none HBAD.out HNX.out) HB4.out
      | some M' =>
        obtain ⟨ob', g', rfl, hmt', hb4⟩ := stepP_some hnx hsp
        have hnn := next_some HTV.out HFT.out hnx
        have hgn := grow_next HTV.out HFT.out HBAD.out hnx
        have hgt : openN T M' ≤ gk - 1 ∧ gk - 1 < gk := by have := HGQ.out; have := hnn.2; omega
        have HGT := Lib.hid hgt
        have HI4 := Lib.hid (show GrowI T F n w (gk - 1) (.slice (some ⟨ob', 0, none⟩) T.length T.length) w4 from ⟨M', ob', g', rfl, hmt'.mono (Nat.le_trans hlw HB3.out.size), hnn.1, hgt.1, by rw [← hgn]; exact HGR.out, (HBL.out.trans (HB3.out.mono hlw)).trans (hb4.mono (Nat.le_trans hlw HB3.out.size))⟩)
        clear hsp hnx hmt' hb4 hnn hgn hgt
        go_wp2_with fail
        go_roundg (gk - 1)
        case rel => exact HI4.out
        case measure => exact HGT.out.2
end Go.Proofs.YtlmlchkolcmhpaaGreatDoor
