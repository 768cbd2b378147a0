/-
  Contract: spec.PatternGrow.
-/
import Derived.Test.YtlmlchkolcmhpaaGreatDoorYStepS
import Derived.Deep.LoopGhost
namespace Go.Proofs.YtlmlchkolcmhpaaGreatDoor
open Go.RowKit
open Go.TextMath (tvB mvB text word)

/-- What PatternGrow answers. -/
def GrowQ (T : List (List Int)) (F : List (List Bool)) (n : Int) (w : World) (e : Ending) (w' : World) : Prop :=
  Below w.heap.size w w' ∧ match growM T F n with
    | none => ∃ a, e = .returned (.tuple #[.slice a 0 0, .bool false])
    | some M' => ∃ ob c g, e = .returned (.tuple #[.slice (some ⟨ob, 0, none⟩) T.length c, .bool true]) ∧ MtB w' w.heap.size (.slice (some ⟨ob, 0, none⟩) T.length c) M' g ∧ mvB T M' = true
theorem growQ_none {T : List (List Int)} {F : List (List Bool)} {n : Int} (hn : growM T F n = none) {w : World} {e : Ending} {w' : World} (h : GrowQ T F n w e w') : (∃ a, e = .returned (.tuple #[.slice a 0 0, .bool false])) ∧ Below w.heap.size w w' := by
  unfold GrowQ at h
  rw [hn] at h
  exact ⟨h.2, h.1⟩
theorem growQ_some {T : List (List Int)} {F M' : List (List Bool)} {n : Int} (hn : growM T F n = some M') {w : World} {e : Ending} {w' : World} (h : GrowQ T F n w e w') : ∃ ob c g, e = .returned (.tuple #[.slice (some ⟨ob, 0, none⟩) T.length c, .bool true]) ∧ MtB w' w.heap.size (.slice (some ⟨ob, 0, none⟩) T.length c) M' g ∧ mvB T M' = true ∧ Below w.heap.size w w' := by
  unfold GrowQ at h
  rw [hn] at h
  obtain ⟨hb, ob, c, g, h1, h2, h3⟩ := h
  exact ⟨ob, c, g, h1, h2, h3, hb⟩
theorem growQ_no {T : List (List Int)} {F : List (List Bool)} {n : Int} (hn : growM T F n = none) {w w' : World} {a : Option Addr} (h : Below w.heap.size w w') : GrowQ T F n w (.returned (.tuple #[.slice a 0 0, .bool false])) w' := by
  refine ⟨h, ?_⟩
  rw [hn]
  exact ⟨a, rfl⟩
theorem growQ_yes {T : List (List Int)} {F M' : List (List Bool)} {n : Int} (hn : growM T F n = some M') {w w' : World} {ob c : Nat} {g : Nat → Nat} (hm : MtB w' w.heap.size (.slice (some ⟨ob, 0, none⟩) T.length c) M' g) (hv : mvB T M' = true) (h : Below w.heap.size w w') : GrowQ T F n w (.returned (.tuple #[.slice (some ⟨ob, 0, none⟩) T.length c, .bool true])) w' := by
  refine ⟨h, ?_⟩
  rw [hn]
  exact ⟨ob, c, g, rfl, hm, hv⟩
theorem mtb_tabS {w : World} {base ob n c : Nat} {M : List (List Bool)} {g : Nat → Nat} (h : MtB w base (.slice (some ⟨ob, 0, none⟩) n c) M g) (hl : 0 < M.length) : TabB w (some ⟨ob, 0, none⟩) ob 0 M := by
  obtain ⟨ao, b, cap, hv, -, -, ht⟩ := h.tabB
  injection hv with e1 e2 e3
  subst e1
  have h1 := ht.1 hl
  injection h1 with h1
  injection h1 with h1
  subst h1
  exact ht
/-- What the loop keeps. -/
def GrowL (T : List (List Int)) (F : List (List Bool)) (n : Int) (w : World) (gq : Nat) (v : Value) (wr : World) : Prop :=
  ∃ (M : List (List Bool)) (ob c : Nat) (g : Nat → Nat), v = .slice (some ⟨ob, 0, none⟩) T.length c ∧ MtB wr w.heap.size (.slice (some ⟨ob, 0, none⟩) T.length c) M g ∧ FitM T M ∧ openN T M ≤ gq ∧ growN T F n (openN T M + 1) M = growM T F n ∧ Below w.heap.size w wr

set_option maxHeartbeats 2000000 in
theorem growS_f (tb ct : Nat) (T : List (List Int)) (fb cf : Nat) (F : List (List Bool)) (n : Int) (w : World) (hr : Tab .i64 w (some ⟨tb, 0, none⟩) tb 0 T) (hfm : TabB w (some ⟨fb, 0, none⟩) fb 0 F) (hvf : mvB T F = true) (hn : cellB n = false) :
    Calls Tryz.prog 100 #[.slice (some ⟨tb, 0, none⟩) T.length ct, .slice (some ⟨fb, 0, none⟩) T.length cf, .int .i64 n] w (GrowQ T F n w) := by
  have HND := Lib.hid (needS_f tb ct T fb cf F fb cf F n w hr hfm hfm hvf hvf hn)
  have HG := Lib.hid (show growM T F n = none by unfold growM; rw [hn]; simp)
  clear hr hfm hvf hn
  go_enter Tryz.func100, Tryz.ntmps100
  go_wp2_with fail
  refine (HND.out).mono ?_
  rintro e w1 ⟨rfl, hb1⟩
  have HB1 := Lib.hid hb1
  clear hb1
  go_wp2_with fail
  go_ret2
  exact growQ_no HG.out (HB1.out.alloc HB1.out.size _)

set_option maxRecDepth 100000 in
set_option maxHeartbeats 8000000 in
theorem growS' (tb ct : Nat) (T : List (List Int)) (fb cf : Nat) (F : List (List Bool)) (n : Int) (w : World) (hr : Tab .i64 w (some ⟨tb, 0, none⟩) tb 0 T) (hfm : TabB w (some ⟨fb, 0, none⟩) fb 0 F) (hvf : mvB T F = true) (hn : cellB n = true) :
    Calls Tryz.prog 100 #[.slice (some ⟨tb, 0, none⟩) T.length ct, .slice (some ⟨fb, 0, none⟩) T.length cf, .int .i64 n] w (GrowQ T F n w) := by
  have htv := (mv_t.1 hvf).1
  have hff := fitM_of hvf
  obtain ⟨hT1, hT4, hC1, hC4, -⟩ := tv_t.1 htv
  have HND := Lib.hid (needS tb ct T fb cf F fb cf F n w hr hfm hfm hvf hvf hn)
  have HCP := Lib.hid (fun (W : World) (hb : Below w.heap.size w W) => (show Calls Tryz.prog 132 #[.slice (some ⟨fb, 0, none⟩) T.length cf] W fun e w' => ∃ v g, e = .returned v ∧ MtB w' W.heap.size v F g ∧ Below W.heap.size W w' from by
    have := copyBS fb cf F W (hfm.keep hb (Nat.le_refl _)) (by rw [hff.1]; omega) (fun i hi => by rw [hff.2 i (by rw [← hff.1]; exact hi)]; omega)
    rwa [hff.1] at this))
  have HR := Lib.hid hr
  have HF := Lib.hid hfm
  have HVF := Lib.hid hvf
  have HTV := Lib.hid htv
  have HFF := Lib.hid hff
  have HN := Lib.hid hn
  have HG0 := Lib.hid (show growN T F n (openN T F + 1) F = growM T F n by unfold growM; rw [hvf, hn]; rfl)
  obtain ⟨BL, hBL⟩ : ∃ BL, (badsM T F F n).length = BL := ⟨_, rfl⟩
  rw [hBL] at HND
  have hbl0 : ¬ ((BL : Int) < 0) := by omega
  clear hr hfm hvf hn htv hff hBL
  go_enter Tryz.func100, Tryz.ntmps100
  go_wp2_with fail
  refine (HND.out).mono ?_
  rintro e w1 ⟨rfl, hb1⟩
  have HB1 := Lib.hid hb1
  clear hb1
  go_wp2_with fail
  refine (HCP.out w1 HB1.out).mono ?_
  rintro e w2 ⟨v, g, rfl, hmt, hb2⟩
  obtain ⟨ao, ob, cx, rfl, hcx, -, hob, -⟩ := hmt.cells
  rw [HFF.out.1] at hcx hob hmt ⊢
  obtain ⟨rfl, -, -⟩ := hob (by omega)
  have HI2 := Lib.hid (show GrowL T F n w (openN T F) (.slice (some ⟨ob, 0, none⟩) T.length cx) w2 from ⟨F, ob, cx, g, rfl, hmt.mono HB1.out.size, HFF.out, Nat.le_refl _, HG0.out, HB1.out.trans (hb2.mono HB1.out.size)⟩)
  clear hmt hb2 hob hcx
  go_wp2_with fail
  go_loopg [8] (openN T F) (fun gq v wr => GrowL T F n w gq v wr)
  case atStart => exact HI2.out
  case round =>
    obtain ⟨M, ob, cm, g, rfl, hmt, hfit, hgq, hgr, hbl⟩ := hrel
    have hmv := fitM_mv HTV.out hfit
    have hml : 0 < M.length := by rw [hfit.1]; omega
    have htab := mtb_tabS hmt hml
    have HMT := Lib.hid hmt
    have HMV := Lib.hid hmv
    have HFT := Lib.hid hfit
    have HGQ := Lib.hid hgq
    have HGR := Lib.hid hgr
    have HBL := Lib.hid hbl
    have hlw := hbl.size
    have HOK := Lib.hid (patOkS tb ct T fb cf F ob cm M n wr (HR.out.keep hbl (Nat.le_refl _)) (HF.out.keep hbl (Nat.le_refl _)) htab HVF.out hmv HN.out)
    by_cases hbad : badsM T F M n = []
    · have HBAD := Lib.hid hbad
      rw [decide_eq_true hbad] at HOK
      clear hmt hfit hgq hgr hbl hmv hml htab hbad
      go_wp2_with fail
      refine (HOK.out).mono ?_
      rintro e w3 ⟨rfl, hb3⟩
      have HB3 := Lib.hid hb3
      clear hb3
      go_wp2_with fail
      go_ret2
      exact growQ_yes (g := g) (M' := M) (by rw [← HGR.out]; exact grow_done HBAD.out) (HMT.out.below HB3.out) HMV.out (HBL.out.trans (HB3.out.mono hlw))
    · have HBAD := Lib.hid hbad
      rw [decide_eq_false hbad] at HOK
      have HST := Lib.hid (fun (V : World) (hb : Below wr.heap.size wr V) => stepS tb ct T fb cf F ob cm M n V (HR.out.keep (hbl.trans (hb.mono hlw)) (Nat.le_refl _)) (HF.out.keep (hbl.trans (hb.mono hlw)) (Nat.le_refl _)) (htab.keep hb (Nat.le_refl _)) HVF.out hmv HN.out hbad)
      clear hmt hfit hgq hgr hbl hmv hml htab hbad
      go_wp2_with fail
      refine (HOK.out).mono ?_
      rintro e w3 ⟨rfl, hb3⟩
      have HB3 := Lib.hid hb3
      clear hb3
      go_wp2_with fail
      refine (HST.out w3 HB3.out).mono ?_
      intro e w4 hsp
      cases hnx : nextM T F M n with
      | none =>
        obtain ⟨⟨a9, rfl⟩, hb4⟩ := stepQ_none hnx hsp
        have HNX := Lib.hid hnx
        have HB4 := Lib.hid ((HBL.out.trans (HB3.out.mono hlw)).trans (hb4.mono (Nat.le_trans hlw HB3.out.size)))
        clear hsp hnx hb4
        go_wp2_with fail
        go_ret2
        exact growQ_no (by rw [← HGR.out]; exact grow_none HBAD.out HNX.out) (HB4.out.alloc HB4.out.size _)
      | some M' =>
        obtain ⟨ob', c', g', rfl, hmt', hb4⟩ := stepQ_some hnx hsp
        have hnn := next_some HTV.out HFT.out hnx
        have hgn := grow_next HTV.out HFT.out HBAD.out hnx
        have hgt : openN T M' ≤ gk - 1 ∧ gk - 1 < gk := by have := HGQ.out; have := hnn.2; omega
        have HGT := Lib.hid hgt
        have HI4 := Lib.hid (show GrowL T F n w (gk - 1) (.slice (some ⟨ob', 0, none⟩) T.length c') w4 from ⟨M', ob', c', g', rfl, hmt'.mono (Nat.le_trans hlw HB3.out.size), hnn.1, hgt.1, by rw [← hgn]; exact HGR.out, (HBL.out.trans (HB3.out.mono hlw)).trans (hb4.mono (Nat.le_trans hlw HB3.out.size))⟩)
        clear hsp hnx hmt' hb4 hnn hgn hgt
        go_wp2_with fail
        go_roundg (gk - 1)
        case rel => exact HI4.out
        case measure => exact HGT.out.2

theorem growS_any (tb ct : Nat) (T : List (List Int)) (fb cf : Nat) (F : List (List Bool)) (n : Int) (w : World) (hr : Tab .i64 w (some ⟨tb, 0, none⟩) tb 0 T) (hfm : TabB w (some ⟨fb, 0, none⟩) fb 0 F) (hvf : mvB T F = true) :
    Calls Tryz.prog 100 #[.slice (some ⟨tb, 0, none⟩) T.length ct, .slice (some ⟨fb, 0, none⟩) T.length cf, .int .i64 n] w (GrowQ T F n w) := by
  cases hn : cellB n with
  | true => exact growS' tb ct T fb cf F n w hr hfm hvf hn
  | false => exact growS_f tb ct T fb cf F n w hr hfm hvf hn
end Go.Proofs.YtlmlchkolcmhpaaGreatDoor
