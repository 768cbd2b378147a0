/-
  Contracts: spec.DrawMaskValid, spec.DrawMaskText.
-/
import Derived.Test.YtgnmfbgoacfjeaaDoorDrawMask
namespace Go.Proofs.YtgnmfbgoacfjeaaDoor
open Go.RowKit

/-- A drawn table and a drawn mask, the reader forgotten. -/
def MaskW (w : World) (e : Ending) (w' : World) : Prop :=
  ∃ (ao : Option Addr) (b cap : Nat) (T : List (List Int)) (am : Option Addr) (bm cm : Nat) (M : List (List Bool)),
    e = .returned (.tuple #[.slice ao T.length cap, .slice am M.length cm]) ∧ (TabG (Value.int .i64) 0 w' ao b 0 T ∧ T.length ≤ cap ∧ cap ≤ 9223372036854775807 ∧ T.length ≤ 4 ∧
    (∀ i, i < T.length → (T.getD i []).length ≤ 5)) ∧ (TabG Value.bool 0 w' am bm 0 M ∧ M.length ≤ cm ∧ cm ≤ 9223372036854775807 ∧ M.length ≤ 5 ∧ ∀ i, i < M.length → (M.getD i []).length ≤ 6) ∧ Below w.heap.size w w'
theorem maskW_mk {w w' : World} {ao am : Option Addr} {b cap B bm cm hh n : Nat} {T : List (List Int)} {M : List (List Bool)} (ht : TabG (Value.int .i64) B w' ao b 0 T) (h1 : T.length ≤ cap) (h2 : cap ≤ 9223372036854775807) (h3 : T.length ≤ 4)
    (h4 : ∀ i, i < T.length → (T.getD i []).length ≤ 5) {B2 : Nat} (hm : TabG Value.bool B2 w' am bm 0 M) (hn : M.length = n) (k1 : M.length ≤ cm) (k2 : cm ≤ 9223372036854775807) (k3 : M.length ≤ 5) (k4 : ∀ i, i < M.length → (M.getD i []).length ≤ 6)
    (hb : Below w.heap.size w w') (hh1 : T.length = hh) : MaskW w (.returned (.tuple #[.slice ao hh cap, .slice am n cm])) w' := by
  subst hn
  subst hh1
  exact ⟨ao, b, cap, T, am, bm, cm, M, rfl, ⟨ht.low, h1, h2, h3, h4⟩, ⟨hm.low, k1, k2, k3, k4⟩, hb⟩

set_option maxHeartbeats 2000000 in
theorem drawMV (ao : Option Addr) (b off cap : Nat) (cs : List Int) (w : World) (hr : Row .u8 w ao b off cs) (hl : cs.length ≤ cap ∧ cap ≤ 9223372036854775807) (hw : ∀ i, i < cs.length → (Lit.int .u8 (cs.getD i 0)).wf = true) :
    Calls Tryd.prog 49 #[.slice ao cs.length cap] w (MaskW w) := by
  have HO := Lib.hid (open_any ao b off cap cs w hr hl.1 hw hl.2)
  clear hr hw
  go_enter Tryd.func49, Tryd.ntmps49
  go_wp2_with fail
  refine (HO.out).mono ?_
  rintro e w1 ⟨rfl, hb1, hrd1, hs1⟩
  have HB1 := Lib.hid hb1
  have HR1 := Lib.hid hrd1
  have HS1 := Lib.hid hs1
  have hlt1 := hrd1.lt
  clear hb1 hrd1 hs1
  go_wp2_with fail
  refine (tableD w.heap.size 9 0 w1 HR1.out (by omega) (by omega) (by omega)).mono ?_
  rintro e w2 ⟨a2, b2, c2, T, p2, rfl, ht, h1, h2, h3, h4, h5, h6, h7⟩
  have HT := Lib.hid ht
  have H4 := Lib.hid h4
  have HR2 := Lib.hid h5
  have HF2 := Lib.hid h7
  have hlt2 := h5.lt
  clear ht h4 h5 h7
  go_wp2_with fail
  refine (maskD w.heap.size p2 w2 a2 b2 0 c2 T HR2.out (by omega) HT.out h3 H4.out).mono ?_
  rintro e w3 ⟨v, M, g, p3, rfl, hm3, k1, k2, k3, k4, k5⟩
  have HM3 := Lib.hid hm3
  have HK2 := Lib.hid k2
  have HR3 := Lib.hid k3
  have HF3 := Lib.hid k5
  have hs23 := k5.size
  have HFIN := Lib.hid (fun (w' : World) (hf : Fr w.heap.size w2 w') => HB1.out.trans ((HF2.out.trans hf).toBelow (Nat.le_refl _) (by rw [HS1.out]; omega)))
  have HTAB := Lib.hid (fun (w' : World) (hf : Fr w.heap.size w2 w') => HT.out.kept hf (fun k e => by injection e with e; omega))
  have HK6 := Lib.hid (show ∀ i, i < M.length → (M.getD i []).length ≤ 6 from fun i hi => Nat.le_trans (k2 i hi) (by omega))
  obtain ⟨am, bm, cm, hv, g1, g2, g3, g4⟩ := hm3.cells
  have hG := hm3.tabG
  subst hv
  obtain ⟨am', bm', cm', hv', -, -, htg⟩ := hG
  injection hv' with e1 e2 e3
  subst e1
  subst e3
  have HG := Lib.hid htg
  clear hm3 k2 k3 k5 g4 htg e2
  by_cases hM : M.length = 0
  · have hM0 : ¬ 0 < M.length := by omega
    have HM := Lib.hid hM
    clear hM g3
    go_wp2_with fail
    go_ret2
    exact maskW_mk (HTAB.out _ HF3.out) h1 h2 h3 H4.out HG.out rfl g1 g2 k1 HK6.out (HFIN.out _ HF3.out) rfl
  · have hM0 : 0 < M.length := by omega
    obtain ⟨rfl, hbm, hbm2⟩ := g3 hM0
    clear hM g3
    go_wp2_with fail
    refine (pick_any w.heap.size 8 p3 w3 HR3.out (by omega) (by omega)).mono ?_
    rintro e w4 ⟨y, rfl, hy0, hy1, hrd4, ho4⟩
    have HR4 := Lib.hid hrd4
    have HF4 := Lib.hid (HF3.out.only ho4)
    have HM4 := Lib.hid (HM3.out.only ho4 hlt2)
    have HG4 := Lib.hid (HM4.out.tabT)
    have hs4 : w2.heap.size ≤ w4.heap.size := HF4.out.size
    clear hrd4 ho4 hy1
    by_cases hy : y = 0
    · subst hy
      obtain ⟨c0, hown, b0, cap0, hv0, -, -, hic, hcell0, hfz0⟩ := HM4.out.rowOwn (fun _ => rfl) hM0
      injection hv0 with e1 e2 e3
      injection e1 with e1
      injection e1 with e1
      subst e1
      subst e3
      have hne0 := HM4.out.tb_ne (by decide) hM0
      have HGR := Lib.hid (fun (u : Value) (w5 : World) => HM4.out.grow1 (w2 := w5) (c := c0) (u := u) (x := false) (by decide) hM0)
      have hr5 := HK2.out 0 hM0
      have HT4 := Lib.hid (show ∀ i, i < (M.set 0 (M.getD 0 [] ++ [false])).length → ((M.set 0 (M.getD 0 [] ++ [false])).getD i []).length ≤ 6 from fun i hi => by
        rw [List.length_set] at hi
        rw [getD_set _ _ _ _ _ hM0]
        by_cases e : i = 0
        · rw [if_pos e, List.length_append]; show (M.getD 0 []).length + 1 ≤ 6; omega
        · rw [if_neg e]; exact HK6.out i hi)
      obtain ⟨r0, hr0⟩ : ∃ r0, M.getD 0 [] = r0 := ⟨_, rfl⟩
      rw [hr0] at hown HGR HT4 hr5 hcell0
      have HR0 := Lib.hid hr0
      have hgl := HM4.out.lt hM0
      obtain ⟨g0, hg0⟩ : ∃ g0, g 0 = g0 := ⟨_, rfl⟩
      rw [hg0] at hcell0 hown HGR hne0 hgl
      have HOWN := Lib.hid hown
      have htl : bm < w4.heap.size := World.block_lt_of_cell? _ _ hcell0
      clear hown hg0 e2 hr0
      go_wp2_with (at_builtin; refine wpList_app eltB rfl (.tmp 25) (.tmp 26) rfl w2.heap.size _ _ _ rfl HOWN.out [.bool false] rfl (by intro u hu; simp at hu; subst hu; rfl) rfl rfl (by omega) hs4 ?_)
      intro v' w7 ho7 hb7 hg7
      have hbc : w7.cell? ⟨bm, 0, none⟩ = w4.cell? ⟨bm, 0, none⟩ := World.cell?_of_block (hg7.block bm htl (fun e => hne0 (by injection e)))
      have hbf : w7.frozen? ⟨bm, 0, none⟩ = w4.frozen? ⟨bm, 0, none⟩ := World.frozen?_of_block (hg7.block bm htl (fun e => hne0 (by injection e)))
      rw [hcell0] at hbc
      rw [hfz0] at hbf
      have HG7 := Lib.hid (HGR.out v' w7 ho7 hg7)
      obtain ⟨ao3, b3, cap3, hv3, -, -, -, -⟩ := orow_cells ho7
      have HF7 := Lib.hid (HF4.out.base hb7)
      clear ho7 hg7 hb7
      subst hv3
      go_wp2_with fail
      go_ret2
      exact maskW_mk (HTAB.out _ (HF7.out.setCell (p := ⟨bm, 0, none⟩) hbm _)) h1 h2 h3 H4.out HG7.out (by rw [List.length_set]) (by rw [List.length_set]; exact g1) g2 (by rw [List.length_set]; exact k1) HT4.out (HFIN.out _ (HF7.out.setCell (p := ⟨bm, 0, none⟩) hbm _)) rfl
    · have hq0 : (y == 0) = false := by simpa using hy
      clear hy
      go_wp2_with fail
      go_ret2
      exact maskW_mk (HTAB.out _ HF4.out) h1 h2 h3 H4.out HG4.out rfl g1 g2 k1 HK6.out (HFIN.out _ HF4.out) rfl

set_option maxHeartbeats 400000 in
theorem drawMaskT (ao : Option Addr) (b off cap : Nat) (cs : List Int) (w : World) (hr : Row .u8 w ao b off cs) (hl : cs.length ≤ cap ∧ cap ≤ 9223372036854775807) (hw : ∀ i, i < cs.length → (Lit.int .u8 (cs.getD i 0)).wf = true) :
    Calls Tryd.prog 24 #[.slice ao cs.length cap] w (MaskW w) := by
  have HO := Lib.hid (drawMV ao b off cap cs w hr hl hw)
  clear hr hw
  go_enter Tryd.func24, Tryd.ntmps24
  go_wp2_with fail
  refine (HO.out).mono ?_
  rintro e w1 ⟨a1, b1, c1, T, am, bm, cm, M, rfl, h1, h2, h3⟩
  have H1 := Lib.hid h1
  have H2 := Lib.hid h2
  have H3 := Lib.hid h3
  clear h1 h2 h3
  go_wp2_with fail
  go_ret2
  exact ⟨a1, b1, c1, T, am, bm, cm, M, rfl, H1.out, H2.out, H3.out⟩
end Go.Proofs.YtgnmfbgoacfjeaaDoor
