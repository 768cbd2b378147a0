/-
  Contracts: spec.l92Table, spec.DrawTableText: tables that are drawn.
-/
import Derived.Test.YthncpnopplhlkaaDoorBlank
import Derived.Test.YthncpnopplhlkaaDoorOwnP
import Derived.Test.YthncpnopplhlkaaDoorPickA
import Derived.Deep.DeepCutAuto
import Derived.Deep.RegionWith
import Derived.Deep.RegionHeld3
import Derived.IntWalk
namespace Go.Proofs.YthncpnopplhlkaaDoor
open Go.RowKit

/-- A table that was drawn, whatever it holds, in memory of its own. -/
def TabD (rb : Nat) (p : Int) (w : World) (e : Ending) (w' : World) : Prop :=
  ∃ (ao : Option Addr) (b cap : Nat) (T : List (List Int)) (p' : Int), e = .returned (.slice ao T.length cap) ∧ TabG (Value.int .i64) (rb + 1) w' ao b 0 T ∧ T.length ≤ cap ∧ cap ≤ 9223372036854775807 ∧ T.length ≤ 4 ∧
    (∀ i, i < T.length → (T.getD i []).length ≤ 5) ∧ IsRd w' rb p' ∧ p' ≤ p + 30 ∧ Fr rb w w'

theorem MtG.fr {α : Type} {enc : α → Value} {RT ET : TypeId} {w w' : World} {rb base : Nat} {v : Value} {T : List (List α)} {g : Nat → Nat} (h : MtG enc RT ET w base v T g) (hg : Fr rb w w') (hrb : rb < base) : MtG enc RT ET w' base v T g :=
  h.kept (row := some rb) hg (fun k e => by injection e with e; omega)
theorem MtG.drew {α : Type} {enc : α → Value} {RT ET : TypeId} {w : World} {base : Nat} {v : Value} {T : List (List α)} {g : Nat → Nat} (h : MtG enc RT ET w base v T g) : MtG enc RT ET w.drew base v T g := h.below (Below.refl _ _).drew
theorem Fr.setCell {rb : Nat} {a b : World} (h : Fr rb a b) {p : Addr} (hp : a.heap.size ≤ p.block) (u : Value) : Fr rb a (b.setCell p u) :=
  ⟨h.os, h.tape, h.output, by simpa [World.setCell] using h.size, fun i hi hne => (Below.heap_setCell _ _ _ _ (by omega)).trans (h.block i hi hne)⟩
theorem set_shape {T : List (List Int)} {hh n k j : Nat} {y : Int} (h : T.length = hh ∧ ∀ i, i < hh → (T.getD i []).length = n) (hk : k < hh) :
    (T.set k ((T.getD k []).set j y)).length = hh ∧ ∀ i, i < hh → ((T.set k ((T.getD k []).set j y)).getD i []).length = n := by
  refine ⟨by rw [List.length_set]; exact h.1, fun i hi => ?_⟩
  rw [getD_set _ _ _ _ _ (by rw [h.1]; exact hk)]
  by_cases e : i = k
  · rw [if_pos e, List.length_set]; exact h.2 k hk
  · rw [if_neg e]; exact h.2 i hi
theorem tabD_mk {rb tb hh tc B0 : Nat} {p q : Int} {w w' : World} {T : List (List Int)} (hg : TabG (Value.int .i64) B0 w' (some ⟨tb, 0, none⟩) tb 0 T) (hB : rb + 1 ≤ B0) (hl : T.length = hh) (h4 : hh ≤ 4) (hc : hh ≤ tc) (hc2 : tc ≤ 9223372036854775807)
    (hr : ∀ i, i < T.length → (T.getD i []).length ≤ 5) (hrd : IsRd w' rb q) (hq : q ≤ p + 30) (hf : Fr rb w w') : TabD rb p w (.returned (.slice (some ⟨tb, 0, none⟩) hh tc)) w' := by
  subst hl
  refine ⟨_, tb, tc, T, q, rfl, ⟨hg.1, fun i hi => ?_⟩, hc, hc2, h4, hr, hrd, hq, hf⟩
  obtain ⟨h1, a', b', o', c', h2, h3⟩ := hg.2 i hi
  exact ⟨by omega, a', b', o', c', by omega, h3⟩
theorem alloc_frozen {w : World} {b i : Nat} (h : b < w.heap.size) : ∀ o, (w.alloc o).frozen? ⟨b, i, none⟩ = w.frozen? ⟨b, i, none⟩ := fun o => World.frozen?_of_block (a := ⟨b, i, none⟩) (Below.heap_alloc w o b h)
theorem Only.size_le {rb : Nat} {w w' : World} (h : Only rb w w') : w.heap.size ≤ w'.heap.size := Nat.le_of_eq h.2.2.2.1.symm
theorem nat_of {x : Int} (h : 0 ≤ x) : ∃ n : Nat, x = n := Int.eq_ofNat_of_zero_le h

set_option maxHeartbeats 4000000 in
set_option maxRecDepth 100000 in
theorem tableD (rb : Nat) (most p : Int) (w : World) (h : IsRd w rb p) (hp : p ≤ 100000) (hm0 : 0 ≤ most) (hm : most ≤ 1000) :
    Calls Tryd.prog 39 #[.pointer (some ⟨rb, 0, none⟩), .int .i64 most] w (TabD rb p w) := by
  have HI := Lib.hid h
  have hlt0 := h.lt
  clear h
  go_enter Tryd.func39, Tryd.ntmps39
  go_wp2_with fail
  refine (pick_any rb 3 p w HI.out (by omega) (by omega)).mono ?_
  rintro e w1 ⟨k1, rfl, hk10, hk11, hrd1, ho1⟩
  have HR1 := Lib.hid hrd1
  have HF1 := Lib.hid ((Fr.refl rb w).only ho1)
  have hk12 : k1 ≤ 2 := by omega
  clear hrd1 ho1 hk11
  go_wp2_with fail
  refine (pick_any rb 3 (p + 1) w1 HR1.out (by omega) (by omega)).mono ?_
  rintro e w2 ⟨k2, rfl, hk20, hk21, hrd2, ho2⟩
  have HR2 := Lib.hid hrd2
  have HF2 := Lib.hid (HF1.out.only ho2)
  have hk22 : k2 ≤ 2 := by omega
  clear hrd2 ho2 hk21
  obtain ⟨n, hn⟩ := nat_of (show 0 ≤ 1 + k2 by omega)
  go_wp2_with fail
  refine (pick_any rb 3 (p + 1 + 1) w2 HR2.out (by omega) (by omega)).mono ?_
  rintro e w3 ⟨k3, rfl, hk30, hk31, hrd3, ho3⟩
  have HR3 := Lib.hid hrd3
  have HF3 := Lib.hid (HF2.out.only ho3)
  clear hrd3 ho3 hk31
  go_upto_if 18 with fail
  go_cut [5] (fun s wx => ∃ (hh : Nat) (q : Int), s = .int .i64 hh ∧ 1 ≤ hh ∧ hh ≤ 4 ∧ IsRd wx rb q ∧ q ≤ p + 4 ∧ Fr rb w wx)
  case first =>
    by_cases h0 : k3 = 0
    · subst h0
      go_wp2_with fail
      refine (pick_any rb 3 (p + 1 + 1 + 1) w3 HR3.out (by omega) (by omega)).mono ?_
      rintro e w4 ⟨k4, rfl, hk40, hk41, hrd4, ho4⟩
      have HR4 := Lib.hid hrd4
      have HF4 := Lib.hid (HF3.out.only ho4)
      have hk42 : k4 ≤ 2 := by omega
      clear hrd4 ho4 hk41
      obtain ⟨m, hme⟩ := nat_of (show 0 ≤ 2 + k4 by omega)
      have HME := Lib.hid hme
      have hm1 : 1 ≤ m := by omega
      have hm4 : m ≤ 4 := by omega
      clear hme hn
      go_wp2_with fail
      go_meet
      exact ⟨m, _, int_eq HME.out, hm1, hm4, HR4.out, by omega, HF4.out⟩
    · have hq : (k3 == 0) = false := by simpa using h0
      obtain ⟨m, hme⟩ := nat_of (show 0 ≤ 1 + k1 by omega)
      have HME := Lib.hid hme
      have hm1 : 1 ≤ m := by omega
      have hm4 : m ≤ 4 := by omega
      clear hme h0 hn
      go_wp2_with fail
      go_meet
      exact ⟨m, _, int_eq HME.out, hm1, hm4, HR3.out, by omega, HF3.out⟩
  case rest =>
    obtain ⟨hh, q, rfl, hh1, hh4, hrd, hq, hf⟩ := hcut
    have HR := Lib.hid hrd
    have HF := Lib.hid hf
    have hlt := hrd.lt
    have hn1 : 1 ≤ n := by omega
    have hn3 : n ≤ 3 := by omega
    clear hrd hf hn
    go_wp2_with fail
    refine (blankS hh n wc (by omega) (by omega)).mono ?_
    rintro e w5 ⟨v, g, rfl, hm5, hb5⟩
    have HM5 := Lib.hid hm5
    have HF5 := Lib.hid (HF.out.below hb5)
    have HR5 := Lib.hid (HR.out.keep hb5 hlt)
    have hs5 := hb5.size
    obtain ⟨B0, hB0⟩ : ∃ B0, wc.heap.size = B0 := ⟨_, rfl⟩
    obtain ⟨c00, -, tb, tc, hv, htb, -, htc, -, -⟩ := hm5.rowOwn (fun _ => rfl) (i := 0) (by rw [blank_len]; omega)
    rw [blank_len] at hv
    subst hv
    rw [hB0] at HM5 hs5 htb hlt
    have hB0w : w.heap.size ≤ B0 := by rw [← hB0]; exact HF.out.size
    have hrt : rb ≠ tb := by omega
    have htr : tb ≠ rb := by omega
    clear hm5 hB0 hb5
    go_wp2_with fail
    go_loopw [8] (fun i wr => ∃ (k : Nat) (T : List (List Int)) (q : Int), k ≤ hh ∧ i = .int .i64 k ∧ MtI wr B0 (.slice (some ⟨tb, 0, none⟩) hh tc) T g ∧ (T.length = hh ∧ ∀ i, i < hh → (T.getD i []).length = n) ∧ IsRd wr rb q ∧ q ≤ p + 4 + 4 * k ∧ Fr rb w wr) (fun i _ => hh - (intOf i).toNat)
    case atStart => exact ⟨0, _, _, Nat.zero_le _, rfl, HM5.out, ⟨blank_len hh n, fun i hi => blank_row hi⟩, HR5.out, by omega, HF5.out⟩
    case round =>
      clear HM5 HR5 HF5
      obtain ⟨k, T, q1, hk, rfl, hm1, hT, hr1, hq1, hf1⟩ := hrel
      have HM := Lib.hid hm1
      have HT := Lib.hid hT
      have HR := Lib.hid hr1
      have HF := Lib.hid hf1
      clear hm1 hT hr1 hf1
      by_cases hlt2 : k < hh
      · go_wp2_with fail
        go_loopw [9] (fun i wr => ∃ (j : Nat) (T : List (List Int)) (q : Int), j ≤ n ∧ i = .int .i64 j ∧ MtI wr B0 (.slice (some ⟨tb, 0, none⟩) hh tc) T g ∧ (T.length = hh ∧ ∀ i, i < hh → (T.getD i []).length = n) ∧ IsRd wr rb q ∧ q ≤ p + 4 + 4 * k + j ∧ Fr rb w wr) (fun i _ => n - (intOf i).toNat)
        case atStart => exact ⟨0, _, _, Nat.zero_le _, rfl, HM.out, HT.out, HR.out, by omega, HF.out⟩
        case round =>
          clear HM HT HR HF
          obtain ⟨j, T, q2, hj, rfl, hm1, hT, hr1, hq2, hf1⟩ := hrel
          have HM := Lib.hid hm1
          have HT := Lib.hid hT
          have HR := Lib.hid hr1
          have HF := Lib.hid hf1
          have hrlt := hr1.lt
          clear hm1 hT hr1 hf1
          by_cases hjn : j < n
          · obtain ⟨c, c1, -, c2, c3, -, htl, hkc⟩ := HM.out.at_ (i := k) (by rw [HT.out.1]; exact hlt2)
            have hlen := HT.out.2 k hlt2
            obtain ⟨x, hx⟩ : ∃ x, (T.getD k [])[j]? = some x := ⟨_, get_of (d := 0) (by rw [hlen]; exact hjn)⟩
            obtain ⟨c4, c5⟩ := HM.out.elt (i := k) (by rw [HT.out.1]; exact hlt2) hx
            have hlow := HM.out.low k (by rw [HT.out.1]; exact hlt2)
            rw [hlen] at c1 c2
            have HPUT := Lib.hid (fun (w' : World) (hm : MtI w' B0 (.slice (some ⟨tb, 0, none⟩) hh tc) T g) (y : Int) => hm.put (i := k) (j := j) (by decide) (by rw [HT.out.1]; exact hlt2) (by rw [hlen]; exact hjn) y)
            obtain ⟨gk, hgk⟩ : ∃ gk, g k = gk := ⟨_, rfl⟩
            rw [hgk] at c1 c4 c5 hlow HPUT
            have hgr : gk ≠ rb := by omega
            have hgt : Hid (hh = hh) := rfl
            clear hx hlen hgk
            have e1 : IntKind.i64.wrap (most + 1) = most + 1 := IntWalk.i64_in _ ⟨by omega, by omega⟩
            go_wp2_with fail
            go_region_with (go_at_call 47; refine (pick_any rb (most + 1) q2 wr.drew (IsRd.drew HR.out) (by omega) (by omega)).mono ?_; rintro e w' ⟨y, rfl, hy0, hy1, hrd', ho'⟩; have HO := Lib.hid ho'; have HRD := Lib.hid hrd'; have d1 := (Only.cell (b := tb) (o := k) ho' htr).trans c1; have d4 := (Only.cell (b := gk) (o := j) ho' hgr).trans c4; have d5 := (Only.frozen (b := gk) (o := j) ho' hgr).trans c5; clear hrd' ho')
            all_goals
              clear e1
              go_wp2_with fail
              go_roundw
              case rel => exact ⟨j + 1, _, q2 + 1, by omega, by go_num, HPUT.out w' (HM.out.drew.only HO.out (by omega)) y, set_shape HT.out hlt2, HRD.out.keep (B := B0) ((Below.refl B0 w').setCell (p := ⟨gk, j, none⟩) hlow _) (by omega), by omega, (HF.out.drew.only HO.out).setCell (p := ⟨gk, j, none⟩) (show w.heap.size ≤ gk by omega) _⟩
              case measure => simp [intOf]; omega
          · obtain rfl : j = n := by omega
            go_wp2_with fail
            go_roundw
            case rel => exact ⟨k + 1, T, q2, by omega, by go_num, HM.out, HT.out, HR.out, by omega, HF.out⟩
            case measure => simp [intOf]; omega
      · have hB : rb + 1 ≤ B0 := by omega
        have hlt3 := HR.out.lt
        go_wp2_with fail
        refine (pick_any rb 40 q1 wr HR.out (by omega) (by omega)).mono ?_
        rintro e w6 ⟨y, rfl, hy0, hy1, hrd6, ho6⟩
        have HR6 := Lib.hid hrd6
        have HF6 := Lib.hid (HF.out.only ho6)
        have hlt6 := hrd6.lt
        have HM6 := Lib.hid (HM.out.only ho6 (by omega))
        clear hrd6 ho6 HM HR HF
        have hT0 : 0 < T.length := by rw [HT.out.1]; omega
        have hlen0 := HT.out.2 0 (by omega)
        have HT1 := Lib.hid HT.out.1
        have HT2 := Lib.hid (show ∀ i, i < T.length → (T.getD i []).length ≤ 5 from fun i hi => by rw [HT.out.2 i (by rw [← HT.out.1]; exact hi)]; omega)
        obtain ⟨c, c1, cf, c2, c3, -, htl, hkc⟩ := HM6.out.at_ (i := 0) hT0
        rw [hlen0] at c1 c2
        have hlow := HM6.out.low 0 hT0
        have hqq : q1 + 1 + 1 ≤ p + 30 := by omega
        have HTC := Lib.hid (show hh ≤ tc ∧ tc ≤ 9223372036854775807 from by
          obtain ⟨ao9, b9, cap9, hv9, h91, h92, _⟩ := HM6.out.tabG
          rw [HT.out.1] at hv9 h91
          injection hv9 with _ _ e9
          subst e9
          exact ⟨h91, h92⟩)
        have HT3 := Lib.hid (show ∀ (y : Int) (i : Nat), i < (T.set 0 ((T.getD 0 []).set 0 y)).length → ((T.set 0 ((T.getD 0 []).set 0 y)).getD i []).length ≤ 5 from fun y i hi => by
          obtain ⟨e1, e2⟩ := set_shape (k := 0) (j := 0) (y := y) HT.out (by omega)
          rw [e1] at hi
          rw [e2 i hi]; omega)
        by_cases hy_0 : y = 0
        · subst hy_0
          obtain ⟨x, hx⟩ : ∃ x, (T.getD 0 [])[0]? = some x := ⟨_, get_of (d := 0) (by rw [hlen0]; omega)⟩
          obtain ⟨c4, c5⟩ := HM6.out.elt (i := 0) hT0 hx
          have HPUT := Lib.hid (fun (w' : World) (hm : MtI w' B0 (.slice (some ⟨tb, 0, none⟩) hh tc) T g) (y : Int) => hm.put (i := 0) (j := 0) (by decide) hT0 (by rw [hlen0]; omega) y)
          obtain ⟨gk, hgk⟩ : ∃ gk, g 0 = gk := ⟨_, rfl⟩
          rw [hgk] at c1 c4 c5 hlow HPUT
          have hgr : gk ≠ rb := by omega
          have hgl : gk < w6.heap.size := World.block_lt_of_cell? _ _ c4
          clear hx hlen0 hgk
          obtain ⟨z, ⟨hz0, hz1⟩, hpk⟩ := pick_ag rb 3 (q1 + 1) w6 HR6.out (by omega) (by omega)
          have HPK := Lib.hid hpk
          have hz012 : z = 0 ∨ z = 1 ∨ z = 2 := by omega
          have HAG := Lib.hid (show Ag rb w6 (w6.alloc (.cells #[.int .i64 (-1), .int .i64 100, .int .i64 99] 3)).drew from fun k hk => Below.heap_alloc _ _ _ (by omega))
          clear hpk hz0 hz1
          have hz0a := alloc_frozen (w := w6) (b := gk) (i := 0) hgl
          have hhi : 0 < hh := by omega
          have hni : 0 < n := by omega
          have hsr : w6.heap.size ≠ rb := by omega
          have hgn : gk ≠ w6.heap.size := by omega
          have htn : tb ≠ w6.heap.size := by omega
          rcases hz012 with rfl | rfl | rfl
          all_goals
            go_wp2_with fail
            go_region_with (go_at_call 47; (first | refine (HPK.out w6.drew (fun _ _ => rfl)).mono ?_ | refine (HPK.out (w6.alloc (.cells #[.int .i64 (-1), .int .i64 100, .int .i64 99] 3)).drew HAG.out).mono ?_); rintro e w' ⟨rfl, hrd', ho'⟩; have HO := Lib.hid ho'; have HRD := Lib.hid hrd'; have hbc := fun b o (hb : b ≠ rb) => Only.cell (b := b) (o := o) ho' hb; have hbf := fun b o (hb : b ≠ rb) => Only.frozen (b := b) (o := o) ho' hb; have hws := ho'.2.2.2.1; clear hrd' ho')
            all_goals
              clear hbc hbf hws hz0a hgn htn
              go_wp2_with fail
              go_ret
              first
                | exact tabD_mk (HPUT.out w' ((HM6.out.below ((Below.refl _ _).alloc (Nat.le_refl _) (.cells #[.int .i64 (-1), .int .i64 100, .int .i64 99] 3))).drew.only HO.out (by omega)) _).tabT hB (by rw [List.length_set]; exact HT1.out) hh4 HTC.out.1 HTC.out.2 (HT3.out _) (HRD.out.keep (B := B0) ((Below.refl B0 _).setCell (p := ⟨gk, 0, none⟩) hlow _) (by omega)) hqq (((HF6.out.alloc _).drew.only HO.out).setCell (p := ⟨gk, 0, none⟩) (show w.heap.size ≤ gk by omega) _)
                | exact tabD_mk ((HPUT.out w' (HM6.out.drew.only HO.out (by omega)) _).below ((Below.refl _ _).alloc (Nat.le_refl _) (.cells #[.int .i64 (-1), .int .i64 100, .int .i64 99] 3))).tabT hB (by rw [List.length_set]; exact HT1.out) hh4 HTC.out.1 HTC.out.2 (HT3.out _) ((HRD.out.keep (B := B0) ((Below.refl B0 _).setCell (p := ⟨gk, 0, none⟩) hlow _) (by omega)).alloc _) hqq (((HF6.out.drew.only HO.out).setCell (p := ⟨gk, 0, none⟩) (show w.heap.size ≤ gk by omega) _).alloc _)
        · have hq0 : (y == 0) = false := by simpa using hy_0
          by_cases hy_1 : y = 1
          · subst hy_1
            obtain ⟨c0, hown, b0, cap0, hv0, -, -, hic, hcell0, hfz0⟩ := HM6.out.rowOwn (fun _ => rfl) hT0
            injection hv0 with e1 e2 e3
            injection e1 with e1
            injection e1 with e1
            subst e1
            have hne0 := HM6.out.tb_ne (by decide) hT0
            have hm6 := HM6.out
            rw [← HT.out.1] at hm6
            have HGR := Lib.hid (fun (u : Value) (w2 : World) => hm6.grow1 (w2 := w2) (c := c0) (u := u) (x := 1) (by decide) hT0)
            have HT4 := Lib.hid (show ∀ i, i < (T.set 0 (T.getD 0 [] ++ [1])).length → ((T.set 0 (T.getD 0 [] ++ [1])).getD i []).length ≤ 5 from fun i hi => by
              rw [List.length_set] at hi
              rw [getD_set _ _ _ _ _ hT0]
              by_cases e : i = 0
              · rw [if_pos e, List.length_append, hlen0]; simp; omega
              · rw [if_neg e]; exact HT2.out i hi)
            rw [hlen0] at hcell0 hown HGR
            obtain ⟨r0, hr0⟩ : ∃ r0, T.getD 0 [] = r0 := ⟨_, rfl⟩
            rw [hr0] at hown HGR HT4
            have HR0 := Lib.hid hr0
            obtain ⟨g0, hg0⟩ : ∃ g0, g 0 = g0 := ⟨_, rfl⟩
            rw [hg0] at hcell0 hown HGR hne0 hlow
            have HOWN := Lib.hid hown
            have hhi : 0 < hh := by omega
            have hgl : g0 < w6.heap.size := (World.ownsRow.lt hown g0 rfl).2
            have hB6 : B0 ≤ w6.heap.size := by omega
            clear hm6 hown hg0 e2 e3 c1 cf hlen0 hy_0 hr0
            go_wp2_with (at_builtin; refine wpList_app eltI rfl (.tmp 63) (.tmp 64) rfl B0 _ _ _ rfl HOWN.out [.int .i64 1] rfl (by intro u hu; simp at hu; subst hu; rfl) rfl rfl (by omega) hB6 ?_)
            intro v' w7 ho7 hb7 hg7
            have hbc : w7.cell? ⟨tb, 0, none⟩ = w6.cell? ⟨tb, 0, none⟩ := World.cell?_of_block (hg7.block tb htl (fun e => hne0 (by injection e)))
            have hbf : w7.frozen? ⟨tb, 0, none⟩ = w6.frozen? ⟨tb, 0, none⟩ := World.frozen?_of_block (hg7.block tb htl (fun e => hne0 (by injection e)))
            rw [hcell0] at hbc
            rw [hfz0] at hbf
            have HG7 := Lib.hid (HGR.out v' w7 ho7 hg7)
            obtain ⟨ao3, b3, cap3, hv3, -, -, -, -⟩ := orow_cells ho7
            have HB7 := Lib.hid hb7
            clear ho7 hg7 hb7
            subst hv3
            go_wp2_with fail
            go_ret
            exact tabD_mk HG7.out hB (by rw [List.length_set]; exact HT1.out) hh4 HTC.out.1 HTC.out.2 HT4.out (HR6.out.keep (B := B0) (HB7.out.setCell (p := ⟨tb, 0, none⟩) (by omega) _) (by omega)) (by omega) (HF6.out.base ((HB7.out.setCell (p := ⟨tb, 0, none⟩) (by omega) _).mono hB0w))
          · have hq1 : (y == 1) = false := by simpa using hy_1
            by_cases hy_2 : y = 2
            · subst hy_2
              clear hy_0 hy_1 hq0 hq1 hlen0 c1 cf
              go_wp2_with fail
              go_ret
              exact ⟨_, w6.heap.size, 0, [], q1 + 1, rfl, ⟨fun h => absurd h (by simp), fun i hi => absurd hi (by simp)⟩, Nat.zero_le _, by omega, Nat.zero_le _, fun i hi => absurd hi (by simp), HR6.out.alloc _, by omega, HF6.out.alloc _⟩
            · have hq2 : (y == 2) = false := by simpa using hy_2
              clear hy_0 hy_1 hy_2 hlen0 c1 cf
              go_wp2_with fail
              go_ret
              exact tabD_mk HM6.out.tabT hB HT1.out hh4 HTC.out.1 HTC.out.2 HT2.out HR6.out (by omega) HF6.out
end Go.Proofs.YthncpnopplhlkaaDoor
