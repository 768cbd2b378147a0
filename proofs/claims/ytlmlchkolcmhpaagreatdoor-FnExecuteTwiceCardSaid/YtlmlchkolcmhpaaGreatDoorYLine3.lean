/-
  Contract: a line of a script of kind 3.
-/
import Derived.Test.YtlmlchkolcmhpaaGreatDoorJ3
import Derived.Test.YtlmlchkolcmhpaaGreatDoorJ6
import Derived.Test.YtlmlchkolcmhpaaGreatDoorJ7
import Derived.Test.YtlmlchkolcmhpaaGreatDoorJ4
import Derived.IntWalk
import Derived.Carry
namespace Go.Proofs.YtlmlchkolcmhpaaGreatDoor
open Go.RowKit Go.Maps Go.WideShapes
open Go.TextMath (tvB mvB text word)
attribute [local go_sem] run_makeMap

set_option maxRecDepth 100000 in
set_option maxHeartbeats 4000000 in
theorem line3 : LineC 3 := by
  intro blk L sb scap ss w hsc hv hrow hl1 hl2 hsz _ _ hlib hkind
  obtain ⟨hk0, hkn⟩ := kind_3 hkind
  rw [wsL_len] at hkn
  rw [wsL_at ss (by omega)] at hk0
  have HX0 := Lib.hid (word_is hk0)
  have HK := Lib.hid hkind
  have HV := Lib.hid hv
  have HSC := Lib.hid hsc
  have HROW := Lib.hid hrow
  have HLIB := Lib.hid hlib
  have HSZ := Lib.hid hsz
  have HSN := Lib.hid hkn
  have h0 := hrow.2 0 (by omega)
  rw [HX0.out] at h0
  rw [Nat.zero_add] at h0
  have h40 := (ppl_t.1 hv).1
  obtain ⟨ao, b, cap, hbox, hppl, hc1, hc2, hne, hnn⟩ := hsc.ppl
  have HBOX := Lib.hid hbox
  have HPPL := Lib.hid hppl
  have HNE := Lib.hid hne
  have hblk := hbox.lt
  have hsb : sb < w.heap.size := World.block_lt_of_cell? _ _ h0
  rw [hkn] at hl1 ⊢
  have h0' : w.cell? ⟨sb, 0, none⟩ = some (.string ⟨#[99, 111, 117, 110, 116]⟩) := h0
  clear hk0 hkind hv hbox hppl hne hrow hlib hsz hkn h0
  go_enter Tryz.func19, Tryz.ntmps19
  have HM0 := Lib.hid (MapS.start w)
  go_wp2_with (refine ins_step w _ _ _ HM0.out rfl _ _ _ rfl rfl ⟨#[112, 101, 114, 115, 111, 110]⟩ rfl (by decide) 4 rfl (by decide) (by decide) ?_)
  intro W1 hm1
  have HM1 := Lib.hid hm1
  clear hm1 HM0
  go_wp2_with (refine ins_step w _ _ _ HM1.out rfl _ _ _ rfl rfl ⟨#[100, 114, 111, 112]⟩ rfl (by decide) 1 rfl (by decide) (by decide) ?_)
  intro W2 hm2
  have HM2 := Lib.hid hm2
  clear hm2 HM1
  go_wp2_with (refine ins_step w _ _ _ HM2.out rfl _ _ _ rfl rfl ⟨#[99, 111, 117, 110, 116]⟩ rfl (by decide) 3 rfl (by decide) (by decide) ?_)
  intro W3 hm3
  have HM3 := Lib.hid hm3
  clear hm3 HM2
  go_wp2_with (refine ins_step w _ _ _ HM3.out rfl _ _ _ rfl rfl ⟨#[116, 97, 98, 108, 101]⟩ rfl (by decide) 0 rfl (by decide) (by decide) ?_)
  intro W4 hm4
  have HM4 := Lib.hid hm4
  clear hm4 HM3
  go_wp2_with (refine ins_step w _ _ _ HM4.out rfl _ _ _ rfl rfl ⟨#[115, 109, 97, 108, 108]⟩ rfl (by decide) 1 rfl (by decide) (by decide) ?_)
  intro W5 hm5
  have HM5 := Lib.hid hm5
  clear hm5 HM4
  go_wp2_with (refine ins_step w _ _ _ HM5.out rfl _ _ _ rfl rfl ⟨#[103, 114, 111, 119]⟩ rfl (by decide) 2 rfl (by decide) (by decide) ?_)
  intro W6 hm6
  have HM6 := Lib.hid hm6
  clear hm6 HM5
  go_wp2_with (refine ins_step w _ _ _ HM6.out rfl _ _ _ rfl rfl ⟨#[114, 111, 117, 110, 100]⟩ rfl (by decide) 1 rfl (by decide) (by decide) ?_)
  intro W7 hm7
  have HM7 := Lib.hid hm7
  clear hm7 HM6
  go_wp2_with (refine ins_step w _ _ _ HM7.out rfl _ _ _ rfl rfl ⟨#[103, 114, 111, 117, 112, 115]⟩ rfl (by decide) 0 rfl (by decide) (by decide) ?_)
  intro W8 hm8
  have HM8 := Lib.hid hm8
  clear hm8 HM7
  have h08 := (HM8.out.2.cell (p := ⟨sb, 0, none⟩) hsb).trans h0'
  have HB8 := Lib.hid HM8.out.2
  go_wp2_with (at_lookup; refine look_step w _ HM8.out rfl _ _ rfl rfl ⟨#[99, 111, 117, 110, 116]⟩ rfl (by decide) 3 true (by decide) (by decide) ?_)
  all_goals try go_wp2_with fail
  go_loopw [9, 45] (fun v i wr => ∃ j : Nat, j ≤ 3 ∧ i = .int .i64 j ∧ Own wr w.heap.size v ((numsB ss).take j) ∧ Below w.heap.size w wr) (fun _ i _ => 3 - (intOf i).toNat)
  case atStart => exact ⟨0, Nat.zero_le _, rfl, by rw [List.take_zero]; exact Own.nil _ _, HB8.out⟩
  case round =>
    obtain ⟨j, hj, rfl, ho, hb⟩ := hrel
    have HO := Lib.hid ho
    have HB := Lib.hid hb
    have hsw := hb.size
    by_cases hjm : j < 3
    · have hcj : wr.cell? ⟨sb, 1 + j, none⟩ = some (.string (ss.getD (1 + j) ⟨#[]⟩)) := (hb.cell (p := ⟨sb, 1 + j, none⟩) hsb).trans (by have := HROW.out.2 (1 + j) (by rw [HSN.out]; omega); rwa [Nat.zero_add] at this)
      obtain ⟨x, hx⟩ : ∃ x, ss.getD (1 + j) ⟨#[]⟩ = x := ⟨_, rfl⟩
      rw [hx] at hcj
      have hxs : x.size ≤ 500 := by rw [← hx, List.getD_eq_getElem?_getD, List.getElem?_eq_getElem (by rw [HSN.out]; omega), Option.getD_some]; exact HSZ.out _ (List.getElem_mem _)
      have HTK := Lib.hid (nums_take (xs := numsB ss) (k := j) (by rw [numsB_len, HSN.out]; omega))
      rw [numsB_at ss (by rw [HSN.out]; omega), Nat.add_comm j 1, hx, Nat.add_comm 1 j] at HTK
      have HTL := Lib.hid (show ((numsB ss).take j).length = j by rw [List.length_take, numsB_len, HSN.out]; omega)
      have hji : (j : Int) < 3 := by omega
      obtain ⟨zs, hzs⟩ : ∃ zs, (numsB ss).take j = zs := ⟨_, rfl⟩
      rw [hzs] at HO HTK HTL
      clear ho hb hx hzs
      go_wp2_with fail
      refine (scrI x (by omega) wr).mono ?_
      rintro e w1 ⟨rfl, hb1⟩
      have HB1 := Lib.hid hb1
      have HO1 := Lib.hid (HO.out.below hb1)
      have hs1 := hb1.size
      have hj9 : Hid (zs.length ≤ 1000000000) := Lib.hid (by rw [HTL.out]; omega)
      clear hb1
      go_wp2_with (at_builtin; refine wpList_app eltI rfl (.tmp 49) (.tmp 52) rfl w.heap.size _ _ _ rfl HO1.out [.int .i64 (scrN x.data.toList)] rfl (by intro u hu; simp at hu; subst hu; rfl) rfl rfl hj9.out (by omega) ?_)
      intro v' w2 ho2 hb2 _
      have HO2 := Lib.hid (show Own w2 w.heap.size v' ((numsB ss).take (j + 1)) by
        rw [HTK.out]
        unfold Own
        rw [List.length_append, List.length_singleton, List.map_append, List.map_singleton]
        exact ho2)
      have HB2 := Lib.hid ((HB.out.trans (HB1.out.mono hsw)).trans hb2)
      clear ho2 hb2
      go_wp2_with fail
      go_roundw
      case rel => exact ⟨j + 1, by omega, by go_num, HO2.out, HB2.out⟩
      case measure => simp [intOf]; omega
    · obtain rfl : j = 3 := by omega
      rw [List.take_of_length_le (by have h := numsB_len ss; rw [HSN.out] at h; omega)] at ho
      obtain ⟨an, bn, cn, hvn, hn1, hn2, hnr, -⟩ := ho.row
      have hnl : (numsB ss).length = 3 := by rw [numsB_len, HSN.out]
      rw [hnl] at hvn hn1
      subst hvn
      have HNR := Lib.hid hnr
      have HNL := Lib.hid hnl
      have hbc := (boxed_bel HBOX.out hb hblk).cell
      have hp1 := HPPL.out.keep hb (Nat.le_refl _)
      clear ho hnr hnl HO
      go_wp2_with fail
      refine (tableOfI ao b 0 cap L wr hp1 HV.out).mono ?_
      rintro e w3 ⟨vt, gt, rfl, hmt, hb3⟩
      have HB3 := Lib.hid (HB.out.trans (hb3.mono hsw))
      have HNR3 := Lib.hid (HNR.out.keep hb3 (Nat.le_refl _))
      have HMT := Lib.hid (hmt.mono hsw)
      obtain ⟨at3, bt3, ct3, rfl, ht1, ht2, htab⟩ := hmt.tab
      have HTAB := Lib.hid htab
      have HTT := Lib.hid (tabO_tv HV.out)
      have hn40 : (numsB ss).length ≤ 4 := by rw [HNL.out]; decide
      have h03 := (HB3.out.cell (p := ⟨sb, 0, none⟩) hsb).trans h0'
      have hbc3 := (boxed_bel HBOX.out HB3.out hblk).cell
      have HSC3 := Lib.hid (HSC.out.keep HB3.out)
      have HLIB3 := Lib.hid (HLIB.out.keep HB3.out (Nat.le_refl _))
      have HPPL3 := Lib.hid (HPPL.out.keep HB3.out (Nat.le_refl _))
      have hs3 := HB3.out.size
      clear hb hb3 hmt htab hp1 hbc
      obtain ⟨y0, y1, y2, hy⟩ : ∃ y0 y1 y2, numsB ss = [y0, y1, y2] := three HNL.out
      have HNM := Lib.hid (show numsM (wsL ss) = [y0, y1, y2] by rw [numsB_eq, hy])
      have n0 := HNR3.out.2 0 (by rw [HNL.out]; decide)
      have n1 := HNR3.out.2 1 (by rw [HNL.out]; decide)
      have n2 := HNR3.out.2 2 (by rw [HNL.out]; decide)
      obtain rfl := HNR3.out.1 (by rw [HNL.out]; decide)
      rw [hy] at n0 n1 n2
      simp only [List.getD_cons_zero, List.getD_cons_succ, Nat.zero_add] at n0 n1 n2
      clear hy
      have htl := tabO_len L
      rw [htl] at ht1 ⊢
      clear htl
      have hbn := World.block_lt_of_cell? _ _ n0
      simp only at hbn
      have HMI := Lib.hid (fun W h => manyI ao b 0 cap L y0 y1 y2 W h HV.out)
      have HPI := Lib.hid (fun W h => payI ao b 0 cap L y0 y1 y2 W h HV.out)
      have HCN : Hid (∃ m p : Int, manyP L y0 y1 y2 = m ∧ payP L y0 y1 y2 = p ∧ ((askB y0 y1 y2 = false ∧ m = -1 ∧ p = -1) ∨ (askB y0 y1 y2 = true ∧ 0 ≤ m ∧ m ≤ 40 ∧ 0 ≤ p ∧ p ≤ 40000))) := by
        refine ⟨_, _, rfl, rfl, ?_⟩
        cases ha : askB y0 y1 y2 with
        | false => exact .inl ⟨rfl, by unfold manyP; rw [ha, Bool.and_false]; rfl, by unfold payP; rw [ha, Bool.and_false]; rfl⟩
        | true =>
          have h1 := many_le HV.out ha
          have h2 := pay_le HV.out ha
          exact .inr ⟨rfl, h1.1, h1.2, h2.1, h2.2⟩
      obtain ⟨m, p, hm, hp, hcase⟩ := HCN.out
      have HMP := Lib.hid (And.intro hm hp)
      rw [hm] at HMI
      rw [hp] at HPI
      clear hm hp HCN
      go_wp2_with fail
      go_still_tail 13, (by kernel_rfl)
      have hd := (Below.refl w3.heap.size w3).drew
      change wpList _ _ _ _ _ w3.drew
      obtain ⟨Wd, hWd⟩ : ∃ Wd, w3.drew = Wd := ⟨_, rfl⟩
      rw [hWd] at hd ⊢
      have HD := Lib.hid hd
      clear hWd hd
      go_wp2_with fail
      refine (HMI.out _ (HPPL3.out.keep HD.out (Nat.le_refl _))).mono ?_
      rintro e w4 ⟨rfl, hb4⟩
      have HOK4 := Lib.hid (HD.out.trans (hb4.mono HD.out.size))
      have hbc4 := (HOK4.out.cell (p := ⟨blk, 0, none⟩) (Nat.lt_of_lt_of_le hblk hs3)).trans hbc3
      have n04 := (HOK4.out.cell (p := ⟨bn, 0, none⟩) hbn).trans n0
      have n14 := (HOK4.out.cell (p := ⟨bn, 1, none⟩) hbn).trans n1
      have n24 := (HOK4.out.cell (p := ⟨bn, 2, none⟩) hbn).trans n2
      clear hb4 hbc3 n0 n1 n2 HD
      go_wp2_with fail
      rcases hcase with ⟨ha, rfl, rfl⟩ | ⟨ha, hm0, hm1, hp0, hp1⟩
      · have HA := Lib.hid ha
        clear ha
        have KS := Lib.hid (fun (W' : World) (hW : Below w4.heap.size w4 W') => (show W'.cell? ⟨blk, 0, none⟩ = some (.slice ao L.length cap) ∧ W'.cell? ⟨bn, 0, none⟩ = some (.int .i64 y0) ∧ W'.cell? ⟨bn, 1, none⟩ = some (.int .i64 y1) ∧ W'.cell? ⟨bn, 2, none⟩ = some (.int .i64 y2) from ⟨(hW.cell (p := ⟨blk, 0, none⟩) (Nat.lt_of_lt_of_le (Nat.lt_of_lt_of_le hblk hs3) HOK4.out.size)).trans hbc4, (hW.cell (p := ⟨bn, 0, none⟩) (Nat.lt_of_lt_of_le hbn HOK4.out.size)).trans n04, (hW.cell (p := ⟨bn, 1, none⟩) (Nat.lt_of_lt_of_le hbn HOK4.out.size)).trans n14, (hW.cell (p := ⟨bn, 2, none⟩) (Nat.lt_of_lt_of_le hbn HOK4.out.size)).trans n24⟩))
        refine wp_region_held (S := (fun V => V.cell? ⟨blk, 0, none⟩ = some (.slice ao L.length cap) ∧ V.cell? ⟨bn, 0, none⟩ = some (.int .i64 y0) ∧ V.cell? ⟨bn, 1, none⟩ = some (.int .i64 y1) ∧ V.cell? ⟨bn, 2, none⟩ = some (.int .i64 y2))) (by kernel_rfl) ?_
        change wpAnyH _ _ _ _ _ _ _ _ w4.drew
        have hS0 : w4.drew.cell? ⟨blk, 0, none⟩ = some (.slice ao L.length cap) ∧ w4.drew.cell? ⟨bn, 0, none⟩ = some (.int .i64 y0) ∧ w4.drew.cell? ⟨bn, 1, none⟩ = some (.int .i64 y1) ∧ w4.drew.cell? ⟨bn, 2, none⟩ = some (.int .i64 y2) := ⟨hbc4, n04, n14, n24⟩
        have hd := (Below.refl w4.heap.size w4).drew
        obtain ⟨Wd, hWd⟩ : ∃ Wd, w4.drew = Wd := ⟨_, rfl⟩
        rw [hWd] at hS0 hd ⊢
        have HD := Lib.hid hd
        clear hWd hd
        refine wpAnyH_take (i := 0) (v := .int .i64 (-1)) rfl (by kernel_rfl) (by kernel_rfl) (by kernel_rfl) (fun _ _ _ h => h) (Or.inl ⟨by kernel_rfl, fun V hV => ?_⟩) hS0 ?_
        · obtain ⟨q0, q1, q2, q3⟩ := hV
          go_simp
        simp only [Act.put, List.setIfInBounds_toArray, List.set_cons_zero, List.set_cons_succ]
        refine wpAnyH_take (i := 1) (v := .pointer (some ⟨blk, 0, none⟩)) rfl (by kernel_rfl) (by kernel_rfl) (by kernel_rfl) (fun _ _ _ h => h) (Or.inl ⟨by kernel_rfl, fun V hV => ?_⟩) hS0 ?_
        · obtain ⟨q0, q1, q2, q3⟩ := hV
          go_simp
        simp only [Act.put, List.setIfInBounds_toArray, List.set_cons_zero, List.set_cons_succ]
        refine wpAnyH_take (i := 2) (v := .pointer (some ⟨blk, 0, none⟩)) rfl (by kernel_rfl) (by kernel_rfl) (by kernel_rfl) (fun _ _ _ h => h) (Or.inl ⟨by kernel_rfl, fun V hV => ?_⟩) hS0 ?_
        · obtain ⟨q0, q1, q2, q3⟩ := hV
          go_simp
        simp only [Act.put, List.setIfInBounds_toArray, List.set_cons_zero, List.set_cons_succ]
        refine wpAnyH_take (i := 3) (v := .pointer (some ⟨blk, 0, none⟩)) rfl (by kernel_rfl) (by kernel_rfl) (by kernel_rfl) (fun _ _ _ h => h) (Or.inl ⟨by kernel_rfl, fun V hV => ?_⟩) hS0 ?_
        · obtain ⟨q0, q1, q2, q3⟩ := hV
          go_simp
        simp only [Act.put, List.setIfInBounds_toArray, List.set_cons_zero, List.set_cons_succ]
        refine wpAnyH_take (i := 4) (v := .slice ao L.length cap) rfl (by kernel_rfl) (by kernel_rfl) (by kernel_rfl) (fun _ _ _ h => h) (Or.inl ⟨by kernel_rfl, fun V hV => ?_⟩) hS0 ?_
        · obtain ⟨q0, q1, q2, q3⟩ := hV
          go_simp
        simp only [Act.put, List.setIfInBounds_toArray, List.set_cons_zero, List.set_cons_succ]
        refine wpAnyH_take (i := 5) (v := .slice (some ⟨bn, 0, none⟩) 3 cn) rfl (by kernel_rfl) (by kernel_rfl) (by kernel_rfl) (fun _ _ _ h => h) (Or.inl ⟨by kernel_rfl, fun V hV => ?_⟩) hS0 ?_
        · obtain ⟨q0, q1, q2, q3⟩ := hV
          go_simp
        simp only [Act.put, List.setIfInBounds_toArray, List.set_cons_zero, List.set_cons_succ]
        refine wpAnyH_take (i := 6) (v := .pointer (some ⟨bn, 0, none⟩)) rfl (by kernel_rfl) (by kernel_rfl) (by kernel_rfl) (fun _ _ _ h => h) (Or.inl ⟨by kernel_rfl, fun V hV => ?_⟩) hS0 ?_
        · obtain ⟨q0, q1, q2, q3⟩ := hV
          go_simp
        simp only [Act.put, List.setIfInBounds_toArray, List.set_cons_zero, List.set_cons_succ]
        refine wpAnyH_take (i := 7) (v := .int .i64 y0) rfl (by kernel_rfl) (by kernel_rfl) (by kernel_rfl) (fun _ _ _ h => h) (Or.inl ⟨by kernel_rfl, fun V hV => ?_⟩) hS0 ?_
        · obtain ⟨q0, q1, q2, q3⟩ := hV
          go_simp
        simp only [Act.put, List.setIfInBounds_toArray, List.set_cons_zero, List.set_cons_succ]
        refine wpAnyH_take (i := 8) (v := .slice (some ⟨bn, 0, none⟩) 3 cn) rfl (by kernel_rfl) (by kernel_rfl) (by kernel_rfl) (fun _ _ _ h => h) (Or.inl ⟨by kernel_rfl, fun V hV => ?_⟩) hS0 ?_
        · obtain ⟨q0, q1, q2, q3⟩ := hV
          go_simp
        simp only [Act.put, List.setIfInBounds_toArray, List.set_cons_zero, List.set_cons_succ]
        refine wpAnyH_take (i := 9) (v := .pointer (some ⟨bn, 1, none⟩)) rfl (by kernel_rfl) (by kernel_rfl) (by kernel_rfl) (fun _ _ _ h => h) (Or.inl ⟨by kernel_rfl, fun V hV => ?_⟩) hS0 ?_
        · obtain ⟨q0, q1, q2, q3⟩ := hV
          go_simp
        simp only [Act.put, List.setIfInBounds_toArray, List.set_cons_zero, List.set_cons_succ]
        refine wpAnyH_take (i := 10) (v := .int .i64 y1) rfl (by kernel_rfl) (by kernel_rfl) (by kernel_rfl) (fun _ _ _ h => h) (Or.inl ⟨by kernel_rfl, fun V hV => ?_⟩) hS0 ?_
        · obtain ⟨q0, q1, q2, q3⟩ := hV
          go_simp
        simp only [Act.put, List.setIfInBounds_toArray, List.set_cons_zero, List.set_cons_succ]
        refine wpAnyH_take (i := 11) (v := .slice (some ⟨bn, 0, none⟩) 3 cn) rfl (by kernel_rfl) (by kernel_rfl) (by kernel_rfl) (fun _ _ _ h => h) (Or.inl ⟨by kernel_rfl, fun V hV => ?_⟩) hS0 ?_
        · obtain ⟨q0, q1, q2, q3⟩ := hV
          go_simp
        simp only [Act.put, List.setIfInBounds_toArray, List.set_cons_zero, List.set_cons_succ]
        refine wpAnyH_take (i := 12) (v := .pointer (some ⟨bn, 2, none⟩)) rfl (by kernel_rfl) (by kernel_rfl) (by kernel_rfl) (fun _ _ _ h => h) (Or.inl ⟨by kernel_rfl, fun V hV => ?_⟩) hS0 ?_
        · obtain ⟨q0, q1, q2, q3⟩ := hV
          go_simp
        simp only [Act.put, List.setIfInBounds_toArray, List.set_cons_zero, List.set_cons_succ]
        refine wpAnyH_take (i := 13) (v := .int .i64 y2) rfl (by kernel_rfl) (by kernel_rfl) (by kernel_rfl) (fun _ _ _ h => h) (Or.inl ⟨by kernel_rfl, fun V hV => ?_⟩) hS0 ?_
        · obtain ⟨q0, q1, q2, q3⟩ := hV
          go_simp
        simp only [Act.put, List.setIfInBounds_toArray, List.set_cons_zero, List.set_cons_succ]
        refine wpAnyH_take (i := 18) (v := .int .i64 (-1)) rfl (by kernel_rfl) (by kernel_rfl) (by kernel_rfl) (fun _ _ _ h => h) (Or.inl ⟨by kernel_rfl, fun V hV => ?_⟩) hS0 ?_
        · obtain ⟨q0, q1, q2, q3⟩ := hV
          go_simp
        simp only [Act.put, List.setIfInBounds_toArray, List.set_cons_zero, List.set_cons_succ]
        refine wpAnyH_take (i := 19) (v := .bool false) rfl (by kernel_rfl) (by kernel_rfl) (by kernel_rfl) (fun _ _ _ h => h) (Or.inl ⟨by kernel_rfl, fun V hV => ?_⟩) hS0 ?_
        · obtain ⟨q0, q1, q2, q3⟩ := hV
          go_simp
        simp only [Act.put, List.setIfInBounds_toArray, List.set_cons_zero, List.set_cons_succ]
        refine wpAnyH_ready (rs := [14]) (by kernel_rfl) (by simp) ?_
        refine AllReadyH.cons rfl (fun K hK => ?_) AllReadyH.nil
        rw [if_pos (by kernel_rfl)]
        go_simp
        refine (HPI.out _ (HPPL3.out.keep (HOK4.out.trans (HD.out.mono HOK4.out.size)) (Nat.le_refl _))).mono ?_
        rintro e w5 ⟨rfl, hb5⟩
        have hok5 := HD.out.trans (hb5.mono HD.out.size)
        refine hK.out _ _ (KS.out _ (hok5)) (fun _ => ?_)
        try simp only [Act.put, List.setIfInBounds_toArray, List.set_cons_zero, List.set_cons_succ]
        clear hK K
        refine wpAnyH_ready (rs := [15]) (by kernel_rfl) (by simp) ?_
        refine AllReadyH.cons rfl (fun K hK => ?_) AllReadyH.nil
        go_simp
        have hok5a := hok5.alloc hok5.size (.cells #[.int .i64 (-1), .int .i64 (-1)] 3)
        refine hK.out _ _ (KS.out _ (hok5a)) (fun _ => ?_)
        try simp only [Act.put, List.setIfInBounds_toArray, List.set_cons_zero, List.set_cons_succ]
        clear hK K
        refine wpAnyH_ready (rs := [16]) (by kernel_rfl) (by simp) ?_
        refine AllReadyH.cons rfl (fun K hK => ?_) AllReadyH.nil
        go_simp
        have hok5b := hok5a.alloc hok5a.size (.cells #[.slice (some ⟨w5.heap.size, 0, none⟩) 2 2] 53)
        refine hK.out _ _ (KS.out _ (hok5b)) (fun _ => ?_)
        try simp only [Act.put, List.setIfInBounds_toArray, List.set_cons_zero, List.set_cons_succ]
        clear hK K
        refine wpAnyH_ready (rs := [17]) (by kernel_rfl) (by simp) ?_
        refine AllReadyH.cons rfl (fun K hK => ?_) AllReadyH.nil
        rw [if_pos (by kernel_rfl)]
        go_simp
        have htb := tab_lit2 w5 (-1) (-1)
        have hsz5 : (w5.alloc (.cells #[.int .i64 (-1), .int .i64 (-1)] 3)).heap.size = w5.heap.size + 1 := by simp
        try rw [hsz5]
        obtain ⟨w6, hw6⟩ : ∃ w6, (w5.alloc (.cells #[.int .i64 (-1), .int .i64 (-1)] 3)).alloc (.cells #[.slice (some ⟨w5.heap.size, 0, none⟩) 2 2] 53) = w6 := ⟨_, rfl⟩
        rw [hw6] at htb hok5b ⊢
        have HOK6 := Lib.hid (HOK4.out.trans (hok5b.mono HOK4.out.size))
        have HLIB6 := Lib.hid (HLIB3.out.keep HOK6.out (Nat.le_refl _))
        refine (cellsZ (some ⟨w5.heap.size + 1, 0, none⟩) (w5.heap.size + 1) 0 1 [[-1, -1]] w6 htb ⟨by decide, by decide⟩ HLIB6.out.1.1).mono ?_
        rintro e w7 ⟨⟨X, rfl⟩, hb7⟩
        have hok7 := hok5b.trans (hb7.mono hok5b.size)
        have HB7 := Lib.hid (HB3.out.trans ((HOK6.out.trans (hb7.mono HOK6.out.size)).mono hs3))
        refine hK.out _ _ (KS.out _ (hok7)) (fun _ => ?_)
        try simp only [Act.put, List.setIfInBounds_toArray, List.set_cons_zero, List.set_cons_succ]
        clear hK K
        have hS7 := KS.out _ hok7
        clear hok5 hok5a hok5b hok7 hb5 hb7 htb
        refine wpAnyH_take (i := 20) (oi := ⟨some 4, _, _, _, _, _⟩) (v := .string X) rfl (by kernel_rfl) (by kernel_rfl) (by kernel_rfl) (fun _ _ _ h => h) (Or.inl ⟨by kernel_rfl, fun V hV => ?_⟩) hS7 ?_
        · obtain ⟨q0, q1, q2, q3⟩ := hV
          go_simp
        simp only [Act.put, List.setIfInBounds_toArray, List.set_cons_zero, List.set_cons_succ]
        refine wpAnyH_take (i := 21) (oi := ⟨some 5, _, _, _, _, _⟩) (v := .bool false) rfl (by kernel_rfl) (by kernel_rfl) (by kernel_rfl) (fun _ _ _ h => h) (Or.inl ⟨by kernel_rfl, fun V hV => ?_⟩) hS7 ?_
        · obtain ⟨q0, q1, q2, q3⟩ := hV
          go_simp
        simp only [Act.put, List.setIfInBounds_toArray, List.set_cons_zero, List.set_cons_succ]
        refine wpAnyH_done (by kernel_rfl) ?_ _
        go_wp2_with fail
        go_ret2
        refine ⟨_, false, rfl, ?_, ?_, (Fr.refl _ _).below HB7.out⟩
        · rw [step_3 HK.out, HNM.out, if_neg (by decide)]
          show countM L [y0, y1, y2] = sNo
          unfold countM
          exact if_neg (by show ¬ askB y0 y1 y2 = true; rw [HA.out]; decide)
        · rw [step_3 HK.out]
          exact HSC.out.keep HB7.out
      · have HA := Lib.hid ha
        have HFT : Hid (Fit [[m, p]]) := Lib.hid (fit_one (by simp) (by simp) fun n hn => by
          simp only [List.mem_cons, List.not_mem_nil, or_false] at hn
          rcases hn with rfl | rfl <;> omega)
        have hmge : decide (m ≥ 0) = true := decide_eq_true hm0
        clear ha
        have KS := Lib.hid (fun (W' : World) (hW : Below w4.heap.size w4 W') => (show W'.cell? ⟨blk, 0, none⟩ = some (.slice ao L.length cap) ∧ W'.cell? ⟨bn, 0, none⟩ = some (.int .i64 y0) ∧ W'.cell? ⟨bn, 1, none⟩ = some (.int .i64 y1) ∧ W'.cell? ⟨bn, 2, none⟩ = some (.int .i64 y2) from ⟨(hW.cell (p := ⟨blk, 0, none⟩) (Nat.lt_of_lt_of_le (Nat.lt_of_lt_of_le hblk hs3) HOK4.out.size)).trans hbc4, (hW.cell (p := ⟨bn, 0, none⟩) (Nat.lt_of_lt_of_le hbn HOK4.out.size)).trans n04, (hW.cell (p := ⟨bn, 1, none⟩) (Nat.lt_of_lt_of_le hbn HOK4.out.size)).trans n14, (hW.cell (p := ⟨bn, 2, none⟩) (Nat.lt_of_lt_of_le hbn HOK4.out.size)).trans n24⟩))
        refine wp_region_held (S := (fun V => V.cell? ⟨blk, 0, none⟩ = some (.slice ao L.length cap) ∧ V.cell? ⟨bn, 0, none⟩ = some (.int .i64 y0) ∧ V.cell? ⟨bn, 1, none⟩ = some (.int .i64 y1) ∧ V.cell? ⟨bn, 2, none⟩ = some (.int .i64 y2))) (by kernel_rfl) ?_
        change wpAnyH _ _ _ _ _ _ _ _ w4.drew
        have hS0 : w4.drew.cell? ⟨blk, 0, none⟩ = some (.slice ao L.length cap) ∧ w4.drew.cell? ⟨bn, 0, none⟩ = some (.int .i64 y0) ∧ w4.drew.cell? ⟨bn, 1, none⟩ = some (.int .i64 y1) ∧ w4.drew.cell? ⟨bn, 2, none⟩ = some (.int .i64 y2) := ⟨hbc4, n04, n14, n24⟩
        have hd := (Below.refl w4.heap.size w4).drew
        obtain ⟨Wd, hWd⟩ : ∃ Wd, w4.drew = Wd := ⟨_, rfl⟩
        rw [hWd] at hS0 hd ⊢
        have HD := Lib.hid hd
        clear hWd hd
        refine wpAnyH_take (i := 0) (v := .int .i64 m) rfl (by kernel_rfl) (by kernel_rfl) (by kernel_rfl) (fun _ _ _ h => h) (Or.inl ⟨by kernel_rfl, fun V hV => ?_⟩) hS0 ?_
        · obtain ⟨q0, q1, q2, q3⟩ := hV
          go_simp
        simp only [Act.put, List.setIfInBounds_toArray, List.set_cons_zero, List.set_cons_succ]
        refine wpAnyH_take (i := 1) (v := .pointer (some ⟨blk, 0, none⟩)) rfl (by kernel_rfl) (by kernel_rfl) (by kernel_rfl) (fun _ _ _ h => h) (Or.inl ⟨by kernel_rfl, fun V hV => ?_⟩) hS0 ?_
        · obtain ⟨q0, q1, q2, q3⟩ := hV
          go_simp
        simp only [Act.put, List.setIfInBounds_toArray, List.set_cons_zero, List.set_cons_succ]
        refine wpAnyH_take (i := 2) (v := .pointer (some ⟨blk, 0, none⟩)) rfl (by kernel_rfl) (by kernel_rfl) (by kernel_rfl) (fun _ _ _ h => h) (Or.inl ⟨by kernel_rfl, fun V hV => ?_⟩) hS0 ?_
        · obtain ⟨q0, q1, q2, q3⟩ := hV
          go_simp
        simp only [Act.put, List.setIfInBounds_toArray, List.set_cons_zero, List.set_cons_succ]
        refine wpAnyH_take (i := 3) (v := .pointer (some ⟨blk, 0, none⟩)) rfl (by kernel_rfl) (by kernel_rfl) (by kernel_rfl) (fun _ _ _ h => h) (Or.inl ⟨by kernel_rfl, fun V hV => ?_⟩) hS0 ?_
        · obtain ⟨q0, q1, q2, q3⟩ := hV
          go_simp
        simp only [Act.put, List.setIfInBounds_toArray, List.set_cons_zero, List.set_cons_succ]
        refine wpAnyH_take (i := 4) (v := .slice ao L.length cap) rfl (by kernel_rfl) (by kernel_rfl) (by kernel_rfl) (fun _ _ _ h => h) (Or.inl ⟨by kernel_rfl, fun V hV => ?_⟩) hS0 ?_
        · obtain ⟨q0, q1, q2, q3⟩ := hV
          go_simp
        simp only [Act.put, List.setIfInBounds_toArray, List.set_cons_zero, List.set_cons_succ]
        refine wpAnyH_take (i := 5) (v := .slice (some ⟨bn, 0, none⟩) 3 cn) rfl (by kernel_rfl) (by kernel_rfl) (by kernel_rfl) (fun _ _ _ h => h) (Or.inl ⟨by kernel_rfl, fun V hV => ?_⟩) hS0 ?_
        · obtain ⟨q0, q1, q2, q3⟩ := hV
          go_simp
        simp only [Act.put, List.setIfInBounds_toArray, List.set_cons_zero, List.set_cons_succ]
        refine wpAnyH_take (i := 6) (v := .pointer (some ⟨bn, 0, none⟩)) rfl (by kernel_rfl) (by kernel_rfl) (by kernel_rfl) (fun _ _ _ h => h) (Or.inl ⟨by kernel_rfl, fun V hV => ?_⟩) hS0 ?_
        · obtain ⟨q0, q1, q2, q3⟩ := hV
          go_simp
        simp only [Act.put, List.setIfInBounds_toArray, List.set_cons_zero, List.set_cons_succ]
        refine wpAnyH_take (i := 7) (v := .int .i64 y0) rfl (by kernel_rfl) (by kernel_rfl) (by kernel_rfl) (fun _ _ _ h => h) (Or.inl ⟨by kernel_rfl, fun V hV => ?_⟩) hS0 ?_
        · obtain ⟨q0, q1, q2, q3⟩ := hV
          go_simp
        simp only [Act.put, List.setIfInBounds_toArray, List.set_cons_zero, List.set_cons_succ]
        refine wpAnyH_take (i := 8) (v := .slice (some ⟨bn, 0, none⟩) 3 cn) rfl (by kernel_rfl) (by kernel_rfl) (by kernel_rfl) (fun _ _ _ h => h) (Or.inl ⟨by kernel_rfl, fun V hV => ?_⟩) hS0 ?_
        · obtain ⟨q0, q1, q2, q3⟩ := hV
          go_simp
        simp only [Act.put, List.setIfInBounds_toArray, List.set_cons_zero, List.set_cons_succ]
        refine wpAnyH_take (i := 9) (v := .pointer (some ⟨bn, 1, none⟩)) rfl (by kernel_rfl) (by kernel_rfl) (by kernel_rfl) (fun _ _ _ h => h) (Or.inl ⟨by kernel_rfl, fun V hV => ?_⟩) hS0 ?_
        · obtain ⟨q0, q1, q2, q3⟩ := hV
          go_simp
        simp only [Act.put, List.setIfInBounds_toArray, List.set_cons_zero, List.set_cons_succ]
        refine wpAnyH_take (i := 10) (v := .int .i64 y1) rfl (by kernel_rfl) (by kernel_rfl) (by kernel_rfl) (fun _ _ _ h => h) (Or.inl ⟨by kernel_rfl, fun V hV => ?_⟩) hS0 ?_
        · obtain ⟨q0, q1, q2, q3⟩ := hV
          go_simp
        simp only [Act.put, List.setIfInBounds_toArray, List.set_cons_zero, List.set_cons_succ]
        refine wpAnyH_take (i := 11) (v := .slice (some ⟨bn, 0, none⟩) 3 cn) rfl (by kernel_rfl) (by kernel_rfl) (by kernel_rfl) (fun _ _ _ h => h) (Or.inl ⟨by kernel_rfl, fun V hV => ?_⟩) hS0 ?_
        · obtain ⟨q0, q1, q2, q3⟩ := hV
          go_simp
        simp only [Act.put, List.setIfInBounds_toArray, List.set_cons_zero, List.set_cons_succ]
        refine wpAnyH_take (i := 12) (v := .pointer (some ⟨bn, 2, none⟩)) rfl (by kernel_rfl) (by kernel_rfl) (by kernel_rfl) (fun _ _ _ h => h) (Or.inl ⟨by kernel_rfl, fun V hV => ?_⟩) hS0 ?_
        · obtain ⟨q0, q1, q2, q3⟩ := hV
          go_simp
        simp only [Act.put, List.setIfInBounds_toArray, List.set_cons_zero, List.set_cons_succ]
        refine wpAnyH_take (i := 13) (v := .int .i64 y2) rfl (by kernel_rfl) (by kernel_rfl) (by kernel_rfl) (fun _ _ _ h => h) (Or.inl ⟨by kernel_rfl, fun V hV => ?_⟩) hS0 ?_
        · obtain ⟨q0, q1, q2, q3⟩ := hV
          go_simp
        simp only [Act.put, List.setIfInBounds_toArray, List.set_cons_zero, List.set_cons_succ]
        refine wpAnyH_take (i := 18) (v := .int .i64 m) rfl (by kernel_rfl) (by kernel_rfl) (by kernel_rfl) (fun _ _ _ h => h) (Or.inl ⟨by kernel_rfl, fun V hV => ?_⟩) hS0 ?_
        · obtain ⟨q0, q1, q2, q3⟩ := hV
          go_simp
        simp only [Act.put, List.setIfInBounds_toArray, List.set_cons_zero, List.set_cons_succ]
        refine wpAnyH_take (i := 19) (v := .bool true) rfl (by kernel_rfl) (by kernel_rfl) (by kernel_rfl) (fun _ _ _ h => h) (Or.inl ⟨by kernel_rfl, fun V hV => ?_⟩) hS0 ?_
        · obtain ⟨q0, q1, q2, q3⟩ := hV
          go_simp
        simp only [Act.put, List.setIfInBounds_toArray, List.set_cons_zero, List.set_cons_succ]
        refine wpAnyH_ready (rs := [14]) (by kernel_rfl) (by simp) ?_
        refine AllReadyH.cons rfl (fun K hK => ?_) AllReadyH.nil
        rw [if_pos (by kernel_rfl)]
        go_simp
        refine (HPI.out _ (HPPL3.out.keep (HOK4.out.trans (HD.out.mono HOK4.out.size)) (Nat.le_refl _))).mono ?_
        rintro e w5 ⟨rfl, hb5⟩
        have hok5 := HD.out.trans (hb5.mono HD.out.size)
        refine hK.out _ _ (KS.out _ (hok5)) (fun _ => ?_)
        try simp only [Act.put, List.setIfInBounds_toArray, List.set_cons_zero, List.set_cons_succ]
        clear hK K
        refine wpAnyH_ready (rs := [15]) (by kernel_rfl) (by simp) ?_
        refine AllReadyH.cons rfl (fun K hK => ?_) AllReadyH.nil
        go_simp
        have hok5a := hok5.alloc hok5.size (.cells #[.int .i64 m, .int .i64 p] 3)
        refine hK.out _ _ (KS.out _ (hok5a)) (fun _ => ?_)
        try simp only [Act.put, List.setIfInBounds_toArray, List.set_cons_zero, List.set_cons_succ]
        clear hK K
        refine wpAnyH_ready (rs := [16]) (by kernel_rfl) (by simp) ?_
        refine AllReadyH.cons rfl (fun K hK => ?_) AllReadyH.nil
        go_simp
        have hok5b := hok5a.alloc hok5a.size (.cells #[.slice (some ⟨w5.heap.size, 0, none⟩) 2 2] 53)
        refine hK.out _ _ (KS.out _ (hok5b)) (fun _ => ?_)
        try simp only [Act.put, List.setIfInBounds_toArray, List.set_cons_zero, List.set_cons_succ]
        clear hK K
        refine wpAnyH_ready (rs := [17]) (by kernel_rfl) (by simp) ?_
        refine AllReadyH.cons rfl (fun K hK => ?_) AllReadyH.nil
        rw [if_pos (by kernel_rfl)]
        go_simp
        have htb := tab_lit2 w5 m p
        have hsz5 : (w5.alloc (.cells #[.int .i64 m, .int .i64 p] 3)).heap.size = w5.heap.size + 1 := by simp
        try rw [hsz5]
        obtain ⟨w6, hw6⟩ : ∃ w6, (w5.alloc (.cells #[.int .i64 m, .int .i64 p] 3)).alloc (.cells #[.slice (some ⟨w5.heap.size, 0, none⟩) 2 2] 53) = w6 := ⟨_, rfl⟩
        rw [hw6] at htb hok5b ⊢
        have HOK6 := Lib.hid (HOK4.out.trans (hok5b.mono HOK4.out.size))
        have HLIB6 := Lib.hid (HLIB3.out.keep HOK6.out (Nat.le_refl _))
        refine (cellsI (some ⟨w5.heap.size + 1, 0, none⟩) (w5.heap.size + 1) 0 1 [[m, p]] (.slice none 0 0) [] w6 htb HFT.out (.inl ⟨rfl, rfl⟩) HLIB6.out.1.1).mono ?_
        rintro e w7 ⟨rfl, hb7⟩
        obtain ⟨X, hX⟩ : ∃ X : ByteArray, ⟨(text [[m, p]] []).toArray⟩ = X := ⟨_, rfl⟩
        rw [hX]
        have HX := Lib.hid hX
        clear hX
        have hok7 := hok5b.trans (hb7.mono hok5b.size)
        have HB7 := Lib.hid (HB3.out.trans ((HOK6.out.trans (hb7.mono HOK6.out.size)).mono hs3))
        refine hK.out _ _ (KS.out _ (hok7)) (fun _ => ?_)
        try simp only [Act.put, List.setIfInBounds_toArray, List.set_cons_zero, List.set_cons_succ]
        clear hK K
        have hS7 := KS.out _ hok7
        clear hok5 hok5a hok5b hok7 hb5 hb7 htb
        refine wpAnyH_take (i := 20) (oi := ⟨some 4, _, _, _, _, _⟩) (v := .string X) rfl (by kernel_rfl) (by kernel_rfl) (by kernel_rfl) (fun _ _ _ h => h) (Or.inl ⟨by kernel_rfl, fun V hV => ?_⟩) hS7 ?_
        · obtain ⟨q0, q1, q2, q3⟩ := hV
          go_simp
        simp only [Act.put, List.setIfInBounds_toArray, List.set_cons_zero, List.set_cons_succ]
        refine wpAnyH_take (i := 21) (oi := ⟨some 5, _, _, _, _, _⟩) (v := .bool true) rfl (by kernel_rfl) (by kernel_rfl) (by kernel_rfl) (fun _ _ _ h => h) (Or.inl ⟨by kernel_rfl, fun V hV => ?_⟩) hS7 ?_
        · obtain ⟨q0, q1, q2, q3⟩ := hV
          go_simp
        simp only [Act.put, List.setIfInBounds_toArray, List.set_cons_zero, List.set_cons_succ]
        refine wpAnyH_done (by kernel_rfl) ?_ _
        go_wp2_with fail
        go_ret2
        refine ⟨_, true, rfl, ?_, ?_, (Fr.refl _ _).below HB7.out⟩
        · rw [step_3 HK.out, HNM.out, if_pos rfl]
          show countM L [y0, y1, y2] = X.data.toList
          unfold countM
          have e1 := HMP.out.1
          have e2 := HMP.out.2
          simp only [List.getD_cons_zero, List.getD_cons_succ]
          rw [if_pos HA.out, e1, e2, ← HX.out]
        · rw [step_3 HK.out]
          exact HSC.out.keep HB7.out
end Go.Proofs.YtlmlchkolcmhpaaGreatDoor
