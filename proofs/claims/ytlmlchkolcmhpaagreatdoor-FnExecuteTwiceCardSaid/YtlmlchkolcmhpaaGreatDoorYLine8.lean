/-
  Contract: a line of a script of kind 8.
-/
import Derived.Test.YtlmlchkolcmhpaaGreatDoorJ3
import Derived.Test.YtlmlchkolcmhpaaGreatDoorJ1
import Derived.Test.YtlmlchkolcmhpaaGreatDoorJ4
import Derived.Test.YtlmlchkolcmhpaaGreatDoorYGroupJ
import Derived.IntWalk
import Derived.Carry
namespace Go.Proofs.YtlmlchkolcmhpaaGreatDoor
open Go.RowKit Go.Maps Go.WideShapes
open Go.TextMath (tvB mvB text word)
attribute [local go_sem] run_makeMap

set_option maxRecDepth 100000 in
set_option maxHeartbeats 4000000 in
theorem line8 : LineC 8 := by
  intro blk L sb scap ss w hsc hv hrow hl1 hl2 hsz _ _ hlib hkind
  obtain ⟨hk0, hkn⟩ := kind_8 hkind
  rw [wsL_len] at hkn
  rw [wsL_at ss (by omega)] at hk0
  have HX0 := Lib.hid (word_is hk0)
  have HK := Lib.hid hkind
  have HV := Lib.hid hv
  have HSC := Lib.hid hsc
  have HROW := Lib.hid hrow
  have HLIB := Lib.hid hlib
  have HSZ := Lib.hid hsz
  have HSN := Lib.hid hkn
  have h0 := hrow.2 0 (by omega)
  rw [HX0.out] at h0
  rw [Nat.zero_add] at h0
  have h40 := (ppl_t.1 hv).1
  obtain ⟨ao, b, cap, hbox, hppl, hc1, hc2, hne, hnn⟩ := hsc.ppl
  have HBOX := Lib.hid hbox
  have HPPL := Lib.hid hppl
  have HNE := Lib.hid hne
  have hblk := hbox.lt
  have hsb : sb < w.heap.size := World.block_lt_of_cell? _ _ h0
  rw [hkn] at hl1 ⊢
  have h0' : w.cell? ⟨sb, 0, none⟩ = some (.string ⟨#[103, 114, 111, 117, 112, 115]⟩) := h0
  clear hk0 hkind hv hbox hppl hne hrow hlib hsz hkn h0
  go_enter Tryz.func19, Tryz.ntmps19
  have HM0 := Lib.hid (MapS.start w)
  go_wp2_with (refine ins_step w _ _ _ HM0.out rfl _ _ _ rfl rfl ⟨#[112, 101, 114, 115, 111, 110]⟩ rfl (by decide) 4 rfl (by decide) (by decide) ?_)
  intro W1 hm1
  have HM1 := Lib.hid hm1
  clear hm1 HM0
  go_wp2_with (refine ins_step w _ _ _ HM1.out rfl _ _ _ rfl rfl ⟨#[100, 114, 111, 112]⟩ rfl (by decide) 1 rfl (by decide) (by decide) ?_)
  intro W2 hm2
  have HM2 := Lib.hid hm2
  clear hm2 HM1
  go_wp2_with (refine ins_step w _ _ _ HM2.out rfl _ _ _ rfl rfl ⟨#[99, 111, 117, 110, 116]⟩ rfl (by decide) 3 rfl (by decide) (by decide) ?_)
  intro W3 hm3
  have HM3 := Lib.hid hm3
  clear hm3 HM2
  go_wp2_with (refine ins_step w _ _ _ HM3.out rfl _ _ _ rfl rfl ⟨#[116, 97, 98, 108, 101]⟩ rfl (by decide) 0 rfl (by decide) (by decide) ?_)
  intro W4 hm4
  have HM4 := Lib.hid hm4
  clear hm4 HM3
  go_wp2_with (refine ins_step w _ _ _ HM4.out rfl _ _ _ rfl rfl ⟨#[115, 109, 97, 108, 108]⟩ rfl (by decide) 1 rfl (by decide) (by decide) ?_)
  intro W5 hm5
  have HM5 := Lib.hid hm5
  clear hm5 HM4
  go_wp2_with (refine ins_step w _ _ _ HM5.out rfl _ _ _ rfl rfl ⟨#[103, 114, 111, 119]⟩ rfl (by decide) 2 rfl (by decide) (by decide) ?_)
  intro W6 hm6
  have HM6 := Lib.hid hm6
  clear hm6 HM5
  go_wp2_with (refine ins_step w _ _ _ HM6.out rfl _ _ _ rfl rfl ⟨#[114, 111, 117, 110, 100]⟩ rfl (by decide) 1 rfl (by decide) (by decide) ?_)
  intro W7 hm7
  have HM7 := Lib.hid hm7
  clear hm7 HM6
  go_wp2_with (refine ins_step w _ _ _ HM7.out rfl _ _ _ rfl rfl ⟨#[103, 114, 111, 117, 112, 115]⟩ rfl (by decide) 0 rfl (by decide) (by decide) ?_)
  intro W8 hm8
  have HM8 := Lib.hid hm8
  clear hm8 HM7
  have h08 := (HM8.out.2.cell (p := ⟨sb, 0, none⟩) hsb).trans h0'
  have HB8 := Lib.hid HM8.out.2
  go_wp2_with (at_lookup; refine look_step w _ HM8.out rfl _ _ rfl rfl ⟨#[103, 114, 111, 117, 112, 115]⟩ rfl (by decide) 0 true (by decide) (by decide) ?_)
  all_goals try go_wp2_with fail
  all_goals
    go_loopw [9, 45] (fun v i wr => ∃ j : Nat, j ≤ 0 ∧ i = .int .i64 j ∧ Own wr w.heap.size v ((numsB ss).take j) ∧ Below w.heap.size w wr) (fun _ i _ => 0 - (intOf i).toNat)
    case atStart => exact ⟨0, Nat.zero_le _, rfl, by rw [List.take_zero]; exact Own.nil _ _, HB8.out⟩
    case round =>
      obtain ⟨j, hj, rfl, ho, hb⟩ := hrel
      have HO := Lib.hid ho
      have HB := Lib.hid hb
      have hsw := hb.size
      by_cases hjm : j < 0
      · exact absurd hjm (by omega)
      · obtain rfl : j = 0 := by omega
        rw [List.take_of_length_le (by have h := numsB_len ss; rw [HSN.out] at h; omega)] at ho
        obtain ⟨an, bn, cn, hvn, hn1, hn2, hnr, -⟩ := ho.row
        have hnl : (numsB ss).length = 0 := by rw [numsB_len, HSN.out]
        rw [hnl] at hvn hn1
        subst hvn
        have HNR := Lib.hid hnr
        have HNL := Lib.hid hnl
        have hbc := (boxed_bel HBOX.out hb hblk).cell
        have hp1 := HPPL.out.keep hb (Nat.le_refl _)
        clear ho hnr hnl HO
        go_wp2_with fail
        refine (tableOfI ao b 0 cap L wr hp1 HV.out).mono ?_
        rintro e w3 ⟨vt, gt, rfl, hmt, hb3⟩
        have HB3 := Lib.hid (HB.out.trans (hb3.mono hsw))
        have HNR3 := Lib.hid (HNR.out.keep hb3 (Nat.le_refl _))
        have HMT := Lib.hid (hmt.mono hsw)
        obtain ⟨at3, bt3, ct3, rfl, ht1, ht2, htab⟩ := hmt.tab
        have HTAB := Lib.hid htab
        have HTT := Lib.hid (tabO_tv HV.out)
        have hn40 : (numsB ss).length ≤ 4 := by rw [HNL.out]; decide
        have h03 := (HB3.out.cell (p := ⟨sb, 0, none⟩) hsb).trans h0'
        have hbc3 := (boxed_bel HBOX.out HB3.out hblk).cell
        have HSC3 := Lib.hid (HSC.out.keep HB3.out)
        have HLIB3 := Lib.hid (HLIB.out.keep HB3.out (Nat.le_refl _))
        have HPPL3 := Lib.hid (HPPL.out.keep HB3.out (Nat.le_refl _))
        have hs3 := HB3.out.size
        clear hb hb3 hmt htab hp1 hbc
        have htl := tabO_len L
        rw [htl] at ht1 ⊢
        clear htl
        have HLE := Lib.hid (fun W h => leastI ao b cap L none 0 W h HV.out)
        have HMG := Lib.hid (fun W h => manyGI ao b cap L none 0 W h HV.out)
        have HAG := Lib.hid (fun W h => aloneI ao b cap L none 0 W h HV.out)
        have hft := fit_groups HV.out
        obtain ⟨m1, hm1⟩ : ∃ m1, leastG L = m1 := ⟨_, rfl⟩
        obtain ⟨m2, hm2⟩ : ∃ m2 : Int, (manyG L : Int) = m2 := ⟨_, rfl⟩
        obtain ⟨m3, hm3⟩ : ∃ m3 : Int, (aloneG L : Int) = m3 := ⟨_, rfl⟩
        have HGM := Lib.hid (show groupsM L = text [[m1, m2, m3]] [] by unfold groupsM; rw [hm1, hm2, hm3])
        rw [hm1] at HLE hft
        rw [hm2] at HMG hft
        rw [hm3] at HAG hft
        have HFT := Lib.hid hft
        clear hm1 hm2 hm3 hft
        go_wp2_with fail
        have hal := (Below.refl w3.heap.size w3).alloc (Nat.le_refl _) (.cells #[.int .i64 0, .int .i64 0, .int .i64 0] 81)
        obtain ⟨W4, hW4⟩ : ∃ W4, w3.alloc (.cells #[.int .i64 0, .int .i64 0, .int .i64 0] 81) = W4 := ⟨_, rfl⟩
        have r0 : W4.cell? ⟨w3.heap.size, 0, none⟩ = some (.int .i64 0) := by rw [← hW4, World.cell?_alloc_new]; rfl
        have r1 : W4.cell? ⟨w3.heap.size, 1, none⟩ = some (.int .i64 0) := by rw [← hW4, World.cell?_alloc_new]; rfl
        have r2 : W4.cell? ⟨w3.heap.size, 2, none⟩ = some (.int .i64 0) := by rw [← hW4, World.cell?_alloc_new]; rfl
        have hrb : w3.heap.size < W4.heap.size := by rw [← hW4]; simp
        rw [hW4] at hal ⊢
        have hbc4 := (hal.cell (p := ⟨blk, 0, none⟩) (Nat.lt_of_lt_of_le hblk hs3)).trans hbc3
        have HAL := Lib.hid hal
        have HPPL4 := Lib.hid (HPPL3.out.keep hal (Nat.le_refl _))
        have hbk4 : blk < W4.heap.size := Nat.lt_trans (Nat.lt_of_lt_of_le hblk hs3) hrb
        obtain ⟨rb, hrbe⟩ : ∃ rb, w3.heap.size = rb := ⟨_, rfl⟩
        rw [hrbe] at r0 r1 r2 hrb ⊢
        clear hW4 hal hbc3 hrbe
        have KS := Lib.hid (fun (W' : World) (hW : Below W4.heap.size W4 W') => (show W'.cell? ⟨blk, 0, none⟩ = some (.slice ao L.length cap) ∧ W'.cell? ⟨rb, 0, none⟩ = some (.int .i64 0) ∧ W'.cell? ⟨rb, 1, none⟩ = some (.int .i64 0) ∧ W'.cell? ⟨rb, 2, none⟩ = some (.int .i64 0) from ⟨(hW.cell (p := ⟨blk, 0, none⟩) (hbk4)).trans hbc4, (hW.cell (p := ⟨rb, 0, none⟩) (hrb)).trans r0, (hW.cell (p := ⟨rb, 1, none⟩) (hrb)).trans r1, (hW.cell (p := ⟨rb, 2, none⟩) (hrb)).trans r2⟩))
        refine wp_region_held (S := (fun V => V.cell? ⟨blk, 0, none⟩ = some (.slice ao L.length cap) ∧ V.cell? ⟨rb, 0, none⟩ = some (.int .i64 0) ∧ V.cell? ⟨rb, 1, none⟩ = some (.int .i64 0) ∧ V.cell? ⟨rb, 2, none⟩ = some (.int .i64 0))) (by kernel_rfl) ?_
        change wpAnyH _ _ _ _ _ _ _ _ W4.drew
        have hS0 : W4.drew.cell? ⟨blk, 0, none⟩ = some (.slice ao L.length cap) ∧ W4.drew.cell? ⟨rb, 0, none⟩ = some (.int .i64 0) ∧ W4.drew.cell? ⟨rb, 1, none⟩ = some (.int .i64 0) ∧ W4.drew.cell? ⟨rb, 2, none⟩ = some (.int .i64 0) := ⟨hbc4, r0, r1, r2⟩
        have hd := (Below.refl W4.heap.size W4).drew
        obtain ⟨Wd, hWd⟩ : ∃ Wd, W4.drew = Wd := ⟨_, rfl⟩
        rw [hWd] at hS0 hd ⊢
        have HD := Lib.hid hd
        clear hWd hd
        refine wpAnyH_take (i := 0) (v := .pointer (some ⟨blk, 0, none⟩)) rfl (by kernel_rfl) (by kernel_rfl) (by kernel_rfl) (fun _ _ _ h => h) (Or.inl ⟨by kernel_rfl, fun V hV => ?_⟩) hS0 ?_
        · obtain ⟨q0, q1, q2, q3⟩ := hV
          go_simp
        simp only [Act.put, List.setIfInBounds_toArray]
        refine wpAnyH_take (i := 1) (v := .pointer (some ⟨blk, 0, none⟩)) rfl (by kernel_rfl) (by kernel_rfl) (by kernel_rfl) (fun _ _ _ h => h) (Or.inl ⟨by kernel_rfl, fun V hV => ?_⟩) hS0 ?_
        · obtain ⟨q0, q1, q2, q3⟩ := hV
          go_simp
        simp only [Act.put]
        refine wpAnyH_take (i := 2) (v := .pointer (some ⟨blk, 0, none⟩)) rfl (by kernel_rfl) (by kernel_rfl) (by kernel_rfl) (fun _ _ _ h => h) (Or.inl ⟨by kernel_rfl, fun V hV => ?_⟩) hS0 ?_
        · obtain ⟨q0, q1, q2, q3⟩ := hV
          go_simp
        simp only [Act.put]
        refine wpAnyH_take (i := 3) (v := .slice ao L.length cap) rfl (by kernel_rfl) (by kernel_rfl) (by kernel_rfl) (fun _ _ _ h => h) (Or.inl ⟨by kernel_rfl, fun V hV => ?_⟩) hS0 ?_
        · obtain ⟨q0, q1, q2, q3⟩ := hV
          go_simp
        simp only [Act.put]
        refine wpAnyH_take (i := 4) (v := .agg #[.int .i64 0, .int .i64 0, .int .i64 0]) rfl (by kernel_rfl) (by kernel_rfl) (by kernel_rfl) (fun _ _ _ h => h) (Or.inl ⟨by kernel_rfl, fun V hV => ?_⟩) hS0 ?_
        · obtain ⟨q0, q1, q2, q3⟩ := hV
          go_simp
        simp only [Act.put]
        refine wpAnyH_take (i := 6) (v := .pointer (some ⟨blk, 0, none⟩)) rfl (by kernel_rfl) (by kernel_rfl) (by kernel_rfl) (fun _ _ _ h => h) (Or.inl ⟨by kernel_rfl, fun V hV => ?_⟩) hS0 ?_
        · obtain ⟨q0, q1, q2, q3⟩ := hV
          go_simp
        simp only [Act.put]
        refine wpAnyH_take (i := 7) (v := .pointer (some ⟨blk, 0, none⟩)) rfl (by kernel_rfl) (by kernel_rfl) (by kernel_rfl) (fun _ _ _ h => h) (Or.inl ⟨by kernel_rfl, fun V hV => ?_⟩) hS0 ?_
        · obtain ⟨q0, q1, q2, q3⟩ := hV
          go_simp
        simp only [Act.put]
        refine wpAnyH_take (i := 8) (v := .pointer (some ⟨blk, 0, none⟩)) rfl (by kernel_rfl) (by kernel_rfl) (by kernel_rfl) (fun _ _ _ h => h) (Or.inl ⟨by kernel_rfl, fun V hV => ?_⟩) hS0 ?_
        · obtain ⟨q0, q1, q2, q3⟩ := hV
          go_simp
        simp only [Act.put]
        refine wpAnyH_take (i := 9) (v := .slice ao L.length cap) rfl (by kernel_rfl) (by kernel_rfl) (by kernel_rfl) (fun _ _ _ h => h) (Or.inl ⟨by kernel_rfl, fun V hV => ?_⟩) hS0 ?_
        · obtain ⟨q0, q1, q2, q3⟩ := hV
          go_simp
        simp only [Act.put]
        refine wpAnyH_take (i := 10) (v := .agg #[.int .i64 0, .int .i64 0, .int .i64 0]) rfl (by kernel_rfl) (by kernel_rfl) (by kernel_rfl) (fun _ _ _ h => h) (Or.inl ⟨by kernel_rfl, fun V hV => ?_⟩) hS0 ?_
        · obtain ⟨q0, q1, q2, q3⟩ := hV
          go_simp
        simp only [Act.put]
        refine wpAnyH_take (i := 12) (v := .pointer (some ⟨blk, 0, none⟩)) rfl (by kernel_rfl) (by kernel_rfl) (by kernel_rfl) (fun _ _ _ h => h) (Or.inl ⟨by kernel_rfl, fun V hV => ?_⟩) hS0 ?_
        · obtain ⟨q0, q1, q2, q3⟩ := hV
          go_simp
        simp only [Act.put]
        refine wpAnyH_take (i := 13) (v := .pointer (some ⟨blk, 0, none⟩)) rfl (by kernel_rfl) (by kernel_rfl) (by kernel_rfl) (fun _ _ _ h => h) (Or.inl ⟨by kernel_rfl, fun V hV => ?_⟩) hS0 ?_
        · obtain ⟨q0, q1, q2, q3⟩ := hV
          go_simp
        simp only [Act.put]
        refine wpAnyH_take (i := 14) (v := .pointer (some ⟨blk, 0, none⟩)) rfl (by kernel_rfl) (by kernel_rfl) (by kernel_rfl) (fun _ _ _ h => h) (Or.inl ⟨by kernel_rfl, fun V hV => ?_⟩) hS0 ?_
        · obtain ⟨q0, q1, q2, q3⟩ := hV
          go_simp
        simp only [Act.put]
        refine wpAnyH_take (i := 15) (v := .slice ao L.length cap) rfl (by kernel_rfl) (by kernel_rfl) (by kernel_rfl) (fun _ _ _ h => h) (Or.inl ⟨by kernel_rfl, fun V hV => ?_⟩) hS0 ?_
        · obtain ⟨q0, q1, q2, q3⟩ := hV
          go_simp
        simp only [Act.put]
        refine wpAnyH_take (i := 16) (v := .agg #[.int .i64 0, .int .i64 0, .int .i64 0]) rfl (by kernel_rfl) (by kernel_rfl) (by kernel_rfl) (fun _ _ _ h => h) (Or.inl ⟨by kernel_rfl, fun V hV => ?_⟩) hS0 ?_
        · obtain ⟨q0, q1, q2, q3⟩ := hV
          go_simp
        simp only [Act.put]
        refine wpAnyH_ready (rs := [5]) (by kernel_rfl) (by simp) ?_
        refine AllReadyH.cons rfl (fun K hK => ?_) AllReadyH.nil
        rw [if_pos (by kernel_rfl)]
        go_simp
        refine (HLE.out Wd (HPPL4.out.keep (HD.out) (Nat.le_refl _))).mono ?_
        rintro e w5 ⟨rfl, hb5⟩
        have hok5 := (HD.out).trans (hb5.mono (HD.out).size)
        refine hK.out _ _ (KS.out _ (hok5)) (fun _ => ?_)
        try simp only [Act.put, List.setIfInBounds_toArray, List.set_cons_zero, List.set_cons_succ]
        clear hK K
        refine wpAnyH_ready (rs := [11]) (by kernel_rfl) (by simp) ?_
        refine AllReadyH.cons rfl (fun K hK => ?_) AllReadyH.nil
        rw [if_pos (by kernel_rfl)]
        go_simp
        refine (HMG.out w5 (HPPL4.out.keep (hok5) (Nat.le_refl _))).mono ?_
        rintro e w6 ⟨rfl, hb6⟩
        have hok6 := (hok5).trans (hb6.mono (hok5).size)
        refine hK.out _ _ (KS.out _ (hok6)) (fun _ => ?_)
        try simp only [Act.put, List.setIfInBounds_toArray, List.set_cons_zero, List.set_cons_succ]
        clear hK K
        refine wpAnyH_ready (rs := [17]) (by kernel_rfl) (by simp) ?_
        refine AllReadyH.cons rfl (fun K hK => ?_) AllReadyH.nil
        rw [if_pos (by kernel_rfl)]
        go_simp
        refine (HAG.out w6 (HPPL4.out.keep (hok6) (Nat.le_refl _))).mono ?_
        rintro e w7 ⟨rfl, hb7⟩
        have hok7 := (hok6).trans (hb7.mono (hok6).size)
        refine hK.out _ _ (KS.out _ (hok7)) (fun _ => ?_)
        try simp only [Act.put, List.setIfInBounds_toArray, List.set_cons_zero, List.set_cons_succ]
        clear hK K
        refine wpAnyH_ready (rs := [18]) (by kernel_rfl) (by simp) ?_
        refine AllReadyH.cons rfl (fun K hK => ?_) AllReadyH.nil
        go_simp
        have hok7a := hok7.alloc hok7.size (.cells #[.int .i64 m1, .int .i64 m2, .int .i64 m3] 3)
        refine hK.out _ _ (KS.out _ (hok7a)) (fun _ => ?_)
        try simp only [Act.put, List.setIfInBounds_toArray, List.set_cons_zero, List.set_cons_succ]
        clear hK K
        refine wpAnyH_ready (rs := [19]) (by kernel_rfl) (by simp) ?_
        refine AllReadyH.cons rfl (fun K hK => ?_) AllReadyH.nil
        go_simp
        have hok7b := hok7a.alloc hok7a.size (.cells #[.slice (some ⟨w7.heap.size, 0, none⟩) 3 3] 53)
        refine hK.out _ _ (KS.out _ (hok7b)) (fun _ => ?_)
        try simp only [Act.put, List.setIfInBounds_toArray, List.set_cons_zero, List.set_cons_succ]
        clear hK K
        refine wpAnyH_ready (rs := [20]) (by kernel_rfl) (by simp) ?_
        refine AllReadyH.cons rfl (fun K hK => ?_) AllReadyH.nil
        rw [if_pos (by kernel_rfl)]
        go_simp
        have htb := tab_lit3 w7 m1 m2 m3
        have hsz7 : (w7.alloc (.cells #[.int .i64 m1, .int .i64 m2, .int .i64 m3] 3)).heap.size = w7.heap.size + 1 := by simp
        try rw [hsz7]
        obtain ⟨w8, hw8⟩ : ∃ w8, (w7.alloc (.cells #[.int .i64 m1, .int .i64 m2, .int .i64 m3] 3)).alloc (.cells #[.slice (some ⟨w7.heap.size, 0, none⟩) 3 3] 53) = w8 := ⟨_, rfl⟩
        rw [hw8] at htb hok7b ⊢
        have HB8 := Lib.hid (HB3.out.trans ((HAL.out.trans (hok7b.mono HAL.out.size)).mono hs3))
        have HLIB8 := Lib.hid (HLIB3.out.keep (HAL.out.trans (hok7b.mono HAL.out.size)) (Nat.le_refl _))
        refine (cellsI (some ⟨w7.heap.size + 1, 0, none⟩) (w7.heap.size + 1) 0 1 [[m1, m2, m3]] (.slice none 0 0) [] w8 htb HFT.out (.inl ⟨rfl, rfl⟩) HLIB8.out.1.1).mono ?_
        rintro e w9 ⟨rfl, hb9⟩
        obtain ⟨X, hX⟩ : ∃ X : ByteArray, ⟨(text [[m1, m2, m3]] []).toArray⟩ = X := ⟨_, rfl⟩
        rw [hX]
        have HX := Lib.hid hX
        clear hX
        have hok9 := hok7b.trans (hb9.mono hok7b.size)
        have HB9 := Lib.hid (HB8.out.trans (hb9.mono HB8.out.size))
        refine hK.out _ _ (KS.out _ (hok9)) (fun _ => ?_)
        try simp only [Act.put, List.setIfInBounds_toArray, List.set_cons_zero, List.set_cons_succ]
        clear hK K
        have hS9 := KS.out _ hok9
        clear hok5 hok6 hok7 hok7a hok7b hok9 hb5 hb6 hb7 hb9 htb
        refine wpAnyH_take (i := 21) (oi := ⟨some 4, _, _, _, _, _⟩) (v := .string X) rfl (by kernel_rfl) (by kernel_rfl) (by kernel_rfl) (fun _ _ _ h => h) (Or.inl ⟨by kernel_rfl, fun V hV => ?_⟩) hS9 ?_
        · obtain ⟨q0, q1, q2, q3⟩ := hV
          go_simp
        simp only [Act.put, List.setIfInBounds_toArray, List.set_cons_zero, List.set_cons_succ]
        refine wpAnyH_take (i := 22) (oi := ⟨some 5, _, _, _, _, _⟩) (v := .bool true) rfl (by kernel_rfl) (by kernel_rfl) (by kernel_rfl) (fun _ _ _ h => h) (Or.inl ⟨by kernel_rfl, fun V hV => ?_⟩) hS9 ?_
        · obtain ⟨q0, q1, q2, q3⟩ := hV
          go_simp
        simp only [Act.put, List.setIfInBounds_toArray, List.set_cons_zero, List.set_cons_succ]
        refine wpAnyH_done (by kernel_rfl) ?_ _
        go_wp2_with fail
        go_ret2
        refine ⟨_, true, rfl, ?_, ?_, (Fr.refl _ _).below HB9.out⟩
        · rw [step_8 HK.out, if_pos rfl]
          show groupsM L = X.data.toList
          rw [HGM.out, ← HX.out]
        · rw [step_8 HK.out]
          exact HSC.out.keep HB9.out
end Go.Proofs.YtlmlchkolcmhpaaGreatDoor
