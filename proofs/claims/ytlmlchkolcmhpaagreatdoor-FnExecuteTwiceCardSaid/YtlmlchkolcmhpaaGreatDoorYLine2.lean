/-
  Contract: a line of a script of kind 2.
-/
import Derived.Test.YtlmlchkolcmhpaaGreatDoorJ3
import Derived.Test.YtlmlchkolcmhpaaGreatDoorJ6
import Derived.Test.YtlmlchkolcmhpaaGreatDoorJ4
import Derived.IntWalk
import Derived.Carry
import Derived.Deep.RegionWith
namespace Go.Proofs.YtlmlchkolcmhpaaGreatDoor
open Go.RowKit Go.Maps Go.WideShapes
open Go.TextMath (tvB mvB text word)
attribute [local go_sem] run_makeMap

set_option maxRecDepth 100000 in
set_option maxHeartbeats 4000000 in
theorem line2 : LineC 2 := by
  intro blk L sb scap ss w hsc hv hrow hl1 hl2 hsz _ _ hlib hkind
  obtain ⟨hk0, hkn⟩ := kind_2 hkind
  rw [wsL_len] at hkn
  rw [wsL_at ss (by omega)] at hk0
  have HX0 := Lib.hid (word_is hk0)
  have HK := Lib.hid hkind
  have HV := Lib.hid hv
  have HSC := Lib.hid hsc
  have HROW := Lib.hid hrow
  have HLIB := Lib.hid hlib
  have HSZ := Lib.hid hsz
  have HSN := Lib.hid hkn
  have h0 := hrow.2 0 (by omega)
  rw [HX0.out] at h0
  rw [Nat.zero_add] at h0
  have h40 := (ppl_t.1 hv).1
  obtain ⟨ao, b, cap, hbox, hppl, hc1, hc2, hne, hnn⟩ := hsc.ppl
  have HBOX := Lib.hid hbox
  have HPPL := Lib.hid hppl
  have HNE := Lib.hid hne
  have hblk := hbox.lt
  have hsb : sb < w.heap.size := World.block_lt_of_cell? _ _ h0
  rw [hkn] at hl1 ⊢
  have h0' : w.cell? ⟨sb, 0, none⟩ = some (.string ⟨#[100, 114, 111, 112]⟩) := h0
  clear hk0 hkind hv hbox hppl hne hrow hlib hsz hkn h0
  go_enter Tryz.func19, Tryz.ntmps19
  have HM0 := Lib.hid (MapS.start w)
  go_wp2_with (refine ins_step w _ _ _ HM0.out rfl _ _ _ rfl rfl ⟨#[112, 101, 114, 115, 111, 110]⟩ rfl (by decide) 4 rfl (by decide) (by decide) ?_)
  intro W1 hm1
  have HM1 := Lib.hid hm1
  clear hm1 HM0
  go_wp2_with (refine ins_step w _ _ _ HM1.out rfl _ _ _ rfl rfl ⟨#[100, 114, 111, 112]⟩ rfl (by decide) 1 rfl (by decide) (by decide) ?_)
  intro W2 hm2
  have HM2 := Lib.hid hm2
  clear hm2 HM1
  go_wp2_with (refine ins_step w _ _ _ HM2.out rfl _ _ _ rfl rfl ⟨#[99, 111, 117, 110, 116]⟩ rfl (by decide) 3 rfl (by decide) (by decide) ?_)
  intro W3 hm3
  have HM3 := Lib.hid hm3
  clear hm3 HM2
  go_wp2_with (refine ins_step w _ _ _ HM3.out rfl _ _ _ rfl rfl ⟨#[116, 97, 98, 108, 101]⟩ rfl (by decide) 0 rfl (by decide) (by decide) ?_)
  intro W4 hm4
  have HM4 := Lib.hid hm4
  clear hm4 HM3
  go_wp2_with (refine ins_step w _ _ _ HM4.out rfl _ _ _ rfl rfl ⟨#[115, 109, 97, 108, 108]⟩ rfl (by decide) 1 rfl (by decide) (by decide) ?_)
  intro W5 hm5
  have HM5 := Lib.hid hm5
  clear hm5 HM4
  go_wp2_with (refine ins_step w _ _ _ HM5.out rfl _ _ _ rfl rfl ⟨#[103, 114, 111, 119]⟩ rfl (by decide) 2 rfl (by decide) (by decide) ?_)
  intro W6 hm6
  have HM6 := Lib.hid hm6
  clear hm6 HM5
  go_wp2_with (refine ins_step w _ _ _ HM6.out rfl _ _ _ rfl rfl ⟨#[114, 111, 117, 110, 100]⟩ rfl (by decide) 1 rfl (by decide) (by decide) ?_)
  intro W7 hm7
  have HM7 := Lib.hid hm7
  clear hm7 HM6
  go_wp2_with (refine ins_step w _ _ _ HM7.out rfl _ _ _ rfl rfl ⟨#[103, 114, 111, 117, 112, 115]⟩ rfl (by decide) 0 rfl (by decide) (by decide) ?_)
  intro W8 hm8
  have HM8 := Lib.hid hm8
  clear hm8 HM7
  have h08 := (HM8.out.2.cell (p := ⟨sb, 0, none⟩) hsb).trans h0'
  have HB8 := Lib.hid HM8.out.2
  go_wp2_with (at_lookup; refine look_step w _ HM8.out rfl _ _ rfl rfl ⟨#[100, 114, 111, 112]⟩ rfl (by decide) 1 true (by decide) (by decide) ?_)
  all_goals try go_wp2_with fail
  go_loopw [9, 45] (fun v i wr => ∃ j : Nat, j ≤ 1 ∧ i = .int .i64 j ∧ Own wr w.heap.size v ((numsB ss).take j) ∧ Below w.heap.size w wr) (fun _ i _ => 1 - (intOf i).toNat)
  case atStart => exact ⟨0, Nat.zero_le _, rfl, by rw [List.take_zero]; exact Own.nil _ _, HB8.out⟩
  case round =>
    obtain ⟨j, hj, rfl, ho, hb⟩ := hrel
    have HO := Lib.hid ho
    have HB := Lib.hid hb
    have hsw := hb.size
    by_cases hjm : j < 1
    · have hcj : wr.cell? ⟨sb, 1 + j, none⟩ = some (.string (ss.getD (1 + j) ⟨#[]⟩)) := (hb.cell (p := ⟨sb, 1 + j, none⟩) hsb).trans (by have := HROW.out.2 (1 + j) (by rw [HSN.out]; omega); rwa [Nat.zero_add] at this)
      obtain ⟨x, hx⟩ : ∃ x, ss.getD (1 + j) ⟨#[]⟩ = x := ⟨_, rfl⟩
      rw [hx] at hcj
      have hxs : x.size ≤ 500 := by rw [← hx, List.getD_eq_getElem?_getD, List.getElem?_eq_getElem (by rw [HSN.out]; omega), Option.getD_some]; exact HSZ.out _ (List.getElem_mem _)
      have HTK := Lib.hid (nums_take (xs := numsB ss) (k := j) (by rw [numsB_len, HSN.out]; omega))
      rw [numsB_at ss (by rw [HSN.out]; omega), Nat.add_comm j 1, hx, Nat.add_comm 1 j] at HTK
      have HTL := Lib.hid (show ((numsB ss).take j).length = j by rw [List.length_take, numsB_len, HSN.out]; omega)
      have hji : (j : Int) < 1 := by omega
      obtain ⟨zs, hzs⟩ : ∃ zs, (numsB ss).take j = zs := ⟨_, rfl⟩
      rw [hzs] at HO HTK HTL
      clear ho hb hx hzs
      go_wp2_with fail
      refine (scrI x (by omega) wr).mono ?_
      rintro e w1 ⟨rfl, hb1⟩
      have HB1 := Lib.hid hb1
      have HO1 := Lib.hid (HO.out.below hb1)
      have hs1 := hb1.size
      have hj9 : Hid (zs.length ≤ 1000000000) := Lib.hid (by rw [HTL.out]; omega)
      clear hb1
      go_wp2_with (at_builtin; refine wpList_app eltI rfl (.tmp 49) (.tmp 52) rfl w.heap.size _ _ _ rfl HO1.out [.int .i64 (scrN x.data.toList)] rfl (by intro u hu; simp at hu; subst hu; rfl) rfl rfl hj9.out (by omega) ?_)
      intro v' w2 ho2 hb2 _
      have HO2 := Lib.hid (show Own w2 w.heap.size v' ((numsB ss).take (j + 1)) by
        rw [HTK.out]
        unfold Own
        rw [List.length_append, List.length_singleton, List.map_append, List.map_singleton]
        exact ho2)
      have HB2 := Lib.hid ((HB.out.trans (HB1.out.mono hsw)).trans hb2)
      clear ho2 hb2
      go_wp2_with fail
      go_roundw
      case rel => exact ⟨j + 1, by omega, by go_num, HO2.out, HB2.out⟩
      case measure => simp [intOf]; omega
    · obtain rfl : j = 1 := by omega
      rw [List.take_of_length_le (by have h := numsB_len ss; rw [HSN.out] at h; omega)] at ho
      obtain ⟨an, bn, cn, hvn, hn1, hn2, hnr, -⟩ := ho.row
      have hnl : (numsB ss).length = 1 := by rw [numsB_len, HSN.out]
      rw [hnl] at hvn hn1
      subst hvn
      have HNR := Lib.hid hnr
      have HNL := Lib.hid hnl
      have hbc := (boxed_bel HBOX.out hb hblk).cell
      have hp1 := HPPL.out.keep hb (Nat.le_refl _)
      clear ho hnr hnl HO
      go_wp2_with fail
      refine (tableOfI ao b 0 cap L wr hp1 HV.out).mono ?_
      rintro e w3 ⟨vt, gt, rfl, hmt, hb3⟩
      have HB3 := Lib.hid (HB.out.trans (hb3.mono hsw))
      have HNR3 := Lib.hid (HNR.out.keep hb3 (Nat.le_refl _))
      have HMT := Lib.hid (hmt.mono hsw)
      obtain ⟨at3, bt3, ct3, rfl, ht1, ht2, htab⟩ := hmt.tab
      have HTAB := Lib.hid htab
      have HTT := Lib.hid (tabO_tv HV.out)
      have hn40 : (numsB ss).length ≤ 4 := by rw [HNL.out]; decide
      have h03 := (HB3.out.cell (p := ⟨sb, 0, none⟩) hsb).trans h0'
      have hbc3 := (boxed_bel HBOX.out HB3.out hblk).cell
      have HSC3 := Lib.hid (HSC.out.keep HB3.out)
      have HLIB3 := Lib.hid (HLIB.out.keep HB3.out (Nat.le_refl _))
      have HPPL3 := Lib.hid (HPPL.out.keep HB3.out (Nat.le_refl _))
      have hs3 := HB3.out.size
      clear hb hb3 hmt htab hp1 hbc
      have htl := tabO_len L
      rw [htl] at ht1 ⊢
      clear htl
      obtain ⟨y0, hy⟩ : ∃ y0, numsB ss = [y0] := List.length_eq_one_iff.1 HNL.out
      have HNM := Lib.hid (show numsM (wsL ss) = [y0] by rw [numsB_eq, hy])
      have n0 := HNR3.out.2 0 (by rw [HNL.out]; decide)
      obtain rfl := HNR3.out.1 (by rw [HNL.out]; decide)
      rw [hy] at n0
      simp only [List.getD_cons_zero, Nat.zero_add] at n0
      clear hy
      have HBB := Lib.hid (boxed_bel HBOX.out HB3.out hblk)
      have hbl3 := Nat.lt_of_lt_of_le hblk hs3
      by_cases hk : 0 ≤ y0 ∧ y0 < L.length
      · obtain ⟨k, rfl⟩ : ∃ k : Nat, y0 = k := ⟨y0.toNat, by omega⟩
        have hkl : k < L.length := by omega
        have HWI := Lib.hid (fun W h => withoutI ao b cap L k W h HV.out hkl hc1 hnn)
        have HKL := Lib.hid hkl
        clear hk hkl
        go_wp2_with fail
        go_region_with (first | (go_at_call 39; refine (HWI.out w3.drew HPPL3.out).mono ?_; rintro e w4 ⟨v, rfl, ho, hb4⟩; have HO4 := Lib.hid ho; have HBE4 := Lib.hid (show Below w3.heap.size w3 w4 from ⟨hb4.os, hb4.tape, hb4.output, hb4.size, hb4.block⟩); obtain ⟨av, bv, cv, rfl, -, -, -, -⟩ := ho.ppl; clear ho hb4) | (go_at_call 37; refine (become_t blk _ _ _ (boxed_bel HBB.out HBE4.out hbl3) _ _ _ rfl).mono ?_; rintro e w5 ⟨rfl, rfl⟩))
        all_goals
          go_wp2_with fail
          go_ret2
          have HB4 := Lib.hid (HB3.out.trans (HBE4.out.mono hs3))
          refine ⟨_, true, rfl, ?_, ?_, ?_⟩
          · rw [step_2 HK.out, HNM.out, if_pos ⟨Int.natCast_nonneg k, by have := HKL.out; show (k : Int) < _; omega⟩, if_pos rfl]; rfl
          · rw [step_2 HK.out, HNM.out, if_pos ⟨Int.natCast_nonneg k, by have := HKL.out; show (k : Int) < _; omega⟩]
            exact Sc.set (boxed_bel HBB.out HBE4.out hbl3) (own_mono HO4.out hbl3)
          · exact ((Fr.refl _ _).below HB4.out).trans (grownBy_setCell' _ _ _)
      · have HWF := Lib.hid (fun W h => withoutI_f ao b cap L y0 W h (by omega) (fun h => hk h.2))
        have HNK := Lib.hid hk
        clear hk
        go_wp2_with fail
        go_region_with (first | (go_at_call 39; refine (HWF.out w3.drew HPPL3.out).mono ?_; rintro e w4 ⟨rfl, hb4⟩; have HBE4 := Lib.hid (show Below w3.heap.size w3 w4 from ⟨hb4.os, hb4.tape, hb4.output, hb4.size, hb4.block⟩); clear hb4) | (go_at_call 37; refine (become_f blk _ _).mono ?_; rintro e w5 ⟨rfl, rfl⟩))
        all_goals
          go_wp2_with fail
          go_ret2
          have HB4 := Lib.hid (HB3.out.trans (HBE4.out.mono hs3))
          refine ⟨_, false, rfl, ?_, ?_, (Fr.refl _ _).below HB4.out⟩
          · rw [step_2 HK.out, HNM.out, if_neg (by simp only [List.getD_cons_zero]; exact HNK.out), if_neg (by decide)]
          · rw [step_2 HK.out, HNM.out, if_neg (by simp only [List.getD_cons_zero]; exact HNK.out)]
            exact HSC.out.keep HB4.out
end Go.Proofs.YtlmlchkolcmhpaaGreatDoor
