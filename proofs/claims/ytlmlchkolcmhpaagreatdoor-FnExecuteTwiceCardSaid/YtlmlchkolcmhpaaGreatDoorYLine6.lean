/-
  Contract: a line of a script of kind 6.
-/
import Derived.Test.YtlmlchkolcmhpaaGreatDoorJ3
import Derived.Test.YtlmlchkolcmhpaaGreatDoorJ2
import Derived.Test.YtlmlchkolcmhpaaGreatDoorJ4
import Derived.Test.YtlmlchkolcmhpaaGreatDoorJ5
import Derived.Test.YtlmlchkolcmhpaaGreatDoorYPatGrow
import Derived.IntWalk
import Derived.Carry
namespace Go.Proofs.YtlmlchkolcmhpaaGreatDoor
open Go.RowKit Go.Maps Go.WideShapes
open Go.TextMath (tvB mvB text word)
attribute [local go_sem] run_makeMap

set_option maxRecDepth 100000 in
set_option maxHeartbeats 4000000 in
theorem line6 : LineC 6 := by
  intro blk L sb scap ss w hsc hv hrow hl1 hl2 hsz _ _ hlib hkind
  obtain ⟨hk0, hkn⟩ := kind_6 hkind
  rw [wsL_len] at hkn
  rw [wsL_at ss (by omega)] at hk0
  have HX0 := Lib.hid (word_is hk0)
  have HK := Lib.hid hkind
  have HV := Lib.hid hv
  have HSC := Lib.hid hsc
  have HROW := Lib.hid hrow
  have HLIB := Lib.hid hlib
  have HSZ := Lib.hid hsz
  have HSN := Lib.hid hkn
  have h0 := hrow.2 0 (by omega)
  rw [HX0.out] at h0
  rw [Nat.zero_add] at h0
  have h40 := (ppl_t.1 hv).1
  obtain ⟨ao, b, cap, hbox, hppl, hc1, hc2, hne, hnn⟩ := hsc.ppl
  have HBOX := Lib.hid hbox
  have HPPL := Lib.hid hppl
  have HNE := Lib.hid hne
  have hblk := hbox.lt
  have hsb : sb < w.heap.size := World.block_lt_of_cell? _ _ h0
  rw [hkn] at hl1 ⊢
  have h0' : w.cell? ⟨sb, 0, none⟩ = some (.string ⟨#[103, 114, 111, 119]⟩) := h0
  clear hk0 hkind hv hbox hppl hne hrow hlib hsz hkn h0
  go_enter Tryz.func19, Tryz.ntmps19
  have HM0 := Lib.hid (MapS.start w)
  go_wp2_with (refine ins_step w _ _ _ HM0.out rfl _ _ _ rfl rfl ⟨#[112, 101, 114, 115, 111, 110]⟩ rfl (by decide) 4 rfl (by decide) (by decide) ?_)
  intro W1 hm1
  have HM1 := Lib.hid hm1
  clear hm1 HM0
  go_wp2_with (refine ins_step w _ _ _ HM1.out rfl _ _ _ rfl rfl ⟨#[100, 114, 111, 112]⟩ rfl (by decide) 1 rfl (by decide) (by decide) ?_)
  intro W2 hm2
  have HM2 := Lib.hid hm2
  clear hm2 HM1
  go_wp2_with (refine ins_step w _ _ _ HM2.out rfl _ _ _ rfl rfl ⟨#[99, 111, 117, 110, 116]⟩ rfl (by decide) 3 rfl (by decide) (by decide) ?_)
  intro W3 hm3
  have HM3 := Lib.hid hm3
  clear hm3 HM2
  go_wp2_with (refine ins_step w _ _ _ HM3.out rfl _ _ _ rfl rfl ⟨#[116, 97, 98, 108, 101]⟩ rfl (by decide) 0 rfl (by decide) (by decide) ?_)
  intro W4 hm4
  have HM4 := Lib.hid hm4
  clear hm4 HM3
  go_wp2_with (refine ins_step w _ _ _ HM4.out rfl _ _ _ rfl rfl ⟨#[115, 109, 97, 108, 108]⟩ rfl (by decide) 1 rfl (by decide) (by decide) ?_)
  intro W5 hm5
  have HM5 := Lib.hid hm5
  clear hm5 HM4
  go_wp2_with (refine ins_step w _ _ _ HM5.out rfl _ _ _ rfl rfl ⟨#[103, 114, 111, 119]⟩ rfl (by decide) 2 rfl (by decide) (by decide) ?_)
  intro W6 hm6
  have HM6 := Lib.hid hm6
  clear hm6 HM5
  go_wp2_with (refine ins_step w _ _ _ HM6.out rfl _ _ _ rfl rfl ⟨#[114, 111, 117, 110, 100]⟩ rfl (by decide) 1 rfl (by decide) (by decide) ?_)
  intro W7 hm7
  have HM7 := Lib.hid hm7
  clear hm7 HM6
  go_wp2_with (refine ins_step w _ _ _ HM7.out rfl _ _ _ rfl rfl ⟨#[103, 114, 111, 117, 112, 115]⟩ rfl (by decide) 0 rfl (by decide) (by decide) ?_)
  intro W8 hm8
  have HM8 := Lib.hid hm8
  clear hm8 HM7
  have h08 := (HM8.out.2.cell (p := ⟨sb, 0, none⟩) hsb).trans h0'
  have HB8 := Lib.hid HM8.out.2
  go_wp2_with (at_lookup; refine look_step w _ HM8.out rfl _ _ rfl rfl ⟨#[103, 114, 111, 119]⟩ rfl (by decide) 2 true (by decide) (by decide) ?_)
  all_goals try go_wp2_with fail
  go_loopw [9, 45] (fun v i wr => ∃ j : Nat, j ≤ 2 ∧ i = .int .i64 j ∧ Own wr w.heap.size v ((numsB ss).take j) ∧ Below w.heap.size w wr) (fun _ i _ => 2 - (intOf i).toNat)
  case atStart => exact ⟨0, Nat.zero_le _, rfl, by rw [List.take_zero]; exact Own.nil _ _, HB8.out⟩
  case round =>
    obtain ⟨j, hj, rfl, ho, hb⟩ := hrel
    have HO := Lib.hid ho
    have HB := Lib.hid hb
    have hsw := hb.size
    by_cases hjm : j < 2
    · have hcj : wr.cell? ⟨sb, 1 + j, none⟩ = some (.string (ss.getD (1 + j) ⟨#[]⟩)) := (hb.cell (p := ⟨sb, 1 + j, none⟩) hsb).trans (by have := HROW.out.2 (1 + j) (by rw [HSN.out]; omega); rwa [Nat.zero_add] at this)
      obtain ⟨x, hx⟩ : ∃ x, ss.getD (1 + j) ⟨#[]⟩ = x := ⟨_, rfl⟩
      rw [hx] at hcj
      have hxs : x.size ≤ 500 := by rw [← hx, List.getD_eq_getElem?_getD, List.getElem?_eq_getElem (by rw [HSN.out]; omega), Option.getD_some]; exact HSZ.out _ (List.getElem_mem _)
      have HTK := Lib.hid (nums_take (xs := numsB ss) (k := j) (by rw [numsB_len, HSN.out]; omega))
      rw [numsB_at ss (by rw [HSN.out]; omega), Nat.add_comm j 1, hx, Nat.add_comm 1 j] at HTK
      have HTL := Lib.hid (show ((numsB ss).take j).length = j by rw [List.length_take, numsB_len, HSN.out]; omega)
      have hji : (j : Int) < 2 := by omega
      obtain ⟨zs, hzs⟩ : ∃ zs, (numsB ss).take j = zs := ⟨_, rfl⟩
      rw [hzs] at HO HTK HTL
      clear ho hb hx hzs
      go_wp2_with fail
      refine (scrI x (by omega) wr).mono ?_
      rintro e w1 ⟨rfl, hb1⟩
      have HB1 := Lib.hid hb1
      have HO1 := Lib.hid (HO.out.below hb1)
      have hs1 := hb1.size
      have hj9 : Hid (zs.length ≤ 1000000000) := Lib.hid (by rw [HTL.out]; omega)
      clear hb1
      go_wp2_with (at_builtin; refine wpList_app eltI rfl (.tmp 49) (.tmp 52) rfl w.heap.size _ _ _ rfl HO1.out [.int .i64 (scrN x.data.toList)] rfl (by intro u hu; simp at hu; subst hu; rfl) rfl rfl hj9.out (by omega) ?_)
      intro v' w2 ho2 hb2 _
      have HO2 := Lib.hid (show Own w2 w.heap.size v' ((numsB ss).take (j + 1)) by
        rw [HTK.out]
        unfold Own
        rw [List.length_append, List.length_singleton, List.map_append, List.map_singleton]
        exact ho2)
      have HB2 := Lib.hid ((HB.out.trans (HB1.out.mono hsw)).trans hb2)
      clear ho2 hb2
      go_wp2_with fail
      go_roundw
      case rel => exact ⟨j + 1, by omega, by go_num, HO2.out, HB2.out⟩
      case measure => simp [intOf]; omega
    · obtain rfl : j = 2 := by omega
      rw [List.take_of_length_le (by have h := numsB_len ss; rw [HSN.out] at h; omega)] at ho
      obtain ⟨an, bn, cn, hvn, hn1, hn2, hnr, -⟩ := ho.row
      have hnl : (numsB ss).length = 2 := by rw [numsB_len, HSN.out]
      rw [hnl] at hvn hn1
      subst hvn
      have HNR := Lib.hid hnr
      have HNL := Lib.hid hnl
      have hbc := (boxed_bel HBOX.out hb hblk).cell
      have hp1 := HPPL.out.keep hb (Nat.le_refl _)
      clear ho hnr hnl HO
      go_wp2_with fail
      refine (tableOfI ao b 0 cap L wr hp1 HV.out).mono ?_
      rintro e w3 ⟨vt, gt, rfl, hmt, hb3⟩
      have HB3 := Lib.hid (HB.out.trans (hb3.mono hsw))
      have HNR3 := Lib.hid (HNR.out.keep hb3 (Nat.le_refl _))
      have HMT := Lib.hid (hmt.mono hsw)
      obtain ⟨at3, bt3, ct3, rfl, ht1, ht2, htab⟩ := hmt.tab
      have HTAB := Lib.hid htab
      have HTT := Lib.hid (tabO_tv HV.out)
      have hn40 : (numsB ss).length ≤ 4 := by rw [HNL.out]; decide
      have h03 := (HB3.out.cell (p := ⟨sb, 0, none⟩) hsb).trans h0'
      have hbc3 := (boxed_bel HBOX.out HB3.out hblk).cell
      have HSC3 := Lib.hid (HSC.out.keep HB3.out)
      have HLIB3 := Lib.hid (HLIB.out.keep HB3.out (Nat.le_refl _))
      have HPPL3 := Lib.hid (HPPL.out.keep HB3.out (Nat.le_refl _))
      have hs3 := HB3.out.size
      clear hb hb3 hmt htab hp1 hbc
      have htl := tabO_len L
      have HLN := Lib.hid htl
      obtain ⟨y0, y1, hy⟩ : ∃ y0 y1, numsB ss = [y0, y1] := two HNL.out
      have HNM := Lib.hid (show numsM (wsL ss) = [y0, y1] by rw [numsB_eq, hy])
      have n0 := HNR3.out.2 0 (by rw [HNL.out]; decide)
      have n1 := HNR3.out.2 1 (by rw [HNL.out]; decide)
      obtain rfl := HNR3.out.1 (by rw [HNL.out]; decide)
      rw [hy] at n0 n1
      simp only [List.getD_cons_zero, List.getD_cons_succ, Nat.zero_add] at n0 n1
      obtain rfl := HTAB.out.1 (by rw [HLN.out]; decide)
      have hbn := World.block_lt_of_cell? _ _ n0
      simp only at hbn
      rw [htl] at ht1 ⊢
      clear hy htl
      go_wp2_with fail
      have hMS := maskSmallI (some ⟨bt3, 0, none⟩) bt3 0 ct3 (tabO L) y0 w3 HTAB.out HTT.out
      rw [HLN.out] at hMS
      refine hMS.mono ?_
      rintro e w4 ⟨vm, gm, rfl, hmm, hb4⟩
      obtain ⟨am, bm, cm, rfl, hm1, hm2, hmt⟩ := hmm.tabB
      have hml : (maskS (tabO L) y0).length = 4 := by rw [maskS_len, HLN.out]
      obtain rfl := hmt.1 (by rw [hml]; decide)
      have HB4 := Lib.hid (HB3.out.trans (hb4.mono hs3))
      have hTB4 := HTAB.out.keep hb4 (Nat.le_refl _)
      have HTAB4 := Lib.hid hTB4
      have HLIB4 := Lib.hid (HLIB3.out.keep hb4 (Nat.le_refl _))
      have hmv := maskS_mv (T := tabO L) y0 HTT.out
      have hs4 := HB4.out.size
      have n14 := (hb4.cell (p := ⟨bn, 1, none⟩) hbn).trans n1
      have hGR : Calls Tryz.prog 46 #[.slice (some ⟨bt3, 0, none⟩) (tabO L).length ct3, .slice (some ⟨bm, 0, none⟩) (tabO L).length cm, .int .i64 y1] w4 (GrowP (tabO L) (maskS (tabO L) y0) y1 w4) := by
        cases hn : cellB y1 with
        | false => exact growI_f bt3 ct3 (tabO L) bm cm _ y1 w4 hTB4 hmt hmv hn
        | true => exact growI bt3 ct3 (tabO L) bm cm _ y1 w4 hTB4 hmt hmv hn
      rw [HLN.out] at hGR
      have HGR := Lib.hid hGR
      rw [hml] at hm1 ⊢
      clear hmm hmt hb4 hMS hml hTB4 hmv hGR n0 n1 hbn
      go_wp2_with fail
      refine (HGR.out).mono ?_
      intro e w5 hgp
      cases hg : growM (tabO L) (maskS (tabO L) y0) y1 with
      | none =>
        obtain ⟨rfl, hb5⟩ := growP_none hg hgp
        have HG := Lib.hid (show growS (tabO L) y0 y1 = sNo by unfold growS; rw [hg])
        have HB5 := Lib.hid (HB4.out.trans (hb5.mono hs4))
        have hs5 := HB5.out.size
        have hTT := maskTextI (some ⟨bt3, 0, none⟩) bt3 0 ct3 (tabO L) none 0 0 0 [] w5 (HTAB4.out.keep hb5 (Nat.le_refl _)) (by rw [HLN.out]; decide) ⟨fun h => absurd h (by simp), fun i hi => absurd hi (by simp)⟩ ⟨Nat.le_refl _, by decide⟩ (HLIB4.out.keep hb5 (Nat.le_refl _)).1.1
        rw [HLN.out] at hTT
        have HTX := Lib.hid hTT
        clear hgp hg hb5 hTT
        go_wp2_with fail
        refine (HTX.out).mono ?_
        rintro e w6 ⟨rfl, hb6⟩
        have HB6 := Lib.hid (HB5.out.trans (hb6.mono hs5))
        clear hb6
        go_wp2_with fail
        go_ret2
        refine ⟨_, false, rfl, ?_, ?_, (Fr.refl _ _).below HB6.out⟩
        · rw [step_6 HK.out, HNM.out, if_neg (by decide)]
          exact HG.out
        · rw [step_6 HK.out]
          exact HSC.out.keep HB6.out
      | some M' =>
        obtain ⟨ob, gg, rfl, hmt, hmv, hb5⟩ := growP_some hg hgp
        have hml : M'.length = 4 := by rw [(fitM_of hmv).1, HLN.out]
        have HG := Lib.hid (show growS (tabO L) y0 y1 = (mt (tabO L) M').data.toList by unfold growS; rw [hg, mt_t hmv])
        have HB5 := Lib.hid (HB4.out.trans (hb5.mono hs4))
        have hs5 := HB5.out.size
        have hTT := maskTextI (some ⟨bt3, 0, none⟩) bt3 0 ct3 (tabO L) (some ⟨ob, 0, none⟩) ob 0 4 M' w5 (HTAB4.out.keep hb5 (Nat.le_refl _)) (by rw [HLN.out]; decide) (mtb_tab hmt (by rw [hml]; decide)) ⟨by rw [hml]; decide, by decide⟩ (HLIB4.out.keep hb5 (Nat.le_refl _)).1.1
        rw [HLN.out, hml] at hTT
        rw [HLN.out]
        have HTX := Lib.hid hTT
        clear hgp hg hb5 hTT hmt hmv hml
        go_wp2_with fail
        refine (HTX.out).mono ?_
        rintro e w6 ⟨rfl, hb6⟩
        have HB6 := Lib.hid (HB5.out.trans (hb6.mono hs5))
        clear hb6
        go_wp2_with fail
        go_ret2
        refine ⟨_, true, rfl, ?_, ?_, (Fr.refl _ _).below HB6.out⟩
        · rw [step_6 HK.out, HNM.out, if_pos rfl]
          exact HG.out
        · rw [step_6 HK.out]
          exact HSC.out.keep HB6.out
end Go.Proofs.YtlmlchkolcmhpaaGreatDoor
