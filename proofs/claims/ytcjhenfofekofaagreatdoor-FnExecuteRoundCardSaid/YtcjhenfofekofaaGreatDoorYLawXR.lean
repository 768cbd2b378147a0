/-
  The walk of laws.FnExecuteRound.
-/
import Derived.Test.YtcjhenfofekofaaGreatDoorJ4
import Derived.Test.YtcjhenfofekofaaGreatDoorYRnd
import Derived.Test.YtcjhenfofekofaaGreatDoorYCopyR
import Derived.Test.YtcjhenfofekofaaGreatDoorYLine7
import Derived.Test.YtcjhenfofekofaaGreatDoorJ2
import Derived.Test.YtcjhenfofekofaaGreatDoorJ3
import Derived.IntWalk
import Derived.Carry
import Derived.OrdersHeld
import Derived.Deep.RegionHeld
namespace Go.Proofs.YtcjhenfofekofaaGreatDoor
open Go.RowKit
open Go.TextMath (tvB mvB text word)
open Go.ParseMath

theorem rndT_put {T : List (List Int)} {b : Int} (hb : baseB b = true) (pre : List (Nat × Nat)) {i j : Nat} (hi : i < T.length) (hj : j < (T.getD i []).length) : rndT T b (pre ++ [(i, j)]) = putC (rndT T b pre) i j (near (cellT T i j) b) := by
  rw [rndT_snoc hb pre hi hj, rndT_at b pre hi hj]
  split
  · rw [near_twice _ hb]
  · rfl
theorem near_tv {L : List Per} (h : pplB L = true) (h12 : L.length ≤ 12) : tvB (nearT (tabO L) 3) = true := by
  obtain ⟨h1, h2, h3, h4, h5⟩ := tv_t.1 (tabO_tv h)
  have hl := tabO_len L
  have hr := tabO_row L (ppl_all h)
  have h0 : (nearT (tabO L) 3).getD 0 [] = ((tabO L).getD 0 []).map fun x => near x 3 := nearT_row (by omega)
  refine tv_t.2 ⟨by rw [nearT_len]; omega, by rw [nearT_len]; omega, by rw [h0, List.length_map]; omega, by rw [h0, List.length_map]; omega, fun i hi => ?_⟩
  rw [nearT_len] at hi
  rw [nearT_row hi, h0, List.length_map]
  refine ⟨by rw [List.length_map]; exact (h5 i hi).1, fun j hj => ?_⟩
  rw [List.length_map] at hj
  have h6 := tabO_cell L (ppl_all h) i j (by omega) (by rw [hr i (by omega)] at hj; exact hj)
  unfold cellT at h6
  have h7 := near_le (x := ((tabO L).getD i []).getD j 0) (b := 3) h6.1 (by omega)
  rw [List.getD_eq_getElem?_getD, List.getElem?_map, List.getElem?_eq_getElem hj]
  rw [List.getD_eq_getElem?_getD, List.getElem?_eq_getElem hj] at h6 h7
  simp only [Option.map_some, Option.getD_some] at h6 h7 ⊢
  omega
/-- What the loops keep. -/
def RndW (T : List (List Int)) (w : World) (tb cap : Nat) (g : Nat → Nat) (pre : List (Nat × Nat)) (W : World) : Prop :=
  MtI W w.heap.size (.slice (some ⟨tb, 0, none⟩) T.length cap) (rndT T 3 pre) g ∧ Below w.heap.size w W

set_option maxRecDepth 100000 in
set_option maxHeartbeats 4000000 in
theorem executeRound (a0 : Option Addr) (b0 o0 cap0 : Nat) (xs0 : List Int) (w : World) (hr0 : Row .u8 w a0 b0 o0 xs0) (hl0 : xs0.length ≤ cap0 ∧ cap0 ≤ 9223372036854775807) (hw0 : ∀ i, i < xs0.length → (Lit.int .u8 (xs0.getD i 0)).wf = true) (ht : LibM w) :
    Calls Tryz.prog 9 #[.slice a0 xs0.length cap0] w fun e w' => e = .returned (.bool true) ∧ Below w.heap.size w w' := by
  have HP := Lib.hid ht
  have HD := Lib.hid (drawTO a0 b0 o0 cap0 xs0 w hr0 hl0 hw0)
  clear hr0 hw0 ht
  by_cases hbig : 1048576 < xs0.length
  · go_enter Tryz.func9, Tryz.ntmps9
    go_wp2_with fail
    go_ret
    exact ⟨rfl, Below.refl _ _⟩
  · have hs0 : xs0.length ≤ 1048576 := by omega
    clear hbig
    go_enter Tryz.func9, Tryz.ntmps9
    go_wp2_with fail
    refine (HD.out).mono ?_
    rintro e w1 ⟨ao, b, cap, L, rfl, hT, hc1, hc2, hT4, hb1⟩
    have HT := Lib.hid hT
    have HB1 := Lib.hid hb1
    have HP1 := Lib.hid (HP.out.keep hb1 (Nat.le_refl _))
    clear hT hb1
    cases hv : pplB L with
    | false =>
      have HV := Lib.hid hv
      clear hv
      go_wp2_with fail
      refine (tableOfI_f ao b 0 cap L w1 HT.out (by omega) HV.out).mono ?_
      rintro e w2 ⟨rfl, hb2⟩
      have HT2 := Lib.hid (HT.out.keep hb2 (Nat.le_refl _))
      have HB2 := Lib.hid (HB1.out.trans (hb2.mono HB1.out.size))
      clear hb2
      go_wp2_with fail
      refine (tableOfS_f ao b 0 cap L w2 HT2.out (by omega) HV.out).mono ?_
      rintro e w3 ⟨a3, rfl, hb3⟩
      have HB3 := Lib.hid (HB2.out.trans (hb3.mono HB2.out.size))
      clear hb3
      go_wp2_with fail
      refine (sameRows_yes none a3 0 0 0 0 0 0 [] w3 (tab_nil _ _ _ _) (tab_nil _ _ _ _) (by simp)).mono ?_
      rintro e w4 ⟨rfl, q, rfl⟩
      have HB4 := Lib.hid (HB3.out.trans ((below_draws w3 q).mono HB3.out.size))
      go_wp2_with fail
      refine (sameRows_yes none a3 0 0 0 0 0 0 [] _ (tab_nil _ _ _ _) (tab_nil _ _ _ _) (by simp)).mono ?_
      rintro e w5 ⟨rfl, q5, rfl⟩
      have HB5 := Lib.hid (HB4.out.trans ((below_draws (w3.drewN q) q5).mono HB4.out.size))
      go_wp2_with fail
      go_ret
      first | exact ⟨rfl, HB5.out⟩ | (rw [← World.drewN_add]; exact ⟨rfl, HB5.out⟩) | (have := HB5.out; rw [World.drewN_drewN] at this; exact ⟨rfl, this⟩)
    | true =>
      have HV := Lib.hid hv
      have HTVL := Lib.hid (tabO_tv hv)
      have HTI := Lib.hid (fun (W : World) (h : Ppl W ao b 0 L) => tableOfI ao b 0 cap L W h hv)
      have HTS := Lib.hid (fun (W : World) (h : Ppl W ao b 0 L) => tableOfS ao b 0 cap L W h hv)
      have htl := tabO_len L
      obtain ⟨T, hTT⟩ : ∃ T, tabO L = T := ⟨_, rfl⟩
      rw [hTT] at HTI HTS HTVL htl
      have HTE := Lib.hid hTT
      have HTL := Lib.hid htl
      clear hv hTT htl
      go_wp2_with fail
      refine (HTI.out w1 HT.out).mono ?_
      rintro e w2 ⟨v2, g2, rfl, hm2, hb2⟩
      obtain ⟨a2, t2, c2, rfl, k1, k2, htab2⟩ := hm2.tab
      have HA2 := Lib.hid htab2
      have HT2 := Lib.hid (HT.out.keep hb2 (Nat.le_refl _))
      have HB2 := Lib.hid (HB1.out.trans (hb2.mono HB1.out.size))
      have HP2 := Lib.hid (HP1.out.keep hb2 (Nat.le_refl _))
      clear hm2 hb2 htab2
      go_wp2_with fail
      refine (HTS.out w2 HT2.out).mono ?_
      rintro e w3 ⟨v3, g3, rfl, hm3, hb3⟩
      obtain ⟨a3, t3, c3, rfl, k3, k4, htab3⟩ := hm3.tab
      have HA3 := Lib.hid htab3
      have HA23 := Lib.hid (HA2.out.keep hb3 (Nat.le_refl _))
      have HT3 := Lib.hid (HT2.out.keep hb3 (Nat.le_refl _))
      have HB3 := Lib.hid (HB2.out.trans (hb3.mono HB2.out.size))
      have HP3 := Lib.hid (HP2.out.keep hb3 (Nat.le_refl _))
      clear hm3 hb3 htab3
      go_wp2_with fail
      refine (sameRows_yes a2 a3 t2 0 c2 t3 0 c3 T w3 HA23.out HA3.out (by rw [HTL.out]; decide)).mono ?_
      rintro e w4 ⟨rfl, q, rfl⟩
      obtain ⟨w4, hw4⟩ : ∃ w4, w3.drewN q = w4 := ⟨_, rfl⟩
      have hb4 := below_draws w3 q
      rw [hw4] at hb4 ⊢
      have HA4 := Lib.hid (HA23.out.keep hb4 (Nat.le_refl _))
      have HT4 := Lib.hid (HT3.out.keep hb4 (Nat.le_refl _))
      have HB4 := Lib.hid (HB3.out.trans (hb4.mono HB3.out.size))
      have HP4 := Lib.hid (HP3.out.keep hb4 (Nat.le_refl _))
      clear hb4 hw4
      obtain rfl := HA4.out.1 (by rw [HTL.out]; decide)
      obtain ⟨hT1, hTT4, hC1, hC4, hrows⟩ := tv_t.1 HTVL.out
      have HROW := Lib.hid hrows
      obtain ⟨m, hm⟩ : ∃ m, (T.getD 0 []).length = m := ⟨_, rfl⟩
      rw [hm] at HROW hC1 hC4
      have HMM := Lib.hid hm
      have HNV := Lib.hid (near_tv HV.out (by omega))
      rw [HTE.out] at HNV
      clear hrows hm
      go_wp2_with fail
      refine (copyI (some ⟨t2, 0, none⟩) t2 0 c2 T w4 HA4.out (by rw [HTL.out]; decide) (fun i hi => by rw [(HROW.out i hi).1]; omega)).mono ?_
      rintro e w5 ⟨v5, g5, rfl, hm5, hb5⟩
      obtain ⟨a5, b5, c5, rfl, k5, k6, k7, -, -⟩ := hm5.cells
      obtain ⟨rfl, -, -⟩ := k7 (by rw [HTL.out]; decide)
      have HST := Lib.hid (show RndW T w4 b5 c5 g5 [] w5 from ⟨by rw [rndT_nil]; exact hm5, hb5⟩)
      clear hm5 hb5 k7
      go_wp2_with fail
      go_loopw [9] (fun i wr => ∃ k : Nat, k ≤ T.length ∧ i = .int .i64 k ∧ RndW T w4 b5 c5 g5 (upto (lensT T) k 0) wr) (fun i _ => T.length - (intOf i).toNat)
      case atStart => exact ⟨0, Nat.zero_le _, rfl, HST.out⟩
      case round =>
        obtain ⟨k, hk, rfl, hmk, hbk⟩ := hrel
        by_cases hkt : k < T.length
        · obtain ⟨wo, rfl⟩ : ∃ wo : World, wo = wr := ⟨_, rfl⟩
          have HMK := Lib.hid hmk
          have HBK := Lib.hid hbk
          have HLK := Lib.hid (show (T.getD k []).length = m from (HROW.out k hkt).1)
          have hki : (k : Int) < (T.length : Int) := by omega
          have HKT := Lib.hid hkt
          obtain ⟨ra, rb, ro, rc, hrow, hel, hrc, -⟩ := HA4.out.2 k hkt
          rw [HLK.out] at hrow hrc
          rw [Nat.zero_add] at hrow
          obtain rfl := hel.1 (by rw [HLK.out]; omega)
          have HROWC := Lib.hid hrow
          have HEL := Lib.hid hel
          clear hmk hbk hrow hel hkt
          go_wp2_with fail
          go_loopw [10] (fun i wr => ∃ j : Nat, j ≤ m ∧ i = .int .i64 j ∧ RndW T w4 b5 c5 g5 (upto (lensT T) k j) wr) (fun i _ => m - (intOf i).toNat)
          case atStart => exact ⟨0, Nat.zero_le _, rfl, HMK.out, HBK.out⟩
          case round =>
            obtain ⟨j, hj, rfl, hmj, hbj⟩ := hrel
            have HMJ := Lib.hid hmj
            have HBJ := Lib.hid hbj
            obtain ⟨cx, hth, -, hqc, -, -, -, -⟩ := hmj.at_ (i := k) (by rw [rndT_len]; exact HKT.out)
            rw [rndT_row, HLK.out] at hth hqc
            obtain ⟨gk, hgk⟩ : ∃ gk, g5 k = gk := ⟨_, rfl⟩
            rw [hgk] at hth
            have HGK := Lib.hid hgk
            clear hgk
            by_cases hjm : j < m
            · have hji : (j : Int) < (m : Int) := by omega
              have hjl : j < (T.getD k []).length := by rw [HLK.out]; exact hjm
              have hoel := HEL.out.2 j hjl
              have hor := (hbj.cell (p := ⟨t2, k, none⟩) (World.block_lt_of_cell? _ _ HROWC.out)).trans HROWC.out
              have hoe := (hbj.cell (p := ⟨rb, ro + j, none⟩) (World.block_lt_of_cell? _ _ hoel)).trans hoel
              have hv9 := (HROW.out k HKT.out).2 j hjl
              have HPT := Lib.hid (rndT_put (b := 3) (by decide) (upto (lensT T) k j) HKT.out hjl)
              obtain ⟨old, hold⟩ : ∃ old, ((rndT T 3 (upto (lensT T) k j)).getD k [])[j]? = some old := ⟨_, get_of (d := 0) (by rw [rndT_row]; exact hjl)⟩
              obtain ⟨hst, hsf⟩ := hmj.elt (by rw [rndT_len]; exact HKT.out) hold
              have HPUT := Lib.hid (hmj.put (by decide) (i := k) (j := j) (by rw [rndT_len]; exact HKT.out) (by rw [rndT_row]; exact hjl))
              have HNE := Lib.hid (hmj.tb_ne (by decide) (i := k) (by rw [rndT_len]; exact HKT.out))
              have HLOW := Lib.hid (hmj.low k (by rw [rndT_len]; exact HKT.out))
              rw [HGK.out] at hst hsf HPUT HNE HLOW
              obtain ⟨y, hy⟩ : ∃ y, (T.getD k []).getD j 0 = y := ⟨_, rfl⟩
              have HCY := Lib.hid (show cellT T k j = y from hy)
              rw [hy] at hoe hv9
              have hrbl := World.block_lt_of_cell? _ _ hoel
              simp only at hrbl
              have htl := World.block_lt_of_cell? _ _ HROWC.out
              simp only at htl
              have hlw := HLOW.out
              clear hmj hbj hold hy hoel hjl
              go_wp2_with fail
              refine wp_region_held (S := (fun V => V.cell? ⟨b5, k, none⟩ = some (.slice (some ⟨gk, 0, none⟩) m cx) ∧ V.cell? ⟨t2, k, none⟩ = some (.slice (some ⟨rb, ro, none⟩) m rc) ∧ V.cell? ⟨rb, ro + j, none⟩ = some (.int .i64 y))) (by kernel_rfl) ?_
              change wpAnyH _ _ _ _ _ _ _ _ wr.drew
              have hS0 : wr.drew.cell? ⟨b5, k, none⟩ = some (.slice (some ⟨gk, 0, none⟩) m cx) ∧ wr.drew.cell? ⟨t2, k, none⟩ = some (.slice (some ⟨rb, ro, none⟩) m rc) ∧ wr.drew.cell? ⟨rb, ro + j, none⟩ = some (.int .i64 y) := ⟨hth, hor, hoe⟩
              refine wpAnyH_take (i := 0) (v := .slice (some ⟨b5, 0, none⟩) T.length c5) rfl (by kernel_rfl) (by kernel_rfl) (by kernel_rfl) (fun _ _ _ h => h) (Or.inl ⟨by kernel_rfl, fun V hV => ?_⟩) hS0 ?_
              · obtain ⟨q0, q1, q2⟩ := hV
                go_simp
              simp only [Act.put, List.setIfInBounds_toArray, List.set_cons_zero, List.set_cons_succ]
              refine wpAnyH_take (i := 1) (v := .int .i64 (k : Int)) rfl (by kernel_rfl) (by kernel_rfl) (by kernel_rfl) (fun _ _ _ h => h) (Or.inl ⟨by kernel_rfl, fun V hV => ?_⟩) hS0 ?_
              · obtain ⟨q0, q1, q2⟩ := hV
                go_simp
              simp only [Act.put, List.setIfInBounds_toArray, List.set_cons_zero, List.set_cons_succ]
              refine wpAnyH_take (i := 2) (v := .pointer (some ⟨b5, k, none⟩)) rfl (by kernel_rfl) (by kernel_rfl) (by kernel_rfl) (fun _ _ _ h => h) (Or.inl ⟨by kernel_rfl, fun V hV => ?_⟩) hS0 ?_
              · obtain ⟨q0, q1, q2⟩ := hV
                go_simp
              simp only [Act.put, List.setIfInBounds_toArray, List.set_cons_zero, List.set_cons_succ]
              refine wpAnyH_take (i := 3) (v := .slice (some ⟨gk, 0, none⟩) m cx) rfl (by kernel_rfl) (by kernel_rfl) (by kernel_rfl) (fun _ _ _ h => h) (Or.inl ⟨by kernel_rfl, fun V hV => ?_⟩) hS0 ?_
              · obtain ⟨q0, q1, q2⟩ := hV
                go_simp
              simp only [Act.put, List.setIfInBounds_toArray, List.set_cons_zero, List.set_cons_succ]
              refine wpAnyH_take (i := 4) (v := .int .i64 (j : Int)) rfl (by kernel_rfl) (by kernel_rfl) (by kernel_rfl) (fun _ _ _ h => h) (Or.inl ⟨by kernel_rfl, fun V hV => ?_⟩) hS0 ?_
              · obtain ⟨q0, q1, q2⟩ := hV
                go_simp
              simp only [Act.put, List.setIfInBounds_toArray, List.set_cons_zero, List.set_cons_succ]
              refine wpAnyH_take (i := 5) (v := .slice (some ⟨t2, 0, none⟩) T.length c2) rfl (by kernel_rfl) (by kernel_rfl) (by kernel_rfl) (fun _ _ _ h => h) (Or.inl ⟨by kernel_rfl, fun V hV => ?_⟩) hS0 ?_
              · obtain ⟨q0, q1, q2⟩ := hV
                go_simp
              simp only [Act.put, List.setIfInBounds_toArray, List.set_cons_zero, List.set_cons_succ]
              refine wpAnyH_take (i := 6) (v := .int .i64 (k : Int)) rfl (by kernel_rfl) (by kernel_rfl) (by kernel_rfl) (fun _ _ _ h => h) (Or.inl ⟨by kernel_rfl, fun V hV => ?_⟩) hS0 ?_
              · obtain ⟨q0, q1, q2⟩ := hV
                go_simp
              simp only [Act.put, List.setIfInBounds_toArray, List.set_cons_zero, List.set_cons_succ]
              refine wpAnyH_take (i := 7) (v := .pointer (some ⟨t2, k, none⟩)) rfl (by kernel_rfl) (by kernel_rfl) (by kernel_rfl) (fun _ _ _ h => h) (Or.inl ⟨by kernel_rfl, fun V hV => ?_⟩) hS0 ?_
              · obtain ⟨q0, q1, q2⟩ := hV
                go_simp
              simp only [Act.put, List.setIfInBounds_toArray, List.set_cons_zero, List.set_cons_succ]
              refine wpAnyH_take (i := 8) (v := .slice (some ⟨rb, ro, none⟩) m rc) rfl (by kernel_rfl) (by kernel_rfl) (by kernel_rfl) (fun _ _ _ h => h) (Or.inl ⟨by kernel_rfl, fun V hV => ?_⟩) hS0 ?_
              · obtain ⟨q0, q1, q2⟩ := hV
                go_simp
              simp only [Act.put, List.setIfInBounds_toArray, List.set_cons_zero, List.set_cons_succ]
              refine wpAnyH_take (i := 9) (v := .int .i64 (j : Int)) rfl (by kernel_rfl) (by kernel_rfl) (by kernel_rfl) (fun _ _ _ h => h) (Or.inl ⟨by kernel_rfl, fun V hV => ?_⟩) hS0 ?_
              · obtain ⟨q0, q1, q2⟩ := hV
                go_simp
              simp only [Act.put, List.setIfInBounds_toArray, List.set_cons_zero, List.set_cons_succ]
              refine wpAnyH_take (i := 10) (v := .pointer (some ⟨rb, ro + j, none⟩)) rfl (by kernel_rfl) (by kernel_rfl) (by kernel_rfl) (fun _ _ _ h => h) (Or.inl ⟨by kernel_rfl, fun V hV => ?_⟩) hS0 ?_
              · obtain ⟨q0, q1, q2⟩ := hV
                go_simp
              simp only [Act.put, List.setIfInBounds_toArray, List.set_cons_zero, List.set_cons_succ]
              refine wpAnyH_take (i := 11) (v := .int .i64 y) rfl (by kernel_rfl) (by kernel_rfl) (by kernel_rfl) (fun _ _ _ h => h) (Or.inl ⟨by kernel_rfl, fun V hV => ?_⟩) hS0 ?_
              · obtain ⟨q0, q1, q2⟩ := hV
                go_simp
              simp only [Act.put, List.setIfInBounds_toArray, List.set_cons_zero, List.set_cons_succ]
              refine wpAnyH_ready (rs := [12]) (by kernel_rfl) (by simp) ?_
              refine AllReadyH.cons rfl (fun K hK => ?_) AllReadyH.nil
              rw [if_pos (by kernel_rfl)]
              go_simp
              refine (nearI y 3 _ hv9.1 (by omega) (by decide)).mono ?_
              rintro e w' ⟨rfl, rfl⟩
              refine hK.out _ _ hS0 (fun _ => ?_)
              try simp only [Act.put, List.setIfInBounds_toArray, List.set_cons_zero, List.set_cons_succ]
              clear hK K
              refine wpAnyH_take (i := 13) (v := .pointer (some ⟨gk, j, none⟩)) rfl (by kernel_rfl) (by kernel_rfl) (by kernel_rfl) (fun _ _ _ h => h) (Or.inl ⟨by kernel_rfl, fun V hV => ?_⟩) hS0 ?_
              · obtain ⟨q0, q1, q2⟩ := hV
                go_simp
              simp only [Act.put, List.setIfInBounds_toArray, List.set_cons_zero, List.set_cons_succ]
              have hst' : wr.drew.cell? ⟨gk, j, none⟩ = some (.int .i64 old) := hst
              have hsf' : wr.drew.frozen? ⟨gk, j, none⟩ = false := hsf
              refine wpAnyH_ready (rs := [14]) (by kernel_rfl) (by simp) ?_
              refine AllReadyH.cons rfl (fun K hK => ?_) AllReadyH.nil
              go_simp
              have hSN : (wr.drew.setCell ⟨gk, j, none⟩ (.int .i64 (near y 3))).cell? ⟨b5, k, none⟩ = some (.slice (some ⟨gk, 0, none⟩) m cx) ∧ (wr.drew.setCell ⟨gk, j, none⟩ (.int .i64 (near y 3))).cell? ⟨t2, k, none⟩ = some (.slice (some ⟨rb, ro, none⟩) m rc) ∧ (wr.drew.setCell ⟨gk, j, none⟩ (.int .i64 (near y 3))).cell? ⟨rb, ro + j, none⟩ = some (.int .i64 y) :=
                ⟨(World.cell?_of_block (Below.heap_setCell wr.drew ⟨gk, j, none⟩ _ b5 HNE.out)).trans hth, (World.cell?_of_block (Below.heap_setCell wr.drew ⟨gk, j, none⟩ _ t2 (by simp only; omega))).trans hor, (World.cell?_of_block (Below.heap_setCell wr.drew ⟨gk, j, none⟩ _ rb (by simp only; omega))).trans hoe⟩
              refine hK.out _ _ hSN (fun _ => ?_)
              try simp only [Act.put, List.setIfInBounds_toArray, List.set_cons_zero, List.set_cons_succ]
              clear hK K
              refine wpAnyH_done (by kernel_rfl) ?_ _
              have HNW := Lib.hid (show RndW T w4 b5 c5 g5 (upto (lensT T) k (j + 1)) (wr.setCell ⟨gk, j, none⟩ (.int .i64 (near y 3))).drew from ⟨by
                rw [upto_next, HPT.out, HCY.out]
                exact (HPUT.out (near y 3)).below (Below.refl _ _).drew, (HBJ.out.setCell (p := ⟨gk, j, none⟩) hlw _).drew⟩)
              obtain ⟨wn, hwn⟩ : ∃ wn, (wr.setCell ⟨gk, j, none⟩ (.int .i64 (near y 3))).drew = wn := ⟨_, rfl⟩
              try change Exit.inBlock _ _ _ _ (wr.setCell ⟨gk, j, none⟩ (.int .i64 (near y 3))).drew
              rw [hwn] at HNW ⊢
              clear hwn hSN hst' hsf' hS0 hth hor hoe hst hsf
              go_wp2_with fail
              go_roundw
              case rel => exact ⟨j + 1, by omega, by go_num, HNW.out⟩
              case measure => simp [intOf]; omega
            · obtain rfl : j = m := by omega
              have HNX := Lib.hid (show RndW T w4 b5 c5 g5 (upto (lensT T) (k + 1) 0) wr from ⟨by rw [← upto_row, lensT_at T HKT.out, HLK.out]; exact HMJ.out, HBJ.out⟩)
              clear hmj hbj
              go_wp2_with fail
              go_roundw
              case rel => exact ⟨k + 1, by omega, by go_num, HNX.out⟩
              case measure => simp [intOf]; omega
        · obtain rfl : k = T.length := by omega
          obtain ⟨w5', hw5'⟩ : ∃ w5', w5 = w5' := ⟨_, rfl⟩
          obtain ⟨w6, rfl⟩ : ∃ w6 : World, w6 = wr := ⟨_, rfl⟩
          rw [← lensT_len T, upto_all, rndT_all HTVL.out] at hmk
          rw [lensT_len] at hmk
          obtain ⟨aX, bX, cX, hvX, -, -, htX⟩ := hmk.tab
          injection hvX with e1 e2 e3
          subst e1 e3
          have HX6 := Lib.hid htX
          have HB6 := Lib.hid (HB4.out.trans (hbk.mono HB4.out.size))
          have HP6 := Lib.hid (HP4.out.keep hbk (Nat.le_refl _))
          have HT6 := Lib.hid (HT4.out.keep hbk (Nat.le_refl _))
          obtain ⟨N, hN⟩ : ∃ N, nearT T 3 = N := ⟨_, rfl⟩
          have HNL : Hid (N.length = T.length) := Lib.hid (by rw [← hN]; exact nearT_len _ _)
          have HNE := Lib.hid hN
          rw [hN] at HX6 HNV
          clear hmk hbk htX hN e2 hw5'
          have HPE := Lib.hid (Go.RowKit.Below.refl w6.heap.size w6)
          have hps : (⟨(scriptOf (L.map perL)).toArray⟩ : ByteArray).size ≤ 2400 := by
            have h1 := script_len (L := L) (ppl_all HV.out)
            show (scriptOf (L.map perL)).toArray.size ≤ 2400
            rw [List.size_toArray]
            omega
          have HSL : Hid ((⟨(scriptOf (L.map perL)).toArray⟩ : ByteArray) ++ ⟨#[114, 111, 117, 110, 100, 32, 51, 10]⟩ = ⟨(scriptOf (L.map perL) ++ scriptOf [kRound ++ [32, 51]]).toArray⟩) := by
            show _ = _
            apply ByteArray.ext
            apply Array.toList_inj.1
            simp [scriptOf, kTable, kSmall, kGrow, kRound, kGroups, kCount, kDrop]
          have hpl := personLinesI ao b cap L w6 HT6.out HV.out hc1 hc2 HP6.out.1.1
          have HEX := Lib.hid (fun (s : ByteArray) (hs : s.data.toList = scriptOf (L.map perL) ++ scriptOf [kRound ++ [32, 51]]) (h5 : s.size ≤ 500) => exec_lines HV.out [kRound ++ [32, 51]] (by decide) hs h5 (run_round L))
          have HLC := Lib.hid (fun (s : ByteArray) (hs : s.data.toList = scriptOf (L.map perL) ++ scriptOf [kRound ++ [32, 51]]) => lines_ok line1 (ls := [kRound ++ [32, 51]]) (by
            intro l hl
            simp only [List.mem_cons, List.not_mem_nil, or_false] at hl
            obtain rfl := hl
            exact ⟨by decide, by rw [show kindM (cutL 32 (kRound ++ [32, 51])) = 7 by decide]; exact line7⟩) hs)
          obtain ⟨PL, hPL⟩ : ∃ PL, (⟨(scriptOf (L.map perL)).toArray⟩ : ByteArray) = PL := ⟨_, rfl⟩
          rw [hPL] at hps HSL hpl
          obtain ⟨S, hS⟩ : ∃ S, PL ++ ⟨#[114, 111, 117, 110, 100, 32, 51, 10]⟩ = S := ⟨_, rfl⟩
          have hS2 : S.data.toList = scriptOf (L.map perL) ++ scriptOf [kRound ++ [32, 51]] := by rw [← hS, HSL.out]
          rw [hS] at HSL
          have HX := Lib.hid (HEX.out S hS2)
          have HLS := Lib.hid (HLC.out S hS2)
          have hss : S.size ≤ 100000 := by
            rw [← hS, ByteArray.size_append]
            show PL.size + 8 ≤ _
            omega
          have hps2 : PL.size + 8 ≤ 9223372036854775807 := by omega
          have HPL := Lib.hid hpl
          clear hPL hS2 HEX HLC hpl
          go_wp2_with fail
          refine (HPL.out).mono ?_
          rintro e w7 ⟨rfl, hb7⟩
          have HB7 := Lib.hid (HB6.out.trans (hb7.mono HB6.out.size))
          have HP7 := Lib.hid (HP6.out.keep hb7 (Nat.le_refl _))
          have HX7 := Lib.hid (HX6.out.keep hb7 (Nat.le_refl _))
          clear hb7
          by_cases h5 : S.size ≤ 500
          · have hx := HX.out h5
            rw [HTE.out, HNE.out] at hx
            have hEX := executeI S w7 (by omega) HP7.out HLS.out
            obtain ⟨X, hXe⟩ : ∃ X, (⟨(execM S.data.toList).toArray⟩ : ByteArray) = X := ⟨_, rfl⟩
            rw [hXe] at hEX
            obtain ⟨O, hO⟩ : ∃ O, (⟨(oks L.length).toArray⟩ : ByteArray) = O := ⟨_, rfl⟩
            obtain ⟨E, hE⟩ : ∃ E, (⟨(endL L.length).toArray⟩ : ByteArray) = E := ⟨_, rfl⟩
            have hTx := tt_t HNV.out
            obtain ⟨TT, hTTe⟩ : ∃ TT, tt N = TT := ⟨_, rfl⟩
            have hall : O ++ TT ++ E = X := by
              rw [← hXe, ← hO, ← hE, ← hTTe, hTx, hx]
              apply ByteArray.ext
              apply Array.toList_inj.1
              simp
            have hsO : O.size ≤ 1000 := by rw [← hO]; exact oks_size hT4
            have hsE : E.size ≤ 1000 := by rw [← hE]; exact endL_size hT4
            have hsT : TT.size ≤ 1000 := by rw [← hTTe, hTx]; exact text_size (tv_fit HNV.out) (by rw [HNL.out, HTL.out]; decide)
            obtain ⟨A1, hA1⟩ : ∃ A1, O ++ TT = A1 := ⟨_, rfl⟩
            have hs1 : O.size + TT.size ≤ 9223372036854775807 := by omega
            have hz1 : A1.size ≤ 2000 := by rw [← hA1, ByteArray.size_append]; omega
            have hs3 : A1.size + E.size ≤ 9223372036854775807 := by omega
            rw [hA1] at hall
            have htx := tableTextI (some ⟨b5, 0, none⟩) bX 0 c5 N
            rw [HNL.out] at htx
            have HTI := Lib.hid htx
            have HEX := Lib.hid hEX
            have HO := Lib.hid hO
            have HE := Lib.hid hE
            have HTX := Lib.hid hTTe
            clear hx hEX hXe hO hE hTx hTTe htx
            go_wp2_with fail
            refine (HEX.out).mono ?_
            rintro e w8 ⟨rfl, hb8⟩
            have HB8 := Lib.hid (HB7.out.trans (hb8.mono HB7.out.size))
            have HP8 := Lib.hid (HP7.out.keep hb8 (Nat.le_refl _))
            have HX8 := Lib.hid (HX7.out.keep hb8 (Nat.le_refl _))
            clear hb8
            go_wp2_with fail
            refine (okLinesI ao cap L.length w8 (by omega)).mono ?_
            rw [HO.out]
            rintro e w9 ⟨rfl, hb9⟩
            have HB9 := Lib.hid (HB8.out.trans (hb9.mono HB8.out.size))
            have HP9 := Lib.hid (HP8.out.keep hb9 (Nat.le_refl _))
            have HX9 := Lib.hid (HX8.out.keep hb9 (Nat.le_refl _))
            clear hb9
            go_wp2_with fail
            refine (HTI.out w9 HX9.out (by rw [HTL.out]; decide) HP9.out.1.1).mono ?_
            rw [HTX.out]
            rintro e w10 ⟨rfl, hb10⟩
            have HB10 := Lib.hid (HB9.out.trans (hb10.mono HB9.out.size))
            clear hb10
            go_wp2_with fail
            refine (endLineI L.length w10 (by omega)).mono ?_
            rw [HE.out]
            rintro e w11 ⟨rfl, hb11⟩
            have HB11 := Lib.hid (HB10.out.trans (hb11.mono HB10.out.size))
            clear hb11
            go_wp2_with fail
            go_ret
            exact ⟨rfl, HB11.out⟩
          · have h6 : 500 < S.size := by omega
            have hT0 : 0 < T.length := by rw [HTL.out]; decide
            clear h5
            go_wp2_with fail
            go_ret
            exact ⟨rfl, HB7.out⟩
end Go.Proofs.YtcjhenfofekofaaGreatDoor
