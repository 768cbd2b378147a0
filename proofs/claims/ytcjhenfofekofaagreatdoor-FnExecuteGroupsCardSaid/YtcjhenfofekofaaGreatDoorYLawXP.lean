/-
  The walk of laws.FnExecuteGroups.
-/
import Derived.Test.YtcjhenfofekofaaGreatDoorJ4
import Derived.Test.YtcjhenfofekofaaGreatDoorYLine8
import Derived.Test.YtcjhenfofekofaaGreatDoorJ2
import Derived.Test.YtcjhenfofekofaaGreatDoorJ3
import Derived.Test.YtcjhenfofekofaaGreatDoorYGroupJ
import Derived.IntWalk
import Derived.Carry
import Derived.OrdersHeld
import Derived.Deep.RegionHeld
namespace Go.Proofs.YtcjhenfofekofaaGreatDoor
open Go.RowKit
open Go.TextMath (tvB mvB text word)
open Go.ParseMath

theorem groups_text (m1 m2 m3 : Int) : (wd m1 ++ ⟨#[32]⟩ ++ wd m2 ++ ⟨#[32]⟩ ++ wd m3 ++ ⟨#[10]⟩).data.toList = text [[m1, m2, m3]] [] := by
  rw [text_eq]
  simp [lineOf, wd, Lib.join_cons, Lib.joinTail]
theorem groups_le {L : List Per} (h : pplB L = true) : (0 ≤ leastG L ∧ leastG L ≤ 40) ∧ (0 ≤ (manyG L : Int) ∧ (manyG L : Int) ≤ 40) ∧ (0 ≤ (aloneG L : Int) ∧ (aloneG L : Int) ≤ 40) := by
  have h40 := (ppl_t.1 h).1
  have h1 := least_le L
  have h2 : manyG L ≤ L.length := by
    unfold manyG
    have := List.countP_le_length (p := fun k => !((L.take k).any (sameG (L.getD k per0)))) (l := List.range L.length)
    rwa [List.length_range] at this
  have h3 : aloneG L ≤ L.length := List.countP_le_length
  omega

set_option maxRecDepth 100000 in
set_option maxHeartbeats 4000000 in
theorem executeGroups (a0 : Option Addr) (b0 o0 cap0 : Nat) (xs0 : List Int) (w : World) (hr0 : Row .u8 w a0 b0 o0 xs0) (hl0 : xs0.length ≤ cap0 ∧ cap0 ≤ 9223372036854775807) (hw0 : ∀ i, i < xs0.length → (Lit.int .u8 (xs0.getD i 0)).wf = true) (ht : LibM w) :
    Calls Tryz.prog 5 #[.slice a0 xs0.length cap0] w fun e w' => e = .returned (.bool true) ∧ Below w.heap.size w w' := by
  have HP := Lib.hid ht
  have HD := Lib.hid (drawTO a0 b0 o0 cap0 xs0 w hr0 hl0 hw0)
  clear hr0 hw0 ht
  by_cases hbig : 1048576 < xs0.length
  · go_enter Tryz.func5, Tryz.ntmps5
    go_wp2_with fail
    go_ret
    exact ⟨rfl, Below.refl _ _⟩
  · have hs0 : xs0.length ≤ 1048576 := by omega
    clear hbig
    go_enter Tryz.func5, Tryz.ntmps5
    go_wp2_with fail
    refine (HD.out).mono ?_
    rintro e w1 ⟨ao, b, cap, L, rfl, hT, hc1, hc2, hT4, hb1⟩
    have HT := Lib.hid hT
    have HB1 := Lib.hid hb1
    have HP1 := Lib.hid (HP.out.keep hb1 (Nat.le_refl _))
    clear hT hb1
    cases hv : pplB L with
    | false =>
      have HV := Lib.hid hv
      clear hv
      go_wp2_with fail
      refine (tableOfI_f ao b 0 cap L w1 HT.out (by omega) HV.out).mono ?_
      rintro e w2 ⟨rfl, hb2⟩
      have HT2 := Lib.hid (HT.out.keep hb2 (Nat.le_refl _))
      have HB2 := Lib.hid (HB1.out.trans (hb2.mono HB1.out.size))
      clear hb2
      go_wp2_with fail
      refine (tableOfS_f ao b 0 cap L w2 HT2.out (by omega) HV.out).mono ?_
      rintro e w3 ⟨a3, rfl, hb3⟩
      have HB3 := Lib.hid (HB2.out.trans (hb3.mono HB2.out.size))
      clear hb3
      go_wp2_with fail
      refine (sameRows_yes none a3 0 0 0 0 0 0 [] w3 (tab_nil _ _ _ _) (tab_nil _ _ _ _) (by simp)).mono ?_
      rintro e w4 ⟨rfl, q, rfl⟩
      have HB4 := Lib.hid (HB3.out.trans ((below_draws w3 q).mono HB3.out.size))
      go_wp2_with fail
      refine (sameRows_yes none a3 0 0 0 0 0 0 [] _ (tab_nil _ _ _ _) (tab_nil _ _ _ _) (by simp)).mono ?_
      rintro e w5 ⟨rfl, q5, rfl⟩
      have HB5 := Lib.hid (HB4.out.trans ((below_draws (w3.drewN q) q5).mono HB4.out.size))
      go_wp2_with fail
      go_ret
      first | exact ⟨rfl, HB5.out⟩ | (rw [← World.drewN_add]; exact ⟨rfl, HB5.out⟩) | (have := HB5.out; rw [World.drewN_drewN] at this; exact ⟨rfl, this⟩)
    | true =>
      have HV := Lib.hid hv
      have HTVL := Lib.hid (tabO_tv hv)
      have HTI := Lib.hid (fun (W : World) (h : Ppl W ao b 0 L) => tableOfI ao b 0 cap L W h hv)
      have HTS := Lib.hid (fun (W : World) (h : Ppl W ao b 0 L) => tableOfS ao b 0 cap L W h hv)
      have htl := tabO_len L
      obtain ⟨T, hTT⟩ : ∃ T, tabO L = T := ⟨_, rfl⟩
      rw [hTT] at HTI HTS HTVL htl
      have HTE := Lib.hid hTT
      have HTL := Lib.hid htl
      clear hv hTT htl
      go_wp2_with fail
      refine (HTI.out w1 HT.out).mono ?_
      rintro e w2 ⟨v2, g2, rfl, hm2, hb2⟩
      obtain ⟨a2, t2, c2, rfl, k1, k2, htab2⟩ := hm2.tab
      have HA2 := Lib.hid htab2
      have HT2 := Lib.hid (HT.out.keep hb2 (Nat.le_refl _))
      have HB2 := Lib.hid (HB1.out.trans (hb2.mono HB1.out.size))
      have HP2 := Lib.hid (HP1.out.keep hb2 (Nat.le_refl _))
      clear hm2 hb2 htab2
      go_wp2_with fail
      refine (HTS.out w2 HT2.out).mono ?_
      rintro e w3 ⟨v3, g3, rfl, hm3, hb3⟩
      obtain ⟨a3, t3, c3, rfl, k3, k4, htab3⟩ := hm3.tab
      have HA3 := Lib.hid htab3
      have HA23 := Lib.hid (HA2.out.keep hb3 (Nat.le_refl _))
      have HT3 := Lib.hid (HT2.out.keep hb3 (Nat.le_refl _))
      have HB3 := Lib.hid (HB2.out.trans (hb3.mono HB2.out.size))
      have HP3 := Lib.hid (HP2.out.keep hb3 (Nat.le_refl _))
      clear hm3 hb3 htab3
      go_wp2_with fail
      refine (sameRows_yes a2 a3 t2 0 c2 t3 0 c3 T w3 HA23.out HA3.out (by rw [HTL.out]; decide)).mono ?_
      rintro e w4 ⟨rfl, q, rfl⟩
      obtain ⟨w4, hw4⟩ : ∃ w4, w3.drewN q = w4 := ⟨_, rfl⟩
      have hb4 := below_draws w3 q
      rw [hw4] at hb4 ⊢
      have HA4 := Lib.hid (HA23.out.keep hb4 (Nat.le_refl _))
      have HT4 := Lib.hid (HT3.out.keep hb4 (Nat.le_refl _))
      have HB4 := Lib.hid (HB3.out.trans (hb4.mono HB3.out.size))
      have HP4 := Lib.hid (HP3.out.keep hb4 (Nat.le_refl _))
      clear hb4 hw4
      have HLE := Lib.hid (fun la W h => leastI ao b cap L la 0 W h HV.out)
      have HMG := Lib.hid (fun la W h => manyGI ao b cap L la 0 W h HV.out)
      have HAG := Lib.hid (fun la W h => aloneI ao b cap L la 0 W h HV.out)
      have hft := fit_groups HV.out
      have hb3 := groups_le HV.out
      obtain ⟨m1, hm1⟩ : ∃ m1, leastG L = m1 := ⟨_, rfl⟩
      obtain ⟨m2, hm2⟩ : ∃ m2 : Int, (manyG L : Int) = m2 := ⟨_, rfl⟩
      obtain ⟨m3, hm3⟩ : ∃ m3 : Int, (aloneG L : Int) = m3 := ⟨_, rfl⟩
      have HGM := Lib.hid (show groupsM L = text [[m1, m2, m3]] [] by unfold groupsM; rw [hm1, hm2, hm3])
      rw [hm1] at HLE hb3
      rw [hm2] at HMG hb3
      rw [hm3] at HAG hb3
      obtain ⟨⟨x1, y1⟩, ⟨x2, y2⟩, ⟨x3, y3⟩⟩ := hb3
      have hw1 := wd_size x1 (by omega)
      have hw2 := wd_size x2 (by omega)
      have hw3 := wd_size x3 (by omega)
      have hgt := groups_text m1 m2 m3
      obtain ⟨D1, hD1⟩ : ∃ D1, wd m1 = D1 := ⟨_, rfl⟩
      obtain ⟨D2, hD2⟩ : ∃ D2, wd m2 = D2 := ⟨_, rfl⟩
      obtain ⟨D3, hD3⟩ : ∃ D3, wd m3 = D3 := ⟨_, rfl⟩
      rw [hD1] at hw1 hgt
      rw [hD2] at hw2 hgt
      rw [hD3] at hw3 hgt
      have HDG := Lib.hid (And.intro hD1 (And.intro hD2 hD3))
      obtain ⟨C1, hC1⟩ : ∃ C1, D1 ++ ⟨#[32]⟩ = C1 := ⟨_, rfl⟩
      obtain ⟨C2, hC2⟩ : ∃ C2, C1 ++ D2 = C2 := ⟨_, rfl⟩
      obtain ⟨C3, hC3⟩ : ∃ C3, C2 ++ ⟨#[32]⟩ = C3 := ⟨_, rfl⟩
      obtain ⟨C4, hC4⟩ : ∃ C4, C3 ++ D3 = C4 := ⟨_, rfl⟩
      obtain ⟨C5, hC5⟩ : ∃ C5, C4 ++ ⟨#[10]⟩ = C5 := ⟨_, rfl⟩
      rw [hC1, hC2, hC3, hC4, hC5] at hgt
      have z1 : C1.size ≤ 8 := by rw [← hC1, ByteArray.size_append]; show D1.size + 1 ≤ _; omega
      have z2 : C2.size ≤ 15 := by rw [← hC2, ByteArray.size_append]; omega
      have z3 : C3.size ≤ 16 := by rw [← hC3, ByteArray.size_append]; show C2.size + 1 ≤ _; omega
      have z4 : C4.size ≤ 23 := by rw [← hC4, ByteArray.size_append]; omega
      have hsC : C5.size ≤ 24 := by rw [← hC5, ByteArray.size_append]; show C4.size + 1 ≤ _; omega
      have HGT := Lib.hid hgt
      have HZ := Lib.hid (And.intro z1 (And.intro z2 (And.intro z3 (And.intro z4 (And.intro hw1 (And.intro hw2 hw3))))))
      have HC1 := Lib.hid hC1
      have HC2 := Lib.hid hC2
      have HC3 := Lib.hid hC3
      have HC4 := Lib.hid hC4
      have HC5 := Lib.hid hC5
      clear hm1 hm2 hm3 hft hgt hD1 hD2 hD3 hC1 hC2 hC3 hC4 hC5 z1 z2 z3 z4 hw1 hw2 hw3
      have hal1 := (Below.refl w4.heap.size w4).alloc (Nat.le_refl _) (.cells #[] 50)
      have hal2 := hal1.alloc (by simp) (.cells #[.int .i64 0, .int .i64 0, .int .i64 0] 42)
      have hz5 : (w4.alloc (.cells #[] 50)).heap.size = w4.heap.size + 1 := World.size_alloc _ _
      have r0 : ((w4.alloc (.cells #[] 50)).alloc (.cells #[.int .i64 0, .int .i64 0, .int .i64 0] 42)).cell? ⟨w4.heap.size + 1, 0, none⟩ = some (.int .i64 0) := by rw [← hz5, World.cell?_alloc_new]; rfl
      have r1 : ((w4.alloc (.cells #[] 50)).alloc (.cells #[.int .i64 0, .int .i64 0, .int .i64 0] 42)).cell? ⟨w4.heap.size + 1, 1, none⟩ = some (.int .i64 0) := by rw [← hz5, World.cell?_alloc_new]; rfl
      have r2 : ((w4.alloc (.cells #[] 50)).alloc (.cells #[.int .i64 0, .int .i64 0, .int .i64 0] 42)).cell? ⟨w4.heap.size + 1, 2, none⟩ = some (.int .i64 0) := by rw [← hz5, World.cell?_alloc_new]; rfl
      have hz6 : w4.heap.size + 1 < ((w4.alloc (.cells #[] 50)).alloc (.cells #[.int .i64 0, .int .i64 0, .int .i64 0] 42)).heap.size := by simp
      obtain ⟨w5, hw5⟩ : ∃ w5, (w4.alloc (.cells #[] 50)).alloc (.cells #[.int .i64 0, .int .i64 0, .int .i64 0] 42) = w5 := ⟨_, rfl⟩
      rw [hw5] at hal2 r0 r1 r2 hz6
      have HB5 := Lib.hid (HB4.out.trans (hal2.mono HB4.out.size))
      have HT5 := Lib.hid (HT4.out.keep hal2 (Nat.le_refl _))
      have HP5 := Lib.hid (HP4.out.keep hal2 (Nat.le_refl _))
      have HR0 := Lib.hid r0
      have HR1 := Lib.hid r1
      have HR2 := Lib.hid r2
      have HW5 := Lib.hid hw5
      have HZ6 := Lib.hid hz6
      clear hal1 hal2 hz5 r0 r1 r2 hw5 hz6
      have HPE := Lib.hid (Go.RowKit.Below.refl w5.heap.size w5)
      have hps : (⟨(scriptOf (L.map perL)).toArray⟩ : ByteArray).size ≤ 2400 := by
        have h1 := script_len (L := L) (ppl_all HV.out)
        show (scriptOf (L.map perL)).toArray.size ≤ 2400
        rw [List.size_toArray]
        omega
      have HSL : Hid ((⟨(scriptOf (L.map perL)).toArray⟩ : ByteArray) ++ ⟨#[103, 114, 111, 117, 112, 115, 10]⟩ = ⟨(scriptOf (L.map perL) ++ scriptOf [kGroups]).toArray⟩) := by
        show _ = _
        apply ByteArray.ext
        apply Array.toList_inj.1
        simp [scriptOf, kGroups]
      have hpl := personLinesI ao b cap L w5 HT5.out HV.out hc1 hc2 HP5.out.1.1
      have HEX := Lib.hid (fun (s : ByteArray) (hs : s.data.toList = scriptOf (L.map perL) ++ scriptOf [kGroups]) (h5 : s.size ≤ 500) => exec_lines HV.out [kGroups] (by decide) hs h5 (run_groups L))
      have HLC := Lib.hid (fun (s : ByteArray) (hs : s.data.toList = scriptOf (L.map perL) ++ scriptOf [kGroups]) => lines_ok line1 (ls := [kGroups]) (by
        intro l hl
        simp only [List.mem_cons, List.not_mem_nil, or_false] at hl
        obtain rfl := hl
        exact ⟨by decide, by rw [show kindM (cutL 32 kGroups) = 8 by decide]; exact line8⟩) hs)
      obtain ⟨PL, hPL⟩ : ∃ PL, (⟨(scriptOf (L.map perL)).toArray⟩ : ByteArray) = PL := ⟨_, rfl⟩
      rw [hPL] at hps HSL hpl
      obtain ⟨S, hS⟩ : ∃ S, PL ++ ⟨#[103, 114, 111, 117, 112, 115, 10]⟩ = S := ⟨_, rfl⟩
      have hS2 : S.data.toList = scriptOf (L.map perL) ++ scriptOf [kGroups] := by rw [← hS, HSL.out]
      rw [hS] at HSL
      have HX := Lib.hid (HEX.out S hS2)
      have HLS := Lib.hid (HLC.out S hS2)
      have hss : S.size ≤ 100000 := by
        rw [← hS, ByteArray.size_append]
        show PL.size + 7 ≤ _
        omega
      have hps2 : PL.size + 7 ≤ 9223372036854775807 := by omega
      have HPL := Lib.hid hpl
      clear hPL hS2 HEX HLC hpl
      go_wp2_with fail
      rw [HW5.out]
      refine (HPL.out).mono ?_
      rintro e w6 ⟨rfl, hb6⟩
      have HB6 := Lib.hid (HB5.out.trans (hb6.mono HB5.out.size))
      have HP6 := Lib.hid (HP5.out.keep hb6 (Nat.le_refl _))
      have HT6 := Lib.hid (HT5.out.keep hb6 (Nat.le_refl _))
      have r0 := (hb6.cell (p := ⟨w4.heap.size + 1, 0, none⟩) HZ6.out).trans HR0.out
      have r1 := (hb6.cell (p := ⟨w4.heap.size + 1, 1, none⟩) HZ6.out).trans HR1.out
      have r2 := (hb6.cell (p := ⟨w4.heap.size + 1, 2, none⟩) HZ6.out).trans HR2.out
      have hrb := Nat.lt_of_lt_of_le HZ6.out hb6.size
      obtain ⟨rb, hrbe⟩ : ∃ rb, w4.heap.size + 1 = rb := ⟨_, rfl⟩
      rw [hrbe] at r0 r1 r2 hrb ⊢
      clear hb6 hrbe
      by_cases h5 : S.size ≤ 500
      · have hx := HX.out h5
        rw [HGM.out, ← HGT.out] at hx
        obtain ⟨X, hXe⟩ : ∃ X : ByteArray, ⟨(execM S.data.toList).toArray⟩ = X := ⟨_, rfl⟩
        have HXE := Lib.hid hXe
        obtain ⟨O, hO⟩ : ∃ O, (⟨(oks L.length).toArray⟩ : ByteArray) = O := ⟨_, rfl⟩
        obtain ⟨E, hE⟩ : ∃ E, (⟨(endL L.length).toArray⟩ : ByteArray) = E := ⟨_, rfl⟩
        have HO := Lib.hid hO
        have HE := Lib.hid hE
        have hall : O ++ C5 ++ E = X := by
          rw [← hXe, ← hO, ← hE, hx]
          apply ByteArray.ext
          apply Array.toList_inj.1
          simp
        have hsO : O.size ≤ 1000 := by rw [← hO]; exact oks_size hT4
        have hsE : E.size ≤ 1000 := by rw [← hE]; exact endL_size hT4
        obtain ⟨A1, hA1⟩ : ∃ A1, O ++ C5 = A1 := ⟨_, rfl⟩
        have hs1 : O.size + C5.size ≤ 9223372036854775807 := by omega
        have hz1 : A1.size ≤ 2000 := by rw [← hA1, ByteArray.size_append]; omega
        have hs3 : A1.size + E.size ≤ 9223372036854775807 := by omega
        rw [hA1] at hall
        have HALL := Lib.hid hall
        have HA1 := Lib.hid hA1
        clear hx hXe hO hE hall hA1
        go_wp2_with fail
        have KS := Lib.hid (fun (W' : World) (hW : Below w6.heap.size w6 W') => (show W'.cell? ⟨rb, 0, none⟩ = some (.int .i64 0) ∧ W'.cell? ⟨rb, 1, none⟩ = some (.int .i64 0) ∧ W'.cell? ⟨rb, 2, none⟩ = some (.int .i64 0) from ⟨(hW.cell (p := ⟨rb, 0, none⟩) (hrb)).trans r0, (hW.cell (p := ⟨rb, 1, none⟩) (hrb)).trans r1, (hW.cell (p := ⟨rb, 2, none⟩) (hrb)).trans r2⟩))
        refine wp_region_held (S := (fun V => V.cell? ⟨rb, 0, none⟩ = some (.int .i64 0) ∧ V.cell? ⟨rb, 1, none⟩ = some (.int .i64 0) ∧ V.cell? ⟨rb, 2, none⟩ = some (.int .i64 0))) (by kernel_rfl) ?_
        change wpAnyH _ _ _ _ _ _ _ _ w6.drew
        have hS0 : w6.drew.cell? ⟨rb, 0, none⟩ = some (.int .i64 0) ∧ w6.drew.cell? ⟨rb, 1, none⟩ = some (.int .i64 0) ∧ w6.drew.cell? ⟨rb, 2, none⟩ = some (.int .i64 0) := ⟨r0, r1, r2⟩
        have hd := (Below.refl w6.heap.size w6).drew
        obtain ⟨Wd, hWd⟩ : ∃ Wd, w6.drew = Wd := ⟨_, rfl⟩
        rw [hWd] at hS0 hd ⊢
        have HD := Lib.hid hd
        clear hWd hd
        refine wpAnyH_take (i := 0) (v := .slice ao L.length cap) rfl (by kernel_rfl) (by kernel_rfl) (by kernel_rfl) (fun _ _ _ h => h) (Or.inl ⟨by kernel_rfl, fun V hV => ?_⟩) hS0 ?_
        · obtain ⟨q0, q1, q2⟩ := hV
          go_simp
        simp only [Act.put, List.setIfInBounds_toArray]
        refine wpAnyH_take (i := 1) (v := .slice (some ⟨w4.heap.size, 0, none⟩) 0 0) rfl (by kernel_rfl) (by kernel_rfl) (by kernel_rfl) (fun _ _ _ h => h) (Or.inl ⟨by kernel_rfl, fun V hV => ?_⟩) hS0 ?_
        · obtain ⟨q0, q1, q2⟩ := hV
          go_simp
        simp only [Act.put]
        refine wpAnyH_take (i := 2) (v := .agg #[.int .i64 0, .int .i64 0, .int .i64 0]) rfl (by kernel_rfl) (by kernel_rfl) (by kernel_rfl) (fun _ _ _ h => h) (Or.inl ⟨by kernel_rfl, fun V hV => ?_⟩) hS0 ?_
        · obtain ⟨q0, q1, q2⟩ := hV
          go_simp
        simp only [Act.put]
        refine wpAnyH_take (i := 6) (v := .slice ao L.length cap) rfl (by kernel_rfl) (by kernel_rfl) (by kernel_rfl) (fun _ _ _ h => h) (Or.inl ⟨by kernel_rfl, fun V hV => ?_⟩) hS0 ?_
        · obtain ⟨q0, q1, q2⟩ := hV
          go_simp
        simp only [Act.put]
        refine wpAnyH_take (i := 7) (v := .slice (some ⟨w4.heap.size, 0, none⟩) 0 0) rfl (by kernel_rfl) (by kernel_rfl) (by kernel_rfl) (fun _ _ _ h => h) (Or.inl ⟨by kernel_rfl, fun V hV => ?_⟩) hS0 ?_
        · obtain ⟨q0, q1, q2⟩ := hV
          go_simp
        simp only [Act.put]
        refine wpAnyH_take (i := 8) (v := .agg #[.int .i64 0, .int .i64 0, .int .i64 0]) rfl (by kernel_rfl) (by kernel_rfl) (by kernel_rfl) (fun _ _ _ h => h) (Or.inl ⟨by kernel_rfl, fun V hV => ?_⟩) hS0 ?_
        · obtain ⟨q0, q1, q2⟩ := hV
          go_simp
        simp only [Act.put]
        refine wpAnyH_take (i := 13) (v := .slice ao L.length cap) rfl (by kernel_rfl) (by kernel_rfl) (by kernel_rfl) (fun _ _ _ h => h) (Or.inl ⟨by kernel_rfl, fun V hV => ?_⟩) hS0 ?_
        · obtain ⟨q0, q1, q2⟩ := hV
          go_simp
        simp only [Act.put]
        refine wpAnyH_take (i := 14) (v := .slice (some ⟨w4.heap.size, 0, none⟩) 0 0) rfl (by kernel_rfl) (by kernel_rfl) (by kernel_rfl) (fun _ _ _ h => h) (Or.inl ⟨by kernel_rfl, fun V hV => ?_⟩) hS0 ?_
        · obtain ⟨q0, q1, q2⟩ := hV
          go_simp
        simp only [Act.put]
        refine wpAnyH_take (i := 15) (v := .agg #[.int .i64 0, .int .i64 0, .int .i64 0]) rfl (by kernel_rfl) (by kernel_rfl) (by kernel_rfl) (fun _ _ _ h => h) (Or.inl ⟨by kernel_rfl, fun V hV => ?_⟩) hS0 ?_
        · obtain ⟨q0, q1, q2⟩ := hV
          go_simp
        simp only [Act.put]
        refine wpAnyH_ready (rs := [3]) (by kernel_rfl) (by simp) ?_
        refine AllReadyH.cons rfl (fun K hK => ?_) AllReadyH.nil
        go_simp
        refine (HLE.out _ Wd (HT6.out.keep (HD.out) (Nat.le_refl _))).mono ?_
        rintro e w7 ⟨rfl, hb7⟩
        have hok7 := (HD.out).trans (hb7.mono (HD.out).size)
        refine hK.out _ _ (KS.out _ (hok7)) (fun _ => ?_)
        try simp only [Act.put, List.setIfInBounds_toArray, List.set_cons_zero, List.set_cons_succ]
        clear hK K
        refine wpAnyH_ready (rs := [4]) (by kernel_rfl) (by simp) ?_
        refine AllReadyH.cons rfl (fun K hK => ?_) AllReadyH.nil
        go_simp
        refine (digI (m1.toNat + 1) m1 w7 x1 (by omega) (by omega)).mono ?_
        rw [HDG.out.1]
        rintro e w8 ⟨rfl, hb8⟩
        have hok8 := (hok7).trans (hb8.mono (hok7).size)
        refine hK.out _ _ (KS.out _ (hok8)) (fun _ => ?_)
        try simp only [Act.put, List.setIfInBounds_toArray, List.set_cons_zero, List.set_cons_succ]
        clear hK K
        have c0 := HC1.out
        have c1 : D1.size + 1 ≤ 9223372036854775807 := by have := HZ.out; omega
        refine wpAnyH_take (i := 5) (v := .string C1) rfl (by kernel_rfl) (by kernel_rfl) (by kernel_rfl) (fun _ _ _ h => h) (Or.inl ⟨by kernel_rfl, fun V hV => ?_⟩) (KS.out _ hok8) ?_
        · obtain ⟨q0, q1, q2⟩ := hV
          go_simp
        simp only [Act.put, List.setIfInBounds_toArray]
        clear c0 c1
        refine wpAnyH_ready (rs := [9]) (by kernel_rfl) (by simp) ?_
        refine AllReadyH.cons rfl (fun K hK => ?_) AllReadyH.nil
        go_simp
        refine (HMG.out _ w8 (HT6.out.keep (hok8) (Nat.le_refl _))).mono ?_
        rintro e w9 ⟨rfl, hb9⟩
        have hok9 := (hok8).trans (hb9.mono (hok8).size)
        refine hK.out _ _ (KS.out _ (hok9)) (fun _ => ?_)
        try simp only [Act.put, List.setIfInBounds_toArray, List.set_cons_zero, List.set_cons_succ]
        clear hK K
        refine wpAnyH_ready (rs := [10]) (by kernel_rfl) (by simp) ?_
        refine AllReadyH.cons rfl (fun K hK => ?_) AllReadyH.nil
        go_simp
        refine (digI (m2.toNat + 1) m2 w9 x2 (by omega) (by omega)).mono ?_
        rw [HDG.out.2.1]
        rintro e w10 ⟨rfl, hb10⟩
        have hok10 := (hok9).trans (hb10.mono (hok9).size)
        refine hK.out _ _ (KS.out _ (hok10)) (fun _ => ?_)
        try simp only [Act.put, List.setIfInBounds_toArray, List.set_cons_zero, List.set_cons_succ]
        clear hK K
        have c0 := HC2.out
        have c1 : C1.size + D2.size ≤ 9223372036854775807 := by have := HZ.out; omega
        refine wpAnyH_take (i := 11) (v := .string C2) rfl (by kernel_rfl) (by kernel_rfl) (by kernel_rfl) (fun _ _ _ h => h) (Or.inl ⟨by kernel_rfl, fun V hV => ?_⟩) (KS.out _ hok10) ?_
        · obtain ⟨q0, q1, q2⟩ := hV
          go_simp
        simp only [Act.put, List.setIfInBounds_toArray]
        clear c0 c1
        have c0 := HC3.out
        have c1 : C2.size + 1 ≤ 9223372036854775807 := by have := HZ.out; omega
        refine wpAnyH_take (i := 12) (v := .string C3) rfl (by kernel_rfl) (by kernel_rfl) (by kernel_rfl) (fun _ _ _ h => h) (Or.inl ⟨by kernel_rfl, fun V hV => ?_⟩) (KS.out _ hok10) ?_
        · obtain ⟨q0, q1, q2⟩ := hV
          go_simp
        simp only [Act.put]
        clear c0 c1
        refine wpAnyH_ready (rs := [16]) (by kernel_rfl) (by simp) ?_
        refine AllReadyH.cons rfl (fun K hK => ?_) AllReadyH.nil
        go_simp
        refine (HAG.out _ w10 (HT6.out.keep (hok10) (Nat.le_refl _))).mono ?_
        rintro e w11 ⟨rfl, hb11⟩
        have hok11 := (hok10).trans (hb11.mono (hok10).size)
        refine hK.out _ _ (KS.out _ (hok11)) (fun _ => ?_)
        try simp only [Act.put, List.setIfInBounds_toArray, List.set_cons_zero, List.set_cons_succ]
        clear hK K
        refine wpAnyH_ready (rs := [17]) (by kernel_rfl) (by simp) ?_
        refine AllReadyH.cons rfl (fun K hK => ?_) AllReadyH.nil
        go_simp
        refine (digI (m3.toNat + 1) m3 w11 x3 (by omega) (by omega)).mono ?_
        rw [HDG.out.2.2]
        rintro e w12 ⟨rfl, hb12⟩
        have hok12 := (hok11).trans (hb12.mono (hok11).size)
        refine hK.out _ _ (KS.out _ (hok12)) (fun _ => ?_)
        try simp only [Act.put, List.setIfInBounds_toArray, List.set_cons_zero, List.set_cons_succ]
        clear hK K
        have c0 := HC4.out
        have c1 : C3.size + D3.size ≤ 9223372036854775807 := by have := HZ.out; omega
        refine wpAnyH_take (i := 18) (v := .string C4) rfl (by kernel_rfl) (by kernel_rfl) (by kernel_rfl) (fun _ _ _ h => h) (Or.inl ⟨by kernel_rfl, fun V hV => ?_⟩) (KS.out _ hok12) ?_
        · obtain ⟨q0, q1, q2⟩ := hV
          go_simp
        simp only [Act.put, List.setIfInBounds_toArray]
        clear c0 c1
        have c0 := HC5.out
        have c1 : C4.size + 1 ≤ 9223372036854775807 := by have := HZ.out; omega
        refine wpAnyH_take (i := 19) (v := .string C5) rfl (by kernel_rfl) (by kernel_rfl) (by kernel_rfl) (fun _ _ _ h => h) (Or.inl ⟨by kernel_rfl, fun V hV => ?_⟩) (KS.out _ hok12) ?_
        · obtain ⟨q0, q1, q2⟩ := hV
          go_simp
        simp only [Act.put]
        clear c0 c1
        refine wpAnyH_take (i := 20) (oi := ⟨some 11, _, _, _, _, _⟩) (v := .string C5) rfl (by kernel_rfl) (by kernel_rfl) (by kernel_rfl) (fun _ _ _ h => h) (Or.inl ⟨by kernel_rfl, fun V hV => ?_⟩) (KS.out _ hok12) ?_
        · obtain ⟨q0, q1, q2⟩ := hV
          go_simp
        simp only [Act.put]
        refine wpAnyH_done (by kernel_rfl) ?_ _
        have HB13 := Lib.hid (HB6.out.trans (hok12.mono HB6.out.size))
        have HP13 := Lib.hid (HP6.out.keep hok12 (Nat.le_refl _))
        clear hok7 hok8 hok9 hok10 hok11 hok12 hb7 hb8 hb9 hb10 hb11 hb12 hS0 r0 r1 r2
        have hA1 := HA1.out
        have hall := HALL.out
        have hEX := executeI S w12 (by omega) HP13.out HLS.out
        rw [HXE.out] at hEX
        have HEX := Lib.hid hEX
        clear hEX
        go_wp2_with fail
        refine (HEX.out).mono ?_
        rintro e w14 ⟨rfl, hb14⟩
        have HB14 := Lib.hid (HB13.out.trans (hb14.mono HB13.out.size))
        clear hb14
        go_wp2_with fail
        refine (okLinesI ao cap L.length w14 (by omega)).mono ?_
        rw [HO.out]
        rintro e w15 ⟨rfl, hb15⟩
        have HB15 := Lib.hid (HB14.out.trans (hb15.mono HB14.out.size))
        clear hb15
        go_wp2_with fail
        refine (endLineI L.length w15 (by omega)).mono ?_
        rw [HE.out]
        rintro e w16 ⟨rfl, hb16⟩
        have HB16 := Lib.hid (HB15.out.trans (hb16.mono HB15.out.size))
        clear hb16
        go_wp2_with fail
        go_ret
        exact ⟨rfl, HB16.out⟩
      · have h6 : 500 < S.size := by omega
        have hT0 : 0 < T.length := by rw [HTL.out]; decide
        clear h5
        go_wp2_with fail
        go_ret
        exact ⟨rfl, HB6.out⟩
end Go.Proofs.YtcjhenfofekofaaGreatDoor
