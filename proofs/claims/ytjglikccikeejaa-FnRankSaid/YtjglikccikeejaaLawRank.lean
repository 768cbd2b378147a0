/-
  The walk of the law FnRank.
-/
import Derived.Test.YtjglikccikeejaaAskV
import Derived.Test.YtjglikccikeejaaAskSafe
import Derived.Test.YtjglikccikeejaaDrawA
import Derived.Deep.RegionLaw
import Derived.Deep.DeepCutAuto
namespace Go.Proofs.Ytjglikccikeejaa
open Go.RowKit
open Go.AskMath (rnk tel tld)

set_option maxRecDepth 100000 in
set_option maxHeartbeats 1000000 in
theorem walkRank (a0 : Option Addr) (b0 o0 c0 : Nat) (xs0 : List Int) (a1 : Option Addr) (b1 o1 c1 : Nat) (xs1 : List Int) (w : World)
    (hr0 : Row .u8 w a0 b0 o0 xs0) (hl0 : xs0.length ≤ c0 ∧ c0 ≤ 9223372036854775807) (hw0 : ∀ i, i < xs0.length → (Lit.int .u8 (xs0.getD i 0)).wf = true)
    (_hr1 : Row .u8 w a1 b1 o1 xs1) (hl1 : xs1.length ≤ c1 ∧ c1 ≤ 9223372036854775807) (_hw1 : ∀ i, i < xs1.length → (Lit.int .u8 (xs1.getD i 0)).wf = true) :
    Calls Try.prog 6 #[.slice a0 xs0.length c0, .slice a1 xs1.length c1] w fun e w' => e = .returned (.bool true) ∧ Below w.heap.size w w' := by
  obtain ⟨hl01, hl02⟩ := hl0
  obtain ⟨hl11, hl12⟩ := hl1
  by_cases h20 : xs0.length ≤ 1048576 ∧ xs1.length ≤ 1048576
  · obtain ⟨h20, h21⟩ := h20
    go_enter Try.func6, Try.ntmps6
    go_wp2_with fail
    refine (drawRank_any a0 b0 o0 c0 xs0 w hr0 hl01 hw0 hl02).mono ?_
    rintro e w1 ⟨n, v, zs, rfl, hzl, hO, hB⟩
    obtain ⟨ao, b, cap, rfl, hcap, hcap2, hrow, hnil, hao⟩ := hO.row2
    have HAO := Lib.hid hao
    have HN := Lib.hid hnil
    have HR1 := Lib.hid hrow
    have HB1 := Lib.hid hB
    clear hO hnil hrow hB hao hr0 hw0
    obtain ⟨z, hz⟩ : ∃ z : Int, (if vldB n zs then (rnk n.toNat zs : Int) else -1) = z := ⟨_, rfl⟩
    have HZ := Lib.hid hz
    clear hz
    go_wp2_with fail
    refine (askRankI n ao b 0 cap zs _ HR1.out (by omega)).mono ?_
    rw [HZ.out]
    rintro e w2 ⟨rfl, hb2⟩
    have HB2 := Lib.hid (HB1.out.trans (hb2.mono HB1.out.size))
    have HR2 := Lib.hid (HR1.out.keep hb2 (Nat.le_refl _))
    clear hb2 HB1 HR1
    go_wp2_with fail
    refine (askRankS n ao b 0 cap zs _ HR2.out (by omega)).mono ?_
    rw [HZ.out]
    rintro e w3 ⟨rfl, hb3⟩
    have HB3 := Lib.hid (HB2.out.trans (hb3.mono HB2.out.size))
    have HR3 := Lib.hid (HR2.out.keep hb3 (Nat.le_refl _))
    clear hb3 HB2 HR2
    have hzz : (z != z) = false := by simp
    cases hv : vldB n zs with
    | false =>
      have hz1 : z = -1 := by rw [← HZ.out, hv]; rfl
      subst hz1
      clear hv
      go_wp2_with fail
      all_goals
        go_ret
        exact ⟨rfl, HB3.out⟩
    | true =>
      obtain ⟨m, rfl, hm1, hm6, hx12, hx⟩ := vld_range hv
      obtain ⟨r, hr⟩ : ∃ r, rnk m zs = r := ⟨_, rfl⟩
      have hz1 : z = (r : Int) := by rw [← HZ.out, hv, ← hr]; rfl
      subst hz1
      have HX := Lib.hid hx
      have HV := Lib.hid hv
      have HRE := Lib.hid hr
      clear hx hv hr HZ
      have hrl : r ≤ zs.length := by rw [← HRE.out]; exact Go.AskMath.rnk_le_length zs
      have hrm : r ≤ m := by rw [← HRE.out]; exact Go.AskMath.rnk_le m zs
      obtain ⟨K, hK⟩ : ∃ K, xs1.length % (zs.length + 1) = K := ⟨_, rfl⟩
      have hK1 : K ≤ zs.length := by have := Nat.mod_lt xs1.length (show 0 < zs.length + 1 by omega); omega
      have hKe : (xs1.length : Int) % ((zs.length : Int) + 1) = (K : Int) := by rw [← hK]; rfl
      have HKE := Lib.hid hKe
      clear hK hKe
      go_wp2_with fail
      rw [HKE.out]
      have HB4 := Lib.hid ((Below.refl w3.heap.size w3).alloc (Nat.le_refl _) (.cells #[] 3)).drew
      have HO0 := Lib.hid (Own.lit (w := w3) (base := w3.heap.size) [] (Nat.le_refl _) (by simp))
      have HR4 := Lib.hid (HR3.out.keep HB4.out (Nat.le_refl _))
      have hkz : (K : Int) ≤ (zs.length : Int) := by omega
      have hkc : (K : Int) ≤ (cap : Int) := by omega
      have hkc2 : K ≤ cap := by omega
      have htk : (zs.take K).length = K := by rw [List.length_take]; omega
      have HTK := Lib.hid htk
      clear htk
      go_cut [10] (fun s wx => RotT zs w3 s wx)
      case first =>
        have hdl : (zs.drop K).length = zs.length - K := List.length_drop
        have HDL := Lib.hid hdl
        clear hdl
        have fin : ∀ (v' : Value) (w' : World), Own w' w3.heap.size v' (zs.drop K ++ zs.take K) → Below w3.heap.size w3 w' → RotT zs w3 v' w' := fun v' w' h1 h2 =>
          ⟨_, mem_rot K, by rw [List.length_append, HDL.out, HTK.out]; omega, h1, h2⟩
        have Fin := Lib.hid fin
        clear fin
        rcases HAO.out with hn | hn
        · subst hn
          have hc0 := HN.out rfl
          subst hc0
          have hz0 : zs.length = 0 := by omega
          have hzn : zs = [] := List.length_eq_zero_iff.1 hz0
          subst hzn
          obtain rfl : K = 0 := by omega
          clear hz0
          go_region_law (fail)
          all_goals
            go_wp2_with fail
            go_meet
            exact Fin.out _ _ HO0.out HB4.out
        · subst hn
          have HRD := Lib.hid (HR4.out.drop2 (K := K) hcap)
          by_cases hcK : cap = K
          · have hrd := HRD.out
            rw [if_pos hcK] at hrd
            have HRD := Lib.hid hrd
            clear hrd
            obtain rfl : K = cap := hcK.symm
            clear hcK
            have htz : zs.take K = zs := List.take_of_length_le (by omega)
            have fin2 : ∀ (v' : Value) (w' : World), Own w' w3.heap.size v' ([] ++ zs.take K) → Below w3.heap.size w3 w' → RotT zs w3 v' w' := fun v' w' h1 h2 =>
              ⟨_, fun q => by rw [htz]; simp, by rw [htz]; simp, h1, h2⟩
            have Fin2 := Lib.hid fin2
            clear fin2 htz
            go_region_law (refine step_appL rfl (.tmp 51) (.tmp 54) rfl w3.heap.size _ [] (by rfl) HO0.out (some ⟨b, 0, none⟩) b 0 K (zs.take K) (by rw [HTK.out]; rfl) (fun h => by cases h) (HR4.out.take K) (by simp) (by rw [HTK.out]; omega) HB4.out.size ?_; intro v6 w6 hO6 hB6 _)
            all_goals
              have HO6 := Lib.hid hO6
              have HB6 := Lib.hid (HB4.out.trans hB6)
              clear hO6 hB6
              go_wp2_with fail
              go_meet
              exact Fin2.out _ _ HO6.out HB6.out
          · have hrd := HRD.out
            rw [if_neg hcK] at hrd
            have HRD := Lib.hid hrd
            clear hrd
            go_region_law (first
              | (refine step_appL rfl (.tmp 47) (.tmp 50) rfl w3.heap.size _ [] (by rfl) HO0.out (some ⟨b, K, none⟩) b K (cap - K) (zs.drop K) (by rw [HDL.out]; rfl) (fun h => by cases h) HRD.out (by simp) (by rw [HDL.out]; omega) HB4.out.size ?_; intro v5 w5 hO5 hB5 _; have HO5 := Lib.hid hO5; have HB5 := Lib.hid (HB4.out.trans hB5); have HR5 := Lib.hid (HR4.out.keep2 hB5 HR3.out.lt))
              | (refine step_appL rfl (.tmp 51) (.tmp 54) rfl w3.heap.size _ (zs.drop K) (by rfl) HO5.out (some ⟨b, 0, none⟩) b 0 cap (zs.take K) (by rw [HTK.out]; rfl) (fun h => by cases h) (HR5.out.take K) (by rw [HDL.out]; omega) (by rw [HTK.out]; omega) HB5.out.size ?_; intro v6 w6 hO6 hB6 _))
            all_goals
              have HO6 := Lib.hid hO6
              have HB6 := Lib.hid (HB5.out.trans hB6)
              clear hO6 hB6
              go_wp2_with fail
              go_meet
              exact Fin.out _ _ HO6.out HB6.out
      case rest =>
        clear HO0 HB4 HR4 HTK
        rename_i w4
        obtain ⟨X, hX, hXl, hO, hB⟩ := hcut
        obtain ⟨ax, bx, cx, rfl, hxc, hxc2, hrx, hnx, _⟩ := hO.row2
        have HXM := Lib.hid hX
        have HXR := Lib.hid hrx
        have HXN := Lib.hid hnx
        have HB4 := Lib.hid (HB3.out.trans (hB.mono HB3.out.size))
        have HR4 := Lib.hid (HR3.out.keep hB (Nat.le_refl _))
        have HXL := Lib.hid hXl
        clear hX hrx hnx hO hB hXl
        have hvx : vldB m X = true := vld_sub HV.out (fun q hq => (HXM.out q).1 hq) (by rw [HXL.out]; omega)
        have hrx : rnk m X = r := by rw [← HRE.out]; exact Go.AskMath.rnk_same HXM.out
        have HVX := Lib.hid hvx
        have HRX := Lib.hid hrx
        clear hvx hrx
        by_cases hz0 : zs.length = 0
        · have hz0b : (zs.length == 0) = true := by rw [beq_iff_eq]; exact hz0
          have hz0c : ((zs.length : Int) == 0) = true := by rw [beq_iff_eq]; omega
          have hr0 : r = 0 := by omega
          subst hr0
          go_wp2_with fail
          go_ret
          exact ⟨rfl, HB4.out⟩
        · have hz0b : (zs.length == 0) = false := by rw [beq_eq_false_iff_ne]; exact hz0
          have hz0c : ((zs.length : Int) == 0) = false := by rw [beq_eq_false_iff_ne]; omega
          obtain rfl : ao = some ⟨b, 0, none⟩ := HR3.out.1 (by omega)
          obtain ⟨y, hy⟩ : ∃ y, zs.getD (zs.length - 1) 0 = y := ⟨_, rfl⟩
          have hc9 := HR4.out.2 (zs.length - 1) (by omega)
          rw [hy, Nat.zero_add] at hc9
          have HYE := Lib.hid hy
          clear hy
          have hl1 : IntKind.i64.wrap ((zs.length : Int) - 1) = ((zs.length - 1 : Nat) : Int) := by
            rw [show (zs.length : Int) - 1 = ((zs.length - 1 : Nat) : Int) from by omega]; exact IntWalk.i64_in _ ⟨by omega, by omega⟩
          have hl2 : ((zs.length - 1 : Nat) : Int) < (zs.length : Int) := by omega
          have hl3 : zs.length - 1 < zs.length := by omega
          have HBA := Lib.hid ((Below.refl wc.heap.size wc).alloc (Nat.le_refl _) (.cells #[] 3)).drew
          have HBB := Lib.hid (((Below.refl wc.heap.size wc).alloc (Nat.le_refl _) (.cells #[] 3)).alloc (by simp) (.cells #[.int .i64 y] 3)).drew
          have HBC := Lib.hid (((Below.refl wc.heap.size wc).alloc (Nat.le_refl _) (.cells #[.int .i64 y] 3)).alloc (by simp) (.cells #[] 3)).drew
          have HOA := Lib.hid (Own.lit (w := wc) (base := wc.heap.size) [] (Nat.le_refl _) (by simp))
          have HOB := Lib.hid (HOA.out.alloc (.cells #[.int .i64 y] 3))
          have hoc := Own.lit (w := wc.alloc (.cells #[.int .i64 y] 3)) (base := wc.heap.size) [] (by simp) (by simp)
          rw [World.size_alloc] at hoc
          have HOC := Lib.hid hoc
          have HRA := Lib.hid (HR4.out.keep HBA.out (Nat.le_refl _))
          have HRB := Lib.hid (HR4.out.keep HBB.out (Nat.le_refl _))
          have HRC := Lib.hid (HR4.out.keep HBC.out (Nat.le_refl _))
          have hyb := rowL (wc.alloc (.cells #[] 3)) [y]
          rw [World.size_alloc] at hyb
          have HYRB := Lib.hid hyb
          have HYRC := Lib.hid ((rowL wc [y]).keep ((Below.refl (wc.heap.size + 1) (wc.alloc (.cells #[.int .i64 y] 3))).alloc (by simp) (.cells #[] 3)) (by simp))
          clear hoc hyb
          go_wp2_with fail
          have hbl : b < wc.heap.size := HR4.out.lt (by omega)
          have hc9b : (wc.alloc (.cells #[] 3)).cell? ⟨b, zs.length - 1, none⟩ = some (.int .i64 y) := (HBA.out.cell (p := ⟨b, zs.length - 1, none⟩) hbl).trans hc9
          go_cut [11] (fun s wx => AppT zs y wc s wx)
          case first =>
            go_region_law (first
              | (refine step_appL rfl (.tmp 61) (.tmp 62) rfl wc.heap.size _ [] (by rfl) ?_ _ b 0 cap zs (by rfl) HN.out ?_ (by simp) (by omega) ?_ ?_; (first | exact HOA.out | exact HOB.out | exact HOC.out); (first | exact HRA.out | exact HRB.out | exact HRC.out); (first | exact HBA.out.size | exact HBB.out.size | exact HBC.out.size); intro va wa hOa hBa hGa; have HOa := Lib.hid hOa; have HBa := Lib.hid (app_below HBA.out HBB.out HBC.out hBa); (try have HYa := Lib.hid (row_grown HYRB.out hGa (by show (some wc.heap.size : Option Nat) ≠ some (wc.heap.size + 1); simp))); (try have HYa := Lib.hid (row_grown HYRC.out hGa (by show (some (wc.heap.size + 1) : Option Nat) ≠ some wc.heap.size; simp))); clear hOa hBa hGa; have hc9a := (HBa.out.cell (p := ⟨b, zs.length - 1, none⟩) hbl).trans hc9)
              | (refine step_app1 (w0 := wa) rfl (.tmp 63) (.tmp 70) rfl wc.heap.size _ zs (by rfl) HOa.out y rfl (by rfl) (by omega) HBa.out.size ?_; intro vb wb hOb hBb _)
              | (refine step_appL rfl (.tmp 63) (.tmp 70) rfl wc.heap.size _ zs (by rfl) HOa.out _ _ 0 1 [y] (by rfl) (fun h => by cases h) HYa.out (by omega) (by simp) HBa.out.size ?_; intro vb wb hOb hBb _))
            all_goals
              have HOb := Lib.hid hOb
              have HBb := Lib.hid (HBa.out.trans hBb)
              clear hOb hBb
              go_wp2_with fail
              go_meet
              exact ⟨HOb.out, HBb.out⟩
          case rest =>
            clear HBA HBB HBC HOA HOB HOC HRA HRB HRC HYRB HYRC hc9 hc9b
            obtain ⟨hO, hB⟩ := hcut
            obtain ⟨ys, hys⟩ : ∃ ys, zs ++ [y] = ys := ⟨_, rfl⟩
            have hym : y ∈ zs := by rw [← HYE.out, List.getD_eq_getElem?_getD, List.getElem?_eq_getElem hl3]; exact List.getElem_mem hl3
            have hsame : ∀ q, q ∈ ys ↔ q ∈ zs := fun q => by
              rw [← hys, List.mem_append, List.mem_singleton]
              exact ⟨fun h => h.elim id (fun e => e ▸ hym), .inl⟩
            have hyl : ys.length = zs.length + 1 := by rw [← hys]; simp
            have hry : rnk m ys = r := by rw [← HRE.out]; exact Go.AskMath.rnk_same hsame
            rw [hys] at hO
            obtain ⟨ay, by_, cy, rfl, hyc, hyc2, hyr, hyn, _⟩ := hO.row2
            have HYR := Lib.hid hyr
            have HX5 := Lib.hid (HXR.out.keep hB (Nat.le_refl _))
            have HB5 := Lib.hid (HB4.out.trans (hB.mono HB4.out.size))
            have HVY := Lib.hid (fun (h : zs.length ≠ 12) => (show vldB m ys = true from vld_sub HV.out (fun q hq => (hsame q).1 hq) (by omega)))
            have HRY := Lib.hid hry
            have hrl2 : (r : Int) ≤ (zs.length : Int) := by omega
            have hrm2 : (r : Int) ≤ (m : Int) := by omega
            clear hys hym hsame hyl hry hO hyr hyn hB
            go_wp2_with fail
            refine (askRankV m r ax bx 0 cx X _ HX5.out HVX.out HRX.out).mono ?_
            rintro e w6 ⟨rfl, hb6⟩
            have HB6 := Lib.hid (HB5.out.trans (hb6.mono HB5.out.size))
            have HY6 := Lib.hid (HYR.out.keep hb6 (Nat.le_refl _))
            clear hb6
            by_cases h12 : zs.length = 12
            · have h12b : (zs.length == 12) = true := by rw [beq_iff_eq]; exact h12
              have h12c : ((zs.length : Int) == 12) = true := by rw [beq_iff_eq]; omega
              go_wp2_with fail
              go_ret
              exact ⟨rfl, HB6.out⟩
            · have h12b : (zs.length == 12) = false := by rw [beq_eq_false_iff_ne]; exact h12
              have h12c : ((zs.length : Int) == 12) = false := by rw [beq_eq_false_iff_ne]; omega
              have HVY2 := Lib.hid (HVY.out h12)
              go_wp2_with fail
              refine (askRankV m r ay by_ 0 cy ys _ HY6.out HVY2.out HRY.out).mono ?_
              rintro e w7 ⟨rfl, hb7⟩
              have HB7 := Lib.hid (HB6.out.trans (hb7.mono HB6.out.size))
              clear hb7
              go_wp2_with fail
              go_ret
              exact ⟨rfl, HB7.out⟩
  · by_cases h0 : xs0.length ≤ 1048576
    all_goals
      go_enter Try.func6, Try.ntmps6
      go_wp2_with fail
      go_ret
      exact ⟨rfl, Below.refl _ _⟩

end Go.Proofs.Ytjglikccikeejaa
