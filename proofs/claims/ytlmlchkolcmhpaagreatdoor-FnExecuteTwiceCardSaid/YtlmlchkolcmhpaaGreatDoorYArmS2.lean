/-
  Contracts: spec.l51Count, l51Groups, l51Drop.
-/
import Derived.Test.YtlmlchkolcmhpaaGreatDoorYArmS1
import Derived.Test.YtlmlchkolcmhpaaGreatDoorJ6
import Derived.Test.YtlmlchkolcmhpaaGreatDoorJ7
import Derived.StillTailTactics
namespace Go.Proofs.YtlmlchkolcmhpaaGreatDoor
open Go.RowKit
open Go.TextMath (tvB mvB text word line rowW)

theorem text_one (r : List Int) : bs (text [r] []) = lnW r := by
  have h := text_take (T := [r]) (k := 0) [] (by simp)
  show bs (text ([r].take (0 + 1)) []) = _
  rw [h]
  unfold lnW
  show bs (_ ++ line (rowW r [])) = _
  rw [Go.TextMath.rowW_none]
  rfl
theorem row_lit (w : World) (c : List Int) (hm : c.length ≤ 1000) : Row .i64 (w.alloc (.cells (c.map (Value.int .i64)).toArray 3)) (some ⟨w.heap.size, 0, none⟩) w.heap.size 0 c := by
  obtain ⟨ao, b, cap, hv, -, -, hr, -, -⟩ := (Own.lit (w := w) (base := w.heap.size) c (Nat.le_refl _) hm).row
  injection hv with e1 _ _
  by_cases h0 : 0 < c.length
  · have h1 := hr.1 h0
    rw [← e1] at h1
    injection h1 with h1
    injection h1 with h1 _ _
    subst h1
    rw [← e1] at hr
    exact hr
  · exact ⟨fun h => absurd h h0, fun i hi => absurd hi (by omega)⟩

set_option maxRecDepth 100000 in
set_option maxHeartbeats 4000000 in
theorem countArmS (ao : Option Addr) (b cap nb cn : Nat) (L : List Per) (y0 y1 y2 : Int) (w : World) (hr : Ppl w ao b 0 L) (hv : pplB L = true) (n0 : w.cell? ⟨nb, 0, none⟩ = some (.int .i64 y0)) (n1 : w.cell? ⟨nb, 1, none⟩ = some (.int .i64 y1)) (n2 : w.cell? ⟨nb, 2, none⟩ = some (.int .i64 y2)) :
    Calls Tryz.prog 59 #[.slice ao L.length cap, .slice (some ⟨nb, 0, none⟩) 3 cn] w fun e w' => e = .returned (.string (bs (countM L [y0, y1, y2]))) ∧ Below w.heap.size w w' := by
  have HMI := Lib.hid (fun (W : World) (hb : Below w.heap.size w W) => manyS ao b 0 cap L y0 y1 y2 W (hr.keep hb (Nat.le_refl _)) hv)
  have HPI := Lib.hid (fun (W : World) (hb : Below w.heap.size w W) => payS ao b 0 cap L y0 y1 y2 W (hr.keep hb (Nat.le_refl _)) hv)
  have hbn := World.block_lt_of_cell? _ _ n0
  simp only at hbn
  have HCN : Hid (∃ m p : Int, manyP L y0 y1 y2 = m ∧ payP L y0 y1 y2 = p ∧ ((m = -1 ∧ countM L [y0, y1, y2] = sNo) ∨ (countM L [y0, y1, y2] = text [[m, p]] [] ∧ 0 ≤ m ∧ m ≤ 40 ∧ 0 ≤ p ∧ p ≤ 40000))) := Lib.hid (by
    refine ⟨_, _, rfl, rfl, ?_⟩
    cases ha : askB y0 y1 y2 with
    | false => exact .inl ⟨by unfold manyP; rw [ha, Bool.and_false]; rfl, by unfold countM; simp only [List.getD_cons_zero, List.getD_cons_succ]; rw [ha]; rfl⟩
    | true =>
      have h1 := many_le hv ha
      have h2 := pay_le hv ha
      exact .inr ⟨by unfold countM; simp only [List.getD_cons_zero, List.getD_cons_succ]; rw [ha]; rfl, h1.1, h1.2, h2.1, h2.2⟩)
  obtain ⟨m, p, hm, hp, hcase⟩ := HCN.out
  rw [hm] at HMI
  rw [hp] at HPI
  clear hm hp HCN hr hv
  go_enter Tryz.func59, Tryz.ntmps59
  go_wp2_with fail
  go_still_tail 10, (by kernel_rfl)
  have hd := (Below.refl w.heap.size w).drew
  change wpList _ _ _ _ _ w.drew
  obtain ⟨Wd, hWd⟩ : ∃ Wd, w.drew = Wd := ⟨_, rfl⟩
  rw [hWd] at hd ⊢
  have HD := Lib.hid hd
  clear hWd hd
  go_wp2_with fail
  refine (HMI.out Wd HD.out).mono ?_
  rintro e w4 ⟨rfl, hb4⟩
  have HB4 := Lib.hid (HD.out.trans (hb4.mono HD.out.size))
  have n04 := (HB4.out.cell (p := ⟨nb, 0, none⟩) hbn).trans n0
  have n14 := (HB4.out.cell (p := ⟨nb, 1, none⟩) hbn).trans n1
  have n24 := (HB4.out.cell (p := ⟨nb, 2, none⟩) hbn).trans n2
  clear hb4 n0 n1 n2
  rcases hcase with ⟨hm, hc⟩ | ⟨hc, hm0, hm1, hp0, hp1⟩
  · have HC := Lib.hid hc
    have hmn : m < 0 := by omega
    clear hc hm
    go_wp2_with fail
    go_ret
    exact ⟨by rw [HC.out]; rfl, HB4.out⟩
  · have HC := Lib.hid hc
    clear hc
    go_wp2_with fail
    have hbn4 := Nat.lt_of_lt_of_le hbn HB4.out.size
    have KS := Lib.hid (fun (W' : World) (hW : Below w4.heap.size w4 W') => (show W'.cell? ⟨nb, 0, none⟩ = some (.int .i64 y0) ∧ W'.cell? ⟨nb, 1, none⟩ = some (.int .i64 y1) ∧ W'.cell? ⟨nb, 2, none⟩ = some (.int .i64 y2) from ⟨(hW.cell (p := ⟨nb, 0, none⟩) (hbn4)).trans n04, (hW.cell (p := ⟨nb, 1, none⟩) (hbn4)).trans n14, (hW.cell (p := ⟨nb, 2, none⟩) (hbn4)).trans n24⟩))
    refine wp_region_held (S := (fun V => V.cell? ⟨nb, 0, none⟩ = some (.int .i64 y0) ∧ V.cell? ⟨nb, 1, none⟩ = some (.int .i64 y1) ∧ V.cell? ⟨nb, 2, none⟩ = some (.int .i64 y2))) (by kernel_rfl) ?_
    change wpAnyH _ _ _ _ _ _ _ _ w4.drew
    have hS0 : w4.drew.cell? ⟨nb, 0, none⟩ = some (.int .i64 y0) ∧ w4.drew.cell? ⟨nb, 1, none⟩ = some (.int .i64 y1) ∧ w4.drew.cell? ⟨nb, 2, none⟩ = some (.int .i64 y2) := ⟨n04, n14, n24⟩
    have hd := (Below.refl w4.heap.size w4).drew
    obtain ⟨Wd, hWd⟩ : ∃ Wd, w4.drew = Wd := ⟨_, rfl⟩
    rw [hWd] at hS0 hd ⊢
    have HD := Lib.hid hd
    clear hWd hd
    refine wpAnyH_take (i := 0) (v := .int .i64 m) rfl (by kernel_rfl) (by kernel_rfl) (by kernel_rfl) (fun _ _ _ h => h) (Or.inl ⟨by kernel_rfl, fun V hV => ?_⟩) hS0 ?_
    · obtain ⟨q0, q1, q2⟩ := hV
      go_simp
    simp only [Act.put, List.setIfInBounds_toArray]
    refine wpAnyH_take (i := 1) (v := .slice ao L.length cap) rfl (by kernel_rfl) (by kernel_rfl) (by kernel_rfl) (fun _ _ _ h => h) (Or.inl ⟨by kernel_rfl, fun V hV => ?_⟩) hS0 ?_
    · obtain ⟨q0, q1, q2⟩ := hV
      go_simp
    simp only [Act.put]
    refine wpAnyH_take (i := 2) (v := .slice (some ⟨nb, 0, none⟩) 3 cn) rfl (by kernel_rfl) (by kernel_rfl) (by kernel_rfl) (fun _ _ _ h => h) (Or.inl ⟨by kernel_rfl, fun V hV => ?_⟩) hS0 ?_
    · obtain ⟨q0, q1, q2⟩ := hV
      go_simp
    simp only [Act.put]
    refine wpAnyH_take (i := 3) (v := .pointer (some ⟨nb, 0, none⟩)) rfl (by kernel_rfl) (by kernel_rfl) (by kernel_rfl) (fun _ _ _ h => h) (Or.inl ⟨by kernel_rfl, fun V hV => ?_⟩) hS0 ?_
    · obtain ⟨q0, q1, q2⟩ := hV
      go_simp
    simp only [Act.put]
    refine wpAnyH_take (i := 4) (v := .int .i64 y0) rfl (by kernel_rfl) (by kernel_rfl) (by kernel_rfl) (fun _ _ _ h => h) (Or.inl ⟨by kernel_rfl, fun V hV => ?_⟩) hS0 ?_
    · obtain ⟨q0, q1, q2⟩ := hV
      go_simp
    simp only [Act.put]
    refine wpAnyH_take (i := 5) (v := .slice (some ⟨nb, 0, none⟩) 3 cn) rfl (by kernel_rfl) (by kernel_rfl) (by kernel_rfl) (fun _ _ _ h => h) (Or.inl ⟨by kernel_rfl, fun V hV => ?_⟩) hS0 ?_
    · obtain ⟨q0, q1, q2⟩ := hV
      go_simp
    simp only [Act.put]
    refine wpAnyH_take (i := 6) (v := .pointer (some ⟨nb, 1, none⟩)) rfl (by kernel_rfl) (by kernel_rfl) (by kernel_rfl) (fun _ _ _ h => h) (Or.inl ⟨by kernel_rfl, fun V hV => ?_⟩) hS0 ?_
    · obtain ⟨q0, q1, q2⟩ := hV
      go_simp
    simp only [Act.put]
    refine wpAnyH_take (i := 7) (v := .int .i64 y1) rfl (by kernel_rfl) (by kernel_rfl) (by kernel_rfl) (fun _ _ _ h => h) (Or.inl ⟨by kernel_rfl, fun V hV => ?_⟩) hS0 ?_
    · obtain ⟨q0, q1, q2⟩ := hV
      go_simp
    simp only [Act.put]
    refine wpAnyH_take (i := 8) (v := .slice (some ⟨nb, 0, none⟩) 3 cn) rfl (by kernel_rfl) (by kernel_rfl) (by kernel_rfl) (fun _ _ _ h => h) (Or.inl ⟨by kernel_rfl, fun V hV => ?_⟩) hS0 ?_
    · obtain ⟨q0, q1, q2⟩ := hV
      go_simp
    simp only [Act.put]
    refine wpAnyH_take (i := 9) (v := .pointer (some ⟨nb, 2, none⟩)) rfl (by kernel_rfl) (by kernel_rfl) (by kernel_rfl) (fun _ _ _ h => h) (Or.inl ⟨by kernel_rfl, fun V hV => ?_⟩) hS0 ?_
    · obtain ⟨q0, q1, q2⟩ := hV
      go_simp
    simp only [Act.put]
    refine wpAnyH_take (i := 10) (v := .int .i64 y2) rfl (by kernel_rfl) (by kernel_rfl) (by kernel_rfl) (fun _ _ _ h => h) (Or.inl ⟨by kernel_rfl, fun V hV => ?_⟩) hS0 ?_
    · obtain ⟨q0, q1, q2⟩ := hV
      go_simp
    simp only [Act.put]
    refine wpAnyH_ready (rs := [11]) (by kernel_rfl) (by simp) ?_
    refine AllReadyH.cons rfl (fun K hK => ?_) AllReadyH.nil
    go_simp
    refine (HPI.out Wd (HB4.out.trans (HD.out.mono HB4.out.size))).mono ?_
    rintro e w5 ⟨rfl, hb5⟩
    have hok5 := HD.out.trans (hb5.mono HD.out.size)
    refine hK.out _ _ (KS.out _ (hok5)) (fun _ => ?_)
    try simp only [Act.put, List.setIfInBounds_toArray, List.set_cons_zero, List.set_cons_succ]
    clear hK K
    refine wpAnyH_ready (rs := [12]) (by kernel_rfl) (by simp) ?_
    refine AllReadyH.cons rfl (fun K hK => ?_) AllReadyH.nil
    go_simp
    have hok6 := hok5.alloc hok5.size (.cells #[.int .i64 m, .int .i64 p] 3)
    refine hK.out _ _ (KS.out _ (hok6)) (fun _ => ?_)
    try simp only [Act.put, List.setIfInBounds_toArray, List.set_cons_zero, List.set_cons_succ]
    clear hK K
    refine wpAnyH_ready (rs := [13]) (by kernel_rfl) (by simp) ?_
    refine AllReadyH.cons rfl (fun K hK => ?_) AllReadyH.nil
    go_simp
    have HROW := Lib.hid (row_lit w5 [m, p] (by simp))
    have HBND : Hid (∀ i, i < [m, p].length → 0 ≤ [m, p].getD i 0 ∧ [m, p].getD i 0 ≤ 1000000) := Lib.hid (by
      intro i hi
      match i, hi with
      | 0, _ => simp only [List.getD_cons_zero]; omega
      | 1, _ => simp only [List.getD_cons_zero, List.getD_cons_succ]; omega)
    refine (numbersW (some ⟨w5.heap.size, 0, none⟩) w5.heap.size 0 2 [m, p] _ HROW.out (by simp) HBND.out).mono ?_
    rintro e w7 ⟨rfl, hb7⟩
    have hok7 := hok6.trans (hb7.mono hok6.size)
    have HB7 := Lib.hid (HB4.out.trans (hok7.mono HB4.out.size))
    have HTX := Lib.hid (text_one [m, p])
    obtain ⟨X, hX⟩ : ∃ X, lnW [m, p] = X := ⟨_, rfl⟩
    rw [hX] at HTX ⊢
    clear hX
    refine hK.out _ _ (KS.out _ (hok7)) (fun _ => ?_)
    try simp only [Act.put, List.setIfInBounds_toArray, List.set_cons_zero, List.set_cons_succ]
    clear hK K
    have hS9 := KS.out _ hok7
    clear hok5 hok6 hok7 hb5 hb7
    refine wpAnyH_take (i := 14) (oi := ⟨some 4, _, _, _, _, _⟩) (v := .string X) rfl (by kernel_rfl) (by kernel_rfl) (by kernel_rfl) (fun _ _ _ h => h) (Or.inl ⟨by kernel_rfl, fun V hV => ?_⟩) hS9 ?_
    · obtain ⟨q0, q1, q2⟩ := hV
      go_simp
    simp only [Act.put, List.setIfInBounds_toArray, List.set_cons_zero, List.set_cons_succ]
    refine wpAnyH_done (by kernel_rfl) ?_ _
    go_wp2_with fail
    go_ret
    exact ⟨by rw [HC.out, HTX.out]; rfl, HB7.out⟩

set_option maxRecDepth 100000 in
set_option maxHeartbeats 2000000 in
theorem withoutS2 (ao : Option Addr) (b cap : Nat) (L : List Per) (k : Nat) (w : World) (hr : Ppl w ao b 0 L) (hv : pplB L = true) (hk : k < L.length) (hc : L.length ≤ cap) (hc2 : cap ≤ 9223372036854775807) :
    Calls Tryz.prog 58 #[.slice ao L.length cap, .int .i64 (k : Int)] w fun e w' => ∃ v, e = .returned (.tuple #[v, .bool true]) ∧ v ≠ .slice none 0 0 ∧ OwnPpl w' w.heap.size v (without L k) ∧ Below w.heap.size w w' := by
  have h40 := (ppl_t.1 hv).1
  have HC := Lib.hid (peopleS ao b 0 cap L w hr (by omega))
  have HV := Lib.hid hv
  have HR := Lib.hid hr
  have hwl : IntKind.i64.wrap ((L.length : Int) - 1) = (L.length : Int) - 1 := IntWalk.i64_in _ ⟨by omega, by omega⟩
  have hwr : IntKind.i64.wrap ((k : Int) + 1) = ((k + 1 : Nat) : Int) := by rw [IntWalk.i64_in _ ⟨by omega, by omega⟩]; rfl
  obtain ⟨j, hj⟩ : ∃ j, k + 1 = j := ⟨_, rfl⟩
  rw [hj] at hwr
  have hjl : j ≤ L.length := by omega
  have hk40 : k ≤ 40 := by omega
  have hji : (j : Int) ≤ (L.length : Int) := by omega
  have hjc : j ≤ cap := by omega
  have hkc : k ≤ cap := by omega
  have HJ := Lib.hid hj
  have HH := Lib.hid hk
  obtain rfl := hr.1 (by omega)
  obtain ⟨A, hA, HA⟩ : ∃ A : Addr, (if cap = j then (some ⟨b, 0, none⟩ : Option Addr) else some ⟨b, j * 4, none⟩) = some A ∧ Hid (∀ (W : World), Below w.heap.size w W → ∀ t u, (pc (L.drop j))[t]? = some u → W.cell? (A.add t) = some u) := by
    by_cases h : cap = j
    · refine ⟨⟨b, 0, none⟩, by simp [h], fun W hW t u hu => ?_⟩
      have h0 : (pc (L.drop j)).length = 0 := by rw [pc_len, List.length_drop]; omega
      rw [List.length_eq_zero_iff.1 h0] at hu
      simp at hu
    · refine ⟨⟨b, j * 4, none⟩, by simp [h], fun W hW t u hu => ?_⟩
      rw [Addr.add_lit]
      rw [← pc_drop, List.getElem?_drop] at hu
      have := ppl_cells (hr.keep hW (Nat.le_refl _)) _ u hu
      rw [Nat.zero_add] at this
      exact this
  have HT := Lib.hid (show ∀ (W : World), Below w.heap.size w W → ∀ t u, (pc (L.take k))[t]? = some u → W.cell? (Addr.add ⟨b, 0, none⟩ t) = some u from fun W hW t u hu => by
    rw [Addr.add_lit]
    rw [← pc_take L k (by omega), List.getElem?_take] at hu
    split at hu
    · exact ppl_cells (hr.keep hW (Nat.le_refl _)) _ u hu
    · cases hu)
  clear hr hv hj hk
  go_enter Tryz.func58, Tryz.ntmps58
  go_wp2_with fail
  refine (HC.out).mono ?_
  rintro e w1 ⟨rfl, hb1⟩
  rw [HV.out]
  have HB1 := Lib.hid hb1
  have hs1 := hb1.size
  clear hb1
  go_wp2_with fail
  refine (in_yes _ _ _ _ (by omega) (by have := HH.out; omega)).mono ?_
  rintro e w2 ⟨rfl, rfl⟩
  go_wp2_with fail
  refine wp_region_held (S := (fun _ => True)) (by kernel_rfl) ?_
  change wpAnyH _ _ _ _ _ _ _ _ w1.drew
  have hd := (Below.refl w1.heap.size w1).drew
  obtain ⟨Wd, hWd⟩ : ∃ Wd, w1.drew = Wd := ⟨_, rfl⟩
  rw [hWd] at hd ⊢
  have HD := Lib.hid (HB1.out.trans (hd.mono hs1))
  clear hWd hd
  refine wpAnyH_take (i := 1) (v := .slice (some ⟨b, 0, none⟩) L.length cap) rfl (by kernel_rfl) (by kernel_rfl) (by kernel_rfl) (fun _ _ _ h => h) (Or.inl ⟨by kernel_rfl, fun V hV => ?_⟩) trivial ?_
  · clear hV
    go_simp
  simp only [Act.put, List.setIfInBounds_toArray]
  refine wpAnyH_take (i := 2) (v := .int .i64 (k : Int)) rfl (by kernel_rfl) (by kernel_rfl) (by kernel_rfl) (fun _ _ _ h => h) (Or.inl ⟨by kernel_rfl, fun V hV => ?_⟩) trivial ?_
  · clear hV
    go_simp
  simp only [Act.put]
  refine wpAnyH_take (i := 3) (v := .slice (some ⟨b, 0, none⟩) k cap) rfl (by kernel_rfl) (by kernel_rfl) (by kernel_rfl) (fun _ _ _ h => h) (Or.inl ⟨by kernel_rfl, fun V hV => ?_⟩) trivial ?_
  · clear hV
    go_simp
  simp only [Act.put]
  refine wpAnyH_take (i := 5) (v := .slice (some ⟨b, 0, none⟩) L.length cap) rfl (by kernel_rfl) (by kernel_rfl) (by kernel_rfl) (fun _ _ _ h => h) (Or.inl ⟨by kernel_rfl, fun V hV => ?_⟩) trivial ?_
  · clear hV
    go_simp
  simp only [Act.put]
  refine wpAnyH_take (i := 6) (v := .int .i64 (k : Int)) rfl (by kernel_rfl) (by kernel_rfl) (by kernel_rfl) (fun _ _ _ h => h) (Or.inl ⟨by kernel_rfl, fun V hV => ?_⟩) trivial ?_
  · clear hV
    go_simp
  simp only [Act.put]
  refine wpAnyH_take (i := 7) (v := .int .i64 (j : Int)) rfl (by kernel_rfl) (by kernel_rfl) (by kernel_rfl) (fun _ _ _ h => h) (Or.inl ⟨by kernel_rfl, fun V hV => ?_⟩) trivial ?_
  · clear hV
    go_simp
  simp only [Act.put]
  refine wpAnyH_take (i := 8) (v := .slice (some A) (L.length - j) (cap - j)) rfl (by kernel_rfl) (by kernel_rfl) (by kernel_rfl) (fun _ _ _ h => h) (Or.inl ⟨by kernel_rfl, fun V hV => ?_⟩) trivial ?_
  · clear hV
    go_simp
  simp only [Act.put]
  obtain ⟨i0, hi, hz0, hz1, hz2⟩ := info_parts eltP.info
  refine wpAnyH_ready (rs := [0]) (by kernel_rfl) (by simp) ?_
  refine AllReadyH.cons rfl (fun K hK => ?_) AllReadyH.nil
  go_simp
  have hal := HD.out.alloc HD.out.size (.cells #[] 69)
  have ho0 : OwnPpl (Wd.alloc (.cells #[] 69)) w.heap.size (.slice (some ⟨Wd.heap.size, 0, none⟩) 0 0) [] := by
    have := World.ownsRow_lit (base := w.heap.size) (e := 69) (size := 4) Wd #[] 0 HD.out.size (by unfold maxLen; omega) (by simp)
    show OwnPpl _ _ _ _
    simpa [OwnPpl, pc] using this
  refine hK.out _ _ trivial (fun _ => ?_)
  try simp only [Act.put, List.setIfInBounds_toArray, List.set_cons_zero, List.set_cons_succ]
  clear hK K
  refine wpAnyH_ready (rs := [4]) (by kernel_rfl) (by simp) ?_
  refine AllReadyH.cons (o := ⟨some 22, _, _, _, _, _⟩) rfl (fun K hK => ?_) AllReadyH.nil
  rw [if_pos (by rfl)]
  refine wp_append_own _ (.tmp 18) (.tmp 21) _ rfl w.heap.size 69 i0 _ 4 32 eltP.und hi hz0 hz1 hz2 eltP.zs eltP.pos _ _ _ rfl ho0 ⟨b, 0, none⟩ k cap (pc (L.take k)) rfl (by rw [pc_len, List.length_take]; have := HH.out; omega) (HT.out _ hal) (pc_one _) (by unfold maxLen; simp only [List.length_nil]; omega) (by simp only [List.length_nil]; omega) hal.size ?_
  intro v1 W1 ho1 hg1 hnn1
  have hb1 := hal.trans (below_own ho0 hg1 hal.size)
  refine hK.out _ _ trivial (fun _ => ?_)
  try simp only [Act.put, List.setIfInBounds_toArray, List.set_cons_zero, List.set_cons_succ]
  clear hK K
  refine wpAnyH_ready (rs := [9]) (by kernel_rfl) (by simp) ?_
  refine AllReadyH.cons (o := ⟨some 27, _, _, _, _, _⟩) rfl (fun K hK => ?_) AllReadyH.nil
  rw [if_pos (by rfl)]
  refine wp_append_own _ (.tmp 22) (.tmp 26) _ rfl w.heap.size 69 i0 _ 4 32 eltP.und hi hz0 hz1 hz2 eltP.zs eltP.pos _ _ _ rfl ho1 A (L.length - j) (cap - j) (pc (L.drop j)) rfl (by rw [pc_len, List.length_drop]) (HA.out _ hb1) (pc_one _) (by unfold maxLen; simp only [List.length_nil]; omega) (by simp only [List.length_nil]; omega) hb1.size ?_
  intro v2 W2 ho2 hg2 hnn2
  have HNN := Lib.hid (show v2 ≠ .slice none 0 0 from fun h => by have h3 := (hnn1.1 (hnn2.1 h).1).1; cases h3)
  have hb2 := hb1.trans (below_own ho1 hg2 hb1.size)
  refine hK.out _ _ trivial (fun _ => ?_)
  try simp only [Act.put, List.setIfInBounds_toArray, List.set_cons_zero, List.set_cons_succ]
  clear hK K
  have HO2 := Lib.hid (show OwnPpl W2 w.heap.size v2 (without L k) by
    unfold OwnPpl without
    rw [pc_append, List.length_append, List.length_take, List.length_drop, HJ.out]
    have e : min k L.length + (L.length - j) = 0 + k + (L.length - j) := by have := HH.out; omega
    rw [e]
    simpa [pc] using ho2)
  have HB2 := Lib.hid hb2
  clear ho0 ho1 ho2 hb1 hb2 hg1 hg2 hal hi hz0 hz1 hz2 hnn1 hnn2
  refine wpAnyH_take (i := 10) (oi := ⟨some 4, _, _, _, _, _⟩) (v := v2) rfl (by kernel_rfl) (by kernel_rfl) (by kernel_rfl) (fun _ _ _ h => h) (Or.inl ⟨by kernel_rfl, fun V hV => ?_⟩) trivial ?_
  · clear hV
    go_simp
  simp only [Act.put, List.setIfInBounds_toArray, List.set_cons_zero, List.set_cons_succ]
  refine wpAnyH_take (i := 11) (oi := ⟨some 5, _, _, _, _, _⟩) (v := .bool true) rfl (by kernel_rfl) (by kernel_rfl) (by kernel_rfl) (fun _ _ _ h => h) (Or.inl ⟨by kernel_rfl, fun V hV => ?_⟩) trivial ?_
  · clear hV
    go_simp
  simp only [Act.put, List.setIfInBounds_toArray, List.set_cons_zero, List.set_cons_succ]
  refine wpAnyH_done (by kernel_rfl) ?_ _
  go_wp2_with fail
  go_ret2
  exact ⟨_, rfl, HNN.out, HO2.out, HB2.out⟩


set_option maxHeartbeats 2000000 in
theorem dropArmS_f (ao : Option Addr) (b cap : Nat) (L : List Per) (k : Int) (w : World) (hr : Ppl w ao b 0 L) (hv : pplB L = true) (hk : ¬ (0 ≤ k ∧ k < L.length)) :
    Calls Tryz.prog 31 #[.slice ao L.length cap, .int .i64 k] w fun e w' => e = .returned (.tuple #[.slice ao L.length cap, .bool false]) ∧ Below w.heap.size w w' := by
  have h40 := (ppl_t.1 hv).1
  have HW := Lib.hid (withoutS_f ao b cap L k w hr (by omega) (fun h => hk h.2))
  clear hr hv hk h40
  go_enter Tryz.func31, Tryz.ntmps31
  go_wp2_with fail
  refine (HW.out).mono ?_
  rintro e w1 ⟨a1, rfl, hb1⟩
  have HB1 := Lib.hid hb1
  clear hb1
  go_wp2_with fail
  go_ret2
  exact ⟨rfl, HB1.out⟩
set_option maxHeartbeats 2000000 in
theorem dropArmS (ao : Option Addr) (b cap : Nat) (L : List Per) (k : Nat) (w : World) (hr : Ppl w ao b 0 L) (hv : pplB L = true) (hk : k < L.length) (hc : L.length ≤ cap) (hc2 : cap ≤ 9223372036854775807) :
    Calls Tryz.prog 31 #[.slice ao L.length cap, .int .i64 (k : Int)] w fun e w' => ∃ v, e = .returned (.tuple #[v, .bool true]) ∧ v ≠ .slice none 0 0 ∧ OwnPpl w' w.heap.size v (without L k) ∧ Below w.heap.size w w' := by
  have HW := Lib.hid (withoutS2 ao b cap L k w hr hv hk hc hc2)
  clear hr hv hk hc hc2
  go_enter Tryz.func31, Tryz.ntmps31
  go_wp2_with fail
  refine (HW.out).mono ?_
  rintro e w1 ⟨v1, rfl, hnn, ho, hb1⟩
  have HB1 := Lib.hid hb1
  have HO1 := Lib.hid ho
  have HNN := Lib.hid hnn
  obtain ⟨a9, b9, c9, rfl, -, -, -, -⟩ := OwnPpl.ppl ho
  clear hb1 ho hnn
  go_wp2_with fail
  go_ret2
  exact ⟨_, rfl, HNN.out, HO1.out, HB1.out⟩

set_option maxRecDepth 100000 in
set_option maxHeartbeats 8000000 in
theorem groupsArmS (ao : Option Addr) (b cap : Nat) (L : List Per) (w : World) (hr : Ppl w ao b 0 L) (hv : pplB L = true) :
    Calls Tryz.prog 66 #[.slice ao L.length cap] w fun e w' => e = .returned (.string (bs (groupsM L))) ∧ Below w.heap.size w w' := by
  have HLE := Lib.hid (fun (W : World) (hb : Below w.heap.size w W) (la : Option Addr) => leastS ao b cap L la 0 W (hr.keep hb (Nat.le_refl _)) hv)
  have HMG := Lib.hid (fun (W : World) (hb : Below w.heap.size w W) (la : Option Addr) => manyGS ao b cap L la 0 W (hr.keep hb (Nat.le_refl _)) hv)
  have HAG := Lib.hid (fun (W : World) (hb : Below w.heap.size w W) (la : Option Addr) => uniqS ao b cap L la 0 W (hr.keep hb (Nat.le_refl _)) hv)
  have hft := fit_groups hv
  obtain ⟨m1, hm1⟩ : ∃ m1, leastG L = m1 := ⟨_, rfl⟩
  obtain ⟨m2, hm2⟩ : ∃ m2 : Int, (manyG L : Int) = m2 := ⟨_, rfl⟩
  obtain ⟨m3, hm3⟩ : ∃ m3 : Int, (aloneG L : Int) = m3 := ⟨_, rfl⟩
  have HGM := Lib.hid (show groupsM L = text [[m1, m2, m3]] [] by unfold groupsM; rw [hm1, hm2, hm3])
  rw [hm1] at HLE hft
  rw [hm2] at HMG hft
  rw [hm3] at HAG hft
  have HFT := Lib.hid ((hft.2 0 (by simp)).2.2)
  clear hm1 hm2 hm3 hft hr hv
  go_enter Tryz.func66, Tryz.ntmps66
  go_wp2_with fail
  have hz1 : (w.alloc (.cells #[] 53)).heap.size = w.heap.size + 1 := World.size_alloc _ _
  have hal := ((Below.refl w.heap.size w).alloc (Nat.le_refl _) (.cells #[] 53)).alloc (by rw [hz1]; omega) (.cells #[.int .i64 0, .int .i64 0, .int .i64 0] 81)
  obtain ⟨W4, hW4⟩ : ∃ W4, (w.alloc (.cells #[] 53)).alloc (.cells #[.int .i64 0, .int .i64 0, .int .i64 0] 81) = W4 := ⟨_, rfl⟩
  have r0 : W4.cell? ⟨w.heap.size + 1, 0, none⟩ = some (.int .i64 0) := by rw [← hW4, ← hz1, World.cell?_alloc_new]; rfl
  have r1 : W4.cell? ⟨w.heap.size + 1, 1, none⟩ = some (.int .i64 0) := by rw [← hW4, ← hz1, World.cell?_alloc_new]; rfl
  have r2 : W4.cell? ⟨w.heap.size + 1, 2, none⟩ = some (.int .i64 0) := by rw [← hW4, ← hz1, World.cell?_alloc_new]; rfl
  have hrb : w.heap.size + 1 < W4.heap.size := by rw [← hW4, World.size_alloc, hz1]; omega
  rw [hW4] at hal ⊢
  obtain ⟨rb, hrbe⟩ : ∃ rb, w.heap.size + 1 = rb := ⟨_, rfl⟩
  rw [hrbe] at r0 r1 r2 hrb ⊢
  have HAL := Lib.hid hal
  clear hW4 hal hz1 hrbe
  have KS := Lib.hid (fun (W' : World) (hW : Below W4.heap.size W4 W') => (show W'.cell? ⟨rb, 0, none⟩ = some (.int .i64 0) ∧ W'.cell? ⟨rb, 1, none⟩ = some (.int .i64 0) ∧ W'.cell? ⟨rb, 2, none⟩ = some (.int .i64 0) from ⟨(hW.cell (p := ⟨rb, 0, none⟩) (hrb)).trans r0, (hW.cell (p := ⟨rb, 1, none⟩) (hrb)).trans r1, (hW.cell (p := ⟨rb, 2, none⟩) (hrb)).trans r2⟩))
  refine wp_region_held (S := (fun V => V.cell? ⟨rb, 0, none⟩ = some (.int .i64 0) ∧ V.cell? ⟨rb, 1, none⟩ = some (.int .i64 0) ∧ V.cell? ⟨rb, 2, none⟩ = some (.int .i64 0))) (by kernel_rfl) ?_
  change wpAnyH _ _ _ _ _ _ _ _ W4.drew
  have hS0 : W4.drew.cell? ⟨rb, 0, none⟩ = some (.int .i64 0) ∧ W4.drew.cell? ⟨rb, 1, none⟩ = some (.int .i64 0) ∧ W4.drew.cell? ⟨rb, 2, none⟩ = some (.int .i64 0) := ⟨r0, r1, r2⟩
  have hd := (Below.refl W4.heap.size W4).drew
  obtain ⟨Wd, hWd⟩ : ∃ Wd, W4.drew = Wd := ⟨_, rfl⟩
  rw [hWd] at hS0 hd ⊢
  have HD := Lib.hid hd
  clear hWd hd
  refine wpAnyH_take (i := 0) (v := .slice ao L.length cap) rfl (by kernel_rfl) (by kernel_rfl) (by kernel_rfl) (fun _ _ _ h => h) (Or.inl ⟨by kernel_rfl, fun V hV => ?_⟩) hS0 ?_
  · obtain ⟨q0, q1, q2⟩ := hV
    go_simp
  simp only [Act.put, List.setIfInBounds_toArray]
  refine wpAnyH_take (i := 1) (v := .slice (some ⟨w.heap.size, 0, none⟩) 0 0) rfl (by kernel_rfl) (by kernel_rfl) (by kernel_rfl) (fun _ _ _ h => h) (Or.inl ⟨by kernel_rfl, fun V hV => ?_⟩) hS0 ?_
  · obtain ⟨q0, q1, q2⟩ := hV
    go_simp
  simp only [Act.put]
  refine wpAnyH_take (i := 2) (v := .agg #[.int .i64 0, .int .i64 0, .int .i64 0]) rfl (by kernel_rfl) (by kernel_rfl) (by kernel_rfl) (fun _ _ _ h => h) (Or.inl ⟨by kernel_rfl, fun V hV => ?_⟩) hS0 ?_
  · obtain ⟨q0, q1, q2⟩ := hV
    go_simp
  simp only [Act.put]
  refine wpAnyH_take (i := 4) (v := .slice ao L.length cap) rfl (by kernel_rfl) (by kernel_rfl) (by kernel_rfl) (fun _ _ _ h => h) (Or.inl ⟨by kernel_rfl, fun V hV => ?_⟩) hS0 ?_
  · obtain ⟨q0, q1, q2⟩ := hV
    go_simp
  simp only [Act.put]
  refine wpAnyH_take (i := 5) (v := .slice (some ⟨w.heap.size, 0, none⟩) 0 0) rfl (by kernel_rfl) (by kernel_rfl) (by kernel_rfl) (fun _ _ _ h => h) (Or.inl ⟨by kernel_rfl, fun V hV => ?_⟩) hS0 ?_
  · obtain ⟨q0, q1, q2⟩ := hV
    go_simp
  simp only [Act.put]
  refine wpAnyH_take (i := 6) (v := .agg #[.int .i64 0, .int .i64 0, .int .i64 0]) rfl (by kernel_rfl) (by kernel_rfl) (by kernel_rfl) (fun _ _ _ h => h) (Or.inl ⟨by kernel_rfl, fun V hV => ?_⟩) hS0 ?_
  · obtain ⟨q0, q1, q2⟩ := hV
    go_simp
  simp only [Act.put]
  refine wpAnyH_take (i := 8) (v := .slice ao L.length cap) rfl (by kernel_rfl) (by kernel_rfl) (by kernel_rfl) (fun _ _ _ h => h) (Or.inl ⟨by kernel_rfl, fun V hV => ?_⟩) hS0 ?_
  · obtain ⟨q0, q1, q2⟩ := hV
    go_simp
  simp only [Act.put]
  refine wpAnyH_take (i := 9) (v := .slice (some ⟨w.heap.size, 0, none⟩) 0 0) rfl (by kernel_rfl) (by kernel_rfl) (by kernel_rfl) (fun _ _ _ h => h) (Or.inl ⟨by kernel_rfl, fun V hV => ?_⟩) hS0 ?_
  · obtain ⟨q0, q1, q2⟩ := hV
    go_simp
  simp only [Act.put]
  refine wpAnyH_take (i := 10) (v := .agg #[.int .i64 0, .int .i64 0, .int .i64 0]) rfl (by kernel_rfl) (by kernel_rfl) (by kernel_rfl) (fun _ _ _ h => h) (Or.inl ⟨by kernel_rfl, fun V hV => ?_⟩) hS0 ?_
  · obtain ⟨q0, q1, q2⟩ := hV
    go_simp
  simp only [Act.put]
  refine wpAnyH_ready (rs := [3]) (by kernel_rfl) (by simp) ?_
  refine AllReadyH.cons rfl (fun K hK => ?_) AllReadyH.nil
  go_simp
  refine (HLE.out Wd (HAL.out.trans ((HD.out).mono HAL.out.size)) _).mono ?_
  rintro e w5 ⟨rfl, hb5⟩
  have hok5 := (HD.out).trans (hb5.mono (HD.out).size)
  refine hK.out _ _ (KS.out _ (hok5)) (fun _ => ?_)
  try simp only [Act.put, List.setIfInBounds_toArray, List.set_cons_zero, List.set_cons_succ]
  clear hK K
  refine wpAnyH_ready (rs := [7]) (by kernel_rfl) (by simp) ?_
  refine AllReadyH.cons rfl (fun K hK => ?_) AllReadyH.nil
  go_simp
  refine (HMG.out w5 (HAL.out.trans ((hok5).mono HAL.out.size)) _).mono ?_
  rintro e w6 ⟨rfl, hb6⟩
  have hok6 := (hok5).trans (hb6.mono (hok5).size)
  refine hK.out _ _ (KS.out _ (hok6)) (fun _ => ?_)
  try simp only [Act.put, List.setIfInBounds_toArray, List.set_cons_zero, List.set_cons_succ]
  clear hK K
  refine wpAnyH_ready (rs := [11]) (by kernel_rfl) (by simp) ?_
  refine AllReadyH.cons rfl (fun K hK => ?_) AllReadyH.nil
  go_simp
  refine (HAG.out w6 (HAL.out.trans ((hok6).mono HAL.out.size)) _).mono ?_
  rintro e w7 ⟨rfl, hb7⟩
  have hok7 := (hok6).trans (hb7.mono (hok6).size)
  refine hK.out _ _ (KS.out _ (hok7)) (fun _ => ?_)
  try simp only [Act.put, List.setIfInBounds_toArray, List.set_cons_zero, List.set_cons_succ]
  clear hK K
  refine wpAnyH_ready (rs := [12]) (by kernel_rfl) (by simp) ?_
  refine AllReadyH.cons rfl (fun K hK => ?_) AllReadyH.nil
  go_simp
  have hok7a := hok7.alloc hok7.size (.cells #[.int .i64 m1, .int .i64 m2, .int .i64 m3] 3)
  refine hK.out _ _ (KS.out _ (hok7a)) (fun _ => ?_)
  try simp only [Act.put, List.setIfInBounds_toArray, List.set_cons_zero, List.set_cons_succ]
  clear hK K
  refine wpAnyH_ready (rs := [13]) (by kernel_rfl) (by simp) ?_
  refine AllReadyH.cons rfl (fun K hK => ?_) AllReadyH.nil
  go_simp
  have HROW := Lib.hid (row_lit w7 [m1, m2, m3] (by simp))
  refine (numbersW (some ⟨w7.heap.size, 0, none⟩) w7.heap.size 0 3 [m1, m2, m3] _ HROW.out (by simp) HFT.out).mono ?_
  rintro e w8 ⟨rfl, hb8⟩
  have hok8 := hok7a.trans (hb8.mono hok7a.size)
  have HB8 := Lib.hid (HAL.out.trans (hok8.mono HAL.out.size))
  have HTX := Lib.hid (text_one [m1, m2, m3])
  obtain ⟨X, hX⟩ : ∃ X, lnW [m1, m2, m3] = X := ⟨_, rfl⟩
  rw [hX] at HTX ⊢
  clear hX
  refine hK.out _ _ (KS.out _ (hok8)) (fun _ => ?_)
  try simp only [Act.put, List.setIfInBounds_toArray, List.set_cons_zero, List.set_cons_succ]
  clear hK K
  have hS9 := KS.out _ hok8
  clear hok5 hok6 hok7 hok7a hok8 hb5 hb6 hb7 hb8
  refine wpAnyH_take (i := 14) (oi := ⟨some 2, _, _, _, _, _⟩) (v := .string X) rfl (by kernel_rfl) (by kernel_rfl) (by kernel_rfl) (fun _ _ _ h => h) (Or.inl ⟨by kernel_rfl, fun V hV => ?_⟩) hS9 ?_
  · obtain ⟨q0, q1, q2⟩ := hV
    go_simp
  simp only [Act.put, List.setIfInBounds_toArray, List.set_cons_zero, List.set_cons_succ]
  refine wpAnyH_done (by kernel_rfl) ?_ _
  go_wp2_with fail
  go_ret
  exact ⟨by rw [HGM.out, HTX.out]; rfl, HB8.out⟩
end Go.Proofs.YtlmlchkolcmhpaaGreatDoor
