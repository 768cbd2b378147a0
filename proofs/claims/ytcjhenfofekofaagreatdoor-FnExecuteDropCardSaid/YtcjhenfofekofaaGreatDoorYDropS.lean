/-
  Contracts: spec.PeopleWithout, spec.DrawPeopleWithout.
-/
import Derived.Test.YtcjhenfofekofaaGreatDoorYDrop
import Derived.Test.YtcjhenfofekofaaGreatDoorYDrawV
import Derived.Deep.RegionWith
namespace Go.Proofs.YtcjhenfofekofaaGreatDoor
open Go.RowKit

set_option maxHeartbeats 1000000 in
theorem withoutS_f (ao : Option Addr) (b cap : Nat) (L : List Per) (k : Int) (w : World) (hr : Ppl w ao b 0 L) (hl : L.length ≤ 100) (hv : ¬ (pplB L = true ∧ 0 ≤ k ∧ k < L.length)) :
    Calls Tryz.prog 21 #[.slice ao L.length cap, .int .i64 k] w fun e w' => ∃ a, e = .returned (.tuple #[.slice a 0 0, .bool false]) ∧ Below w.heap.size w w' := by
  have HC := Lib.hid (peopleS ao b 0 cap L w hr (by omega))
  have HV := Lib.hid hv
  have hwr : IntKind.i64.wrap ((L.length : Int) - 1) = (L.length : Int) - 1 := IntWalk.i64_in _ ⟨by omega, by omega⟩
  clear hr hv
  go_enter Tryz.func21, Tryz.ntmps21
  go_wp2_with fail
  refine (HC.out).mono ?_
  rintro e w1 ⟨rfl, hb1⟩
  have HB1 := Lib.hid hb1
  clear hb1
  cases hp : pplB L with
  | false =>
    go_wp2_with fail
    go_ret2
    exact ⟨_, rfl, HB1.out.alloc HB1.out.size _⟩
  | true =>
    have HN := Lib.hid (show ¬ (0 ≤ k ∧ k ≤ (L.length : Int) - 1) from fun h => HV.out ⟨hp, h.1, by omega⟩)
    clear hp
    go_wp2_with fail
    refine (in_no _ _ _ _ HN.out).mono ?_
    rintro e w2 ⟨rfl, rfl⟩
    go_wp2_with fail
    go_ret2
    exact ⟨_, rfl, HB1.out.alloc HB1.out.size _⟩

set_option maxRecDepth 100000 in
set_option maxHeartbeats 2000000 in
theorem withoutS (ao : Option Addr) (b cap : Nat) (L : List Per) (k : Nat) (w : World) (hr : Ppl w ao b 0 L) (hv : pplB L = true) (hk : k < L.length) (hc : L.length ≤ cap) (hc2 : cap ≤ 9223372036854775807) :
    Calls Tryz.prog 21 #[.slice ao L.length cap, .int .i64 (k : Int)] w fun e w' => ∃ v, e = .returned (.tuple #[v, .bool true]) ∧ OwnPpl w' w.heap.size v (without L k) ∧ Below w.heap.size w w' := by
  have h40 := (ppl_t.1 hv).1
  have HC := Lib.hid (peopleS ao b 0 cap L w hr (by omega))
  have HV := Lib.hid hv
  have HR := Lib.hid hr
  have hwl : IntKind.i64.wrap ((L.length : Int) - 1) = (L.length : Int) - 1 := IntWalk.i64_in _ ⟨by omega, by omega⟩
  have hwr : IntKind.i64.wrap ((k : Int) + 1) = ((k + 1 : Nat) : Int) := by rw [IntWalk.i64_in _ ⟨by omega, by omega⟩]; rfl
  obtain ⟨j, hj⟩ : ∃ j, k + 1 = j := ⟨_, rfl⟩
  rw [hj] at hwr
  have hjl : j ≤ L.length := by omega
  have hk40 : k ≤ 40 := by omega
  have hji : (j : Int) ≤ (L.length : Int) := by omega
  have hjc : j ≤ cap := by omega
  have hkc : k ≤ cap := by omega
  have HJ := Lib.hid hj
  have HH := Lib.hid hk
  obtain rfl := hr.1 (by omega)
  obtain ⟨A, hA, HA⟩ : ∃ A : Addr, (if cap = j then (some ⟨b, 0, none⟩ : Option Addr) else some ⟨b, j * 4, none⟩) = some A ∧ Hid (∀ (W : World), Below w.heap.size w W → ∀ t u, (pc (L.drop j))[t]? = some u → W.cell? (A.add t) = some u) := by
    by_cases h : cap = j
    · refine ⟨⟨b, 0, none⟩, by simp [h], fun W hW t u hu => ?_⟩
      have h0 : (pc (L.drop j)).length = 0 := by rw [pc_len, List.length_drop]; omega
      rw [List.length_eq_zero_iff.1 h0] at hu
      simp at hu
    · refine ⟨⟨b, j * 4, none⟩, by simp [h], fun W hW t u hu => ?_⟩
      rw [Addr.add_lit]
      rw [← pc_drop, List.getElem?_drop] at hu
      have := ppl_cells (hr.keep hW (Nat.le_refl _)) _ u hu
      rw [Nat.zero_add] at this
      exact this
  have HT := Lib.hid (show ∀ (W : World), Below w.heap.size w W → ∀ t u, (pc (L.take k))[t]? = some u → W.cell? (Addr.add ⟨b, 0, none⟩ t) = some u from fun W hW t u hu => by
    rw [Addr.add_lit]
    rw [← pc_take L k (by omega), List.getElem?_take] at hu
    split at hu
    · exact ppl_cells (hr.keep hW (Nat.le_refl _)) _ u hu
    · cases hu)
  clear hr hv hj hk
  go_enter Tryz.func21, Tryz.ntmps21
  go_wp2_with fail
  refine (HC.out).mono ?_
  rintro e w1 ⟨rfl, hb1⟩
  rw [HV.out]
  have HB1 := Lib.hid hb1
  have hs1 := hb1.size
  clear hb1
  go_wp2_with fail
  refine (in_yes _ _ _ _ (by omega) (by have := HH.out; omega)).mono ?_
  rintro e w2 ⟨rfl, rfl⟩
  go_wp2_with fail
  refine wp_region_held (S := (fun _ => True)) (by kernel_rfl) ?_
  change wpAnyH _ _ _ _ _ _ _ _ w1.drew
  have hd := (Below.refl w1.heap.size w1).drew
  obtain ⟨Wd, hWd⟩ : ∃ Wd, w1.drew = Wd := ⟨_, rfl⟩
  rw [hWd] at hd ⊢
  have HD := Lib.hid (HB1.out.trans (hd.mono hs1))
  clear hWd hd
  refine wpAnyH_take (i := 1) (v := .slice (some ⟨b, 0, none⟩) L.length cap) rfl (by kernel_rfl) (by kernel_rfl) (by kernel_rfl) (fun _ _ _ h => h) (Or.inl ⟨by kernel_rfl, fun V hV => ?_⟩) trivial ?_
  · clear hV
    go_simp
  simp only [Act.put, List.setIfInBounds_toArray, List.set_cons_zero, List.set_cons_succ]
  refine wpAnyH_take (i := 2) (v := .int .i64 (k : Int)) rfl (by kernel_rfl) (by kernel_rfl) (by kernel_rfl) (fun _ _ _ h => h) (Or.inl ⟨by kernel_rfl, fun V hV => ?_⟩) trivial ?_
  · clear hV
    go_simp
  simp only [Act.put, List.setIfInBounds_toArray, List.set_cons_zero, List.set_cons_succ]
  refine wpAnyH_take (i := 3) (v := .slice (some ⟨b, 0, none⟩) k cap) rfl (by kernel_rfl) (by kernel_rfl) (by kernel_rfl) (fun _ _ _ h => h) (Or.inl ⟨by kernel_rfl, fun V hV => ?_⟩) trivial ?_
  · clear hV
    go_simp
  simp only [Act.put, List.setIfInBounds_toArray, List.set_cons_zero, List.set_cons_succ]
  refine wpAnyH_take (i := 5) (v := .slice (some ⟨b, 0, none⟩) L.length cap) rfl (by kernel_rfl) (by kernel_rfl) (by kernel_rfl) (fun _ _ _ h => h) (Or.inl ⟨by kernel_rfl, fun V hV => ?_⟩) trivial ?_
  · clear hV
    go_simp
  simp only [Act.put, List.setIfInBounds_toArray, List.set_cons_zero, List.set_cons_succ]
  refine wpAnyH_take (i := 6) (v := .int .i64 (k : Int)) rfl (by kernel_rfl) (by kernel_rfl) (by kernel_rfl) (fun _ _ _ h => h) (Or.inl ⟨by kernel_rfl, fun V hV => ?_⟩) trivial ?_
  · clear hV
    go_simp
  simp only [Act.put, List.setIfInBounds_toArray, List.set_cons_zero, List.set_cons_succ]
  refine wpAnyH_take (i := 7) (v := .int .i64 (j : Int)) rfl (by kernel_rfl) (by kernel_rfl) (by kernel_rfl) (fun _ _ _ h => h) (Or.inl ⟨by kernel_rfl, fun V hV => ?_⟩) trivial ?_
  · clear hV
    go_simp
  simp only [Act.put, List.setIfInBounds_toArray, List.set_cons_zero, List.set_cons_succ]
  refine wpAnyH_take (i := 8) (v := .slice (some A) (L.length - j) (cap - j)) rfl (by kernel_rfl) (by kernel_rfl) (by kernel_rfl) (fun _ _ _ h => h) (Or.inl ⟨by kernel_rfl, fun V hV => ?_⟩) trivial ?_
  · clear hV
    go_simp
  simp only [Act.put, List.setIfInBounds_toArray, List.set_cons_zero, List.set_cons_succ]
  obtain ⟨i0, hi, hz0, hz1, hz2⟩ := info_parts eltP.info
  refine wpAnyH_ready (rs := [0]) (by kernel_rfl) (by simp) ?_
  refine AllReadyH.cons rfl (fun K hK => ?_) AllReadyH.nil
  go_simp
  have hal := HD.out.alloc HD.out.size (.cells #[] 57)
  have ho0 : OwnPpl (Wd.alloc (.cells #[] 57)) w.heap.size (.slice (some ⟨Wd.heap.size, 0, none⟩) 0 0) [] := by
    have := World.ownsRow_lit (base := w.heap.size) (e := 57) (size := 4) Wd #[] 0 HD.out.size (by unfold maxLen; omega) (by simp)
    show OwnPpl _ _ _ _
    simpa [OwnPpl, pc] using this
  refine hK.out _ _ trivial (fun _ => ?_)
  try simp only [Act.put, List.setIfInBounds_toArray, List.set_cons_zero, List.set_cons_succ]
  clear hK K
  refine wpAnyH_ready (rs := [4]) (by kernel_rfl) (by simp) ?_
  refine AllReadyH.cons (o := ⟨some 22, _, _, _, _, _⟩) rfl (fun K hK => ?_) AllReadyH.nil
  rw [if_pos (by rfl)]
  refine wp_append_own _ (.tmp 18) (.tmp 21) _ rfl w.heap.size 57 i0 _ 4 32 eltP.und hi hz0 hz1 hz2 eltP.zs eltP.pos _ _ _ rfl ho0 ⟨b, 0, none⟩ k cap (pc (L.take k)) rfl (by rw [pc_len, List.length_take]; have := HH.out; omega) (HT.out _ hal) (pc_one _) (by unfold maxLen; simp only [List.length_nil]; omega) (by simp only [List.length_nil]; omega) hal.size ?_
  intro v1 W1 ho1 hg1 _
  have hb1 := hal.trans (below_own ho0 hg1 hal.size)
  refine hK.out _ _ trivial (fun _ => ?_)
  try simp only [Act.put, List.setIfInBounds_toArray, List.set_cons_zero, List.set_cons_succ]
  clear hK K
  refine wpAnyH_ready (rs := [9]) (by kernel_rfl) (by simp) ?_
  refine AllReadyH.cons (o := ⟨some 27, _, _, _, _, _⟩) rfl (fun K hK => ?_) AllReadyH.nil
  rw [if_pos (by rfl)]
  refine wp_append_own _ (.tmp 22) (.tmp 26) _ rfl w.heap.size 57 i0 _ 4 32 eltP.und hi hz0 hz1 hz2 eltP.zs eltP.pos _ _ _ rfl ho1 A (L.length - j) (cap - j) (pc (L.drop j)) rfl (by rw [pc_len, List.length_drop]) (HA.out _ hb1) (pc_one _) (by unfold maxLen; simp only [List.length_nil]; omega) (by simp only [List.length_nil]; omega) hb1.size ?_
  intro v2 W2 ho2 hg2 _
  have hb2 := hb1.trans (below_own ho1 hg2 hb1.size)
  refine hK.out _ _ trivial (fun _ => ?_)
  try simp only [Act.put, List.setIfInBounds_toArray, List.set_cons_zero, List.set_cons_succ]
  clear hK K
  have HO2 := Lib.hid (show OwnPpl W2 w.heap.size v2 (without L k) by
    unfold OwnPpl without
    rw [pc_append, List.length_append, List.length_take, List.length_drop, HJ.out]
    have e : min k L.length + (L.length - j) = 0 + k + (L.length - j) := by have := HH.out; omega
    rw [e]
    simpa [pc] using ho2)
  have HB2 := Lib.hid hb2
  clear ho0 ho1 ho2 hb1 hb2 hg1 hg2 hal hi hz0 hz1 hz2
  refine wpAnyH_take (i := 10) (oi := ⟨some 4, _, _, _, _, _⟩) (v := v2) rfl (by kernel_rfl) (by kernel_rfl) (by kernel_rfl) (fun _ _ _ h => h) (Or.inl ⟨by kernel_rfl, fun V hV => ?_⟩) trivial ?_
  · clear hV
    go_simp
  simp only [Act.put, List.setIfInBounds_toArray, List.set_cons_zero, List.set_cons_succ]
  refine wpAnyH_take (i := 11) (oi := ⟨some 5, _, _, _, _, _⟩) (v := .bool true) rfl (by kernel_rfl) (by kernel_rfl) (by kernel_rfl) (fun _ _ _ h => h) (Or.inl ⟨by kernel_rfl, fun V hV => ?_⟩) trivial ?_
  · clear hV
    go_simp
  simp only [Act.put, List.setIfInBounds_toArray, List.set_cons_zero, List.set_cons_succ]
  refine wpAnyH_done (by kernel_rfl) ?_ _
  go_wp2_with fail
  go_ret2
  exact ⟨_, rfl, HO2.out, HB2.out⟩

/-- Drawn people and a place, or none. -/
def PplK (w : World) (e : Ending) (w' : World) : Prop :=
  ∃ (ao : Option Addr) (b cap : Nat) (L : List Per) (k : Int), e = .returned (.tuple #[.slice ao L.length cap, .int .i64 k]) ∧ Ppl w' ao b 0 L ∧ L.length ≤ cap ∧ cap ≤ 9223372036854775807 ∧ L.length ≤ 12 ∧ (ao = none → cap = 0) ∧ Below w.heap.size w w'
theorem own_nil {w : World} {base n cap : Nat} {ao : Option Addr} {L : List Per} (h : OwnPpl w base (.slice ao n cap) L) : ao = none → cap = 0 := by
  rintro rfl
  rcases h.2 with ⟨h0, _⟩ | ⟨g2, cap2, cur2, hv2, _⟩
  · injection h0
  · injection hv2 with e1 _ _
    cases e1

set_option maxHeartbeats 2000000 in
theorem drawPK (ao : Option Addr) (b off cap : Nat) (cs : List Int) (w : World) (hr : Row .u8 w ao b off cs) (hl : cs.length ≤ cap ∧ cap ≤ 9223372036854775807) (hw : ∀ i, i < cs.length → (Lit.int .u8 (cs.getD i 0)).wf = true) :
    Calls Tryz.prog 19 #[.slice ao cs.length cap] w (PplK w) := by
  have HO := Lib.hid (open_any ao b off cap cs w hr hl.1 hw hl.2)
  clear hr hw
  go_enter Tryz.func19, Tryz.ntmps19
  go_wp2_with fail
  refine (HO.out).mono ?_
  rintro e w1 ⟨rfl, hb1, hrd1, hs1⟩
  have HB1 := Lib.hid hb1
  have HR1 := Lib.hid hrd1
  have HS1 := Lib.hid hs1
  clear hb1 hrd1 hs1
  go_wp2_with fail
  refine (peopleD w.heap.size 8 0 w1 HR1.out (by omega) (by omega) (by omega)).mono ?_
  rintro e w2 ⟨a2, b2, c2, L, rfl, hp, h1, h2, h3, h7, q, hrd2, hq2, how⟩
  have H7 := Lib.hid (HB1.out.trans (h7.toBelow (Nat.le_refl _) (by rw [HS1.out]; omega)))
  have HRD := Lib.hid hrd2
  have HN := Lib.hid (own_nil how)
  have hlt2 := hrd2.lt
  have HOW := Lib.hid how
  have HRB := Lib.hid (show w.heap.size < w1.heap.size by rw [HS1.out]; omega)
  have WAY := Lib.hid (fun (W : World) (hb : Below w.heap.size w W) (ho : OwnPpl W w1.heap.size (.slice a2 L.length c2) L) (k : Int) => (show PplK w (.returned (.tuple #[.slice a2 L.length c2, .int .i64 k])) W from by
    obtain ⟨a3, b3, c3, hv3, -, -, -, kp⟩ := ho.ppl
    injection hv3 with e1 e2 e3
    subst e1 e3
    exact ⟨_, b3, _, L, k, rfl, kp, h1, h2, h3, HN.out, hb⟩))
  clear hp h7 hrd2 how
  by_cases hz : L.length = 0
  · obtain rfl : L = [] := List.eq_nil_of_length_eq_zero hz
    clear hz
    obtain ⟨z, ⟨hz0, hz1⟩, hpk⟩ := pick_ag w.heap.size 2 q w2 HRD.out (by omega) (by omega)
    have HPK := Lib.hid hpk
    have hz01 : z = 0 ∨ z = 1 := by omega
    have HAG := Lib.hid (show Ag w.heap.size w2 (w2.alloc (.cells #[.int .i64 (-1), .int .i64 0] 3)).drew from fun k hk => Below.heap_alloc _ _ _ (by omega))
    have hsr : w2.heap.size ≠ w.heap.size := by omega
    have hws : w.heap.size ≤ w2.heap.size := by omega
    clear hpk hz0 hz1
    rcases hz01 with rfl | rfl
    all_goals
      go_wp2_with fail
      go_region_with (go_at_call 38; (first | refine (HPK.out w2.drew (fun _ _ => rfl)).mono ?_ | refine (HPK.out (w2.alloc (.cells #[.int .i64 (-1), .int .i64 0] 3)).drew HAG.out).mono ?_); rintro e w' ⟨rfl, hrd', ho'⟩; have HOX := Lib.hid ho'; have hbc := fun b o (hb : b ≠ w.heap.size) => Only.cell (b := b) (o := o) ho' hb; clear hrd' ho')
      all_goals
        go_wp2_with fail
        go_ret2
        first
          | exact WAY.out _ ((H7.out.drew.trans (HOX.out.below2 (Nat.le_refl _))).alloc (by have h1 := HOX.out.2.2.2.1; have h2 : w2.drew.heap.size = w2.heap.size := rfl; omega) _) (World.ownsRow.alloc (own_only (show OwnPpl w2.drew _ _ _ from HOW.out) HOX.out HRB.out) _) _
          | exact WAY.out _ ((H7.out.alloc hws _).drew.trans (HOX.out.below2 (Nat.le_refl _))) (own_only (World.ownsRow.drew (World.ownsRow.alloc HOW.out _)) HOX.out HRB.out) _
  · have hz2 : ((L.length : Int) == 0) = false := by simp [hz]
    have hpos : 0 < L.length := by omega
    clear hz
    go_wp2_with fail
    refine (pick_any w.heap.size 16 q w2 HRD.out (by omega) (by omega)).mono ?_
    rintro e w3 ⟨x, rfl, hx0, hx1, hrd3, ho3⟩
    have HB3 := Lib.hid (H7.out.trans (ho3.below2 (Nat.le_refl _)))
    have HR3 := Lib.hid hrd3
    have hlt3 := hrd3.lt
    have HO3 := Lib.hid (show OwnPpl w3 w1.heap.size (.slice a2 L.length c2) L from own_only HOW.out ho3 HRB.out)
    clear hrd3 ho3 hx1
    by_cases hx : x = 0
    · subst hx
      obtain ⟨z, ⟨hz0, hz1⟩, hpk⟩ := pick_ag w.heap.size 2 (q + 1) w3 HR3.out (by omega) (by omega)
      have HPK := Lib.hid hpk
      have hz01 : z = 0 ∨ z = 1 := by omega
      have HAG := Lib.hid (show Ag w.heap.size w3 (w3.alloc (.cells #[.int .i64 (-1), .int .i64 (L.length : Int)] 3)).drew from fun k hk => Below.heap_alloc _ _ _ (by omega))
      have hsr : w3.heap.size ≠ w.heap.size := by omega
      have hws : w.heap.size ≤ w3.heap.size := by omega
      clear hpk hz0 hz1
      rcases hz01 with rfl | rfl
      all_goals
        go_wp2_with fail
        go_region_with (go_at_call 38; (first | refine (HPK.out w3.drew (fun _ _ => rfl)).mono ?_ | refine (HPK.out (w3.alloc (.cells #[.int .i64 (-1), .int .i64 (L.length : Int)] 3)).drew HAG.out).mono ?_); rintro e w' ⟨rfl, hrd', ho'⟩; have HOX := Lib.hid ho'; have hbc := fun b o (hb : b ≠ w.heap.size) => Only.cell (b := b) (o := o) ho' hb; clear hrd' ho')
        all_goals
          go_wp2_with fail
          go_ret2
          first
            | exact WAY.out _ ((HB3.out.drew.trans (HOX.out.below2 (Nat.le_refl _))).alloc (by have h1 := HOX.out.2.2.2.1; have h2 : w3.drew.heap.size = w3.heap.size := rfl; omega) _) (World.ownsRow.alloc (own_only (show OwnPpl w3.drew _ _ _ from HO3.out) HOX.out HRB.out) _) _
            | exact WAY.out _ ((HB3.out.alloc hws _).drew.trans (HOX.out.below2 (Nat.le_refl _))) (own_only (World.ownsRow.drew (World.ownsRow.alloc HO3.out _)) HOX.out HRB.out) _
    · have hx2 : (x == 0) = false := by simpa using hx
      clear hx
      go_wp2_with fail
      refine (pick_any w.heap.size L.length (q + 1) w3 HR3.out (by omega) (by omega)).mono ?_
      rintro e w4 ⟨y, rfl, hy0, hy1, hrd4, ho4⟩
      have HB4 := Lib.hid (HB3.out.trans (ho4.below2 (Nat.le_refl _)))
      have HO4 := Lib.hid (show OwnPpl w4 w1.heap.size (.slice a2 L.length c2) L from own_only HO3.out ho4 HRB.out)
      clear hrd4 ho4 hy1
      go_wp2_with fail
      go_ret2
      exact WAY.out _ HB4.out HO4.out _
end Go.Proofs.YtcjhenfofekofaaGreatDoor
