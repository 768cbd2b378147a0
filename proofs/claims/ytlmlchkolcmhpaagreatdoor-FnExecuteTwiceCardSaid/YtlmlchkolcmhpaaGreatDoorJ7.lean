/-
  Joined: GroupS, Entry, KeyP, CellsN, DrawTF, DrawX, DrawY, MoreM, CompI.
-/
import Derived.Test.YtlmlchkolcmhpaaGreatDoorJ6
import Derived.Test.YtlmlchkolcmhpaaGreatDoorJ3
import Derived.Test.YtlmlchkolcmhpaaGreatDoorJ1
import Derived.Test.YtlmlchkolcmhpaaGreatDoorJ4
import Derived.IntWalk
import Derived.Carry
import Derived.OrdersHeld
import Derived.Deep.RegionHeld
import Derived.Maps.OwnSet
import Derived.Maps.OwnOps
import Derived.WideKeyEntry
import Derived.DeepKeys4
import Derived.Test.YtlmlchkolcmhpaaGreatDoorJ2

section
/-
  Contracts: spec.l2Code, l3Recode, LadderValid, RecodeValid, l3Ok, RecodePeople, l3Same, l3Size, GroupLeast, GroupMany, GroupUniques, without a ladder.
-/
namespace Go.Proofs.YtlmlchkolcmhpaaGreatDoor
open Go.RowKit

set_option maxHeartbeats 1000000 in
theorem l2CodeS (a : Option Addr) (c : Nat) (x : Int) (w : World) : Calls Tryz.prog 177 #[.slice a 0 c, .int .i64 0, .int .i64 x] w fun e w' => e = .returned (.int .i64 x) ∧ w = w' := by
  go_enter Tryz.func177, Tryz.ntmps177
  go_wp2_with fail
  go_ret
  exact ⟨rfl, rfl⟩

set_option maxHeartbeats 1000000 in
theorem ladderS (a : Option Addr) (c : Nat) (w : World) : Calls Tryz.prog 184 #[.slice a 0 c] w fun e w' => e = .returned (.bool true) ∧ w = w' := by
  go_enter Tryz.func184, Tryz.ntmps184
  go_wp2_with fail
  go_loop [3] (fun i => i = .int .i64 0) (fun _ => 0)
  case atStart => rfl
  case round =>
    subst hrel
    go_wp2_with fail
    go_ret
    exact ⟨rfl, rfl⟩

set_option maxHeartbeats 1000000 in
theorem recValidS (a : Option Addr) (c : Nat) (w : World) : Calls Tryz.prog 176 #[.slice a 0 c, .agg #[.int .i64 0, .int .i64 0, .int .i64 0]] w fun e w' => e = .returned (.bool true) ∧ Below w.heap.size w w' := by
  go_enter Tryz.func176, Tryz.ntmps176
  go_wp2_with fail
  refine (ladderS a c _).mono ?_
  rintro e w' ⟨rfl, rfl⟩
  go_wp2_with fail
  refine (in_yes _ _ _ _ (by decide) (by decide)).mono ?_
  rintro e w' ⟨rfl, rfl⟩
  go_wp2_with fail
  refine (in_yes _ _ _ _ (by decide) (by decide)).mono ?_
  rintro e w' ⟨rfl, rfl⟩
  go_wp2_with fail
  refine (in_yes _ _ _ _ (by decide) (by decide)).mono ?_
  rintro e w' ⟨rfl, rfl⟩
  go_wp2_with fail
  go_ret
  exact ⟨rfl, (Below.refl _ _).alloc (Nat.le_refl _) _⟩

set_option maxHeartbeats 2000000 in
theorem recodeOneS (p : Per) (la : Option Addr) (lc : Nat) (w : World) : Calls Tryz.prog 162 #[.agg #[.int .i64 p.area, .int .i64 p.job, .int .i64 p.sex, .int .i64 p.pay], .slice la 0 lc, .agg #[.int .i64 0, .int .i64 0, .int .i64 0]] w fun e w' => e = .returned (.agg #[.int .i64 p.area, .int .i64 p.job, .int .i64 p.sex, .int .i64 p.pay]) ∧ Below w.heap.size w w' := by
  go_enter Tryz.func162, Tryz.ntmps162
  go_wp2_with fail
  refine (l2CodeS la lc p.area _).mono ?_
  rintro e w' ⟨rfl, rfl⟩
  go_wp2_with fail
  exact bodyPost_ret (v := .agg #[.int .i64 p.area, .int .i64 p.job, .int .i64 p.sex, .int .i64 p.pay]) (by simp [results, Tryz.results162, go_sem]) rfl ⟨rfl, ((((Below.refl _ _).alloc (Nat.le_refl _) _).alloc (by simp) _).alloc (by simp; omega) _).alloc (by simp; omega) _⟩

set_option maxHeartbeats 1000000 in
theorem l3OkS (ao : Option Addr) (b cap : Nat) (L : List Per) (la : Option Addr) (lc : Nat) (w : World) (hr : Ppl w ao b 0 L) (hv : pplB L = true) :
    Calls Tryz.prog 161 #[.slice ao L.length cap, .slice la 0 lc, .agg #[.int .i64 0, .int .i64 0, .int .i64 0]] w fun e w' => e = .returned (.bool true) ∧ Below w.heap.size w w' := by
  have h40 := (ppl_t.1 hv).1
  have HV := Lib.hid hv
  have hal := (Below.refl w.heap.size w).alloc (Nat.le_refl _) (.cells #[.int .i64 0, .int .i64 0, .int .i64 0] 81)
  have HC := Lib.hid (fun (W : World) (hb : Below w.heap.size w W) => peopleS ao b 0 cap L W (hr.keep hb (Nat.le_refl _)) (by omega))
  clear hr hv
  go_enter Tryz.func161, Tryz.ntmps161
  go_wp2_with fail
  obtain ⟨W1, hW1⟩ : ∃ W1, w.alloc (.cells #[.int .i64 0, .int .i64 0, .int .i64 0] 81) = W1 := ⟨_, rfl⟩
  have r0 : W1.cell? ⟨w.heap.size, 0, none⟩ = some (.int .i64 0) := by rw [← hW1, World.cell?_alloc_new]; rfl
  have r1 : W1.cell? ⟨w.heap.size, 1, none⟩ = some (.int .i64 0) := by rw [← hW1, World.cell?_alloc_new]; rfl
  have r2 : W1.cell? ⟨w.heap.size, 2, none⟩ = some (.int .i64 0) := by rw [← hW1, World.cell?_alloc_new]; rfl
  have hs1 : w.heap.size < W1.heap.size := by rw [← hW1]; simp
  rw [hW1] at hal ⊢
  have HAL := Lib.hid hal
  clear hW1 hal
  refine (HC.out W1 HAL.out).mono ?_
  rintro e w2 ⟨rfl, hb2⟩
  rw [HV.out]
  have q0 := (hb2.cell (p := ⟨w.heap.size, 0, none⟩) hs1).trans r0
  have q1 := (hb2.cell (p := ⟨w.heap.size, 1, none⟩) hs1).trans r1
  have q2 := (hb2.cell (p := ⟨w.heap.size, 2, none⟩) hs1).trans r2
  have HB2 := Lib.hid (HAL.out.trans (hb2.mono HAL.out.size))
  clear hb2 r0 r1 r2 HC
  go_wp2_with fail
  refine (recValidS la lc _).mono ?_
  rintro e w3 ⟨rfl, hb3⟩
  have HB3 := Lib.hid (HB2.out.trans (hb3.mono HB2.out.size))
  clear hb3 q0 q1 q2
  go_wp2_with fail
  go_ret
  exact ⟨rfl, HB3.out⟩

/-- What the loop of RecodePeople keeps. -/
def RecS (w : World) (L : List Per) (k : Nat) (v : Value) (wr : World) : Prop :=
  OwnPpl wr (w.heap.size + 1) v (L.take k) ∧ Below w.heap.size w wr ∧ w.heap.size + 1 ≤ wr.heap.size ∧ wr.cell? ⟨w.heap.size, 0, none⟩ = some (.int .i64 0) ∧ wr.cell? ⟨w.heap.size, 1, none⟩ = some (.int .i64 0) ∧ wr.cell? ⟨w.heap.size, 2, none⟩ = some (.int .i64 0)
theorem per_take1 {L : List Per} {k : Nat} (h : k < L.length) : L.take (k + 1) = L.take k ++ [L.getD k per0] := by
  rw [List.take_add_one, List.getD_eq_getElem?_getD, List.getElem?_eq_getElem h]
  rfl

set_option maxRecDepth 100000 in
set_option maxHeartbeats 4000000 in
theorem recodeS (ao : Option Addr) (b cap : Nat) (L : List Per) (la : Option Addr) (lc : Nat) (w : World) (hr : Ppl w ao b 0 L) (hv : pplB L = true) :
    Calls Tryz.prog 136 #[.slice ao L.length cap, .slice la 0 lc, .agg #[.int .i64 0, .int .i64 0, .int .i64 0]] w fun e w' => ∃ v, e = .returned (.tuple #[v, .bool true]) ∧ OwnPpl w' w.heap.size v L ∧ Below w.heap.size w w' := by
  have h40 := (ppl_t.1 hv).1
  have HV := Lib.hid hv
  have HR := Lib.hid hr
  have HC := Lib.hid (fun (W : World) (hb : Below w.heap.size w W) => l3OkS ao b cap L la lc W (hr.keep hb (Nat.le_refl _)) hv)
  have hal := (Below.refl w.heap.size w).alloc (Nat.le_refl _) (.cells #[.int .i64 0, .int .i64 0, .int .i64 0] 81)
  have hal2 := hal.alloc hal.size (.cells #[] 69)
  clear hr hv
  go_enter Tryz.func136, Tryz.ntmps136
  go_wp2_with fail
  have hz1 : (w.alloc (.cells #[.int .i64 0, .int .i64 0, .int .i64 0] 81)).heap.size = w.heap.size + 1 := World.size_alloc _ _
  have ho : OwnPpl ((w.alloc (.cells #[.int .i64 0, .int .i64 0, .int .i64 0] 81)).alloc (.cells #[] 69)) (w.heap.size + 1) (.slice (some ⟨w.heap.size + 1, 0, none⟩) 0 0) [] := by
    have := World.ownsRow_lit (base := w.heap.size + 1) (e := 69) (size := 4) (w.alloc (.cells #[.int .i64 0, .int .i64 0, .int .i64 0] 81)) #[] 0 (by rw [hz1]; exact Nat.le_refl _) (by unfold maxLen; omega) (by simp)
    rw [hz1] at this
    show OwnPpl _ _ _ _
    simpa [OwnPpl, pc] using this
  obtain ⟨W1, hW1⟩ : ∃ W1, (w.alloc (.cells #[.int .i64 0, .int .i64 0, .int .i64 0] 81)).alloc (.cells #[] 69) = W1 := ⟨_, rfl⟩
  have key : ∀ i v, (w.alloc (.cells #[.int .i64 0, .int .i64 0, .int .i64 0] 81)).cell? ⟨w.heap.size, i, none⟩ = some v → W1.cell? ⟨w.heap.size, i, none⟩ = some v := fun i v h => by
    rw [← hW1]
    exact ((Below.refl (w.alloc (.cells #[.int .i64 0, .int .i64 0, .int .i64 0] 81)).heap.size _).alloc (Nat.le_refl _) _).cell (p := ⟨w.heap.size, i, none⟩) (by show w.heap.size < _; rw [hz1]; omega) |>.trans h
  have r0 := key 0 _ (by rw [World.cell?_alloc_new]; rfl)
  have r1 := key 1 _ (by rw [World.cell?_alloc_new]; rfl)
  have r2 := key 2 _ (by rw [World.cell?_alloc_new]; rfl)
  have hs1 : w.heap.size + 1 ≤ W1.heap.size := by rw [← hW1]; simp
  rw [hW1] at hal2 ho ⊢
  have HAL := Lib.hid hal2
  have HO := Lib.hid ho
  clear hW1 hal hal2 key hz1 ho
  refine (HC.out W1 HAL.out).mono ?_
  rintro e w2 ⟨rfl, hb2⟩
  have HI := Lib.hid (show RecS w L 0 (.slice (some ⟨w.heap.size + 1, 0, none⟩) 0 0) w2 from ⟨orow_below HO.out hb2, HAL.out.trans (hb2.mono HAL.out.size), Nat.le_trans hs1 hb2.size, (hb2.cell (p := ⟨w.heap.size, 0, none⟩) hs1).trans r0, (hb2.cell (p := ⟨w.heap.size, 1, none⟩) hs1).trans r1, (hb2.cell (p := ⟨w.heap.size, 2, none⟩) hs1).trans r2⟩)
  clear hb2 r0 r1 r2 HC HO hs1
  go_wp2_with fail
  go_loopw [8, 9] (fun v i wr => ∃ k : Nat, k ≤ L.length ∧ i = .int .i64 k ∧ RecS w L k v wr) (fun _ i _ => L.length - (intOf i).toNat)
  case atStart => exact ⟨0, Nat.zero_le _, rfl, HI.out⟩
  case round =>
    obtain ⟨k, hk, rfl, hown, hb, hsw, r0, r1, r2⟩ := hrel
    have HB := Lib.hid hb
    by_cases hlt : k < L.length
    · have h2 := (HR.out.keep HB.out (Nat.le_refl _)).2 k hlt
      obtain rfl := HR.out.1 (by omega)
      have HT := Lib.hid (per_take1 hlt)
      obtain ⟨p, hp⟩ : ∃ p, L.getD k per0 = p := ⟨_, rfl⟩
      rw [hp] at h2 HT
      obtain ⟨c0, c1, c2, c3⟩ := h2
      simp only [Nat.zero_add] at c0 c1 c2 c3
      obtain ⟨M, hM⟩ : ∃ M, L.take k = M := ⟨_, rfl⟩
      have hml : M.length ≤ 40 := by rw [← hM, List.length_take]; omega
      rw [hM] at hown HT
      obtain ⟨aM, bM, cM, hvM, -, -, -, -⟩ := hown.ppl
      subst hvM
      have HO := Lib.hid hown
      have HREC := Lib.hid (fun W => recodeOneS p la lc W)
      have HPB := Lib.hid (show b < w.heap.size from World.block_lt_of_cell? _ _ (HR.out.2 k hlt).1)
      have hpb : b < wr.heap.size := World.block_lt_of_cell? _ _ c0
      have hrb : w.heap.size < wr.heap.size := hsw
      clear hown hb hp hM
      go_wp2_with fail
      have KS := Lib.hid (fun (W' : World) (hW : Below wr.heap.size wr W') => (show W'.cell? ⟨b, k * 4, none⟩ = some (.int .i64 p.area) ∧ W'.cell? ⟨b, k * 4 + 1, none⟩ = some (.int .i64 p.job) ∧ W'.cell? ⟨b, k * 4 + 2, none⟩ = some (.int .i64 p.sex) ∧ W'.cell? ⟨b, k * 4 + 3, none⟩ = some (.int .i64 p.pay) ∧ W'.cell? ⟨w.heap.size, 0, none⟩ = some (.int .i64 0) ∧ W'.cell? ⟨w.heap.size, 1, none⟩ = some (.int .i64 0) ∧ W'.cell? ⟨w.heap.size, 2, none⟩ = some (.int .i64 0) from ⟨(hW.cell (p := ⟨b, k * 4, none⟩) (hpb)).trans c0, (hW.cell (p := ⟨b, k * 4 + 1, none⟩) (hpb)).trans c1, (hW.cell (p := ⟨b, k * 4 + 2, none⟩) (hpb)).trans c2, (hW.cell (p := ⟨b, k * 4 + 3, none⟩) (hpb)).trans c3, (hW.cell (p := ⟨w.heap.size, 0, none⟩) (hrb)).trans r0, (hW.cell (p := ⟨w.heap.size, 1, none⟩) (hrb)).trans r1, (hW.cell (p := ⟨w.heap.size, 2, none⟩) (hrb)).trans r2⟩))
      refine wp_region_held (S := (fun V => V.cell? ⟨b, k * 4, none⟩ = some (.int .i64 p.area) ∧ V.cell? ⟨b, k * 4 + 1, none⟩ = some (.int .i64 p.job) ∧ V.cell? ⟨b, k * 4 + 2, none⟩ = some (.int .i64 p.sex) ∧ V.cell? ⟨b, k * 4 + 3, none⟩ = some (.int .i64 p.pay) ∧ V.cell? ⟨w.heap.size, 0, none⟩ = some (.int .i64 0) ∧ V.cell? ⟨w.heap.size, 1, none⟩ = some (.int .i64 0) ∧ V.cell? ⟨w.heap.size, 2, none⟩ = some (.int .i64 0))) (by kernel_rfl) ?_
      change wpAnyH _ _ _ _ _ _ _ _ wr.drew
      have hS0 : wr.drew.cell? ⟨b, k * 4, none⟩ = some (.int .i64 p.area) ∧ wr.drew.cell? ⟨b, k * 4 + 1, none⟩ = some (.int .i64 p.job) ∧ wr.drew.cell? ⟨b, k * 4 + 2, none⟩ = some (.int .i64 p.sex) ∧ wr.drew.cell? ⟨b, k * 4 + 3, none⟩ = some (.int .i64 p.pay) ∧ wr.drew.cell? ⟨w.heap.size, 0, none⟩ = some (.int .i64 0) ∧ wr.drew.cell? ⟨w.heap.size, 1, none⟩ = some (.int .i64 0) ∧ wr.drew.cell? ⟨w.heap.size, 2, none⟩ = some (.int .i64 0) := ⟨c0, c1, c2, c3, r0, r1, r2⟩
      have hd := (Below.refl wr.heap.size wr).drew
      obtain ⟨Wd, hWd⟩ : ∃ Wd, wr.drew = Wd := ⟨_, rfl⟩
      rw [hWd] at hS0 hd ⊢
      have HD := Lib.hid hd
      clear hWd hd
      refine wpAnyH_take (i := 0) (v := .slice aM M.length cM) rfl (by kernel_rfl) (by kernel_rfl) (by kernel_rfl) (fun _ _ _ h => h) (Or.inl ⟨by kernel_rfl, fun V hV => ?_⟩) hS0 ?_
      · obtain ⟨q0, q1, q2, q3, q4, q5, q6⟩ := hV
        go_simp
      simp only [Act.put, List.setIfInBounds_toArray]
      refine wpAnyH_take (i := 1) (v := .slice (some ⟨b, 0, none⟩) L.length cap) rfl (by kernel_rfl) (by kernel_rfl) (by kernel_rfl) (fun _ _ _ h => h) (Or.inl ⟨by kernel_rfl, fun V hV => ?_⟩) hS0 ?_
      · obtain ⟨q0, q1, q2, q3, q4, q5, q6⟩ := hV
        go_simp
      simp only [Act.put]
      refine wpAnyH_take (i := 2) (v := .int .i64 (k : Int)) rfl (by kernel_rfl) (by kernel_rfl) (by kernel_rfl) (fun _ _ _ h => h) (Or.inl ⟨by kernel_rfl, fun V hV => ?_⟩) hS0 ?_
      · obtain ⟨q0, q1, q2, q3, q4, q5, q6⟩ := hV
        go_simp
      simp only [Act.put]
      refine wpAnyH_take (i := 3) (v := .pointer (some ⟨b, k * 4, none⟩)) rfl (by kernel_rfl) (by kernel_rfl) (by kernel_rfl) (fun _ _ _ h => h) (Or.inl ⟨by kernel_rfl, fun V hV => ?_⟩) hS0 ?_
      · obtain ⟨q0, q1, q2, q3, q4, q5, q6⟩ := hV
        go_simp
      simp only [Act.put]
      refine wpAnyH_take (i := 4) (v := .agg #[.int .i64 p.area, .int .i64 p.job, .int .i64 p.sex, .int .i64 p.pay]) rfl (by kernel_rfl) (by kernel_rfl) (by kernel_rfl) (fun _ _ _ h => h) (Or.inl ⟨by kernel_rfl, fun V hV => ?_⟩) hS0 ?_
      · obtain ⟨q0, q1, q2, q3, q4, q5, q6⟩ := hV
        go_simp
      simp only [Act.put]
      refine wpAnyH_take (i := 5) (v := .slice la 0 lc) rfl (by kernel_rfl) (by kernel_rfl) (by kernel_rfl) (fun _ _ _ h => h) (Or.inl ⟨by kernel_rfl, fun V hV => ?_⟩) hS0 ?_
      · obtain ⟨q0, q1, q2, q3, q4, q5, q6⟩ := hV
        go_simp
      simp only [Act.put]
      refine wpAnyH_take (i := 6) (v := .agg #[.int .i64 0, .int .i64 0, .int .i64 0]) rfl (by kernel_rfl) (by kernel_rfl) (by kernel_rfl) (fun _ _ _ h => h) (Or.inl ⟨by kernel_rfl, fun V hV => ?_⟩) hS0 ?_
      · obtain ⟨q0, q1, q2, q3, q4, q5, q6⟩ := hV
        go_simp
      simp only [Act.put]
      refine wpAnyH_ready (rs := [7]) (by kernel_rfl) (by simp) ?_
      refine AllReadyH.cons rfl (fun K hK => ?_) AllReadyH.nil
      go_simp
      refine (HREC.out Wd).mono ?_
      rintro e w4 ⟨rfl, hb4⟩
      have hok4 := HD.out.trans (hb4.mono HD.out.size)
      refine hK.out _ _ (KS.out _ (hok4)) (fun _ => ?_)
      try simp only [Act.put, List.setIfInBounds_toArray, List.set_cons_zero, List.set_cons_succ]
      clear hK K
      refine wpAnyH_ready (rs := [8]) (by kernel_rfl) (by simp) ?_
      refine AllReadyH.cons rfl (fun K hK => ?_) AllReadyH.nil
      go_simp
      have hok5 := hok4.alloc hok4.size (.cells #[.int .i64 p.area, .int .i64 p.job, .int .i64 p.sex, .int .i64 p.pay] 69)
      refine hK.out _ _ (KS.out _ (hok5)) (fun _ => ?_)
      try simp only [Act.put, List.setIfInBounds_toArray, List.set_cons_zero, List.set_cons_succ]
      clear hK K
      refine wpAnyH_ready (rs := [9]) (by kernel_rfl) (by simp) ?_
      refine AllReadyH.cons rfl (fun K hK => ?_) AllReadyH.nil
      rw [if_pos (by rfl)]
      refine wp_app eltP (.tmp 23) (.tmp 31) rfl (w.heap.size + 1) _ _ _ rfl (orow_below HO.out hok4) [.int .i64 p.area, .int .i64 p.job, .int .i64 p.sex, .int .i64 p.pay] rfl (by intro u hu; simp at hu; rcases hu with rfl | rfl | rfl | rfl <;> rfl) rfl rfl (by omega) (Nat.le_trans hsw hok4.size) ?_
      intro v' w6 ho6 hb6 _
      have hok6 := (hok4.mono hsw).trans hb6
      have hS6 := (show w6.cell? ⟨w.heap.size, 0, none⟩ = some (.int .i64 0) ∧ w6.cell? ⟨w.heap.size, 1, none⟩ = some (.int .i64 0) ∧ w6.cell? ⟨w.heap.size, 2, none⟩ = some (.int .i64 0) from ⟨(hb6.cell (p := ⟨w.heap.size, 0, none⟩) (Nat.lt_succ_self _)).trans (KS.out _ hok4).2.2.2.2.1, (hb6.cell (p := ⟨w.heap.size, 1, none⟩) (Nat.lt_succ_self _)).trans (KS.out _ hok4).2.2.2.2.2.1, (hb6.cell (p := ⟨w.heap.size, 2, none⟩) (Nat.lt_succ_self _)).trans (KS.out _ hok4).2.2.2.2.2.2⟩)
      have hbw := HB.out.size
      have hpw : b < w.heap.size := HPB.out
      have hS7 := (show w6.cell? ⟨b, k * 4, none⟩ = some (.int .i64 p.area) ∧ w6.cell? ⟨b, k * 4 + 1, none⟩ = some (.int .i64 p.job) ∧ w6.cell? ⟨b, k * 4 + 2, none⟩ = some (.int .i64 p.sex) ∧ w6.cell? ⟨b, k * 4 + 3, none⟩ = some (.int .i64 p.pay) ∧ w6.cell? ⟨w.heap.size, 0, none⟩ = some (.int .i64 0) ∧ w6.cell? ⟨w.heap.size, 1, none⟩ = some (.int .i64 0) ∧ w6.cell? ⟨w.heap.size, 2, none⟩ = some (.int .i64 0) from ⟨(hok6.cell (p := ⟨b, k * 4, none⟩) (by show b < _; omega)).trans c0, (hok6.cell (p := ⟨b, k * 4 + 1, none⟩) (by show b < _; omega)).trans c1, (hok6.cell (p := ⟨b, k * 4 + 2, none⟩) (by show b < _; omega)).trans c2, (hok6.cell (p := ⟨b, k * 4 + 3, none⟩) (by show b < _; omega)).trans c3, hS6⟩)
      refine hK.out _ _ hS7 (fun _ => ?_)
      try simp only [Act.put, List.setIfInBounds_toArray]
      clear hK K
      have HO6 := Lib.hid (show OwnPpl w6 (w.heap.size + 1) v' (L.take (k + 1)) by
        rw [HT.out]
        exact ownp_snoc ho6)
      have HNW := Lib.hid (show RecS w L (k + 1) v' w6 from ⟨HO6.out, HB.out.trans (hok6.mono (Nat.le_succ _)), Nat.le_trans hsw hok6.size, hS6⟩)
      clear ho6 hok4 hok5 hok6 hb4 hb6 hS6
      refine wpAnyH_take (i := 10) (oi := ⟨some 8, _, _, _, _, _⟩) (v := v') rfl (by kernel_rfl) (by kernel_rfl) (by kernel_rfl) (fun _ _ _ h => h) (Or.inl ⟨by kernel_rfl, fun V hV => ?_⟩) hS7 ?_
      · obtain ⟨q0, q1, q2, q3, q4, q5, q6⟩ := hV
        go_simp
      simp only [Act.put]
      refine wpAnyH_done (by kernel_rfl) ?_ _
      clear hS7 hS0 c0 c1 c2 c3 r0 r1 r2
      go_wp2_with fail
      go_roundw
      case rel => exact ⟨k + 1, by omega, by go_num, HNW.out⟩
      case measure => simp [intOf]; omega
    · obtain rfl : k = L.length := by omega
      rw [List.take_length] at hown
      have HO := Lib.hid (own_mono hown (Nat.le_succ _))
      obtain ⟨aM, bM, cM, hvM, -, -, -, -⟩ := hown.ppl
      subst hvM
      clear hown hb r0 r1 r2
      go_wp2_with fail
      go_ret2
      exact ⟨_, rfl, HO.out, HB.out⟩

theorem eq_bool (x y : Int) : ((x == y) = true ∧ x = y) ∨ ((x == y) = false ∧ x ≠ y) := by
  by_cases h : x = y
  · exact .inl ⟨by simp [h], h⟩
  · exact .inr ⟨by simp [h], h⟩
set_option maxHeartbeats 2000000 in
theorem sameS (p q : Per) (w : World) : Calls Tryz.prog 163 #[.agg #[.int .i64 p.area, .int .i64 p.job, .int .i64 p.sex, .int .i64 p.pay], .agg #[.int .i64 q.area, .int .i64 q.job, .int .i64 q.sex, .int .i64 q.pay]] w fun e w' => e = .returned (.bool (sameG p q)) ∧ Below w.heap.size w w' := by
  have HB : Hid (∀ (x y : Obj), Below w.heap.size w ((w.alloc x).alloc y)) := Lib.hid fun x y => ((Below.refl _ _).alloc (Nat.le_refl _) _).alloc (by simp) _
  rcases eq_bool p.area q.area with ⟨A1, A2⟩ | ⟨A1, A2⟩
  · rcases eq_bool p.job q.job with ⟨B1, B2⟩ | ⟨B1, B2⟩
    · rcases eq_bool p.sex q.sex with ⟨C1, C2⟩ | ⟨C1, C2⟩
      · have HE := Lib.hid (show sameG p q = true from decide_eq_true ⟨A2, B2, C2⟩)
        clear A2 B2 C2
        go_enter Tryz.func163, Tryz.ntmps163
        go_wp2_with fail
        go_ret
        exact ⟨by rw [HE.out]; rfl, HB.out _ _⟩
      · have HE := Lib.hid (show sameG p q = false from decide_eq_false fun h => C2 h.2.2)
        clear A2 B2 C2
        go_enter Tryz.func163, Tryz.ntmps163
        go_wp2_with fail
        go_ret
        exact ⟨by rw [HE.out]; rfl, HB.out _ _⟩
    · have HE := Lib.hid (show sameG p q = false from decide_eq_false fun h => B2 h.2.1)
      clear A2 B2
      go_enter Tryz.func163, Tryz.ntmps163
      go_wp2_with fail
      go_ret
      exact ⟨by rw [HE.out]; rfl, HB.out _ _⟩
  · have HE := Lib.hid (show sameG p q = false from decide_eq_false fun h => A2 h.1)
    clear A2
    go_enter Tryz.func163, Tryz.ntmps163
    go_wp2_with fail
    go_ret
    exact ⟨by rw [HE.out]; rfl, HB.out _ _⟩

theorem count_take {L : List Per} {i : Nat} (h : i < L.length) (p : Per) : sizeG (L.take (i + 1)) p = sizeG (L.take i) p + if sameG (L.getD i per0) p then 1 else 0 := by
  rw [per_take1 h, sizeG_snoc, sameG_comm]

set_option maxRecDepth 100000 in
set_option maxHeartbeats 4000000 in
theorem sizeS (ao : Option Addr) (b cap : Nat) (L : List Per) (k : Nat) (w : World) (hr : Ppl w ao b 0 L) (hk : k < L.length) (h40 : L.length ≤ 40) :
    Calls Tryz.prog 137 #[.slice ao L.length cap, .int .i64 (k : Int)] w fun e w' => e = .returned (.int .i64 (sizeG L (L.getD k per0) : Int)) ∧ Below w.heap.size w w' := by
  obtain rfl := hr.1 (by omega)
  have HR := Lib.hid hr
  have HKP := Lib.hid (hr.2 k hk)
  have hbw : b < w.heap.size := World.block_lt_of_cell? _ _ (hr.2 k hk).1
  obtain ⟨q, hq⟩ : ∃ q, L.getD k per0 = q := ⟨_, rfl⟩
  rw [hq] at HKP ⊢
  clear hr hq
  go_enter Tryz.func137, Tryz.ntmps137
  go_wp2_with fail
  go_loopw [5, 6] (fun n i wr => ∃ j : Nat, j ≤ L.length ∧ i = .int .i64 j ∧ n = .int .i64 (sizeG (L.take j) q : Int) ∧ Below w.heap.size w wr) (fun _ i _ => L.length - (intOf i).toNat)
  case atStart => exact ⟨0, Nat.zero_le _, rfl, rfl, Below.refl _ _⟩
  case round =>
    obtain ⟨j, hj, rfl, rfl, hb⟩ := hrel
    have HB := Lib.hid hb
    have hsw := hb.size
    by_cases hlt : j < L.length
    · have h2 := (HR.out.keep HB.out (Nat.le_refl _)).2 j hlt
      have HT := Lib.hid (count_take hlt q)
      have hle := sizeG_le (L.take j) q
      have hle2 : sizeG (L.take j) q ≤ 40 := by rw [List.length_take] at hle; omega
      obtain ⟨c, hc⟩ : ∃ c, sizeG (L.take j) q = c := ⟨_, rfl⟩
      obtain ⟨p, hp⟩ : ∃ p, L.getD j per0 = p := ⟨_, rfl⟩
      rw [hp] at h2 HT
      rw [hc] at hle2 ⊢
      have HCC := Lib.hid hc
      obtain ⟨c0, c1, c2, c3⟩ := h2
      obtain ⟨d0, d1, d2, d3⟩ := (HKP.out).keep HB.out hbw
      simp only [Nat.zero_add] at c0 c1 c2 c3 d0 d1 d2 d3
      have hpb : b < wr.heap.size := World.block_lt_of_cell? _ _ c0
      have HSA := Lib.hid (fun W => sameS p q W)
      obtain ⟨z, hz⟩ : ∃ z, sameG p q = z := ⟨_, rfl⟩
      rw [hz] at HSA HT
      have hki : (k : Int) < (L.length : Int) := by omega
      clear hb hp hc hle hz
      go_wp2_with fail
      have KS := Lib.hid (fun (W' : World) (hW : Below wr.heap.size wr W') => (show W'.cell? ⟨b, j * 4, none⟩ = some (.int .i64 p.area) ∧ W'.cell? ⟨b, j * 4 + 1, none⟩ = some (.int .i64 p.job) ∧ W'.cell? ⟨b, j * 4 + 2, none⟩ = some (.int .i64 p.sex) ∧ W'.cell? ⟨b, j * 4 + 3, none⟩ = some (.int .i64 p.pay) ∧ W'.cell? ⟨b, k * 4, none⟩ = some (.int .i64 q.area) ∧ W'.cell? ⟨b, k * 4 + 1, none⟩ = some (.int .i64 q.job) ∧ W'.cell? ⟨b, k * 4 + 2, none⟩ = some (.int .i64 q.sex) ∧ W'.cell? ⟨b, k * 4 + 3, none⟩ = some (.int .i64 q.pay) from ⟨(hW.cell (p := ⟨b, j * 4, none⟩) (hpb)).trans c0, (hW.cell (p := ⟨b, j * 4 + 1, none⟩) (hpb)).trans c1, (hW.cell (p := ⟨b, j * 4 + 2, none⟩) (hpb)).trans c2, (hW.cell (p := ⟨b, j * 4 + 3, none⟩) (hpb)).trans c3, (hW.cell (p := ⟨b, k * 4, none⟩) (hpb)).trans d0, (hW.cell (p := ⟨b, k * 4 + 1, none⟩) (hpb)).trans d1, (hW.cell (p := ⟨b, k * 4 + 2, none⟩) (hpb)).trans d2, (hW.cell (p := ⟨b, k * 4 + 3, none⟩) (hpb)).trans d3⟩))
      refine wp_region_held (S := (fun V => V.cell? ⟨b, j * 4, none⟩ = some (.int .i64 p.area) ∧ V.cell? ⟨b, j * 4 + 1, none⟩ = some (.int .i64 p.job) ∧ V.cell? ⟨b, j * 4 + 2, none⟩ = some (.int .i64 p.sex) ∧ V.cell? ⟨b, j * 4 + 3, none⟩ = some (.int .i64 p.pay) ∧ V.cell? ⟨b, k * 4, none⟩ = some (.int .i64 q.area) ∧ V.cell? ⟨b, k * 4 + 1, none⟩ = some (.int .i64 q.job) ∧ V.cell? ⟨b, k * 4 + 2, none⟩ = some (.int .i64 q.sex) ∧ V.cell? ⟨b, k * 4 + 3, none⟩ = some (.int .i64 q.pay))) (by kernel_rfl) ?_
      change wpAnyH _ _ _ _ _ _ _ _ wr.drew
      have hS0 : wr.drew.cell? ⟨b, j * 4, none⟩ = some (.int .i64 p.area) ∧ wr.drew.cell? ⟨b, j * 4 + 1, none⟩ = some (.int .i64 p.job) ∧ wr.drew.cell? ⟨b, j * 4 + 2, none⟩ = some (.int .i64 p.sex) ∧ wr.drew.cell? ⟨b, j * 4 + 3, none⟩ = some (.int .i64 p.pay) ∧ wr.drew.cell? ⟨b, k * 4, none⟩ = some (.int .i64 q.area) ∧ wr.drew.cell? ⟨b, k * 4 + 1, none⟩ = some (.int .i64 q.job) ∧ wr.drew.cell? ⟨b, k * 4 + 2, none⟩ = some (.int .i64 q.sex) ∧ wr.drew.cell? ⟨b, k * 4 + 3, none⟩ = some (.int .i64 q.pay) := ⟨c0, c1, c2, c3, d0, d1, d2, d3⟩
      have hd := (Below.refl wr.heap.size wr).drew
      obtain ⟨Wd, hWd⟩ : ∃ Wd, wr.drew = Wd := ⟨_, rfl⟩
      rw [hWd] at hS0 hd ⊢
      have HD := Lib.hid hd
      clear hWd hd
      refine wpAnyH_take (i := 0) (v := .slice (some ⟨b, 0, none⟩) L.length cap) rfl (by kernel_rfl) (by kernel_rfl) (by kernel_rfl) (fun _ _ _ h => h) (Or.inl ⟨by kernel_rfl, fun V hV => ?_⟩) hS0 ?_
      · obtain ⟨q0, q1, q2, q3, q4, q5, q6, q7⟩ := hV
        go_simp
      simp only [Act.put, List.setIfInBounds_toArray]
      refine wpAnyH_take (i := 1) (v := .int .i64 (j : Int)) rfl (by kernel_rfl) (by kernel_rfl) (by kernel_rfl) (fun _ _ _ h => h) (Or.inl ⟨by kernel_rfl, fun V hV => ?_⟩) hS0 ?_
      · obtain ⟨q0, q1, q2, q3, q4, q5, q6, q7⟩ := hV
        go_simp
      simp only [Act.put]
      refine wpAnyH_take (i := 2) (v := .pointer (some ⟨b, j * 4, none⟩)) rfl (by kernel_rfl) (by kernel_rfl) (by kernel_rfl) (fun _ _ _ h => h) (Or.inl ⟨by kernel_rfl, fun V hV => ?_⟩) hS0 ?_
      · obtain ⟨q0, q1, q2, q3, q4, q5, q6, q7⟩ := hV
        go_simp
      simp only [Act.put]
      refine wpAnyH_take (i := 3) (v := .agg #[.int .i64 p.area, .int .i64 p.job, .int .i64 p.sex, .int .i64 p.pay]) rfl (by kernel_rfl) (by kernel_rfl) (by kernel_rfl) (fun _ _ _ h => h) (Or.inl ⟨by kernel_rfl, fun V hV => ?_⟩) hS0 ?_
      · obtain ⟨q0, q1, q2, q3, q4, q5, q6, q7⟩ := hV
        go_simp
      simp only [Act.put]
      refine wpAnyH_take (i := 4) (v := .slice (some ⟨b, 0, none⟩) L.length cap) rfl (by kernel_rfl) (by kernel_rfl) (by kernel_rfl) (fun _ _ _ h => h) (Or.inl ⟨by kernel_rfl, fun V hV => ?_⟩) hS0 ?_
      · obtain ⟨q0, q1, q2, q3, q4, q5, q6, q7⟩ := hV
        go_simp
      simp only [Act.put]
      refine wpAnyH_take (i := 5) (v := .int .i64 (k : Int)) rfl (by kernel_rfl) (by kernel_rfl) (by kernel_rfl) (fun _ _ _ h => h) (Or.inl ⟨by kernel_rfl, fun V hV => ?_⟩) hS0 ?_
      · obtain ⟨q0, q1, q2, q3, q4, q5, q6, q7⟩ := hV
        go_simp
      simp only [Act.put]
      refine wpAnyH_take (i := 6) (v := .pointer (some ⟨b, k * 4, none⟩)) rfl (by kernel_rfl) (by kernel_rfl) (by kernel_rfl) (fun _ _ _ h => h) (Or.inl ⟨by kernel_rfl, fun V hV => ?_⟩) hS0 ?_
      · obtain ⟨q0, q1, q2, q3, q4, q5, q6, q7⟩ := hV
        go_simp
      simp only [Act.put]
      refine wpAnyH_take (i := 7) (v := .agg #[.int .i64 q.area, .int .i64 q.job, .int .i64 q.sex, .int .i64 q.pay]) rfl (by kernel_rfl) (by kernel_rfl) (by kernel_rfl) (fun _ _ _ h => h) (Or.inl ⟨by kernel_rfl, fun V hV => ?_⟩) hS0 ?_
      · obtain ⟨q0, q1, q2, q3, q4, q5, q6, q7⟩ := hV
        go_simp
      simp only [Act.put]
      refine wpAnyH_ready (rs := [8]) (by kernel_rfl) (by simp) ?_
      refine AllReadyH.cons rfl (fun K hK => ?_) AllReadyH.nil
      go_simp
      refine (HSA.out Wd).mono ?_
      rintro e w4 ⟨rfl, hb4⟩
      have hok4 := HD.out.trans (hb4.mono HD.out.size)
      refine hK.out _ _ (KS.out _ (hok4)) (fun _ => ?_)
      try simp only [Act.put, List.setIfInBounds_toArray, List.set_cons_zero, List.set_cons_succ]
      clear hK K
      have HB4 := Lib.hid (HB.out.trans (hok4.mono hsw))
      refine wpAnyH_done (by kernel_rfl) ?_ _
      clear hok4 hb4 hS0 c0 c1 c2 c3 d0 d1 d2 d3
      cases z with
      | false =>
        rw [if_neg (by decide)] at HT
        go_wp2_with fail
        go_roundw
        case rel => exact ⟨j + 1, by omega, by go_num, by rw [HT.out, HCC.out]; rfl, HB4.out⟩
        case measure => simp [intOf]; omega
      | true =>
        rw [if_pos rfl] at HT
        go_wp2_with fail
        go_roundw
        case rel => exact ⟨j + 1, by omega, by go_num, by rw [HT.out, HCC.out]; go_num, HB4.out⟩
        case measure => simp [intOf]; omega
    · obtain rfl : j = L.length := by omega
      rw [List.take_length]
      clear hb
      go_wp2_with fail
      go_ret
      exact ⟨rfl, HB.out⟩

/-- The least size among the first k people. -/
def leastT (L : List Per) (k : Nat) : Int := (L.take k).foldl (fun (x : Int) p => min x (sizeG L p)) L.length
theorem leastT_next {L : List Per} {k : Nat} (h : k < L.length) : leastT L (k + 1) = min (leastT L k) (sizeG L (L.getD k per0) : Int) := by
  unfold leastT
  rw [per_take1 h, List.foldl_append]
  rfl
theorem leastT_all (L : List Per) : leastT L L.length = leastG L := by
  unfold leastT
  rw [List.take_length]
  rfl
/-- How many groups among the first k people. -/
theorem manyG_next {L : List Per} {k : Nat} (h : k < L.length) : manyG (L.take (k + 1)) = manyG (L.take k) + if sizeG (L.take (k + 1)) (L.getD k per0) = 1 then 1 else 0 := by
  rw [per_take1 h, manyG_snoc, sizeG_snoc, if_pos (sameG_refl _)]
  congr 1
  have : sizeG (L.take k) (L.getD k per0) = 0 ↔ (L.take k).any (sameG (L.getD k per0)) = false := by
    unfold sizeG
    rw [List.countP_eq_zero, List.any_eq_false]
  by_cases e : (L.take k).any (sameG (L.getD k per0)) = true
  · rw [if_pos e, if_neg]
    intro h1
    have := this.1 (by omega)
    rw [e] at this
    cases this
  · rw [if_neg e, if_pos]
    have := this.2 (by simpa using e)
    omega
theorem manyG_le (L : List Per) : manyG L ≤ L.length := by
  unfold manyG
  have := List.countP_le_length (p := fun k => !((L.take k).any (sameG (L.getD k per0)))) (l := List.range L.length)
  rwa [List.length_range] at this
/-- How many are alone among the first k people. -/
def aloneT (L : List Per) (k : Nat) : Nat := (L.take k).countP fun p => sizeG L p == 1
theorem aloneT_next {L : List Per} {k : Nat} (h : k < L.length) : aloneT L (k + 1) = aloneT L k + if sizeG L (L.getD k per0) = 1 then 1 else 0 := by
  unfold aloneT
  rw [per_take1 h, List.countP_append, List.countP_singleton]
  simp
theorem aloneT_all (L : List Per) : aloneT L L.length = aloneG L := by
  unfold aloneT
  rw [List.take_length]
  rfl
theorem aloneT_le (L : List Per) (k : Nat) : aloneT L k ≤ L.length := by
  unfold aloneT
  have h1 := List.countP_le_length (p := fun p => sizeG L p == 1) (l := L.take k)
  rw [List.length_take] at h1
  omega
theorem ppl_take' {w : World} {ao : Option Addr} {b : Nat} {L : List Per} (h : Ppl w ao b 0 L) (k : Nat) : Ppl w ao b 0 (L.take k) := by
  refine ⟨fun hp => h.1 (by rw [List.length_take] at hp; omega), fun i hi => ?_⟩
  rw [List.length_take] at hi
  have e : (L.take k).getD i per0 = L.getD i per0 := by
    simp only [List.getD_eq_getElem?_getD]
    rw [List.getElem?_take_of_lt (by omega)]
  rw [e]
  exact h.2 i (by omega)

set_option maxHeartbeats 4000000 in
theorem leastS (ao : Option Addr) (b cap : Nat) (L : List Per) (la : Option Addr) (lc : Nat) (w : World) (hr : Ppl w ao b 0 L) (hv : pplB L = true) :
    Calls Tryz.prog 102 #[.slice ao L.length cap, .slice la 0 lc, .agg #[.int .i64 0, .int .i64 0, .int .i64 0]] w fun e w' => e = .returned (.int .i64 (leastG L)) ∧ Below w.heap.size w w' := by
  have h40 := (ppl_t.1 hv).1
  have HC := Lib.hid (fun (W : World) (hb : Below w.heap.size w W) => recodeS ao b cap L la lc W (hr.keep hb (Nat.le_refl _)) hv)
  clear hr hv
  go_enter Tryz.func102, Tryz.ntmps102
  go_wp2_with fail
  have hb1 : Below w.heap.size w (w.alloc (.cells #[.int .i64 0, .int .i64 0, .int .i64 0] 81)) := (Below.refl _ _).alloc (Nat.le_refl _) _
  obtain ⟨W1, hW1⟩ : ∃ W1, w.alloc (.cells #[.int .i64 0, .int .i64 0, .int .i64 0] 81) = W1 := ⟨_, rfl⟩
  rw [hW1] at hb1 ⊢
  have HB1 := Lib.hid hb1
  clear hb1 hW1
  refine (HC.out W1 HB1.out).mono ?_
  rintro e w2 ⟨v, rfl, ho, hb2⟩
  obtain ⟨av, bv, cv, rfl, hc1, hc2, -, hp2⟩ := ho.ppl
  have HP2 := Lib.hid hp2
  have HB2 := Lib.hid (HB1.out.trans (hb2.mono HB1.out.size))
  clear ho hb2 hp2 HC
  go_wp2_with fail
  go_loopw [9, 10] (fun n i wr => ∃ j : Nat, j ≤ L.length ∧ i = .int .i64 j ∧ n = .int .i64 (leastT L j) ∧ Below w2.heap.size w2 wr) (fun _ i _ => L.length - (intOf i).toNat)
  case atStart => exact ⟨0, Nat.zero_le _, rfl, rfl, Below.refl _ _⟩
  case round =>
    obtain ⟨j, hj, rfl, rfl, hb⟩ := hrel
    have HB := Lib.hid hb
    have hsw := hb.size
    by_cases hlt : j < L.length
    · have HSZ := Lib.hid (sizeS av bv cv L j wr (HP2.out.keep hb (Nat.le_refl _)) hlt h40)
      have HT := Lib.hid (leastT_next hlt)
      obtain ⟨c, hc⟩ : ∃ c, leastT L j = c := ⟨_, rfl⟩
      obtain ⟨s, hs⟩ : ∃ s, sizeG L (L.getD j per0) = s := ⟨_, rfl⟩
      rw [hs] at HSZ HT
      rw [hc] at HT ⊢
      clear hc hs
      clear hb
      go_wp2_with fail
      refine (HSZ.out).mono ?_
      rintro e w4 ⟨rfl, hb4⟩
      have HB4 := Lib.hid (HB.out.trans (hb4.mono hsw))
      clear hb4
      go_wp2_with fail
      go_roundw
      case rel => exact ⟨j + 1, by omega, by go_num, by rw [HT.out], HB4.out⟩
      case measure => simp [intOf]; omega
    · obtain rfl : j = L.length := by omega
      rw [leastT_all]
      clear hb
      go_wp2_with fail
      go_ret
      exact ⟨rfl, HB2.out.trans (HB.out.mono HB2.out.size)⟩

set_option maxHeartbeats 4000000 in
theorem uniqS (ao : Option Addr) (b cap : Nat) (L : List Per) (la : Option Addr) (lc : Nat) (w : World) (hr : Ppl w ao b 0 L) (hv : pplB L = true) :
    Calls Tryz.prog 104 #[.slice ao L.length cap, .slice la 0 lc, .agg #[.int .i64 0, .int .i64 0, .int .i64 0]] w fun e w' => e = .returned (.int .i64 ((aloneG L : Int))) ∧ Below w.heap.size w w' := by
  have h40 := (ppl_t.1 hv).1
  have HC := Lib.hid (fun (W : World) (hb : Below w.heap.size w W) => recodeS ao b cap L la lc W (hr.keep hb (Nat.le_refl _)) hv)
  clear hr hv
  go_enter Tryz.func104, Tryz.ntmps104
  go_wp2_with fail
  have hb1 : Below w.heap.size w (w.alloc (.cells #[.int .i64 0, .int .i64 0, .int .i64 0] 81)) := (Below.refl _ _).alloc (Nat.le_refl _) _
  obtain ⟨W1, hW1⟩ : ∃ W1, w.alloc (.cells #[.int .i64 0, .int .i64 0, .int .i64 0] 81) = W1 := ⟨_, rfl⟩
  rw [hW1] at hb1 ⊢
  have HB1 := Lib.hid hb1
  clear hb1 hW1
  refine (HC.out W1 HB1.out).mono ?_
  rintro e w2 ⟨v, rfl, ho, hb2⟩
  obtain ⟨av, bv, cv, rfl, hc1, hc2, -, hp2⟩ := ho.ppl
  have HP2 := Lib.hid hp2
  have HB2 := Lib.hid (HB1.out.trans (hb2.mono HB1.out.size))
  clear ho hb2 hp2 HC
  go_wp2_with fail
  go_loopw [9, 10] (fun n i wr => ∃ j : Nat, j ≤ L.length ∧ i = .int .i64 j ∧ n = .int .i64 ((aloneT L j : Int)) ∧ Below w2.heap.size w2 wr) (fun _ i _ => L.length - (intOf i).toNat)
  case atStart => exact ⟨0, Nat.zero_le _, rfl, rfl, Below.refl _ _⟩
  case round =>
    obtain ⟨j, hj, rfl, rfl, hb⟩ := hrel
    have HB := Lib.hid hb
    have hsw := hb.size
    by_cases hlt : j < L.length
    · have HSZ := Lib.hid (sizeS av bv cv L j wr (HP2.out.keep hb (Nat.le_refl _)) hlt h40)
      have HT := Lib.hid (aloneT_next hlt)
      have hle := Nat.le_trans (aloneT_le L j) h40
      obtain ⟨c, hc⟩ : ∃ c, aloneT L j = c := ⟨_, rfl⟩
      obtain ⟨s, hs⟩ : ∃ s, sizeG L (L.getD j per0) = s := ⟨_, rfl⟩
      rw [hs] at HSZ HT
      rw [hc] at HT hle ⊢
      clear hc hs
      clear hb
      go_wp2_with fail
      refine (HSZ.out).mono ?_
      rintro e w4 ⟨rfl, hb4⟩
      have HB4 := Lib.hid (HB.out.trans (hb4.mono hsw))
      clear hb4
      by_cases hs1 : s = 1
      · have hse : ((s : Int) == 1) = true := by rw [hs1]; rfl
        rw [if_pos hs1] at HT
        clear hs1
        go_wp2_with fail
        go_roundw
        case rel => exact ⟨j + 1, by omega, by go_num, by rw [HT.out]; go_num, HB4.out⟩
        case measure => simp [intOf]; omega
      · have hse : ((s : Int) == 1) = false := by rw [beq_eq_false_iff_ne]; omega
        rw [if_neg hs1] at HT
        clear hs1
        go_wp2_with fail
        go_roundw
        case rel => exact ⟨j + 1, by omega, by go_num, by rw [HT.out]; rfl, HB4.out⟩
        case measure => simp [intOf]; omega
    · obtain rfl : j = L.length := by omega
      rw [aloneT_all]
      clear hb
      go_wp2_with fail
      go_ret
      exact ⟨rfl, HB2.out.trans (HB.out.mono HB2.out.size)⟩

theorem sizeS1 (ao : Option Addr) (b cap : Nat) (L : List Per) (j : Nat) (w : World) (hr : Ppl w ao b 0 L) (hj : j < L.length) (h40 : L.length ≤ 40) :
    Calls Tryz.prog 137 #[.slice ao (j + 1) cap, .int .i64 (j : Int)] w fun e w' => e = .returned (.int .i64 (sizeG (L.take (j + 1)) (L.getD j per0) : Int)) ∧ Below w.heap.size w w' := by
  have e1 : (L.take (j + 1)).length = j + 1 := by rw [List.length_take]; omega
  have e2 : (L.take (j + 1)).getD j per0 = L.getD j per0 := by
    simp only [List.getD_eq_getElem?_getD]
    rw [List.getElem?_take_of_lt (by omega)]
  have h := sizeS ao b cap (L.take (j + 1)) j w (ppl_take' hr (j + 1)) (by omega) (by omega)
  rw [e1, e2] at h
  exact h

set_option maxHeartbeats 4000000 in
theorem manyGS (ao : Option Addr) (b cap : Nat) (L : List Per) (la : Option Addr) (lc : Nat) (w : World) (hr : Ppl w ao b 0 L) (hv : pplB L = true) :
    Calls Tryz.prog 103 #[.slice ao L.length cap, .slice la 0 lc, .agg #[.int .i64 0, .int .i64 0, .int .i64 0]] w fun e w' => e = .returned (.int .i64 ((manyG L : Int))) ∧ Below w.heap.size w w' := by
  have h40 := (ppl_t.1 hv).1
  have HC := Lib.hid (fun (W : World) (hb : Below w.heap.size w W) => recodeS ao b cap L la lc W (hr.keep hb (Nat.le_refl _)) hv)
  clear hr hv
  go_enter Tryz.func103, Tryz.ntmps103
  go_wp2_with fail
  have hb1 : Below w.heap.size w (w.alloc (.cells #[.int .i64 0, .int .i64 0, .int .i64 0] 81)) := (Below.refl _ _).alloc (Nat.le_refl _) _
  obtain ⟨W1, hW1⟩ : ∃ W1, w.alloc (.cells #[.int .i64 0, .int .i64 0, .int .i64 0] 81) = W1 := ⟨_, rfl⟩
  rw [hW1] at hb1 ⊢
  have HB1 := Lib.hid hb1
  clear hb1 hW1
  refine (HC.out W1 HB1.out).mono ?_
  rintro e w2 ⟨v, rfl, ho, hb2⟩
  obtain ⟨av, bv, cv, rfl, hc1, hc2, -, hp2⟩ := ho.ppl
  have HP2 := Lib.hid hp2
  have HB2 := Lib.hid (HB1.out.trans (hb2.mono HB1.out.size))
  clear ho hb2 hp2 HC
  go_wp2_with fail
  go_loopw [9, 10] (fun n i wr => ∃ j : Nat, j ≤ L.length ∧ i = .int .i64 j ∧ n = .int .i64 ((manyG (L.take j) : Int)) ∧ Below w2.heap.size w2 wr) (fun _ i _ => L.length - (intOf i).toNat)
  case atStart => exact ⟨0, Nat.zero_le _, rfl, rfl, Below.refl _ _⟩
  case round =>
    obtain ⟨j, hj, rfl, rfl, hb⟩ := hrel
    have HB := Lib.hid hb
    have hsw := hb.size
    by_cases hlt : j < L.length
    · have hwj : IntKind.i64.wrap ((j : Int) + 1) = ((j + 1 : Nat) : Int) := by rw [IntWalk.i64_in _ ⟨by omega, by omega⟩]; rfl
      have hjc : j + 1 ≤ cv := by omega
      have hjl : j + 1 ≤ L.length := by omega
      have HSZ := Lib.hid (sizeS1 av bv cv L j wr (HP2.out.keep hb (Nat.le_refl _)) hlt h40)
      have HT := Lib.hid (manyG_next hlt)
      have hle := Nat.le_trans (manyG_le (L.take j)) (by rw [List.length_take]; omega : (L.take j).length ≤ 40)
      obtain ⟨c, hc⟩ : ∃ c, manyG (L.take j) = c := ⟨_, rfl⟩
      obtain ⟨s, hs⟩ : ∃ s, sizeG (L.take (j + 1)) (L.getD j per0) = s := ⟨_, rfl⟩
      rw [hs] at HSZ HT
      rw [hc] at HT hle ⊢
      clear hc hs
      clear hb
      go_wp2_with fail
      refine (HSZ.out).mono ?_
      rintro e w4 ⟨rfl, hb4⟩
      have HB4 := Lib.hid (HB.out.trans (hb4.mono hsw))
      clear hb4
      by_cases hs1 : s = 1
      · have hse : ((s : Int) == 1) = true := by rw [hs1]; rfl
        rw [if_pos hs1] at HT
        clear hs1
        go_wp2_with fail
        go_roundw
        case rel => exact ⟨j + 1, by omega, by go_num, by rw [HT.out]; go_num, HB4.out⟩
        case measure => simp [intOf]; omega
      · have hse : ((s : Int) == 1) = false := by rw [beq_eq_false_iff_ne]; omega
        rw [if_neg hs1] at HT
        clear hs1
        go_wp2_with fail
        go_roundw
        case rel => exact ⟨j + 1, by omega, by go_num, by rw [HT.out]; rfl, HB4.out⟩
        case measure => simp [intOf]; omega
    · obtain rfl : j = L.length := by omega
      rw [List.take_length]
      clear hb
      go_wp2_with fail
      go_ret
      exact ⟨rfl, HB2.out.trans (HB.out.mono HB2.out.size)⟩
end Go.Proofs.YtlmlchkolcmhpaaGreatDoor
end

section
/-
  An entry of a map of the call's own: looked up, made and stored, in either order.
-/
namespace Go.Proofs.YtlmlchkolcmhpaaGreatDoor
open Go.RowKit Go.Maps Go.WideShapes

section
variable {P : Program} {k e t : TypeId} {b : Nat} {es : Array MapEntry} {clock : Nat} {key : Value} {kl : Lit}
theorem look_found (K : WideMaps.KeyLaw P k) (ht : P.underlying t = some (.map k e)) {W : World} (hb : W.heap[b]? = some (.map es clock)) (hkey : keyOf P k key = some kl) {j : Nat} {v : Value} (hf : (Instr.findKey k key es.toList).run P W = .ok (some (j, v)) W) :
    (Instr.lookup t (.map (some b)) key false).run P W = .ok v W := by
  simp [Instr.lookup, run_underlying ht, MapKept.run_getObj_map hb, K.check W _ hkey, hf, Result.andThen]
theorem look_lost (K : WideMaps.KeyLaw P k) (ht : P.underlying t = some (.map k e)) {z : Value} (hz : ∀ u : World, (zeroValue e).run P u = .ok z u) {W : World} (hb : W.heap[b]? = some (.map es clock)) (hkey : keyOf P k key = some kl) (hf : (Instr.findKey k key es.toList).run P W = .ok none W) :
    (Instr.lookup t (.map (some b)) key false).run P W = .ok z W := by
  simp [Instr.lookup, run_underlying ht, MapKept.run_getObj_map hb, K.check W _ hkey, hf, hz, Result.andThen]
theorem entry_law {R : Value → Option (DataW Unit × List MemPlace)} {n : Nat} {D : DataW Unit} {V : World} (K : WideMaps.KeyLaw P k) (ht : P.underlying t = some (.map k e)) {z : Value} (hz : ∀ u : World, (zeroValue e).run P u = .ok z u)
    (hown : V.ownsMap P k R b n D) (hn : n < maxLen) {v0 val : Value} {d : DataW Unit} {ps : List MemPlace} (hkey : keyOf P k key = some kl) (hlook : (Instr.lookup t (.map (some b)) key false).run P V = .ok v0 V) (hval : R val = some (d, ps)) :
    ∃ (st : Nat) (W2 W3 : World), (Instr.mapEntry t (.map (some b)) key).run P V = .ok (.tuple #[v0, goInt st]) W2 ∧ (Instr.lookup t (.map (some b)) key false).run P W2 = .ok v0 W2 ∧
      (Instr.entryStore t (.map (some b)) (goInt st) val).run P W2 = .ok () W3 ∧ W3.ownsMap P k R b (n + 1) (D.put kl d) ∧ V.grownBy W3 (some b) := by
  have hkeep := hown
  obtain ⟨es, clock, hb, F, hs, hD⟩ := hown
  obtain ⟨v, st, es1, clock1, h1, h2, h3⟩ := WideElems.entry_then_store K ht hz hb F hkey
  obtain ⟨w', hu, ho, hg⟩ := hkeep.update (Keyed.of_law K) ht hn hkey hval
  have hb1 := ChangeMaps.heap_setBlock_same hb (.map es1 clock1)
  obtain ⟨es', clock', h4, h5⟩ := h3 (ChangeMaps.setBlock V b (.map es1 clock1)) val hb1
  have e3 : ChangeMaps.setBlock V b (.map es' clock') = w' := by
    rw [h5] at hu
    simpa using hu
  have key2 : v = v0 ∧ (Instr.lookup t (.map (some b)) key false).run P (ChangeMaps.setBlock V b (.map es1 clock1)) = .ok v0 (ChangeMaps.setBlock V b (.map es1 clock1)) := by
    rcases K.find V hkey es.toList F.keys with ⟨f1, f2⟩ | ⟨j, e0, f1, f2, f3⟩
    · have hl := look_lost K ht hz hb hkey f1
      rw [hlook] at hl
      injection hl with hl _
      subst hl
      have hm : (Instr.mapEntry t (.map (some b)) key).run P V = .ok (.tuple #[v0, goInt clock]) (ChangeMaps.setBlock V b (.map (es.push ⟨key, v0, clock⟩) (clock + 1))) := by
        simp [Instr.mapEntry, run_underlying ht, MapKept.run_getObj_map hb, K.check V false hkey, f1, hz, MapKept.run_setObj_map _ hb, Result.andThen, ChangeMaps.setBlock]
      rw [h1] at hm
      injection hm with hm1 hm2
      have hv : v = v0 := by
        injection hm1 with hm1
        have := congrArg (fun a : Array Value => a[0]?) hm1
        simpa using this
      have hes : es1 = es.push ⟨key, v0, clock⟩ := by
        have := congrArg (fun w : World => w.heap[b]?) hm2
        rw [hb1, ChangeMaps.heap_setBlock_same hb] at this
        injection this with this
        injection this with this _
      subst hes
      refine ⟨hv, ?_⟩
      have hkeys : ∀ x ∈ (es.push ⟨key, v0, clock⟩).toList, ∃ l, keyOf P k x.key = some l := by
        intro x hx
        rw [Array.toList_push, List.mem_append, List.mem_singleton] at hx
        rcases hx with hx | rfl
        · exact F.keys x hx
        · exact ⟨kl, hkey⟩
      rcases K.find (ChangeMaps.setBlock V b (.map (es.push ⟨key, v0, clock⟩) clock1)) hkey _ hkeys with ⟨_, g2⟩ | ⟨j, e0, g1, g2, g3⟩
      · exact absurd rfl (g2 ⟨key, v0, clock⟩ (by simp))
      · have hmem := List.mem_of_getElem? g2
        rw [Array.toList_push, List.mem_append, List.mem_singleton] at hmem
        rcases hmem with hmem | rfl
        · exact absurd g3 (f2 e0 hmem)
        · exact look_found K ht hb1 hkey g1
    · have hl := look_found K ht hb hkey f1
      rw [hlook] at hl
      injection hl with hl _
      subst hl
      have hj : es[j]? = some e0 := by simpa using f2
      have hsame : es.modify j (fun e => { e with key := key }) = es := by
        apply Array.ext
        · simp
        · intro i h1 h2
          rw [Array.getElem_modify]
          split
          · rename_i hij
            subst hij
            rw [Array.getElem?_eq_getElem h2] at hj
            injection hj with hj
            rw [hj, ← f3]
          · rfl
      have hm : (Instr.mapEntry t (.map (some b)) key).run P V = .ok (.tuple #[e0.val, goInt e0.born]) (ChangeMaps.setBlock V b (.map es clock)) := by
        simp [Instr.mapEntry, run_underlying ht, MapKept.run_getObj_map hb, K.check V false hkey, f1, hj, f3, K.stays V hkey, hsame, MapKept.run_setObj_map _ hb, Result.andThen, ChangeMaps.setBlock]
      rw [h1] at hm
      injection hm with hm1 hm2
      have hv : v = e0.val := by
        injection hm1 with hm1
        have := congrArg (fun a : Array Value => a[0]?) hm1
        simpa using this
      have hes : es1 = es := by
        have := congrArg (fun w : World => w.heap[b]?) hm2
        rw [hb1, ChangeMaps.heap_setBlock_same hb] at this
        injection this with this
        injection this with this _
      subst hes
      refine ⟨hv, ?_⟩
      rcases K.find (ChangeMaps.setBlock V b (.map es1 clock1)) hkey es1.toList F.keys with ⟨_, g2⟩ | ⟨j', e1, g1, g2, g3⟩
      · exact absurd f3 (g2 e0 (List.mem_of_getElem? f2))
      · have hjj : j = j' := by
          refine (List.getElem?_inj (l := es1.toList.map (·.key)) (by rw [List.length_map]; exact (List.getElem?_eq_some_iff.1 f2).1) F.stamped.2.2).1 ?_
          rw [List.getElem?_map, List.getElem?_map, f2, g2, Option.map_some, Option.map_some, f3, g3]
        subst hjj
        rw [f2] at g2
        have g2 := Option.some.inj g2
        have g4 := g2.symm
        clear g2
        subst g4
        exact look_found K ht hb1 hkey g1
  obtain ⟨rfl, hl2⟩ := key2
  have e4 : ChangeMaps.setBlock (ChangeMaps.setBlock V b (.map es1 clock1)) b (.map es' clock') = w' := by
    rw [← e3]
    simp [ChangeMaps.setBlock]
  exact ⟨st, _, _, h1, hl2, h4, by rw [e4]; exact ho, by rw [e4]; exact hg⟩
end
end Go.Proofs.YtlmlchkolcmhpaaGreatDoor
end

section
/-
  Maps keyed by people: the keys' law, what a key reads as.
-/
namespace Go.Proofs.YtlmlchkolcmhpaaGreatDoor
open Go.RowKit Go.Maps Go.WideShapes

theorem Tryz.laidOut : laidOutB Tryz.prog = true := by kernel_rfl
theorem keyLawP : WideMaps.KeyLaw Tryz.prog 69 := deep_law_laid Tryz.laidOut (m := 2) (by omega) (of_decide_eq_true (by kernel_rfl)) (by kernel_rfl) (by kernel_rfl)
theorem keyP : Keyed Tryz.prog 69 := Keyed.of_law keyLawP
/-- The group of a person, as a value. -/
def gv (p : Per) : Value := .agg #[.int .i64 p.area, .int .i64 p.job, .int .i64 p.sex, .int .i64 0]
/-- .. as a key. -/
def kp (p : Per) : Lit := .string (keyBytes [.int .i64 p.area, .int .i64 p.job, .int .i64 p.sex, .int .i64 0])
theorem wf_small {n : Int} (h : 0 ≤ n ∧ n ≤ 1000) : (Lit.int .i64 n).wf = true := by
  have h1 : IntKind.i64.min = -9223372036854775808 := by decide
  have h2 : IntKind.i64.max = 9223372036854775807 := by decide
  show (decide (IntKind.i64.min ≤ n) && decide (n ≤ IntKind.i64.max)) = true
  rw [h1, h2]
  simp only [Bool.and_eq_true, decide_eq_true_eq]
  omega
theorem cellPer : Tryz.prog.cellsOf 69 = 4 := by kernel_rfl
theorem cellInt : Tryz.prog.cellsOf 3 = 1 := by kernel_rfl
theorem keyTypeP : Tryz.prog.keyType 69 = true := by kernel_rfl
theorem sizeT : ∃ m, Tryz.prog.types.size = m + 1 := ⟨Tryz.prog.types.size - 1, by have : 0 < Tryz.prog.types.size := of_decide_eq_true (by kernel_rfl); omega⟩
theorem keyOf_kp {p : Per} (h : PerOk p) : keyOf Tryz.prog 69 (gv p) = some (kp p) := by
  unfold PerOk at h
  have w0 := wf_small (n := p.area) (by omega)
  have w1 := wf_small (n := p.job) (by omega)
  have w2 := wf_small (n := p.sex) (by omega)
  have w3 := wf_small (n := 0) (by omega)
  obtain ⟨m, hm⟩ := sizeT
  unfold keyOf gv
  simp only [Tryz.underlying69]
  rw [if_pos (by simp [keyTypeP, Value.formed, Tryz.underlying69, cellPer]), hm]
  unfold Program.keyLits
  simp only [Tryz.underlying69, Value.cells]
  rw [if_pos ⟨by rw [cellPer]; rfl, by simp⟩]
  simp only [List.mapM_cons, List.mapM_nil]
  simp [Program.keyLits, cellInt, Tryz.underlying3, w0, w1, w2, w3, kp]
theorem kp_same (p q : Per) (hp : PerOk p) (hq : PerOk q) : kp p = kp q ↔ sameG p q = true := by
  constructor
  · intro e
    have h1 := keyOf_kp hp
    have h2 := keyOf_kp hq
    rw [e] at h1
    have h3 := keyP.inj h1 h2
    unfold gv at h3
    simp only [Value.agg.injEq, Array.mk.injEq, List.cons.injEq, Value.int.injEq, true_and, and_true] at h3
    exact decide_eq_true h3
  · intro e
    have h3 := of_decide_eq_true e
    unfold kp
    rw [h3.1, h3.2.1, h3.2.2]

end Go.Proofs.YtlmlchkolcmhpaaGreatDoor
end

section
/-
  Contract: impl.cellsText without a mask, of numbers from -1 on: it returns some text.
-/
namespace Go.Proofs.YtlmlchkolcmhpaaGreatDoor
open Go.RowKit
open Go.TextMath (text word line rowW cellW)

def itw (n : Int) : ByteArray := ⟨(Lib.itoa n).toArray⟩
theorem itw_short {n : Int} (h0 : -1 ≤ n) (h1 : n ≤ 1000000) : (Lib.itoa n).length ≤ 7 := by
  by_cases h : n < 0
  · obtain rfl : n = -1 := by omega
    unfold Lib.itoa
    rw [if_pos (by decide), List.length_cons, Lib.decDigits_one (by decide)]
    decide
  · have e : Lib.itoa n = word n := by unfold Lib.itoa word; rw [if_neg h]
    rw [e]
    exact Go.TextMath.word_short (by omega) h1
theorem itoaZ (n : Int) (w : World) (h0 : -1 ≤ n) (h1 : n ≤ 1000000) (ht : PowTab w) :
    Calls Tryz.prog 21 #[.int .i64 n] w fun e w' => e = .returned (.string (itw n)) ∧ Below w.heap.size w w' := by
  refine (Tryz.strconv_Itoa n (by omega) (by omega) w ht).mono fun e w' ⟨he, k, os, hw⟩ => ⟨?_, ?_⟩
  · rw [he]; rfl
  · rw [hw]; exact Lib.below_grow _ _ (Nat.le_refl _) k os
def FitZ (T : List (List Int)) : Prop := T.length ≤ 1000 ∧ ∀ i, i < T.length → 1 ≤ (T.getD i []).length ∧ (T.getD i []).length ≤ 4 ∧ ∀ j, j < (T.getD i []).length → -1 ≤ (T.getD i []).getD j 0 ∧ (T.getD i []).getD j 0 ≤ 1000000
def wordsZ (r : List Int) (j i : Nat) : Value := if i < j then .string (itw (r.getD i 0)) else .string ⟨#[]⟩
theorem words_putZ {W : World} {B0 n j : Nat} {r : List Int} {v : ByteArray} (hW : W.rowIs B0 9 n (wordsZ r j)) (hv : v = itw (r.getD j 0)) :
    (W.setCell ⟨B0, j, none⟩ (.string v)).rowIs B0 9 n (wordsZ r (j + 1)) := by
  refine (hW.set j _).congr fun i _ => ?_
  by_cases e : i = j
  · subst e; rw [if_pos rfl, hv]; unfold wordsZ; rw [if_pos (by omega)]
  · rw [if_neg e]; unfold wordsZ
    by_cases hl : i < j
    · rw [if_pos hl, if_pos (by omega)]
    · rw [if_neg hl, if_neg (by omega)]
theorem joinZ {W : World} {B0 : Nat} {r : List Int} (hW : W.rowIs B0 9 r.length (wordsZ r r.length)) (hr : ∀ j, j < r.length → -1 ≤ r.getD j 0 ∧ r.getD j 0 ≤ 1000000) (h4 : r.length ≤ 4) :
    Calls Tryz.prog 75 #[.slice (some ⟨B0, 0, none⟩) r.length r.length, .string ⟨#[32]⟩] W fun e w' => ∃ J : ByteArray, e = .returned (.string J) ∧ J.size ≤ 40 ∧ Below W.heap.size W w' := by
  have hl : ((r.map itw).map (·.data.toList)) = r.map Lib.itoa := by rw [List.map_map]; rfl
  have hj : (Lib.join (r.map Lib.itoa) [32]).length ≤ 40 := by
    have h1 : ∀ x ∈ r.map Lib.itoa, x.length ≤ 7 := fun x hx => by
      obtain ⟨n, hn, rfl⟩ := List.mem_map.1 hx
      obtain ⟨i, hi, rfl⟩ := List.mem_iff_getElem.1 hn
      have := hr i hi
      rw [List.getD_eq_getElem?_getD, List.getElem?_eq_getElem hi, Option.getD_some] at this
      exact itw_short this.1 this.2
    have hl2 : (r.map Lib.itoa).length = r.length := List.length_map _
    have hs := lens_le _ h1
    cases hw : r.map Lib.itoa with
    | nil => simp [Lib.join_nil]
    | cons a q =>
      rw [hw] at hl2 hs
      rw [Lib.join_length]
      simp only [List.length_cons, List.length_nil] at hl2 hs ⊢
      omega
  have := Tryz.strings_Join B0 0 r.length (r.map itw) ⟨#[32]⟩ W (fun j x hx => by
    rw [List.getElem?_map, Option.map_eq_some_iff] at hx
    obtain ⟨n, hn, rfl⟩ := hx
    obtain ⟨hi, hn⟩ := List.getElem?_eq_some_iff.1 hn
    rw [Nat.zero_add, hW.cell hi]; unfold wordsZ; rw [if_pos hi, List.getD_eq_getElem?_getD, List.getElem?_eq_getElem hi, Option.getD_some, hn]) hW.lt (by rw [List.length_map]; omega) (by rw [List.length_map]; exact Nat.le_refl _) (by rw [hl]; show (Lib.join (r.map Lib.itoa) [32]).length ≤ _; omega)
  rw [List.length_map, hl] at this
  refine this.mono ?_
  rintro e w' ⟨rfl, hb⟩
  exact ⟨_, rfl, by show (Lib.join (r.map Lib.itoa) [32]).toArray.size ≤ 40; rw [List.size_toArray]; exact hj, hb⟩

set_option maxHeartbeats 2000000 in
theorem cellsZ (ao : Option Addr) (b off cap : Nat) (T : List (List Int)) (w : World) (hr : Tab .i64 w ao b off T) (hT : FitZ T) (ht : PowTab w) :
    Calls Tryz.prog 41 #[.slice ao T.length cap, .slice none 0 0] w fun e w' => (∃ s : ByteArray, e = .returned (.string s)) ∧ Below w.heap.size w w' := by
  have HR := Lib.hid hr
  have HP := Lib.hid ht
  have HT := Lib.hid hT
  have hT1 := hT.1
  clear hr ht hT
  go_enter Tryz.func41, Tryz.ntmps41
  go_wp2_with fail
  go_loopw [13] (fun t wr => ∃ k : Nat, k ≤ T.length ∧ t = .int .i64 k ∧ (∃ X : List UInt8, X.length ≤ 50 * k ∧ Lib.IsBuilder 37 5 w.heap.size w.heap.size (Lib.byteCells X) wr) ∧ Below w.heap.size w wr) (fun t _ => T.length - (intOf t).toNat)
  case atStart => exact ⟨0, Nat.zero_le _, rfl, ⟨[], Nat.zero_le _, Lib.fresh_isBuilder _ _ w⟩, (Below.refl _ _).alloc (Nat.le_refl _) _⟩
  case round =>
    obtain ⟨k, hk, rfl, ⟨X, hX, hib⟩, hbel⟩ := hrel
    have HIB := Lib.hid hib
    have HB := Lib.hid hbel
    clear hib hbel
    by_cases hlt : k < T.length
    · obtain ⟨hf1, hf4, hf⟩ := HT.out.2 k hlt
      have HR1 := Lib.hid (HR.out.keep HB.out (Nat.le_refl _))
      obtain rfl := HR.out.1 (by omega)
      obtain ⟨a', b', o', c', h1, h2, h3, h4⟩ := HR1.out.2 k hlt
      obtain ⟨r, hrr⟩ : ∃ r, T.getD k [] = r := ⟨_, rfl⟩
      rw [hrr] at h1 h2 h3 hf1 hf4 hf
      obtain rfl := h2.1 (by omega)
      have HRR := Lib.hid hrr
      have HR2 := Lib.hid h2
      have HF := Lib.hid hf
      have hmk : ∀ W : World, (Instr.makeSlice 28 (.int .i64 (r.length : Int)) (.int .i64 (r.length : Int))).run Tryz.prog W = .ok (.slice (some ⟨W.heap.size, 0, none⟩) r.length r.length) (W.alloc (.cells (madeCells #[.string ⟨#[]⟩] r.length) 9)) :=
        fun W => run_make_row' 28 9 _ 16 Tryz.underlying28 Tryz.info9 rfl .i64 .i64 r.length (by omega) (by omega) W
      clear hrr h2 hf
      go_wp2_with fail
      obtain ⟨B0, hB0⟩ : ∃ B0, wr.heap.size = B0 := ⟨_, rfl⟩
      obtain ⟨wo, hwo⟩ : ∃ wo : World, wo = wr := ⟨_, rfl⟩
      have hsz := HB.out.size
      have HW0 := Lib.hid (World.rowIs_made wr (.string ⟨#[]⟩) r.length 9)
      have HA0 := Lib.hid ((Below.refl wr.heap.size wr).alloc (Nat.le_refl _) (.cells (madeCells #[.string ⟨#[]⟩] r.length) 9))
      rw [← hwo] at hB0 HIB HB h1 HR1 HR2 hsz HW0 HA0 ⊢
      rw [hB0] at HW0 HA0 hsz ⊢
      have HB0 := Lib.hid hB0
      clear hB0 hwo
      go_loopw [23] (fun t wj => ∃ j : Nat, j ≤ r.length ∧ t = .int .i64 j ∧ wj.rowIs B0 9 r.length (wordsZ r j) ∧ Below B0 wo wj) (fun t _ => r.length - (intOf t).toNat)
      case atStart => exact ⟨0, Nat.zero_le _, rfl, HW0.out, HA0.out⟩
      case round =>
        clear HW0 HA0
        obtain ⟨j, hj, rfl, hw, hbj⟩ := hrel
        have HW := Lib.hid hw
        have HBJ := Lib.hid hbj
        clear hw hbj
        by_cases hjn : j < r.length
        · have hszj : B0 ≤ wr.heap.size := by have := HBJ.out.size; rw [HB0.out] at this; exact this
          have HBW := Lib.hid (HB.out.trans (HBJ.out.mono hsz))
          have hcx := HR2.out.keep HBJ.out (Nat.le_of_eq HB0.out)
          obtain ⟨x, hx⟩ : ∃ x, r.getD j 0 = x := ⟨_, rfl⟩
          have hcx1 := hcx.2 j hjn
          have hxf := HF.out j hjn
          rw [hx] at hcx1 hxf
          have HX := Lib.hid hx
          obtain ⟨hx0, hx1⟩ := hxf
          have HPJ := Lib.hid (HP.out.keep HBW.out (Nat.le_refl _))
          have hbw := HW.out.lt
          clear hcx hx
          go_wp2_with fail
          refine (itoaZ x _ hx0 hx1 HPJ.out).mono ?_
          rintro e w1 ⟨rfl, hb1⟩
          have HB1 := Lib.hid hb1
          have HW1 := Lib.hid (HW.out.of_block (hb1.block B0 hbw))
          have hc1 := HW1.out.cell hjn
          have hf1 := HW1.out.frozen j
          clear hb1
          go_wp2_with fail
          go_roundw
          case rel => exact ⟨j + 1, by omega, by go_num, words_putZ HW1.out (by rw [HX.out]), HBJ.out.trans ((HB1.out.mono hszj).setCell (Nat.le_refl _) _)⟩
          case measure => simp [intOf]; omega
        · obtain rfl : j = r.length := by omega
          have hszj : B0 ≤ wr.heap.size := by have := HBJ.out.size; rw [HB0.out] at this; exact this
          go_wp2_with fail
          refine (joinZ HW.out HF.out hf4).mono ?_
          rintro e w1 ⟨J, rfl, hjs, hb1⟩
          have HB1 := Lib.hid hb1
          clear hb1
          have HBO := Lib.hid (show Below wo.heap.size wo w1 from by rw [HB0.out]; exact HBJ.out.trans (HB1.out.mono hszj))
          have HW2 := Lib.hid (Tryz.Builder_WriteString _ _ _ (J ++ ⟨#[10]⟩) w1 (ib_keep HIB.out HBO.out) (by
            have h2 : (J ++ ⟨#[10]⟩ : ByteArray).size = J.size + 1 := by rw [ByteArray.size_append]; rfl
            rw [Lib.byteCells_length, h2]; omega) (Nat.le_trans HB.out.size HBO.out.size))
          go_wp2_with fail
          refine (HW2.out).mono ?_
          rintro e w2 ⟨rfl, hib2, hb2⟩
          have HIB2 := Lib.hid hib2
          have HB2 := Lib.hid hb2
          clear hib2 hb2
          go_wp2_with fail
          go_roundw
          case rel =>
            refine ⟨k + 1, by omega, by go_num, ⟨X ++ (J.data.toList ++ [10]), ?_, .inr ?_⟩, (HB.out.trans (HBO.out.mono HB.out.size)).trans HB2.out⟩
            · have h3 : J.data.toList.length = J.size := Array.length_toList
              rw [List.length_append, List.length_append, h3, List.length_singleton]
              omega
            · have h1 := HIB2.out
              rw [Lib.strCells_eq, ← Lib.byteCells_append] at h1
              have h2 : (J ++ ⟨#[10]⟩ : ByteArray).data.toList = J.data.toList ++ [10] := by simp
              rw [h2] at h1
              exact h1
          case measure => simp [intOf]; omega
    · obtain rfl : k = T.length := by omega
      have HIB2 := HIB
      go_wp2_with fail
      refine (Tryz.Builder_String_any _ _ _ _ HIB2.out HB.out.size).mono ?_
      rintro e w' ⟨rfl, hb2⟩
      have HB2 := Lib.hid hb2
      clear hb2
      go_wp2_with fail
      go_ret
      exact ⟨⟨_, rfl⟩, HB.out.trans HB2.out⟩
end Go.Proofs.YtlmlchkolcmhpaaGreatDoor
end

section
/-
  Contracts: (*spec.l6Rd).of, spec.DrawTableFrom.
-/
namespace Go.Proofs.YtlmlchkolcmhpaaGreatDoor
open Go.RowKit
open Go.TextMath (tvB text)

/-- A drawn string. -/
def OfD (rb : Nat) (p : Int) (w : World) (e : Ending) (w' : World) : Prop := ∃ x : ByteArray, e = .returned (.string x) ∧ x.size ≤ 12 ∧ IsRd w' rb (p + 1) ∧ Only rb w w'

/-- A drawn text. -/
def StrW (w : World) (e : Ending) (w' : World) : Prop := ∃ S : ByteArray, e = .returned (.string S) ∧ S.size ≤ 300 ∧ Below w.heap.size w w'
theorem rowS_lit (w : World) (ss : List ByteArray) (t : TypeId) : RowS (w.alloc (.cells (ss.map Value.string).toArray t)) (some ⟨w.heap.size, 0, none⟩) w.heap.size 0 ss := by
  refine ⟨fun _ => rfl, fun i hi => ?_⟩
  rw [Nat.zero_add, World.cell?_alloc_new]
  simp [List.getD_eq_getElem?_getD, List.getElem?_eq_getElem hi]

end Go.Proofs.YtlmlchkolcmhpaaGreatDoor
end

section
/-
  Contracts: spec.l93Line, spec.l6Many, spec.DrawExecute: each returns some string that is not long.
-/
namespace Go.Proofs.YtlmlchkolcmhpaaGreatDoor
open Go.RowKit
open Go.TextMath (text)

/-- A drawn string of a list. -/
def OfZ (rb z : Nat) (p : Int) (w : World) (e : Ending) (w' : World) : Prop := ∃ x : ByteArray, e = .returned (.string x) ∧ x.size ≤ z ∧ IsRd w' rb (p + 1) ∧ Only rb w w'
set_option maxHeartbeats 1000000 in
theorem ofZ (rb b z : Nat) (p : Int) (ss : List ByteArray) (w : World) (h : IsRd w rb p) (hp : p ≤ 1000000) (hr : RowS w (some ⟨b, 0, none⟩) b 0 ss) (hb : b ≠ rb) (h1 : 1 ≤ ss.length) (h2 : ss.length ≤ 20) (hs : ∀ i, i < ss.length → (ss.getD i ⟨#[]⟩).size ≤ z) :
    Calls Tryz.prog 56 #[.pointer (some ⟨rb, 0, none⟩), .slice (some ⟨b, 0, none⟩) ss.length ss.length] w (OfZ rb z p w) := by
  have HR := Lib.hid h
  have HS := Lib.hid hr
  have HZ := Lib.hid hs
  clear h hr hs
  go_enter Tryz.func56, Tryz.ntmps56
  go_wp2_with fail
  refine (pick_any rb ss.length p w HR.out (by omega) (by omega)).mono ?_
  rintro e w2 ⟨y, rfl, hy0, hy1, hrd2, ho2⟩
  have hyl : y < (ss.length : Int) := by omega
  obtain ⟨k, rfl⟩ : ∃ k : Nat, y = k := ⟨y.toNat, by omega⟩
  have hkl : k < ss.length := by omega
  have hc := (Only.cell (b := b) (o := 0 + k) ho2 hb).trans (HS.out.2 k hkl)
  have hz := HZ.out k hkl
  rw [Nat.zero_add] at hc
  obtain ⟨x, hx⟩ : ∃ x, ss.getD k ⟨#[]⟩ = x := ⟨_, rfl⟩
  rw [hx] at hc hz
  have HRD := Lib.hid hrd2
  have HO := Lib.hid ho2
  clear hx hrd2 ho2 hy1 hy0
  go_wp2_with fail
  go_ret
  exact ⟨x, rfl, hz, HRD.out, HO.out⟩

theorem wd_short {n : Int} (h0 : 0 ≤ n) (h1 : n ≤ 1000) : (wd n).size ≤ 7 := by
  have h := Go.TextMath.word_short h0 (show n ≤ 1000000 by omega)
  unfold wd
  simp only [ByteArray.size, List.size_toArray]
  omega
/-- A drawn line. -/
def LinD (rb : Nat) (p : Int) (w : World) (e : Ending) (w' : World) : Prop := ∃ (s : ByteArray) (q : Int), e = .returned (.string s) ∧ s.size ≤ 60 ∧ IsRd w' rb q ∧ q ≤ p + 4 ∧ Fr rb w w'
theorem linD_mk {rb : Nat} {p : Int} {w w' : World} {s : ByteArray} {q : Int} (h1 : s.size ≤ 60) (h2 : IsRd w' rb q) (h3 : q ≤ p + 4) (h4 : Fr rb w w') : LinD rb p w (.returned (.string s)) w' := ⟨s, q, rfl, h1, h2, h3, h4⟩

set_option maxRecDepth 100000 in
set_option maxHeartbeats 4000000 in
theorem lineD (rb : Nat) (p : Int) (w : World) (h : IsRd w rb p) (hp0 : 0 ≤ p) (hp : p ≤ 5000) :
    Calls Tryz.prog 27 #[.pointer (some ⟨rb, 0, none⟩)] w (LinD rb p w) := by
  have HR0 := Lib.hid h
  have HF0 := Lib.hid (Fr.refl rb w)
  clear h
  go_enter Tryz.func27, Tryz.ntmps27
  go_wp2_with fail
  refine (pick_any rb 9 p w HR0.out (by omega) (by omega)).mono ?_
  rintro e w1 ⟨y, rfl, hy0, hy1, hrd1, ho1⟩
  have HR1 := Lib.hid hrd1
  have HF1 := Lib.hid (HF0.out.only ho1)
  have hlt1 : rb < w1.heap.size := hrd1.lt
  clear hrd1 ho1
  by_cases e0 : y = 0
  · subst e0
    clear hy0 hy1
    go_wp2_with fail
    refine (pick_any rb 6 (p + 1) w1 HR1.out (by omega) (by omega)).mono ?_
    rintro e w2 ⟨a, rfl, a0, a1, hrd2, ho2⟩
    have HR2 := Lib.hid hrd2
    have HF2 := Lib.hid (HF1.out.only ho2)
    have hlt2 : rb < w2.heap.size := hrd2.lt
    clear hrd2 ho2
    have xhw : IntKind.i64.wrap (a) = a := IntWalk.i64_in _ ⟨by omega, by omega⟩
    go_wp2_with fail
    refine (decS ((a).toNat + 1) (a) w2 (by omega) (by omega) (by omega)).mono ?_
    rintro e w3 ⟨rfl, hb3⟩
    have xz := wd_short (n := a) (by omega) (by omega)
    obtain ⟨x, hx⟩ : ∃ x, wd (a) = x := ⟨_, rfl⟩
    rw [hx] at xz ⊢
    have HR3 := Lib.hid (HR2.out.keep hb3 hlt2)
    have HF3 := Lib.hid (HF2.out.below hb3)
    have hlt3 : rb < w3.heap.size := Nat.lt_of_lt_of_le hlt2 hb3.size
    clear hb3 hx
    go_wp2_with fail
    go_ret
    exact linD_mk (s := ⟨#[100, 114, 111, 112, 32]⟩ ++ x) (q := p + 1 + 1) (by simp only [ByteArray.size_append]; have q0 : (⟨#[100, 114, 111, 112, 32]⟩ : ByteArray).size = 5 := rfl; omega) HR3.out (by omega) HF3.out
  · have f0 : (y == 0) = false := by rw [beq_eq_false_iff_ne]; exact e0
    by_cases e1 : y = 1
    · subst e1
      clear hy0 hy1
      have HW1 := Lib.hid (rowS_lit w1 [⟨#[45]⟩, ⟨#[48]⟩, ⟨#[49]⟩, ⟨#[51]⟩] 9)
      have HA1 := Lib.hid (HR1.out.keep ((Below.refl w1.heap.size w1).alloc (Nat.le_refl _) (.cells (([⟨#[45]⟩, ⟨#[48]⟩, ⟨#[49]⟩, ⟨#[51]⟩] : List ByteArray).map Value.string).toArray 9)) hlt1)
      have HG1 := Lib.hid (HF1.out.alloc (.cells (([⟨#[45]⟩, ⟨#[48]⟩, ⟨#[49]⟩, ⟨#[51]⟩] : List ByteArray).map Value.string).toArray 9))
      go_wp2_with fail
      refine (ofZ rb w1.heap.size 1 (p + 1) [⟨#[45]⟩, ⟨#[48]⟩, ⟨#[49]⟩, ⟨#[51]⟩] _ HA1.out (by omega) HW1.out (by omega) (by decide) (by decide) (by decide)).mono ?_
      rintro e w2 ⟨x, rfl, xz, hrd2, ho2⟩
      have HR2 := Lib.hid hrd2
      have HF2 := Lib.hid (HG1.out.only ho2)
      have hlt2 : rb < w2.heap.size := hrd2.lt
      clear hrd2 ho2
      have HW2 := Lib.hid (rowS_lit w2 [⟨#[45]⟩, ⟨#[48]⟩, ⟨#[49]⟩] 9)
      have HA2 := Lib.hid (HR2.out.keep ((Below.refl w2.heap.size w2).alloc (Nat.le_refl _) (.cells (([⟨#[45]⟩, ⟨#[48]⟩, ⟨#[49]⟩] : List ByteArray).map Value.string).toArray 9)) hlt2)
      have HG2 := Lib.hid (HF2.out.alloc (.cells (([⟨#[45]⟩, ⟨#[48]⟩, ⟨#[49]⟩] : List ByteArray).map Value.string).toArray 9))
      go_wp2_with fail
      refine (ofZ rb w2.heap.size 1 (p + 1 + 1) [⟨#[45]⟩, ⟨#[48]⟩, ⟨#[49]⟩] _ HA2.out (by omega) HW2.out (by omega) (by decide) (by decide) (by decide)).mono ?_
      rintro e w3 ⟨z, rfl, zz, hrd3, ho3⟩
      have HR3 := Lib.hid hrd3
      have HF3 := Lib.hid (HG2.out.only ho3)
      have hlt3 : rb < w3.heap.size := hrd3.lt
      clear hrd3 ho3
      have HW3 := Lib.hid (rowS_lit w3 [⟨#[45]⟩, ⟨#[48]⟩, ⟨#[49]⟩, ⟨#[50]⟩] 9)
      have HA3 := Lib.hid (HR3.out.keep ((Below.refl w3.heap.size w3).alloc (Nat.le_refl _) (.cells (([⟨#[45]⟩, ⟨#[48]⟩, ⟨#[49]⟩, ⟨#[50]⟩] : List ByteArray).map Value.string).toArray 9)) hlt3)
      have HG3 := Lib.hid (HF3.out.alloc (.cells (([⟨#[45]⟩, ⟨#[48]⟩, ⟨#[49]⟩, ⟨#[50]⟩] : List ByteArray).map Value.string).toArray 9))
      go_wp2_with fail
      refine (ofZ rb w3.heap.size 1 (p + 1 + 1 + 1) [⟨#[45]⟩, ⟨#[48]⟩, ⟨#[49]⟩, ⟨#[50]⟩] _ HA3.out (by omega) HW3.out (by omega) (by decide) (by decide) (by decide)).mono ?_
      rintro e w4 ⟨u, rfl, uz, hrd4, ho4⟩
      have HR4 := Lib.hid hrd4
      have HF4 := Lib.hid (HG3.out.only ho4)
      have hlt4 : rb < w4.heap.size := hrd4.lt
      clear hrd4 ho4
      go_wp2_with fail
      go_ret
      exact linD_mk (s := ⟨#[99, 111, 117, 110, 116, 32]⟩ ++ x ++ ⟨#[32]⟩ ++ z ++ ⟨#[32]⟩ ++ u) (q := p + 1 + 1 + 1 + 1) (by simp only [ByteArray.size_append]; have q0 : (⟨#[99, 111, 117, 110, 116, 32]⟩ : ByteArray).size = 6 := rfl; have q1 : (⟨#[32]⟩ : ByteArray).size = 1 := rfl; have q2 : (⟨#[32]⟩ : ByteArray).size = 1 := rfl; omega) HR4.out (by omega) HF4.out
    · have f1 : (y == 1) = false := by rw [beq_eq_false_iff_ne]; exact e1
      by_cases e2 : y = 2
      · subst e2
        clear hy0 hy1
        go_wp2_with fail
        refine (pick_any rb 5 (p + 1) w1 HR1.out (by omega) (by omega)).mono ?_
        rintro e w2 ⟨a, rfl, a0, a1, hrd2, ho2⟩
        have HR2 := Lib.hid hrd2
        have HF2 := Lib.hid (HF1.out.only ho2)
        have hlt2 : rb < w2.heap.size := hrd2.lt
        clear hrd2 ho2
        have xhw : IntKind.i64.wrap (a) = a := IntWalk.i64_in _ ⟨by omega, by omega⟩
        go_wp2_with fail
        refine (decS ((a).toNat + 1) (a) w2 (by omega) (by omega) (by omega)).mono ?_
        rintro e w3 ⟨rfl, hb3⟩
        have xz := wd_short (n := a) (by omega) (by omega)
        obtain ⟨x, hx⟩ : ∃ x, wd (a) = x := ⟨_, rfl⟩
        rw [hx] at xz ⊢
        have HR3 := Lib.hid (HR2.out.keep hb3 hlt2)
        have HF3 := Lib.hid (HF2.out.below hb3)
        have hlt3 : rb < w3.heap.size := Nat.lt_of_lt_of_le hlt2 hb3.size
        clear hb3 hx
        go_wp2_with fail
        go_ret
        exact linD_mk (s := ⟨#[115, 109, 97, 108, 108, 32]⟩ ++ x) (q := p + 1 + 1) (by simp only [ByteArray.size_append]; have q0 : (⟨#[115, 109, 97, 108, 108, 32]⟩ : ByteArray).size = 6 := rfl; omega) HR3.out (by omega) HF3.out
      · have f2 : (y == 2) = false := by rw [beq_eq_false_iff_ne]; exact e2
        by_cases e3 : y = 3
        · subst e3
          clear hy0 hy1
          go_wp2_with fail
          refine (pick_any rb 3 (p + 1) w1 HR1.out (by omega) (by omega)).mono ?_
          rintro e w2 ⟨a, rfl, a0, a1, hrd2, ho2⟩
          have HR2 := Lib.hid hrd2
          have HF2 := Lib.hid (HF1.out.only ho2)
          have hlt2 : rb < w2.heap.size := hrd2.lt
          clear hrd2 ho2
          have xhw : IntKind.i64.wrap (1 + a) = 1 + a := IntWalk.i64_in _ ⟨by omega, by omega⟩
          go_wp2_with fail
          refine (decS ((1 + a).toNat + 1) (1 + a) w2 (by omega) (by omega) (by omega)).mono ?_
          rintro e w3 ⟨rfl, hb3⟩
          have xz := wd_short (n := 1 + a) (by omega) (by omega)
          obtain ⟨x, hx⟩ : ∃ x, wd (1 + a) = x := ⟨_, rfl⟩
          rw [hx] at xz ⊢
          have HR3 := Lib.hid (HR2.out.keep hb3 hlt2)
          have HF3 := Lib.hid (HF2.out.below hb3)
          have hlt3 : rb < w3.heap.size := Nat.lt_of_lt_of_le hlt2 hb3.size
          clear hb3 hx
          go_wp2_with fail
          refine (pick_any rb 3 (p + 1 + 1) w3 HR3.out (by omega) (by omega)).mono ?_
          rintro e w4 ⟨c, rfl, c0, c1, hrd4, ho4⟩
          have HR4 := Lib.hid hrd4
          have HF4 := Lib.hid (HF3.out.only ho4)
          have hlt4 : rb < w4.heap.size := hrd4.lt
          clear hrd4 ho4
          have zhw : IntKind.i64.wrap (c) = c := IntWalk.i64_in _ ⟨by omega, by omega⟩
          go_wp2_with fail
          refine (decS ((c).toNat + 1) (c) w4 (by omega) (by omega) (by omega)).mono ?_
          rintro e w5 ⟨rfl, hb5⟩
          have zz := wd_short (n := c) (by omega) (by omega)
          obtain ⟨z, hz⟩ : ∃ z, wd (c) = z := ⟨_, rfl⟩
          rw [hz] at zz ⊢
          have HR5 := Lib.hid (HR4.out.keep hb5 hlt4)
          have HF5 := Lib.hid (HF4.out.below hb5)
          have hlt5 : rb < w5.heap.size := Nat.lt_of_lt_of_le hlt4 hb5.size
          clear hb5 hz
          go_wp2_with fail
          go_ret
          exact linD_mk (s := ⟨#[103, 114, 111, 119, 32]⟩ ++ x ++ ⟨#[32]⟩ ++ z) (q := p + 1 + 1 + 1) (by simp only [ByteArray.size_append]; have q0 : (⟨#[103, 114, 111, 119, 32]⟩ : ByteArray).size = 5 := rfl; have q1 : (⟨#[32]⟩ : ByteArray).size = 1 := rfl; omega) HR5.out (by omega) HF5.out
        · have f3 : (y == 3) = false := by rw [beq_eq_false_iff_ne]; exact e3
          by_cases e4 : y = 4
          · subst e4
            clear hy0 hy1
            go_wp2_with fail
            refine (pick_any rb 7 (p + 1) w1 HR1.out (by omega) (by omega)).mono ?_
            rintro e w2 ⟨a, rfl, a0, a1, hrd2, ho2⟩
            have HR2 := Lib.hid hrd2
            have HF2 := Lib.hid (HF1.out.only ho2)
            have hlt2 : rb < w2.heap.size := hrd2.lt
            clear hrd2 ho2
            have xhw : IntKind.i64.wrap (1 + a) = 1 + a := IntWalk.i64_in _ ⟨by omega, by omega⟩
            go_wp2_with fail
            refine (decS ((1 + a).toNat + 1) (1 + a) w2 (by omega) (by omega) (by omega)).mono ?_
            rintro e w3 ⟨rfl, hb3⟩
            have xz := wd_short (n := 1 + a) (by omega) (by omega)
            obtain ⟨x, hx⟩ : ∃ x, wd (1 + a) = x := ⟨_, rfl⟩
            rw [hx] at xz ⊢
            have HR3 := Lib.hid (HR2.out.keep hb3 hlt2)
            have HF3 := Lib.hid (HF2.out.below hb3)
            have hlt3 : rb < w3.heap.size := Nat.lt_of_lt_of_le hlt2 hb3.size
            clear hb3 hx
            go_wp2_with fail
            go_ret
            exact linD_mk (s := ⟨#[114, 111, 117, 110, 100, 32]⟩ ++ x) (q := p + 1 + 1) (by simp only [ByteArray.size_append]; have q0 : (⟨#[114, 111, 117, 110, 100, 32]⟩ : ByteArray).size = 6 := rfl; omega) HR3.out (by omega) HF3.out
          · have f4 : (y == 4) = false := by rw [beq_eq_false_iff_ne]; exact e4
            by_cases e5 : y = 5
            · subst e5
              clear hy0 hy1
              have HW1 := Lib.hid (rowS_lit w1 [⟨#[]⟩, ⟨#[122, 122, 122]⟩, ⟨#[112, 101, 114, 115, 111, 110, 32, 52, 32, 48, 32, 48, 32, 49]⟩, ⟨#[112, 101, 114, 115, 111, 110, 32, 48, 32, 48, 32, 48, 32, 49, 48, 48, 48]⟩, ⟨#[112, 101, 114, 115, 111, 110, 32, 48, 32, 48, 32, 48]⟩, ⟨#[112, 101, 114, 115, 111, 110, 32, 48, 49, 32, 48, 48, 50, 32, 49, 32, 48, 48, 57, 57]⟩, ⟨#[116, 97, 98, 108, 101, 32, 49]⟩, ⟨#[103, 114, 111, 119, 32, 50, 32, 49, 48, 48]⟩, ⟨#[99, 111, 117, 110, 116, 32, 52, 32, 45, 32, 45]⟩, ⟨#[115, 109, 97, 108, 108, 32, 120]⟩, ⟨#[100, 114, 111, 112, 32, 45]⟩] 9)
              have HA1 := Lib.hid (HR1.out.keep ((Below.refl w1.heap.size w1).alloc (Nat.le_refl _) (.cells (([⟨#[]⟩, ⟨#[122, 122, 122]⟩, ⟨#[112, 101, 114, 115, 111, 110, 32, 52, 32, 48, 32, 48, 32, 49]⟩, ⟨#[112, 101, 114, 115, 111, 110, 32, 48, 32, 48, 32, 48, 32, 49, 48, 48, 48]⟩, ⟨#[112, 101, 114, 115, 111, 110, 32, 48, 32, 48, 32, 48]⟩, ⟨#[112, 101, 114, 115, 111, 110, 32, 48, 49, 32, 48, 48, 50, 32, 49, 32, 48, 48, 57, 57]⟩, ⟨#[116, 97, 98, 108, 101, 32, 49]⟩, ⟨#[103, 114, 111, 119, 32, 50, 32, 49, 48, 48]⟩, ⟨#[99, 111, 117, 110, 116, 32, 52, 32, 45, 32, 45]⟩, ⟨#[115, 109, 97, 108, 108, 32, 120]⟩, ⟨#[100, 114, 111, 112, 32, 45]⟩] : List ByteArray).map Value.string).toArray 9)) hlt1)
              have HG1 := Lib.hid (HF1.out.alloc (.cells (([⟨#[]⟩, ⟨#[122, 122, 122]⟩, ⟨#[112, 101, 114, 115, 111, 110, 32, 52, 32, 48, 32, 48, 32, 49]⟩, ⟨#[112, 101, 114, 115, 111, 110, 32, 48, 32, 48, 32, 48, 32, 49, 48, 48, 48]⟩, ⟨#[112, 101, 114, 115, 111, 110, 32, 48, 32, 48, 32, 48]⟩, ⟨#[112, 101, 114, 115, 111, 110, 32, 48, 49, 32, 48, 48, 50, 32, 49, 32, 48, 48, 57, 57]⟩, ⟨#[116, 97, 98, 108, 101, 32, 49]⟩, ⟨#[103, 114, 111, 119, 32, 50, 32, 49, 48, 48]⟩, ⟨#[99, 111, 117, 110, 116, 32, 52, 32, 45, 32, 45]⟩, ⟨#[115, 109, 97, 108, 108, 32, 120]⟩, ⟨#[100, 114, 111, 112, 32, 45]⟩] : List ByteArray).map Value.string).toArray 9))
              go_wp2_with fail
              refine (ofZ rb w1.heap.size 20 (p + 1) [⟨#[]⟩, ⟨#[122, 122, 122]⟩, ⟨#[112, 101, 114, 115, 111, 110, 32, 52, 32, 48, 32, 48, 32, 49]⟩, ⟨#[112, 101, 114, 115, 111, 110, 32, 48, 32, 48, 32, 48, 32, 49, 48, 48, 48]⟩, ⟨#[112, 101, 114, 115, 111, 110, 32, 48, 32, 48, 32, 48]⟩, ⟨#[112, 101, 114, 115, 111, 110, 32, 48, 49, 32, 48, 48, 50, 32, 49, 32, 48, 48, 57, 57]⟩, ⟨#[116, 97, 98, 108, 101, 32, 49]⟩, ⟨#[103, 114, 111, 119, 32, 50, 32, 49, 48, 48]⟩, ⟨#[99, 111, 117, 110, 116, 32, 52, 32, 45, 32, 45]⟩, ⟨#[115, 109, 97, 108, 108, 32, 120]⟩, ⟨#[100, 114, 111, 112, 32, 45]⟩] _ HA1.out (by omega) HW1.out (by omega) (by decide) (by decide) (by decide)).mono ?_
              rintro e w2 ⟨x, rfl, xz, hrd2, ho2⟩
              have HR2 := Lib.hid hrd2
              have HF2 := Lib.hid (HG1.out.only ho2)
              have hlt2 : rb < w2.heap.size := hrd2.lt
              clear hrd2 ho2
              go_wp2_with fail
              go_ret
              exact linD_mk (s := x) (q := p + 1 + 1) (by omega) HR2.out (by omega) HF2.out
            · have f5 : (y == 5) = false := by rw [beq_eq_false_iff_ne]; exact e5
              clear hy0 hy1 e0 e1 e2 e3 e4 e5
              have HW1 := Lib.hid (rowS_lit w1 [⟨#[116, 97, 98, 108, 101]⟩, ⟨#[103, 114, 111, 117, 112, 115]⟩] 9)
              have HA1 := Lib.hid (HR1.out.keep ((Below.refl w1.heap.size w1).alloc (Nat.le_refl _) (.cells (([⟨#[116, 97, 98, 108, 101]⟩, ⟨#[103, 114, 111, 117, 112, 115]⟩] : List ByteArray).map Value.string).toArray 9)) hlt1)
              have HG1 := Lib.hid (HF1.out.alloc (.cells (([⟨#[116, 97, 98, 108, 101]⟩, ⟨#[103, 114, 111, 117, 112, 115]⟩] : List ByteArray).map Value.string).toArray 9))
              go_wp2_with fail
              refine (ofZ rb w1.heap.size 6 (p + 1) [⟨#[116, 97, 98, 108, 101]⟩, ⟨#[103, 114, 111, 117, 112, 115]⟩] _ HA1.out (by omega) HW1.out (by omega) (by decide) (by decide) (by decide)).mono ?_
              rintro e w2 ⟨x, rfl, xz, hrd2, ho2⟩
              have HR2 := Lib.hid hrd2
              have HF2 := Lib.hid (HG1.out.only ho2)
              have hlt2 : rb < w2.heap.size := hrd2.lt
              clear hrd2 ho2
              go_wp2_with fail
              go_ret
              exact linD_mk (s := x) (q := p + 1 + 1) (by omega) HR2.out (by omega) HF2.out
end Go.Proofs.YtlmlchkolcmhpaaGreatDoor
end

section
/-
  Contracts: spec.l6Many (of one text), spec.DrawExecute: some string that is not long.
-/
namespace Go.Proofs.YtlmlchkolcmhpaaGreatDoor
open Go.RowKit
open Go.TextMath (text)

theorem IsRd.nn {w : World} {rb : Nat} {p : Int} (h : IsRd w rb p) : 0 ≤ p := by
  obtain ⟨_, _, _, _, _, _, _, _, _, _, h⟩ := h
  exact h
theorem tp_sizeX (L : List Per) (h : L.length ≤ 12) : (tp L).size ≤ 500 := by
  cases hv : pplB L with
  | false => rw [tp_f hv]; exact Nat.zero_le _
  | true =>
    rw [tp_t hv]
    have h := text_short (M := []) (ppl_fit hv) (rowsOf L).length (Nat.le_refl _)
    rw [List.take_length, rowsOf_len] at h
    simp [ByteArray.size]
    omega

set_option maxHeartbeats 2000000 in
theorem manyD (w : World) : Calls Tryz.prog 28 #[.string ⟨#[116, 97, 98, 108, 101, 10]⟩, .int .i64 90] w fun e w' => ∃ S : ByteArray, e = .returned (.string S) ∧ S.size ≤ 540 ∧ w = w' := by
  go_enter Tryz.func28, Tryz.ntmps28
  go_wp2_with fail
  go_loopw [0, 1, 5] (fun s n o W => ∃ (S O : ByteArray) (N : Int) (m : Nat), s = .string S ∧ n = .int .i64 N ∧ o = .string O ∧ N = m ∧ m ≤ 90 ∧ O.size + m * S.size ≤ 540 ∧ S.size ≤ 1080 ∧ W = w) (fun _ n _ _ => (intOf n).toNat)
  case atStart => exact ⟨⟨#[116, 97, 98, 108, 101, 10]⟩, ⟨#[]⟩, 90, 90, rfl, rfl, rfl, rfl, by omega, by decide, by decide, rfl⟩
  case round =>
    obtain ⟨S, O, N, m, rfl, rfl, rfl, hN, hm, hsz, hS, rfl⟩ := hrel
    by_cases h0 : 0 < N
    · have e1 : Int.tdiv N 2 = N / 2 := Int.tdiv_eq_ediv_of_nonneg (by omega)
      have e3 : Int.tmod N 2 = N % 2 := Int.tmod_eq_emod_of_nonneg (by omega)
      have hSm : S.size ≤ 540 := by
        have := Nat.le_mul_of_pos_left S.size (show 0 < m by omega)
        omega
      have hOO : O.size ≤ 540 := by omega
      have hlen : (S ++ S).size = S.size + S.size := ByteArray.size_append
      have hlen2 : (O ++ S).size = O.size + S.size := ByteArray.size_append
      by_cases h1 : N % 2 = 1
      · have hk : Hid (∃ k : Nat, N / 2 = k ∧ m = 2 * k + 1) := Lib.hid ⟨(N / 2).toNat, by omega, by omega⟩
        have HSZ := Lib.hid hsz
        have HNM := Lib.hid hN
        obtain ⟨D, hD⟩ : ∃ D, N / 2 = D := ⟨_, rfl⟩
        have HD := Lib.hid hD
        rw [hD] at e1
        rw [h1] at e3
        have hw : IntKind.i64.wrap D = D := IntWalk.i64_in _ ⟨by omega, by omega⟩
        clear h1 hD hN hsz
        go_wp2_with fail
        go_roundw
        case rel =>
          obtain ⟨k, hk1, hk2⟩ := hk.out
          refine ⟨S ++ S, O ++ S, D, k, rfl, rfl, rfl, by rw [← HD.out]; exact hk1, by omega, ?_, by rw [hlen]; omega, trivial⟩
          have h9 := HSZ.out
          rw [hk2, Nat.add_mul, Nat.one_mul, Nat.mul_assoc] at h9
          rw [hlen, hlen2, Nat.mul_add]
          omega
        case measure =>
          have := HD.out
          simp [intOf]; omega
      · have h1' : N % 2 = 0 := by omega
        have hk : Hid (∃ k : Nat, N / 2 = k ∧ m = 2 * k) := Lib.hid ⟨(N / 2).toNat, by omega, by omega⟩
        have HSZ := Lib.hid hsz
        have HNM := Lib.hid hN
        obtain ⟨D, hD⟩ : ∃ D, N / 2 = D := ⟨_, rfl⟩
        have HD := Lib.hid hD
        rw [hD] at e1
        rw [h1'] at e3
        have hw : IntKind.i64.wrap D = D := IntWalk.i64_in _ ⟨by omega, by omega⟩
        clear h1 h1' hD hN hsz
        go_wp2_with fail
        go_roundw
        case rel =>
          obtain ⟨k, hk1, hk2⟩ := hk.out
          refine ⟨S ++ S, O, D, k, rfl, rfl, rfl, by rw [← HD.out]; exact hk1, by omega, ?_, by rw [hlen]; omega, trivial⟩
          have h9 := HSZ.out
          rw [hk2, Nat.mul_assoc] at h9
          rw [hlen, Nat.mul_add]
          omega
        case measure =>
          have := HD.out
          simp [intOf]; omega
    · have hO : O.size ≤ 540 := by omega
      clear hN hsz
      go_wp2_with fail
      go_ret
      exact ⟨O, rfl, hO, rfl⟩

/-- A drawn script. -/
def ScrP (w : World) (e : Ending) (w' : World) : Prop := ∃ S : ByteArray, e = .returned (.string S) ∧ S.size ≤ 20000 ∧ Below w.heap.size w w'

set_option maxRecDepth 100000 in
set_option maxHeartbeats 4000000 in
theorem drawExD (ao : Option Addr) (b off cap : Nat) (cs : List Int) (w : World) (hr : Row .u8 w ao b off cs) (hl : cs.length ≤ cap ∧ cap ≤ 9223372036854775807) (hw : ∀ i, i < cs.length → (Lit.int .u8 (cs.getD i 0)).wf = true) :
    Calls Tryz.prog 12 #[.slice ao cs.length cap] w (ScrP w) := by
  have HO := Lib.hid (open_any ao b off cap cs w hr hl.1 hw hl.2)
  clear hr hw
  go_enter Tryz.func12, Tryz.ntmps12
  go_wp2_with fail
  refine (HO.out).mono ?_
  rintro e w1 ⟨rfl, hb1, hrd1, hs1⟩
  have HB1 := Lib.hid hb1
  have HR1 := Lib.hid hrd1
  have HS1 := Lib.hid hs1
  have hlt1 : w.heap.size < w1.heap.size := hrd1.lt
  clear hb1 hrd1 hs1
  go_wp2_with fail
  refine (peopleD w.heap.size 6 0 w1 HR1.out (by omega) (by omega) (by omega)).mono ?_
  rintro e w2 ⟨ao2, b2, cap2, L, rfl, hT, hc1, hc2, hT4, hfr2, q2, hrd2, hq2⟩
  have HT := Lib.hid hT
  have HR2 := Lib.hid hrd2
  have HB2 := Lib.hid (HB1.out.trans (hfr2.toBelow (Nat.le_refl _) (by rw [HS1.out]; omega)))
  have hlt2 : w.heap.size < w2.heap.size := hrd2.lt
  clear hT hrd2 hfr2
  go_wp2_with fail
  go_loopw [4, 6] (fun s i W => ∃ (S : ByteArray) (k : Nat), s = .string S ∧ i = .int .i64 k ∧ k ≤ L.length ∧ S.size ≤ 600 * k ∧ Below w2.heap.size w2 W) (fun _ i _ => L.length - (intOf i).toNat)
  case atStart => exact ⟨⟨#[]⟩, 0, rfl, rfl, Nat.zero_le _, Nat.zero_le _, Below.refl _ _⟩
  case round =>
    obtain ⟨S, k, rfl, rfl, hk, hS, hb⟩ := hrel
    have HB := Lib.hid hb
    by_cases hlt : k < L.length
    · have hp2 := HT.out.keep hb (Nat.le_refl _)
      obtain rfl := hp2.1 (by omega)
      have HP := Lib.hid (show Ppl wr (some ⟨b2, k * 4, none⟩) b2 (k * 4) [L.getD k per0] from ⟨fun _ => rfl, fun i hi => by
        obtain rfl : i = 0 := by simp at hi; omega
        have h9 := hp2.2 k hlt
        simpa using h9⟩)
      have hkl : (k : Int) < (L.length : Int) := by omega
      have hkc : k < cap2 := by omega
      have hkc2 : cap2 ≠ k := by omega
      have hkc3 : k + 1 ≤ cap2 := by omega
      have hw1 : IntKind.i64.wrap ((k : Int) + 1) = ((k + 1 : Nat) : Int) := by rw [IntWalk.i64_in _ ⟨by omega, by omega⟩]; rfl
      have HPT := Lib.hid (peopleTextS (some ⟨b2, k * 4, none⟩) b2 (k * 4) (cap2 - k) [L.getD k per0] wr HP.out (by simp))
      have htz := tp_sizeX [L.getD k per0] (by simp)
      obtain ⟨X, hX⟩ : ∃ X, tp [L.getD k per0] = X := ⟨_, rfl⟩
      rw [hX] at HPT htz
      simp only [List.length_cons, List.length_nil, Nat.zero_add] at HPT
      clear hb hp2 hX
      have hlen : (S ++ ⟨#[112, 101, 114, 115, 111, 110, 32]⟩ ++ X).size = S.size + 7 + X.size := by
        rw [ByteArray.size_append, ByteArray.size_append]; rfl
      have hlen2 : (S ++ ⟨#[112, 101, 114, 115, 111, 110, 32]⟩).size = S.size + 7 := by
        rw [ByteArray.size_append]; rfl
      go_wp2_with fail
      refine (HPT.out).mono ?_
      rintro e w3 ⟨rfl, hb3⟩
      have HB3 := Lib.hid (HB.out.trans (hb3.mono HB.out.size))
      clear hb3
      by_cases hx : X.toList = []
      · have x1 : (X.toList == []) = true := by rw [hx]; rfl
        have x2 : (X.toList != []) = false := by rw [hx]; rfl
        clear hx
        go_wp2_with fail
        go_roundw
        case rel => exact ⟨S, k + 1, rfl, by go_num, by omega, by omega, HB3.out⟩
        case measure => simp [intOf]; omega
      · have x1 : (X.toList == []) = false := by rw [beq_eq_false_iff_ne]; exact hx
        have x2 : (X.toList != []) = true := by rw [bne_iff_ne]; exact hx
        clear hx
        go_wp2_with fail
        go_roundw
        case rel => exact ⟨S ++ ⟨#[112, 101, 114, 115, 111, 110, 32]⟩ ++ X, k + 1, rfl, by go_num, by omega, by rw [hlen]; omega, HB3.out⟩
        case measure => simp [intOf]; omega
    · obtain rfl : k = L.length := by omega
      have hkl : ¬ ((L.length : Int) < (L.length : Int)) := by omega
      have HR3 := Lib.hid (HR2.out.keep hb hlt2)
      have HB3 := Lib.hid (HB2.out.trans (hb.mono HB2.out.size))
      have hS0 : S.size ≤ 7200 := by omega
      clear hb hS
      go_wp2_with fail
      refine (pick_any w.heap.size 5 q2 wr HR3.out (by omega) (by omega)).mono ?_
      rintro e w4 ⟨y, rfl, hy0, hy1, hrd4, ho4⟩
      have HB4 := Lib.hid (HB3.out.trans (ho4.below (Nat.le_refl _)))
      have HR4 := Lib.hid hrd4
      obtain ⟨n, rfl⟩ : ∃ n : Nat, y = n := ⟨y.toNat, by omega⟩
      have hn5 : n ≤ 4 := by omega
      clear hrd4 ho4 hy0 hy1
      go_wp2_with fail
      go_loopw [4, 9] (fun s i W => ∃ (S : ByteArray) (k : Nat) (q : Int), s = .string S ∧ i = .int .i64 k ∧ k ≤ n ∧ S.size ≤ 7200 + 100 * k ∧ IsRd W w.heap.size q ∧ q ≤ 2001 + 4 * k ∧ Below w.heap.size w W) (fun _ i _ => n - (intOf i).toNat)
      case atStart => exact ⟨S, 0, _, rfl, rfl, Nat.zero_le _, by omega, HR4.out, by omega, HB4.out⟩
      case round =>
        clear HB3 HB4 HR3 HR4 hS0
        obtain ⟨S, k, q, rfl, rfl, hk, hS, hrd, hq, hb⟩ := hrel
        have HR := Lib.hid hrd
        have HB := Lib.hid hb
        have hlt := hrd.lt
        have hq0 := hrd.nn
        clear hrd hb
        by_cases hkn : k < n
        · have hkni : (k : Int) < (n : Int) := by omega
          go_wp2_with fail
          refine (lineD w.heap.size q wr HR.out hq0 (by omega)).mono ?_
          rintro e w5 ⟨x, q', rfl, hx, hrd5, hq5, hfr5⟩
          have HR5 := Lib.hid hrd5
          have HB5 := Lib.hid (HB.out.trans (hfr5.toBelow (Nat.le_refl _) HB.out.size))
          have hlen : (S ++ x ++ ⟨#[10]⟩).size = S.size + x.size + 1 := by
            rw [ByteArray.size_append, ByteArray.size_append]; rfl
          have hlen2 : (S ++ x).size = S.size + x.size := ByteArray.size_append
          clear hrd5 hfr5
          go_wp2_with fail
          go_roundw
          case rel => exact ⟨S ++ x ++ ⟨#[10]⟩, k + 1, q', rfl, by go_num, by omega, by rw [hlen]; omega, HR5.out, by omega, HB5.out⟩
          case measure => simp [intOf]; omega
        · obtain rfl : k = n := by omega
          have hkni : ¬ ((k : Int) < (k : Int)) := by omega
          go_wp2_with fail
          refine (pick_any w.heap.size 24 q wr HR.out (by omega) (by omega)).mono ?_
          rintro e w5 ⟨y, rfl, hy0, hy1, hrd5, ho5⟩
          have HB5 := Lib.hid (HB.out.trans (ho5.below (Nat.le_refl _)))
          clear hrd5 ho5
          by_cases e0 : y = 0
          · subst e0
            clear hy0 hy1
            go_wp2_with fail
            go_ret
            exact ⟨S ++ ⟨#[116, 97, 98, 108, 101]⟩, rfl, by rw [ByteArray.size_append]; have : (⟨#[116, 97, 98, 108, 101]⟩ : ByteArray).size = 5 := rfl; omega, HB5.out⟩
          · have f0 : (y == 0) = false := by rw [beq_eq_false_iff_ne]; exact e0
            by_cases e1 : y = 1
            · subst e1
              clear hy0 hy1 e0
              go_wp2_with fail
              refine (manyD w5).mono ?_
              rintro e w6 ⟨Z, rfl, hZ, rfl⟩
              go_wp2_with fail
              go_ret
              exact ⟨S ++ Z, rfl, by rw [ByteArray.size_append]; omega, HB5.out⟩
            · have f1 : (y == 1) = false := by rw [beq_eq_false_iff_ne]; exact e1
              clear hy0 hy1 e0 e1
              go_wp2_with fail
              go_ret
              exact ⟨S, rfl, by omega, HB5.out⟩
end Go.Proofs.YtlmlchkolcmhpaaGreatDoor
end

section
/-
  Plain mathematics of scripts: their whole lines, further lines behind them, the last line that is printed.
-/
namespace Go.Proofs.YtlmlchkolcmhpaaGreatDoor
open Go.RowKit
open Go.TextMath (tvB mvB text word line)
open Go.ParseMath

theorem scriptOf_cut : ∀ l : List UInt8, scriptOf (cutL 10 l) = l ++ [10]
  | [] => rfl
  | x :: r => by
    have ih := scriptOf_cut r
    rw [cutL_cons]
    by_cases h : x = 10
    · rw [if_pos h]
      show ([] ++ [10]) ++ scriptOf (cutL 10 r) = _
      rw [ih, h]
      rfl
    · rw [if_neg h]
      cases hc : cutL 10 r with
      | nil => exact absurd hc (cutL_ne _ _)
      | cons u us =>
        rw [hc] at ih
        show ((x :: u) ++ [10]) ++ scriptOf us = _
        have h2 : (u ++ [10]) ++ scriptOf us = r ++ [10] := ih
        rw [List.cons_append, List.cons_append, h2]
        rfl
theorem cutL_app (c : UInt8) (b : List UInt8) : ∀ a : List UInt8, cutL c (a ++ c :: b) = cutL c a ++ cutL c b
  | [] => by
    rw [List.nil_append, cutL_cons, if_pos rfl]
    rfl
  | x :: r => by
    have ih := cutL_app c b r
    rw [List.cons_append, cutL_cons, cutL_cons, ih]
    by_cases h : x = c
    · rw [if_pos h, if_pos h]
      rfl
    · rw [if_neg h, if_neg h]
      cases hc : cutL c r with
      | nil => exact absurd hc (cutL_ne _ _)
      | cons u us => rfl
/-- A script up to its last line's end. -/
def compM (l : List UInt8) : List UInt8 := scriptOf ((cutL 10 l).dropLast)
theorem comp_at {a b : List UInt8} (h : (10 : UInt8) ∉ b) : compM (a ++ 10 :: b) = a ++ [10] := by
  unfold compM
  rw [cutL_app, cutL_none h, List.dropLast_concat, scriptOf_cut]
theorem comp_none {l : List UInt8} (h : (10 : UInt8) ∉ l) : compM l = [] := by
  unfold compM
  rw [cutL_none h]
  rfl
theorem cut_more {l : List UInt8} {ts : List (List UInt8)} (h : ∀ t ∈ ts, (10 : UInt8) ∉ t) : (cutL 10 (compM l ++ scriptOf ts)).dropLast = (cutL 10 l).dropLast ++ ts := by
  unfold compM
  rw [← scriptOf_append, cut_script]
  intro t ht
  rcases List.mem_append.1 ht with ht | ht
  · exact (cutL_mem ((List.dropLast_sublist _).subset ht)).1
  · exact h t ht
/-- What is printed last. -/
def peopleL (L : List Per) : List UInt8 := sPeople ++ word (L.length : Int) ++ [10]
theorem exec_more {l : List UInt8} {ts : List (List UInt8)} (h : ∀ t ∈ ts, (10 : UInt8) ∉ t) (h5 : (compM l ++ scriptOf ts).length ≤ 500) :
    execM (compM l ++ scriptOf ts) = (runM [] (linesM l)).2 ++ (runM (runM [] (linesM l)).1 (ts.map (cutL 32))).2 ++ peopleL (runM (runM [] (linesM l)).1 (ts.map (cutL 32))).1 := by
  unfold execM
  rw [if_pos h5, cut_more h, List.map_append, runM_append]
  unfold peopleL linesM
  simp only [List.append_assoc]
theorem exec_comp {l : List UInt8} (h5 : (compM l).length ≤ 500) : execM (compM l) = (runM [] (linesM l)).2 ++ peopleL (runM [] (linesM l)).1 := by
  have h := exec_more (l := l) (ts := []) (by simp) (by simpa [scriptOf] using h5)
  rw [show scriptOf [] = [] from rfl, List.append_nil] at h
  rw [h]
  simp [runM_nil]
theorem exec_is {l : List UInt8} (h5 : l.length ≤ 500) : execM l = (runM [] (linesM l)).2 ++ peopleL (runM [] (linesM l)).1 := by
  unfold execM
  rw [if_pos h5]
  unfold peopleL linesM
  simp only [List.append_assoc]
theorem comp_le (l : List UInt8) : (compM l).length ≤ l.length := by
  by_cases h : (10 : UInt8) ∈ l
  · obtain ⟨a, b, hab, hb⟩ : ∃ a b, l = a ++ 10 :: b ∧ (10 : UInt8) ∉ b := by
      induction l with
      | nil => simp at h
      | cons x r ih =>
        by_cases hr : (10 : UInt8) ∈ r
        · obtain ⟨a, b, rfl, hb⟩ := ih hr
          exact ⟨x :: a, b, rfl, hb⟩
        · have hx : x = 10 := by
            rcases List.mem_cons.1 h with h | h
            · exact h.symm
            · exact absurd h hr
          exact ⟨[], r, by rw [hx]; rfl, hr⟩
    rw [hab, comp_at hb]
    simp
  · rw [comp_none h]
    simp
/-- Nothing, or with a line's end behind. -/
def EndB (o : List UInt8) : Prop := o = [] ∨ ∃ a, o = a ++ [10]
theorem EndB.app {a b : List UInt8} (ha : EndB a) (hb : EndB b) : EndB (a ++ b) := by
  rcases hb with rfl | ⟨c, rfl⟩
  · rw [List.append_nil]; exact ha
  · exact .inr ⟨a ++ c, by rw [List.append_assoc]⟩
theorem text_end {T : List (List Int)} (M : List (List Bool)) : EndB (text T M) := by
  by_cases h : T.length = 0
  · rw [List.eq_nil_of_length_eq_zero h]; exact .inl rfl
  · have h3 := text_take (T := T) (k := T.length - 1) M (by omega)
    rw [show T.length - 1 + 1 = T.length by omega, List.take_length] at h3
    rw [h3]
    have hl : ∀ ws : List (List UInt8), ∃ x, line ws = x ++ [10] := fun ws => ⟨_, rfl⟩
    obtain ⟨x, hx⟩ := hl (Go.TextMath.rowW (T.getD (T.length - 1) []) (M.getD (T.length - 1) []))
    rw [hx, ← List.append_assoc]
    exact .inr ⟨_, rfl⟩
theorem step_end (L : List Per) (ws : List (List UInt8)) : EndB (stepM L ws).2 := by
  have e1 : EndB sOk := .inr ⟨[111, 107], rfl⟩
  have e2 : EndB sNo := .inr ⟨[110, 111], rfl⟩
  have e3 : EndB sWhat := .inr ⟨[119, 104, 97, 116], rfl⟩
  unfold stepM
  split
  · split
    · exact e1
    · exact e2
  · split
    · exact e1
    · exact e2
  · show EndB (countM _ _)
    unfold countM
    split
    · exact text_end _
    · exact e2
  · exact text_end _
  · exact text_end _
  · show EndB (growS _ _ _)
    unfold growS
    split
    · exact e2
    · exact text_end _
  · show EndB (roundM _ _)
    unfold roundM
    split
    · exact text_end _
    · exact e2
  · exact text_end _
  · exact e3
theorem run_end (L : List Per) (ls : List (List (List UInt8))) : EndB (runM L ls).2 := by
  induction ls using snoc_ind with
  | h0 => exact .inl rfl
  | hs l x ih => rw [runM_snoc]; exact ih.app (step_end _ _)
theorem people_no (L : List Per) : (10 : UInt8) ∉ sPeople ++ word (L.length : Int) := by
  rw [List.mem_append, not_or]
  refine ⟨by decide, fun h => ?_⟩
  have := dec_range L.length 10 (by simpa [word] using h)
  simp at this
end Go.Proofs.YtlmlchkolcmhpaaGreatDoor
end

section
/-
  Contracts: laws.complete, laws.lastLine.
-/
namespace Go.Proofs.YtlmlchkolcmhpaaGreatDoor
open Go.RowKit
open Go.ParseMath

theorem bytes_ext {a b : ByteArray} (h : a.data.toList = b.data.toList) : a = b := ByteArray.ext (Array.toList_inj.1 h)
theorem comp_here {s : ByteArray} {j : Nat} (hj : j < s.size) (hx : s[j]'hj = 10) (hno : (10 : UInt8) ∉ s.data.toList.drop (j + 1)) : s.extract 0 (j + 1) = bs (compM s.data.toList) := by
  have hj2 : j < s.data.toList.length := by rw [Array.length_toList]; exact hj
  have hx2 : s.data.toList[j]'hj2 = 10 := by rw [Array.getElem_toList]; exact hx
  apply bytes_ext
  rw [ex_list, List.drop_zero]
  show _ = compM s.data.toList
  have h : s.data.toList = s.data.toList.take j ++ 10 :: s.data.toList.drop (j + 1) := by
    conv => lhs; rw [← List.take_append_drop j s.data.toList, List.drop_eq_getElem_cons hj2, hx2]
  conv => rhs; rw [h]
  rw [comp_at hno, List.take_succ_eq_append_getElem hj2, hx2]

set_option maxHeartbeats 2000000 in
theorem completeD (s : ByteArray) (hs : s.size ≤ 1000000) (w : World) :
    Calls Tryz.prog 13 #[.string s] w fun e w' => e = .returned (.string (bs (compM s.data.toList))) ∧ w = w' := by
  go_enter Tryz.func13, Tryz.ntmps13
  go_wp2_with fail
  go_loopw [3] (fun t W => ∃ k : Nat, t = .int .i64 k ∧ k ≤ s.size ∧ (10 : UInt8) ∉ s.data.toList.drop k ∧ W = w) (fun t _ => (intOf t).toNat)
  case atStart => exact ⟨s.size, rfl, Nat.le_refl _, by rw [List.drop_of_length_le (by rw [Array.length_toList]; exact Nat.le_refl _)]; simp, rfl⟩
  case round =>
    obtain ⟨k, rfl, hk, hno, rfl⟩ := hrel
    by_cases h0 : 0 < k
    · obtain ⟨j, rfl⟩ : ∃ j, k = j + 1 := ⟨k - 1, by omega⟩
      have hjl : j < s.size := by omega
      have hw1 : IntKind.i64.wrap ((j : Int) + 1 - 1) = (j : Int) := by rw [Int.add_sub_cancel]; exact IntWalk.i64_in _ ⟨by omega, by omega⟩
      have hj0 : (0 : Int) < (j : Int) + 1 := by omega
      by_cases hx : s[j]'hjl = 10
      · have hq : (((s[j]'hjl).toNat : Int) == 10) = true := by rw [hx]; rfl
        have HRES := Lib.hid (comp_here hjl hx hno)
        clear hx hno
        go_wp2_with fail
        go_ret
        exact ⟨by rw [← HRES.out]; rfl, rfl⟩
      · have hq : (((s[j]'hjl).toNat : Int) == 10) = false := by
          rw [beq_eq_false_iff_ne]
          intro e
          apply hx
          apply UInt8.toNat_inj.1
          show (s[j]'hjl).toNat = 10
          omega
        have hj2 : j < s.data.toList.length := by rw [Array.length_toList]; exact hjl
        have HNO := Lib.hid (show (10 : UInt8) ∉ s.data.toList.drop j by
          rw [List.drop_eq_getElem_cons hj2, List.mem_cons, not_or]
          exact ⟨fun e => hx (by rw [e, Array.getElem_toList]; rfl), hno⟩)
        clear hx hno
        go_wp2_with fail
        go_roundw
        case rel => exact ⟨j, by go_num, by omega, HNO.out, trivial⟩
        case measure => simp [intOf]
    · obtain rfl : k = 0 := by omega
      have HRES := Lib.hid (show compM s.data.toList = [] from comp_none (by simpa using hno))
      clear hno
      go_wp2_with fail
      go_ret
      exact ⟨by rw [HRES.out]; rfl, rfl⟩

theorem take_le_get {l : List UInt8} {o p : List UInt8} {z : Nat} (h : l = o ++ p ++ [10]) (hz : z < p.length) : l[o.length + z]? = p[z]? := by
  rw [h, List.append_assoc, List.getElem?_append_right (by omega), Nat.add_sub_cancel_left, List.getElem?_append_left hz]

set_option maxHeartbeats 2000000 in
theorem lastD (s : ByteArray) (hs : s.size ≤ 1000000) (o p : List UInt8) (hsp : s.data.toList = o ++ p ++ [10]) (hp : (10 : UInt8) ∉ p) (ho : EndB o) (w : World) :
    Calls Tryz.prog 14 #[.string s] w fun e w' => e = .returned (.string (bs (p ++ [10]))) ∧ w = w' := by
  have hlen : s.size = o.length + p.length + 1 := by
    have := congrArg List.length hsp
    rw [Array.length_toList] at this
    simp only [List.length_append, List.length_cons, List.length_nil] at this
    exact this
  have HRES := Lib.hid (show s.extract o.length s.size = bs (p ++ [10]) from bytes_ext (by
    rw [ex_list, List.take_of_length_le (by rw [Array.length_toList]; exact Nat.le_refl _), hsp, List.append_assoc, List.drop_left]
    rfl))
  have HALL := Lib.hid (fun (h : o.length = 0) => (show s = bs (p ++ [10]) from bytes_ext (by
    rw [hsp, List.eq_nil_of_length_eq_zero h]
    rfl)))
  have HNO := Lib.hid (fun z (hz : z < p.length) (hj : o.length + z < s.size) => (show (((s[o.length + z]'hj).toNat : Int) == 10) = false by
    rw [beq_eq_false_iff_ne]
    intro e
    apply hp
    have h1 := take_le_get hsp hz
    have hj2 : o.length + z < s.data.toList.length := by rw [Array.length_toList]; exact hj
    rw [List.getElem?_eq_getElem hj2, List.getElem?_eq_getElem hz] at h1
    injection h1 with h1
    have h2 : p[z] = 10 := by
      rw [← h1, Array.getElem_toList]
      apply UInt8.toNat_inj.1
      show (s[o.length + z]'hj).toNat = 10
      omega
    rw [← h2]
    exact List.getElem_mem _))
  have HYES := Lib.hid (fun j (hj0 : j + 1 = o.length) (hj : j < s.size) => (show (((s[j]'hj).toNat : Int) == 10) = true by
    rcases ho with rfl | ⟨a, rfl⟩
    · simp at hj0
    · have hja : j = a.length := by simp at hj0; omega
      have hj2 : j < s.data.toList.length := by rw [Array.length_toList]; exact hj
      have h1 : s.data.toList[j]? = some 10 := by
        rw [hsp, hja]
        simp
      rw [List.getElem?_eq_getElem hj2] at h1
      injection h1 with h1
      rw [Array.getElem_toList] at h1
      have h2 : s[j]'hj = 10 := h1
      rw [h2]
      rfl))
  obtain ⟨n, hn⟩ : ∃ n, o.length = n := ⟨_, rfl⟩
  obtain ⟨m, hm⟩ : ∃ m, p.length = m := ⟨_, rfl⟩
  obtain ⟨R, hR⟩ : ∃ R, bs (p ++ [10]) = R := ⟨_, rfl⟩
  simp only [hn, hm, hR] at HRES HALL HNO HYES hlen ⊢
  clear hsp hp ho
  go_enter Tryz.func14, Tryz.ntmps14
  go_wp2_with fail
  go_loopw [3] (fun t W => ∃ (z : Nat) (I : Int), t = .int .i64 I ∧ I = (n : Int) + z - 1 ∧ z ≤ m ∧ W = w) (fun t _ => (intOf t + 1).toNat)
  case atStart => exact ⟨m, _, rfl, by omega, Nat.le_refl _, rfl⟩
  case round =>
    obtain ⟨z, I, rfl, hI, hz, rfl⟩ := hrel
    by_cases h0 : 0 ≤ I
    · obtain ⟨j, rfl⟩ : ∃ j : Nat, I = j := ⟨I.toNat, by omega⟩
      have hjl : j < s.size := by omega
      by_cases hz0 : z = 0
      · have hq := HYES.out j (by omega) hjl
        have hj1 : j + 1 = n := by omega
        have hw1 : IntKind.i64.wrap ((j : Int) + 1) = ((j + 1 : Nat) : Int) := by rw [IntWalk.i64_in _ ⟨by omega, by omega⟩]; rfl
        have hjs : (j : Int) + 1 ≤ (s.size : Int) := by omega
        have HR2 := Lib.hid (show s.extract (j + 1) s.size = R by rw [hj1]; exact HRES.out)
        clear hI hlen
        go_wp2_with fail
        go_ret
        exact ⟨by first | (rw [← HR2.out]; rfl) | (rw [← HRES.out]; rfl), rfl⟩
      · obtain ⟨y, rfl⟩ : ∃ y, z = y + 1 := ⟨z - 1, by omega⟩
        have hjn : j = n + y := by omega
        have hq : (((s[j]'hjl).toNat : Int) == 10) = false := by
          subst hjn
          exact HNO.out y (by omega) hjl
        have HI := Lib.hid hI
        clear hI hjn
        go_wp2_with fail
        go_roundw
        case rel => exact ⟨y, (j : Int) - 1, rfl, by have := HI.out; omega, by omega, trivial⟩
        case measure => simp [intOf]
    · have hn0 : n = 0 := by omega
      have HA := Lib.hid (HALL.out hn0)
      clear hI hlen
      go_wp2_with fail
      go_ret
      exact ⟨by rw [← HA.out]; rfl, rfl⟩
end Go.Proofs.YtlmlchkolcmhpaaGreatDoor
end
