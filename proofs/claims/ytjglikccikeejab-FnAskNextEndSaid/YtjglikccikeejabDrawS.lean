/-
  Contracts: spec.DrawAskSafe, spec.DrawAskNext.
-/
import Derived.Test.YtjglikccikeejabDrawL
import Derived.Test.YtjglikccikeejabAskN
namespace Go.Proofs.Ytjglikccikeejab
open Go.RowKit

set_option maxHeartbeats 1000000 in
theorem drawSafe_any (ao : Option Addr) (b off cap : Nat) (cs : List Int) (w : World) (hr : Row .u8 w ao b off cs) (hl : cs.length ≤ cap) (hw : ∀ i, i < cs.length → (Lit.int .u8 (cs.getD i 0)).wf = true) (hl2 : cap ≤ 9223372036854775807) :
    Calls Try.prog 27 #[.slice ao cs.length cap] w (DrawnM w) := by
  go_enter Try.func27, Try.ntmps27
  go_wp2_with fail
  refine (open_any ao b off cap cs w hr hl hw hl2).mono ?_
  rintro e w1 ⟨rfl, hb1, hrd1, hs1⟩
  obtain ⟨rb, hrb⟩ : ∃ rb, w.heap.size = rb := ⟨_, rfl⟩
  have HRB := Lib.hid hrb
  have HB1 := Lib.hid hb1
  rw [hrb] at hrd1 HB1
  have HR1 := Lib.hid hrd1
  have HS1 := Lib.hid (show w1.heap.size = rb + 1 by omega)
  rw [hrb]
  clear hb1 hrd1 hrb hr hw hs1
  go_wp2_with fail
  refine (pick_any rb 5 0 w1 HR1.out (by omega) (by omega)).mono ?_
  rintro e w2 ⟨k1, rfl, hk10, hk11, hrd2, ho2⟩
  have HR2 := Lib.hid (hrd2.alloc (.cells #[] 3))
  have HF2 := Lib.hid (((Fr.refl rb w1).only ho2).alloc (.cells #[] 3))
  have hs2 : w2.heap.size = rb + 1 := by rw [ho2.2.2.2.1, HS1.out]
  have HO2 := Lib.hid (show Own (w2.alloc (.cells #[] 3)) (rb + 1) (.slice (some ⟨w2.heap.size, 0, none⟩) 0 0) [] from Own.lit [] (Nat.le_of_eq hs2.symm) (by simp))
  have hk12 : k1 ≤ 4 := by omega
  clear hrd2 ho2 hk11 hs2
  go_wp2_with fail
  refine (pick_any rb 3 (0 + 1) _ HR2.out (by omega) (by omega)).mono ?_
  rintro e w3 ⟨k2, rfl, hk20, hk21, hrd3, ho3⟩
  have HR3 := Lib.hid hrd3
  have HF3 := Lib.hid (HF2.out.only ho3)
  have HO3 := Lib.hid (HO2.out.only ho3 (by omega))
  have hk22 : k2 ≤ 2 := by omega
  clear hrd3 ho3 hk21
  obtain ⟨m, rfl⟩ := Int.eq_ofNat_of_zero_le hk20
  go_wp2_with fail
  go_loopw [7, 9] (fun v i wr => ∃ (k : Nat) (zs : List Int), i = .int .i64 k ∧ k ≤ m ∧ zs.length ≤ k ∧ Own wr (rb + 1) v zs ∧ IsRd wr rb (0 + 1 + 1) ∧ Fr rb w1 wr) (fun _ i _ => m - (intOf i).toNat)
  case atStart => exact ⟨0, [], rfl, Nat.zero_le _, Nat.le_refl _, HO3.out, HR3.out, HF3.out⟩
  case round =>
    clear HO3 HR3 HF3
    obtain ⟨k, zs, rfl, hk, hzl, hO, hR, hF⟩ := hrel
    have HO := Lib.hid hO
    have HR := Lib.hid hR
    have HF := Lib.hid hF
    have hszr : rb < wr.heap.size := hR.lt
    clear hO hR hF
    by_cases hlt : k < m
    · obtain ⟨ax, bx, cx, hv, hxc, hxc2, hrx, hnx, _⟩ := HO.out.row2
      rename_i u7b _
      subst hv
      have HRX := Lib.hid hrx
      have HNX := Lib.hid hnx
      clear hrx hnx
      go_wp2_with fail
      refine (askNextS (2 + k1) ax bx 0 cx zs _ HRX.out HNX.out (by omega)).mono ?_
      obtain ⟨z, hz⟩ : ∃ z, nxt (2 + k1) zs = z := ⟨_, rfl⟩
      rw [hz]
      clear hz
      rintro e w4 ⟨rfl, hb4⟩
      have HO4 := Lib.hid (HO.out.below hb4)
      have HR4 := Lib.hid (HR.out.keep hb4 hszr)
      have HF4 := Lib.hid (HF.out.below hb4)
      clear hb4
      by_cases h0 : z = 0
      · subst h0
        go_wp2_with fail
        go_roundw
        case rel => exact ⟨k + 1, zs, by go_num, by omega, by omega, HO4.out, HR4.out, HF4.out⟩
        case measure => simp [intOf]; omega
      · have hzb : (z != 0) = true := by rw [bne_iff_ne]; exact h0
        have hs4 : rb + 1 ≤ w4.heap.size := by have := HR4.out.lt; omega
        go_wp2_with (at_builtin; refine wpList_app1 rfl (.tmp 32) (.tmp 34) rfl (rb + 1) _ zs rfl HO4.out z rfl rfl (by omega) hs4 ?_)
        intro v5 w5 hO5 hB5 _
        have HO5 := Lib.hid hO5
        have HR5 := Lib.hid (HR4.out.keep hB5 (by omega))
        have HF5 := Lib.hid (HF4.out.base (by rw [HS1.out]; exact hB5))
        clear hO5 hB5
        go_wp2_with fail
        go_roundw
        case rel => exact ⟨k + 1, zs ++ [(z : Int)], by go_num, by omega, by simp; omega, HO5.out, HR5.out, HF5.out⟩
        case measure => simp [intOf]; omega
    · have fin : ∀ (i : Int) (w' : World), Only rb wr w' ∨ True → True := fun _ _ _ => trivial
      clear fin
      go_wp2_with fail
      refine (pick_any rb 20 (0 + 1 + 1) _ HR.out (by omega) (by omega)).mono ?_
      rintro e w4 ⟨k3, rfl, hk30, hk31, hrd4, ho4⟩
      have HR4 := Lib.hid hrd4
      have HO4 := Lib.hid (HO.out.only ho4 (by omega))
      have HF4 := Lib.hid (HF.out.only ho4)
      clear hrd4 ho4 hk31
      by_cases c0 : k3 = 0
      · subst c0
        go_wp2_with fail
        go_ret3
        refine ⟨_, _, zs, _, rfl, by omega, HO4.out.mono (by rw [HRB.out]; omega), ?_⟩
        rw [HRB.out]
        exact HB1.out.trans (HF4.out.toBelow (Nat.le_refl _) (by rw [HS1.out]; omega))
      · have n0 : (k3 == 0) = false := by rw [beq_eq_false_iff_ne]; exact c0
        go_wp2_with fail
        refine (power2_any (2 + k1) _ (by omega) (by omega)).mono ?_
        rintro e w5 ⟨rfl, rfl⟩
        have hp1 : (1 : Int) ≤ 2 ^ (2 + k1).toNat := by have := Int.pow_pos (n := 2) (m := (2 + k1).toNat) (by decide); omega
        have hp6 : (2 : Int) ^ (2 + k1).toNat ≤ 64 := pow_le (a := 2) (k := (2 + k1).toNat) (n := 6) (by decide) (by omega)
        obtain ⟨P, hP⟩ : ∃ P : Int, 2 ^ (2 + k1).toNat = P := ⟨_, rfl⟩
        rw [hP] at hp1 hp6 ⊢
        clear hP
        go_wp2_with fail
        refine (pick_any rb _ (0 + 1 + 1 + 1) _ HR4.out (by omega) (by omega)).mono ?_
        rintro e w6 ⟨k5, rfl, hk50, hk51, hrd6, ho6⟩
        have HO6 := Lib.hid (HO4.out.only ho6 (by omega))
        have HF6 := Lib.hid (HF4.out.only ho6)
        clear hrd6 ho6
        go_wp2_with fail
        go_ret3
        refine ⟨_, _, zs, _, rfl, by omega, HO6.out.mono (by rw [HRB.out]; omega), ?_⟩
        rw [HRB.out]
        exact HB1.out.trans (HF6.out.toBelow (Nat.le_refl _) (by rw [HS1.out]; omega))

theorem drawNext_any (ao : Option Addr) (b off cap : Nat) (cs : List Int) (w : World) (hr : Row .u8 w ao b off cs) (hl : cs.length ≤ cap) (hw : ∀ i, i < cs.length → (Lit.int .u8 (cs.getD i 0)).wf = true) (hl2 : cap ≤ 9223372036854775807) :
    Calls Try.prog 30 #[.slice ao cs.length cap] w (DrawnL w) := by
  have HR := Lib.hid hr
  have HW := Lib.hid hw
  clear hr hw
  go_enter Try.func30, Try.ntmps30
  go_wp2_with fail
  refine (open_any ao b off cap cs w HR.out hl HW.out hl2).mono ?_
  rintro e w1 ⟨rfl, hb1, hrd1, hs1⟩
  have HB1 := Lib.hid hb1
  have HD1 := Lib.hid hrd1
  have HR1 := Lib.hid (HR.out.keep hb1 (Nat.le_refl _))
  have HS1 := Lib.hid hs1
  clear hb1 hrd1 hs1
  go_wp2_with fail
  refine (drawSafe_any ao b off cap cs w1 HR1.out hl HW.out hl2).mono ?_
  rintro e w2 ⟨n, v, zs, i, rfl, hzl, hO, hB⟩
  have HO := Lib.hid hO
  have HD2 := Lib.hid (HD1.out.keep hB (by rw [HS1.out]; omega))
  have HB2 := Lib.hid (HB1.out.trans (hB.mono (by rw [HS1.out]; omega)))
  have hs2 : w.heap.size + 1 ≤ w2.heap.size := by have := hB.size; rw [HS1.out] at this; exact this
  clear hO hB
  go_wp2_with fail
  refine (pick_any w.heap.size 12 0 _ HD2.out (by omega) (by omega)).mono ?_
  rintro e w3 ⟨k3, rfl, hk30, hk31, hrd3, ho3⟩
  have HO3 := Lib.hid (HO.out.only ho3 (by rw [HS1.out]; omega))
  have HD3 := Lib.hid hrd3
  have HB3 := Lib.hid (HB2.out.trans (ho3.below (Nat.le_refl _)))
  have hs3 : w3.heap.size = w2.heap.size := ho3.2.2.2.1
  clear hrd3 ho3 hk31
  by_cases c0 : k3 = 0
  · subst c0
    have HS3 := Lib.hid hs3
    clear hs3
    go_wp2_with fail
    refine (questions_any w.heap.size (0 + 1) w3 HD3.out (by omega)).mono ?_
    rintro e w4 ⟨n4, p4, v4, zs4, rfl, h0, h7, hzl4, hzb4, hO4, hR4, hp4, hF4⟩
    go_wp2_with fail
    go_ret2
    have := HS3.out
    exact ⟨n4, v4, zs4, rfl, by omega, hO4.mono (by omega), HB3.out.trans (hF4.toBelow (Nat.le_refl _) (by omega))⟩
  · have n0 : (k3 == 0) = false := by rw [beq_eq_false_iff_ne]; exact c0
    go_wp2_with fail
    go_ret2
    exact ⟨n, v, zs, rfl, hzl, HO3.out.mono (by rw [HS1.out]; omega), HB3.out⟩
end Go.Proofs.Ytjglikccikeejab
